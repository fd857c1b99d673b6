/- Part 1. -/
import Derived.WalkKit
import Derived.WalkSpells
import Derived.Lib.Hide
import Derived.Laws.OwnMore
import Derived.Deep.Draws
import Derived.Laws.Small
import Derived.Laws.StructEq
import Derived.Laws.Pointers
import Derived.Great.BuildSlice
import Derived.Laws.MakeOwn
import Derived.Laws.Tables
import Derived.Deep.Upon
import Derived.MapKept
import Derived.Orders
namespace Go.Proofs.YtpjgpclheebhkaaGreat
set_option linter.unusedVariables false
set_option linter.unusedSimpArgs false
section
abbrev lba:=@List.getElem?_map
abbrev lbb:=@List.getElem?_append_left
abbrev lbc:=@List.getElem?_append_right
abbrev lbd:=@List.getElem?_eq_none
abbrev lbe:=@List.getElem?_eq_some_iff
abbrev lbf:=@List.getElem?_eq_getElem
abbrev lbg:=@List.getElem?_set
abbrev lbh:=@List.getElem?_range
abbrev lbi:=@List.getElem?_take
abbrev lbj:=@List.getElem?_drop
abbrev lbk:=@List.getElem?_replicate
abbrev lbl:=@List.getD_eq_getElem?_getD
abbrev lbm:=@List.mem_of_getElem?
abbrev lbn:=@List.take_of_length_le
abbrev lbo:=@List.drop_of_length_le
abbrev lbp:=@List.map_congr_left
abbrev lbq:=@List.length_append
abbrev lbr:=@List.length_map
abbrev lbs:=@List.length_take
abbrev lbt:=@List.length_filter_le
abbrev lbu:=@List.length_cons
abbrev lbv:=@List.length_range
abbrev lbw:=@List.all_eq_true
abbrev lbx:=@List.any_eq_true
abbrev lby:=@List.mem_map
abbrev lbz:=@List.mem_filter
abbrev lbA:=@List.mem_append
abbrev lbB:=@List.mem_cons
abbrev lbC:=@List.mem_range
abbrev lbD:=@List.map_append
abbrev lbE:=@List.append_assoc
abbrev lbF:=@List.getElem_mem
abbrev lbG:=@List.eq_nil_of_length_eq_zero
abbrev lbH:=@List.take_add_one
abbrev lbI:=@decide_eq_true
abbrev lbJ:=@decide_eq_true_eq
abbrev lbK:=@decide_eq_false
abbrev lbL:=@decide_eq_false_iff_not
abbrev lbM:=@of_decide_eq_true
abbrev lbN:=@of_decide_eq_false
abbrev lbO:=@Bool.and_eq_true
abbrev lbP:=@Bool.or_eq_true
abbrev lbQ:=@Bool.and_eq_false_iff
abbrev lbR:=@Bool.not_eq_true
abbrev lbS:=@Nat.le_refl
abbrev lbT:=@Nat.le_trans
abbrev lbU:=@Nat.mul_le_mul_right
abbrev lbV:=@Nat.succ_mul
abbrev lbW:=@Int.mul_le_mul_of_nonneg_left
abbrev lbX:=@Int.mul_le_mul_of_nonneg_right
abbrev lbY:=@Int.toNat_natCast
abbrev lbZ:=@Int.toNat_of_nonneg
abbrev lb0:=@Int.mul_nonneg
abbrev lb1:=@Rat.mul_nonneg
abbrev lb2:=@Rat.le_refl
abbrev lb3:=@Rat.not_lt
abbrev lb4:=@Option.some.injEq
abbrev lb5:=@Array.getElem?_eq_some_iff
abbrev lb6:=@List.take_append_drop
abbrev lb7:=@List.filter_append
abbrev lb8:=@Classical.byContradiction
abbrev lb9:=@Nat.lt_of_lt_of_le
abbrev D5:=@Nat.zero_le
abbrev a1g:=@Nat.add_assoc
abbrev at7:=@Nat.add_zero
abbrev b22:=@Option.isSome_iff_exists
abbrev N4:=@Nat.add_mul
abbrev a0n:=@Option.map_some
abbrev b5n:=@Option.isSome_none
abbrev a8N:=@Bool.false_eq_true
abbrev a8x:=@List.mem_of_mem_take
abbrev aP2:=@List.mem_of_mem_drop
abbrev af7:=@List.length_pos_iff
abbrev ar0:=@List.mem_iff_getElem?
abbrev K5:=@Nat.blt_eq
abbrev a3q:=@List.map_cons
abbrev a9Y:=@Nat.zero_mul
abbrev y3:=@Nat.zero_add
abbrev aQ1:=@Nat.mul_comm
abbrev b2l:=@Nat.mod_eq_of_lt
abbrev ak8:=@Int.mul_comm
abbrev a8Z:=@List.mem_replicate
abbrev a3U:=@Nat.eq_zero_or_pos
abbrev ap1:=@Nat.mod_lt
abbrev a3Q:=@List.length_drop
abbrev a5j:=@Array.length_toList
abbrev a12:=@Nat.min_eq_left
abbrev aw3:=@Nat.le_mul_of_pos_right
abbrev a8R:=@List.size_toArray
abbrev ai9:=@List.drop_zero
abbrev a1p:=@List.append_nil
abbrev I6:=@List.ext_getElem?
abbrev b28:=@List.set_append_left
abbrev a5n:=@List.length_nil
abbrev a8T:=@List.nil_append
abbrev b4u:=@List.mem_or_eq_of_mem_set
abbrev at6:=@Nat.lt_or_gt_of_ne
abbrev a5l:=@Bool.or_eq_false_iff
abbrev a8O:=@Nat.ble_eq
abbrev as2:=@List.take_zero
abbrev a7O:=@Option.map_eq_some_iff
abbrev J9:=@Array.getD_eq_getD_getElem?
abbrev aD9:=@List.length_eq_one_iff
abbrev az5:=@List.mem_singleton
abbrev a5M:=@List.range_succ
abbrev a5T:=@Nat.add_sub_cancel
abbrev A6:=@Nat.lt_or_ge
abbrev ac4:=@Option.getD_some
abbrev a7N:=@List.mem_zipIdx_iff_getElem?
abbrev aI0:=@Bool.not_true
abbrev aH2:=@Bool.false_or
abbrev aD5:=@List.contains_iff_mem
abbrev a6j:=@Nat.beq_refl
abbrev a9I:=@Bool.or_false
abbrev n7:=@Nat.eq_of_beq_eq_true
abbrev a9Q:=@List.all_cons
abbrev aY6:=@Array.mapM_eq_mapM_toList
abbrev aG4:=@Nat.le_of_not_lt
abbrev a0W:=@Classical.choose_spec
abbrev a4b:=@List.map_map
abbrev aB1:=@Nat.lt_trichotomy
abbrev a2Y:=@List.map_set
abbrev b1r:=@List.set_append_right
abbrev ag2:=@List.cons_append
abbrev aG5:=@List.take_succ_eq_append_getElem
abbrev a6i:=@Int.mul_le_mul
abbrev aa5:=@Nat.pow_le_pow_right
abbrev ad2:=@Int.emod_eq_of_lt
abbrev ag1:=@Int.emod_nonneg
abbrev aC7:=@Int.emod_lt_of_pos
abbrev R3:=@List.mem_cons_self
abbrev ae4:=@Bool.eq_iff_iff
abbrev a8p:=@List.drop_eq_getElem_cons
abbrev ad6:=@List.replicate_succ
abbrev a22:=@List.length_eq_zero_iff
abbrev Y8:=@List.take_length
abbrev a6m:=@Int.lt_or_le
abbrev af3:=@Int.add_comm
abbrev a8u:=@Int.lt_trichotomy
abbrev J8:=@Int.le_of_lt
abbrev b0k:=@Int.lt_of_mul_lt_mul_left
abbrev b0A:=@Int.sign_mul_natAbs
abbrev a82:=@Int.one_mul
abbrev a1T:=@Int.sign_eq_one_of_pos
abbrev a5F:=@Int.sign_eq_neg_one_of_neg
abbrev F7:=@Bool.true_and
abbrev b06:=@Int.natAbs_natCast
abbrev a5N:=@Int.eq_ofNat_of_zero_le
abbrev a61:=@Int.natCast_mul
abbrev aA2:=@Bool.and_false
abbrev a8r:=@Bool.false_and
abbrev aG0:=@List.any_cons
abbrev a2T:=@Bool.not_eq_true'
abbrev a10:=@List.all_append
abbrev a2F:=@Bool.and_true
abbrev a0Y:=@List.getElem_of_mem
abbrev aC5:=@List.flatten_cons
abbrev T9:=@List.mem_cons_of_mem
abbrev b1u:=@Classical.epsilon_spec
abbrev aF3:=@Rat.intCast_mul
abbrev a5w:=@Rat.not_le
abbrev ak5:=@List.replicate_succ'
abbrev W5:=@Nat.le_of_ble_eq_true
end
section
open Go.RowKit
inductive SK where
 |any|full|nil|nul|non
inductive T where
 |atm (v:Value)
 |sl (size:Nat) (k:SK) (rows:List (List T))
 |ptr (cells:List T)
 |fn (f:Fn) (caps:List T)
inductive C where
 |t (x:T)
 |ptr (id row off:Nat)
 |own (id lo len:Nat) (app:Bool)
 |fn (f:Fn) (caps:List C)
 |mp (id:Nat)
inductive S where
 |junk
 |c (x:C)
 |agg (cs:List C)
 |tup (ss:List S)
 |ifc (t:TypeId) (x:S)
abbrev J:S:=.junk
inductive BM where
 |live|froz|old|dead
def BM.gone:BM->Prop
 |.dead=>True
 |.old=>True
 |_=>False
structure Blk where
 mode:BM
 elem:TypeId
 size:Nat
 rows:List (List C)
 box:Bool
 app:Bool:=false
 mp:Bool:=false
inductive Loc where
 |nil
 |blk (b cap size:Nat)
abbrev Hp:=List Blk
abbrev Io:=Nat->Option Loc
abbrev Ms:=Nat->Prop
def at2 {α:Type} (rows:List (List α)) (i j:Nat):Option α:=(rows[i]?).bind (·[j]?)
inductive RT (w:World) (M:Ms):T->Value->Prop
 |atm {v:Value} (h:v.oneCell'=true):RT w M (.atm v) v
 |sl {size:Nat} {k:SK} {rows:List (List T)} {b off cap:Nat} {A:Option Addr} (f:Nat->Nat->Value)
   (hrow:∀r ∈ rows,r.length=size) (hcap:rows.length<=cap) (hmax:cap<=maxLen) (hk:k=.full->cap=rows.length)
   (hn:k=.nil->rows=[]∧A=none∧cap=0) (hA:rows≠[]->A=some ⟨b,off,none⟩)
   (hc:∀i j c,at2 rows i j=some c->w.cell? ⟨b,off+(i*size+j),none⟩=some (f i j)∧¬M b)
   (hr:∀i j c,at2 rows i j=some c->RT w M c (f i j)) (hx:(k=.nul->rows=[]∧A=none)∧(k=.non->A≠none):=by exact ⟨(fun h=>nomatch h),(fun h=>nomatch h)⟩):RT w M (.sl size k rows) (.slice A rows.length cap)
 |ptr {cells:List T} {b off:Nat} (f:Nat->Value)
   (hc:∀j c,cells[j]? =some c->w.cell? ⟨b,off+j,none⟩=some (f j)∧¬M b)
   (hr:∀j c,cells[j]? =some c->RT w M c (f j)):RT w M (.ptr cells) (.pointer (some ⟨b,off,none⟩))
 |fn {f:Fn} {caps:List T} (vs:List Value) (hl:vs.length=caps.length)
   (hr:∀j c,caps[j]? =some c->RT w M c (vs.getD j undef)):RT w M (.fn f caps) (.func f #[] vs.toArray)
inductive RC (w:World) (ι:Io) (M:Ms):C->Value->Prop
 |t {x:T} {v:Value} (h:RT w M x v):RC w ι M (.t x) v
 |ptr {id r o b cap size:Nat} (h:ι id=some (.blk b cap size)):RC w ι M (.ptr id r o) (.pointer (some ⟨b,r*size+o,none⟩))
 |own {id lo len:Nat} {app:Bool} {b cap size:Nat} {A:Option Addr} {cap':Nat} (h:ι id=some (.blk b cap size)) (h1:lo+len<=cap)
   (h2:0<len->A=some ⟨b,lo*size,none⟩) (h3:len<=cap') (h4:cap'<=maxLen)
   (h5:app=true->lo=0∧A=some ⟨b,0,none⟩∧cap'=cap):RC w ι M (.own id lo len app) (.slice A len cap')
 |nil {id:Nat} {app:Bool} {A:Option Addr} (h:ι id=some .nil):RC w ι M (.own id 0 0 app) (.slice A 0 0)
 |fn {f:Fn} {caps:List C} (vs:List Value) (hl:vs.length=caps.length)
   (hr:∀j c,caps[j]? =some c->RC w ι M c (vs.getD j undef)):RC w ι M (.fn f caps) (.func f #[] vs.toArray)
 |mp {id b cap size:Nat} (h:ι id=some (.blk b cap size)):RC w ι M (.mp id) (.map (some b))
inductive RS (w:World) (ι:Io) (M:Ms):S->Value->Prop
 |junk {v:Value}:RS w ι M .junk v
 |c {x:C} {v:Value} (h:RC w ι M x v):RS w ι M (.c x) v
 |agg {cs:List C} (vs:List Value) (hl:vs.length=cs.length)
   (hr:∀j c,cs[j]? =some c->RC w ι M c (vs.getD j undef)):RS w ι M (.agg cs) (.agg vs.toArray)
 |tup {ss:List S} (vs:List Value) (hl:vs.length=ss.length)
   (hr:∀j s,ss[j]? =some s->RS w ι M s (vs.getD j undef)):RS w ι M (.tup ss) (.tuple vs.toArray)
 |ifc {t:TypeId} {x:S} {v:Value} (h:RS w ι M x v):RS w ι M (.ifc t x) (.iface t v)
theorem RT.one {w:World} {M:Ms} {x:T} {v:Value} (h:RT w M x v):v.oneCell'=true:=by
 cases h<;>first|assumption|rfl
theorem RC.one {w:World} {ι:Io} {M:Ms} {x:C} {v:Value} (h:RC w ι M x v):v.oneCell'=true:=by
 cases h<;>first|exact RT.one ‹_›|rfl
def a81 (size i:Nat) (cur:Array Value):Value:=match size with
 |2=>cur.getD (i*2) undef
 |n=>.agg ((List.range (n - 1)).map fun j=>cur.getD (i*n+j) undef).toArray
def a2E (k:Blk) (cur:Array Value):Obj:=match k.mp with
 |false=>.cells cur k.elem (0,0)
 |true=>.map ((List.range k.rows.length).map fun i=>({ key:=a81 k.size i cur,val:=cur.getD (i*k.size+(k.size - 1)) undef,born:=i }:MapEntry)).toArray k.rows.length
theorem B7 {k:Blk} {cur:Array Value} (h:k.mp=false):a2E k cur=.cells cur k.elem (0,0):=by unfold a2E;rw [h]
theorem N7 {k k':Blk} {cur:Array Value} (h1:k'.mp=k.mp) (h2:k'.elem=k.elem) (h3:k'.size=k.size) (h4:k'.rows.length=k.rows.length):a2E k' cur=a2E k cur:=by unfold a2E;rw [h1,h2,h3,h4]
def a0L (mp:Bool) (cap:Nat):Prop:=cap<=maxLen∧(mp=true->cap=maxLen)
theorem a0L.le {mp:Bool} {cap:Nat} (h:a0L mp cap):cap<=maxLen:=h.1
theorem a0L.of {m m':Bool} {cap:Nat} (e:m=m') (h:a0L m cap):a0L m' cap:=e ▸ h
theorem b9g {cap:Nat} (h:cap<=maxLen):a0L false cap:=⟨h,fun h=>nomatch h⟩
def E8 (w:World) (ι:Io) (M:Ms) (k:Blk):Loc->Prop
 |.nil=>k.rows=[]
 |.blk b cap size=>k.size=size∧0<size∧k.rows.length<=cap∧a0L k.mp cap∧(∀ r ∈ k.rows,r.length=size)∧
   ∃cur:Array Value,w.heap[b]? =some (a2E k cur)∧cur.size=cap*size∧
    ∀i j c,at2 k.rows i j=some c->∃u,cur[i*size+j]? =some u∧RC w ι M c u
structure j3 (w:World) (ι:Io) (M:Ms) (H:Hp):Prop where
 blk:∀(id:Nat) (k:Blk),H[id]? =some k->k.mode≠.dead->∀l,ι id=some l->E8 w ι M k l
 liv:∀(id:Nat) (k:Blk),H[id]? =some k->k.mode=.live->∀b cap size,ι id=some (.blk b cap size)->M b
 fro:∀(id:Nat) (k:Blk),H[id]? =some k->k.mode=.froz->∀b cap size,ι id=some (.blk b cap size)->¬M b
 inj:∀(id id':Nat) (k k':Blk),H[id]? =some k->H[id']? =some k'->k.mode=.live->k'.mode=.live->
  ∀b cap size cap' size',ι id=some (.blk b cap size)->ι id'=some (.blk b cap' size')->id=id'
 old:∀(id id':Nat) (k k':Blk),H[id]? =some k->H[id']? =some k'->k.mode=.old->k'.mode=.live->
  ∀b cap size cap' size',ι id=some (.blk b cap size)->ι id'=some (.blk b cap' size')->k'.app=true∧size=size'∧k.rows.length<=k'.rows.length
def a2i (ι:Io) (H:Hp) (b:Nat):Prop:=∃id k cap size,H[id]? =some k∧k.mode=.live∧ι id=some (.blk b cap size)
def MB (w:World) (M:Ms):Prop:=∀b,M b->b<w.heap.size
def a1c (ι:Io) (n:Nat):Prop:=∀id,n<=id->ι id=none
structure a3x (w:World) (ι:Io) (M:Ms) (H:Hp) (w':World) (ι':Io) (M':Ms) (H':Hp):Prop where
 os:w'.os=w.os
 tape:w'.tape=w.tape
 output:w'.output=w.output
 size:w.heap.size<=w'.heap.size
 keep:∀b,b<w.heap.size->¬a2i ι H b->w'.heap[b]? =w.heap[b]?
 same:∀id,id<H.length->ι' id=ι id
 mnew:∀b,M' b->M b∨w.heap.size<=b
 mold:∀b,M b->M' b∨a2i ι H b
 live:∀b,a2i ι' H' b->a2i ι H b∨w.heap.size<=b
 len:H.length<=H'.length
theorem x9 {w:World} {b:Nat} {o:Obj} (h:w.heap[b]? =some o):b<w.heap.size:=(lb5.1 h).1
theorem a9F {w:World} {a:Addr} {u:Value} (h:w.cell? a=some u):a.block<w.heap.size:=World.block_lt_of_cell? w a h
theorem RT.keep {w w':World} {M M':Ms} (hk:∀b,b<w.heap.size->¬M b->w'.heap[b]? =w.heap[b]?) (hm:∀b,M' b->M b∨w.heap.size<=b)
 {x:T} {v:Value} (h:RT w M x v):RT w' M' x v:=by
 induction h with
 |atm h=>exact .atm h
 |sl f hrow hcap hmax hk1 hn hA hc hr hx ih=>
  refine .sl f hrow hcap hmax hk1 hn hA (fun i j c hc'=>?_) ih hx
  obtain ⟨h1,h2⟩:=hc i j c hc'
  have hlt:=a9F h1
  refine ⟨(World.cell?_of_block (hk _ hlt h2)).trans h1,fun hM=>?_⟩
  rcases hm _ hM with h3|h3
  ·exact h2 h3
  ·exact absurd h3 (by simpa using hlt)
 |ptr f hc hr ih=>
  refine .ptr f (fun j c hc'=>?_) ih
  obtain ⟨h1,h2⟩:=hc j c hc'
  have hlt:=a9F h1
  refine ⟨(World.cell?_of_block (hk _ hlt h2)).trans h1,fun hM=>?_⟩
  rcases hm _ hM with h3|h3
  ·exact h2 h3
  ·exact absurd h3 (by simpa using hlt)
 |fn vs hl hr ih=>exact .fn vs hl ih
theorem RC.keep {w w':World} {ι ι':Io} {M M':Ms} (hk:∀b,b<w.heap.size->¬M b->w'.heap[b]? =w.heap[b]?) (hm:∀b,M' b->M b∨w.heap.size<=b)
 (hi:∀id l,ι id=some l->ι' id=some l) {x:C} {v:Value} (h:RC w ι M x v):RC w' ι' M' x v:=by
 induction h with
 |t h=>exact .t (h.keep hk hm)
 |ptr h=>exact .ptr (hi _ _ h)
 |own h h1 h2 h3 h4 h5=>exact .own (hi _ _ h) h1 h2 h3 h4 h5
 |nil h=>exact .nil (hi _ _ h)
 |fn vs hl hr ih=>exact .fn vs hl ih
 |mp h=>exact .mp (hi _ _ h)
theorem RS.keep {w w':World} {ι ι':Io} {M M':Ms} (hk:∀b,b<w.heap.size->¬M b->w'.heap[b]? =w.heap[b]?) (hm:∀b,M' b->M b∨w.heap.size<=b)
 (hi:∀id l,ι id=some l->ι' id=some l) {x:S} {v:Value} (h:RS w ι M x v):RS w' ι' M' x v:=by
 induction h with
 |junk=>exact .junk
 |c h=>exact .c (h.keep hk hm hi)
 |agg vs hl hr=>exact .agg vs hl fun j c hc=>(hr j c hc).keep hk hm hi
 |tup vs hl hr ih=>exact .tup vs hl ih
 |ifc h ih=>exact .ifc ih
theorem a2i.inM {w:World} {ι:Io} {M:Ms} {H:Hp} (h:j3 w ι M H) {b:Nat} (hl:a2i ι H b):M b:=by
 obtain ⟨id,k,cap,size,h1,h2,h3⟩:=hl
 exact h.liv id k h1 h2 b cap size h3
theorem a3x.refl (w:World) (ι:Io) (M:Ms) (H:Hp):a3x w ι M H w ι M H:=
 ⟨rfl,rfl,rfl,lbS _,fun _ _ _=>rfl,fun _ _=>rfl,fun _ h=>.inl h,fun _ h=>.inl h,fun _ h=>.inl h,lbS _⟩
theorem a3x.trans {w w1 w2:World} {ι ι1 ι2:Io} {M M1 M2:Ms} {H H1 H2:Hp} (hb:MB w M) (a:a3x w ι M H w1 ι1 M1 H1) (c:a3x w1 ι1 M1 H1 w2 ι2 M2 H2):
 a3x w ι M H w2 ι2 M2 H2 where
 os:=c.os.trans a.os
 tape:=c.tape.trans a.tape
 output:=c.output.trans a.output
 size:=lbT a.size c.size
 keep:=fun k hk hl=>(c.keep k (lb9 hk a.size) fun h=>by rcases a.live k h with h|h;exact hl h;omega).trans (a.keep k hk hl)
 same:=fun id hid=>(c.same id (lb9 hid a.len)).trans (a.same id hid)
 mnew:=fun k h=>by
  rcases c.mnew k h with h|h
  ·exact a.mnew k h
  ·exact .inr (lbT a.size h)
 mold:=fun k h=>by
  rcases a.mold k h with h1|h1
  ·rcases c.mold k h1 with h2|h2
   ·exact .inl h2
   ·rcases a.live k h2 with h3|h3
    ·exact .inr h3
    ·have:=hb k h;omega
  ·exact .inr h1
 live:=fun k h=>by
  rcases c.live k h with h|h
  ·exact a.live k h
  ·exact .inr (lbT a.size h)
 len:=lbT a.len c.len
structure Ext (w w':World):Prop where
 os:w'.os=w.os
 tape:w'.tape=w.tape
 output:w'.output=w.output
 size:w.heap.size<=w'.heap.size
 keep:∀b,b<w.heap.size->w'.heap[b]? =w.heap[b]?
theorem Ext.refl (w:World):Ext w w:=⟨rfl,rfl,rfl,lbS _,fun _ _=>rfl⟩
def s8 (ι:Io) (n m:Nat) (new:Nat->Loc):Io:=fun id=>if n<=id∧id<n+m then some (new (id - n)) else ι id
def a3r (M:Ms) (m:Nat) (new:Nat->Loc):Ms:=fun b=>M b∨∃k,k<m∧∃cap size,new k=.blk b cap size
def C5 (w:World) (ι:Io) (M:Ms) (n:Nat) (s:S) (B:List Blk) (v:Value) (w':World):Prop:=
 ∃new:Nat->Loc,RS w' (s8 ι n B.length new) (a3r M B.length new) s v∧Ext w w'∧
  (∀ k blk,B[k]? =some blk->blk.mode=.live∧E8 w' (s8 ι n B.length new) (a3r M B.length new) blk (new k))∧
  (∀ k b cap size,k<B.length->new k=.blk b cap size->w.heap.size<=b∧b<w'.heap.size)∧
  (∀ k k' b cap size cap' size',k<B.length->k'<B.length->new k=.blk b cap size->new k'=.blk b cap' size'->k=k')
def B4 (w:World) (ι:Io) (M:Ms) (H:Hp) (s:S) (H':Hp) (v:Value) (w':World):Prop:=
 ∃(ι':Io) (M':Ms),RS w' ι' M' s v∧j3 w' ι' M' H'∧MB w' M'∧a1c ι' H'.length∧a3x w ι M H w' ι' M' H'
theorem a2z {ι:Io} {n m:Nat} {new:Nat->Loc} (hf:∀k,k<m->ι (n+k)=none) {id:Nat} {l:Loc} (h:ι id=some l):s8 ι n m new id=some l:=by
 unfold s8
 split
 ·rename_i hc
  have:=hf (id - n) (by omega)
  rw [show n+(id - n)=id by omega,h] at this
  cases this
 ·exact h
theorem C5.gpost {w:World} {ι:Io} {M:Ms} {H:Hp} {s:S} {B:List Blk} {v:Value} {w':World} (hH:j3 w ι M H) (hM:MB w M) (hF:a1c ι H.length)
 (h:C5 w ι M H.length s B v w'):B4 w ι M H s (H++B) v w':=by
 obtain ⟨new,h1,h2,h3,h4,h5⟩:=h
 have hnone:∀k,k<B.length->ι (H.length+k)=none:=fun k _=>hF _ (by omega)
 have hold:∀id,id<H.length->s8 ι H.length B.length new id=ι id:=fun id hid=>by
  unfold s8;rw [if_neg (by omega)]
 have hnew:∀k,k<B.length->s8 ι H.length B.length new (H.length+k)=some (new k):=fun k hk=>by
  unfold s8;rw [if_pos (by omega)];congr 2;omega
 have hdist:∀id b cap size,ι id=some (.blk b cap size)->∀k,H[id]? =some k->k.mode≠.dead->b<w.heap.size:=fun id b cap size hi k hk hd=>by
  have:=hH.blk id k hk hd _ hi
  obtain ⟨_,_,_,_,_,cur,hc,_⟩:=this
  exact x9 hc
 refine ⟨_,_,h1,⟨?_,?_,?_,?_,?_⟩,?_,?_,?_⟩
 ·intro id k hk hd l hl
  by_cases hid:id<H.length
  ·rw [lbb hid] at hk
   rw [hold id hid] at hl
   have hb:=hH.blk id k hk hd l hl
   cases l with
   |nil=>exact hb
   |blk b cap size=>
    obtain ⟨q1,q2,q3,q4,q5,cur,q6,q7,q8⟩:=hb
    refine ⟨q1,q2,q3,q4,q5,cur,(h2.keep b (x9 q6)).trans q6,q7,fun i j c hc=>?_⟩
    obtain ⟨u,hu,hr⟩:=q8 i j c hc
    refine ⟨u,hu,hr.keep (fun b hb _=>h2.keep b hb) (fun b hb=>?_) (fun id l=>a2z hnone)⟩
    rcases hb with hb|⟨k,hk,cap,size,he⟩
    ·exact .inl hb
    ·exact .inr (h4 k b cap size hk he).1
  ·rw [lbc (by omega)] at hk
   have hlt:=(lbe.1 hk).1
   have e:s8 ι H.length B.length new id=some (new (id - H.length)):=by
    unfold s8;rw [if_pos (by omega)]
   rw [e] at hl
   injection hl with hl
   subst hl
   exact (h3 _ _ hk).2
 ·intro id k hk hl b cap size hi
  by_cases hid:id<H.length
  ·rw [lbb hid] at hk
   rw [hold id hid] at hi
   exact .inl (hH.liv id k hk hl b cap size hi)
  ·rw [lbc (by omega)] at hk
   have hlt:=(lbe.1 hk).1
   have e:s8 ι H.length B.length new id=some (new (id - H.length)):=by
    unfold s8;rw [if_pos (by omega)]
   rw [e] at hi
   injection hi with hi
   exact .inr ⟨_,hlt,cap,size,hi⟩
 ·intro id k hk hl b cap size hi
  by_cases hid:id<H.length
  ·rw [lbb hid] at hk
   rw [hold id hid] at hi
   have hb:=hdist _ _ _ _ hi k hk (by rw [hl];intro h;cases h)
   rintro (hM'|⟨k',hk',cap',size',he⟩)
   ·exact hH.fro id k hk hl b cap size hi hM'
   ·have:=(h4 _ _ _ _ hk' he).1
    omega
  ·rw [lbc (by omega)] at hk
   have:=(h3 _ _ hk).1
   rw [hl] at this
   cases this
 ·intro id id' k k' hk hk' hl hl' b cap size cap' size' hi hi'
  by_cases hid:id<H.length<;>by_cases hid':id'<H.length
  ·rw [lbb hid] at hk
   rw [lbb hid'] at hk'
   rw [hold _ hid] at hi
   rw [hold _ hid'] at hi'
   exact hH.inj id id' k k' hk hk' hl hl' b cap size cap' size' hi hi'
  ·rw [lbb hid] at hk
   rw [hold _ hid] at hi
   have:=hdist _ _ _ _ hi k hk (by rw [hl];intro h;cases h)
   rw [lbc (by omega)] at hk'
   have hlt:=(lbe.1 hk').1
   have e:s8 ι H.length B.length new id'=some (new (id' - H.length)):=by
    unfold s8;rw [if_pos (by omega)]
   rw [e] at hi'
   injection hi' with hi'
   have:=(h4 _ _ _ _ hlt hi').1
   omega
  ·rw [lbb hid'] at hk'
   rw [hold _ hid'] at hi'
   have:=hdist _ _ _ _ hi' k' hk' (by rw [hl'];intro h;cases h)
   rw [lbc (by omega)] at hk
   have hlt:=(lbe.1 hk).1
   have e:s8 ι H.length B.length new id=some (new (id - H.length)):=by
    unfold s8;rw [if_pos (by omega)]
   rw [e] at hi
   injection hi with hi
   have:=(h4 _ _ _ _ hlt hi).1
   omega
  ·rw [lbc (by omega)] at hk hk'
   have hlt:=(lbe.1 hk).1
   have hlt':=(lbe.1 hk').1
   have e:s8 ι H.length B.length new id=some (new (id - H.length)):=by
    unfold s8;rw [if_pos (by omega)]
   have e':s8 ι H.length B.length new id'=some (new (id' - H.length)):=by
    unfold s8;rw [if_pos (by omega)]
   rw [e] at hi
   rw [e'] at hi'
   injection hi with hi
   injection hi' with hi'
   have:=h5 _ _ _ _ _ _ _ hlt hlt' hi hi'
   omega
 ·intro id id' k k' hk hk' hl hl' b cap size cap' size' hi hi'
  by_cases hid:id<H.length
  ·rw [lbb hid] at hk
   rw [hold _ hid] at hi
   by_cases hid':id'<H.length
   ·rw [lbb hid'] at hk'
    rw [hold _ hid'] at hi'
    exact hH.old id id' k k' hk hk' hl hl' b cap size cap' size' hi hi'
   ·have:=hdist _ _ _ _ hi k hk (by rw [hl];intro h;cases h)
    rw [lbc (by omega)] at hk'
    have hlt:=(lbe.1 hk').1
    have e:s8 ι H.length B.length new id'=some (new (id' - H.length)):=by
     unfold s8;rw [if_pos (by omega)]
    rw [e] at hi'
    injection hi' with hi'
    have:=(h4 _ _ _ _ hlt hi').1
    omega
  ·rw [lbc (by omega)] at hk
   have:=(h3 _ _ hk).1
   rw [hl] at this
   cases this
 ·intro b hb
  rcases hb with hb|⟨k,hk,cap,size,he⟩
  ·exact lb9 (hM b hb) h2.size
  ·exact (h4 k b cap size hk he).2
 ·intro id hid
  rw [lbq] at hid
  unfold s8
  rw [if_neg (by omega)]
  exact hF id (by omega)
 ·refine ⟨h2.os,h2.tape,h2.output,h2.size,fun b hb _=>h2.keep b hb,fun id hid=>hold id hid,?_,fun b hb=>.inl (.inl hb),?_,by simp⟩
  ·intro b hb
   rcases hb with hb|⟨k,hk,cap,size,he⟩
   ·exact .inl hb
   ·exact .inr (h4 k b cap size hk he).1
  ·rintro b ⟨id,k,cap,size,hk,hl,hi⟩
   by_cases hid:id<H.length
   ·rw [lbb hid] at hk
    rw [hold _ hid] at hi
    exact .inl ⟨id,k,cap,size,hk,hl,hi⟩
   ·rw [lbc (by omega)] at hk
    have hlt:=(lbe.1 hk).1
    have e:s8 ι H.length B.length new id=some (new (id - H.length)):=by
     unfold s8;rw [if_pos (by omega)]
    rw [e] at hi
    injection hi with hi
    exact .inr (h4 _ _ _ _ hlt hi).1
def aE3 (P : Program) (g : FuncId) : Prop := ∃ fn, P.funcs[g]? = some fn ∧ fn.body.isSome = true ∧ fn.name ≠ "runtime.NumGoroutine"
def N1 (P:Program) (g:FuncId) (args:List S) (H:Hp) (s:S) (B:List Blk):Prop:=
 aE3 P g∧∀(w:World) (ι:Io) (M:Ms) (vals:List Value),vals.length=args.length->(∀ j s,args[j]? =some s->RS w ι M s (vals.getD j undef))->j3 w ι M H->MB w M->
  (∀ k,k<B.length->ι (H.length+k)=none)->Calls P g vals.toArray w fun e w'=>∃v,e=.returned v∧C5 w ι M H.length s B v w'
def a8 (P:Program) (g:FuncId) (args:List S) (H:Hp) (s:S) (H':Hp):Prop:=
 aE3 P g∧∀(w:World) (ι:Io) (M:Ms) (vals:List Value),vals.length=args.length->(∀ j s,args[j]? =some s->RS w ι M s (vals.getD j undef))->j3 w ι M H->MB w M->
  a1c ι H.length->Calls P g vals.toArray w fun e w'=>∃v,e=.returned v∧B4 w ι M H s H' v w'
end
section
open Go.RowKit
inductive TK where
 |bas
 |bool
 |int (k:IntKind)
 |slice (e:TypeId)
 |arr (n:Nat) (e:TypeId)
 |struct (fs:List (Nat × Nat × Bool))
structure TD where
 k:TK
 agg:Bool
 size:Nat
 bytes:Nat
 zero:List Value
abbrev Tab:=Nat->Option TD
abbrev Env:=List S
def t6 (v:Value):C:=
 match v with
 |.slice none 0 0=>.t (.sl 0 .nil [])
 |v=>.t (.atm v)
def aE1 (v:Value):S:=
 match v with
 |.agg cs=>cond (cs.toList.all (·.oneCell')) (.agg (cs.toList.map t6)) .junk
 |.tuple _=>.junk
 |.slice none 0 0=>.c (.t (.sl 0 .nil []))
 |v=>.c (.t (.atm v))
def B2 (env:Env):Operand->S
 |.tmp t=>env.getD t .junk
 |.const v=>aE1 v
 |.global _=>.junk
 |.func f=>.c (.t (.fn (.func f) []))
section
variable {α β:Type}
def ah9:Nat->List α->(List α->Prop)->Prop
 |0,_,k=>k []
 |_+1,[],_=>False
 |n+1,x::l,k=>ah9 n l fun r=>k (x::r)
def a8w:Nat->List α->(List α->Prop)->Prop
 |0,l,k=>k l
 |_+1,[],_=>False
 |n+1,_::l,k=>a8w n l k
def a1l (n:Nat) (l:List α) (k:α->Prop):Prop:=
 List.rec (motive:=fun _=>Nat->Prop) (fun _=>False) (fun x _ ih n=>Nat.rec (motive:=fun _=>Prop) (k x) (fun n _=>ih n) n) l n
def a3F (n:Nat) (v:α) (l:List α) (k:List α->Prop):Prop:=
 List.rec (motive:=fun _=>Nat->(List α->Prop)->Prop) (fun _ k=>k []) (fun x r ih n k=>Nat.rec (motive:=fun _=>Prop) (k (v::r)) (fun n _=>ih n fun q=>k (x::q)) n) l n k
def a3m:Nat->List α->List α->(List α->Prop)->Prop
 |_,[],l,k=>k l
 |_,_::_,[],_=>False
 |0,x::xs,_::l,k=>a3m 0 xs l fun r=>k (x::r)
 |n+1,x::xs,y::l,k=>a3m n (x::xs) l fun r=>k (y::r)
def a9k (f:α->β):List α->(List β->Prop)->Prop
 |[],k=>k []
 |x::l,k=>a9k f l fun r=>k (f x::r)
def a98 (l r:List α) (k:List α->Prop):Prop:=
 List.rec (motive:=fun _=>(List α->Prop)->Prop) (fun k=>k r) (fun x _ ih k=>ih fun q=>k (x::q)) l k
def a8m (l:List α) (n:Nat) (k:Nat->Prop):Prop:=
 List.rec (motive:=fun _=>Nat->Prop) (fun n=>k n) (fun _ _ ih n=>ih (n+1)) l n
end
def a6U:List C->Option (List T)
 |[]=>some []
 |.t x::r=>match a6U r with
  |some xs=>some (x::xs)
  |none=>none
 |_::_=>none
def a2o:List (List C)->Option (List (List T))
 |[]=>some []
 |x::r=>match a6U x,a2o r with
  |some a,some b=>some (a::b)
  |_,_=>none
def a7 (k:IntKind) (n:Int):S:=.c (.t (.atm (.int k n)))
def d9 (b:Bool):S:=.c (.t (.atm (.bool b)))
def a60 (s:S) (k:S->Prop):Prop:=
 match s with
 |.junk=>k .junk
 |.c x=>k (.c x)
 |.agg cs=>k (.agg cs)
 |.tup ss=>k (.tup ss)
 |.ifc t x=>k (.ifc t x)
structure a0Z (b:Bool) (k:S->Prop):Prop where
 yes:b=true->k (d9 true)
 no:b=false->k (d9 false)
structure ac2 (p:Prop) [Decidable p] (k:S->Prop):Prop where
 yes:p->k (d9 true)
 no:¬p->k (d9 false)
def as6 (s:S) (k:S->Prop):Prop:=
 match s with
 |.junk=>k .junk
 |.c x=>match x with
  |.t y=>match y with
   |.atm v=>match v with
    |.bool b=>a0Z b k
    |v=>k (.c (.t (.atm v)))
   |y=>k (.c (.t y))
  |x=>k (.c x)
 |.agg cs=>k (.agg cs)
 |.tup ss=>k (.tup ss)
 |.ifc t x=>k (.ifc t x)
def a0X (s:S) (k:List C->Prop):Prop:=
 match s with
 |.c x=>k [x]
 |.agg cs=>k cs
 |_=>False
def E1 (k:IntKind) (x n:Int):Prop:=n=k.wrap x
def aG3 (d:TD) (row:List C) (o:Nat) (K:S->Prop):Prop:=
 a8w o row fun r=>cond d.agg (ah9 d.size r fun cs=>K (.agg cs)) (a1l 0 r fun c=>K (.c c))
def a6H (d:TD) (row:List T) (K:S->Prop):Prop:=
 cond d.agg (ah9 d.size row fun cs=>a9k C.t cs fun cs=>K (.agg cs)) (a1l 0 row fun c=>K (.c (.t c)))
def b3Q (b:Blk) (r:Nat) (k:List C->Prop):Prop:=
 match b.box with
 |true=>match b.rows,r with
  |[row],0=>k row
  |_,_=>False
 |false=>∃row,b.rows[r]? =some row∧k row
def W0 (b:Blk) (k:Prop):Prop:=match b.mode,b.mp with|.dead,_=>False|_,true=>False|_,false=>k
def a0Q (b:Blk) (k:Prop):Prop:=match b.mode,b.app,b.mp with|.live,false,false=>k|_,_,_=>False
def a78 (b:Blk) (k k':Prop):Prop:=match b.mode,b.mp with|.live,false=>cond b.app k k'|_,_=>False
structure a9j (a b c:Prop):Prop where
 out:a∨b∨c
theorem a9j.data {a b c:Prop} (h:a):a9j a b c:=⟨.inl h⟩
theorem a9j.own {a b c:Prop} (h:b):a9j a b c:=⟨.inr (.inl h)⟩
theorem a9j.weak {a b c:Prop} (h:c):a9j a b c:=⟨.inr (.inr h)⟩
structure ai4 (a b:Prop):Prop where
 out:a∨b
theorem ai4.data {a b:Prop} (h:a):ai4 a b:=⟨.inl h⟩
theorem ai4.own {a b:Prop} (h:b):ai4 a b:=⟨.inr h⟩
def a5m (τ:Tab) (ev:Operand->S) (H:Hp) (t:TypeId) (x:Operand) (K:S->Prop):Prop:=
 match τ t with
 |none=>False
 |some d=>match ev x with
  |.c (.ptr id r o)=>a1l id H fun b=>W0 b (b3Q b r fun row=>aG3 d row o K)
  |.c (.t (.ptr cells))=>a6H d cells K
  |_=>False
def p5 (b:Blk) (rows:List (List C)):Blk:=⟨b.mode,b.elem,b.size,rows,b.box,b.app,b.mp⟩
def a8e (τ:Tab) (ev:Operand->S) (H:Hp) (t:TypeId) (x v:Operand) (K:Hp->Prop):Prop:=
 match τ t with
 |none=>False
 |some d=>match ev x with
  |.c (.ptr id r o)=>a1l id H fun b=>a0Q b <| a0X (ev v) fun cs=>cond (Nat.beq cs.length d.size)
    (b3Q b r fun row=>a3m o cs row fun row'=>
      match b.box with
      |true=>a3F id (p5 b [row']) H K
      |false=>a3F id (p5 b (b.rows.set r row')) H K) False
  |_=>False
def a6N (τ:Tab) (s:TypeId) (f:Nat) (k:Nat->Prop):Prop:=
 match τ s with
 |some ⟨.struct fs,_,_,_,_⟩=>match fs[f]? with
  |some (off,size,_)=>cond (Nat.beq size 0) False (k off)
  |none=>False
 |_=>False
def a1i (τ:Tab) (ev:Operand->S) (s:TypeId) (x:Operand) (f:Nat) (K:S->Prop):Prop:=
 a6N τ s f fun off=>match ev x with
  |.c (.ptr id r o)=>K (.c (.ptr id r (o+off)))
  |.c (.t (.ptr cells))=>a8w off cells fun cs=>K (.c (.t (.ptr cs)))
  |_=>False
def a1t (τ:Tab) (e:TypeId) (k:Nat->Prop):Prop:=match τ e with|some d=>k d.size|none=>False
def Y4 (τ:Tab) (ev:Operand->S) (H:Hp) (t:TypeId) (x i:Operand) (K:S->Prop):Prop:=
 match ev i with
 |.c (.t (.atm (.int _ n)))=>match τ t with
  |some ⟨.slice e,_,_,_,_⟩=>match ev x with
   |.c (.t (.sl size k rows))=>a1t τ e fun s=>cond (Nat.beq s size) (∃ row,0<=n∧rows[n.toNat]? =some row∧K (.c (.t (.ptr row)))) False
   |.c (.own id lo len app)=>a1t τ e fun s=>a1l id H fun b=>W0 b (cond (Nat.beq s b.size) ((0<=n∧n<(len:Int))∧K (.c (.ptr id (lo+n.toNat) 0))) False)
   |_=>False
  |some ⟨.arr m e,_,_,_,_⟩=>a1t τ e fun s=>match ev x with
   |.c (.ptr id r o)=>(0<=n∧n<(m:Int))∧K (.c (.ptr id r (o+n.toNat*s)))
   |.c (.t (.ptr cells))=>(0<=n∧n<(m:Int))∧a8w (n.toNat*s) cells fun cs=>K (.c (.t (.ptr cs)))
   |_=>False
  |_=>False
 |_=>False
def F8 (ev:Operand->S) (x:Option Operand) (dflt:Int) (k:Int->Prop):Prop:=
 match x with
 |none=>k dflt
 |some x=>match ev x with
  |.c (.t (.atm (.int _ n)))=>k n
  |_=>False
def Q3 (k:SK) (hi max:Option Operand):SK:=
 match k,hi,max with
 |.full,none,none=>.full
 |_,_,_=>.any
def a23 (τ:Tab) (ev:Operand->S) (H:Hp) (t:TypeId) (x:Operand) (lo hi max:Option Operand) (K:S->Prop):Prop:=
 match τ t with
 |some ⟨.slice e,_,_,_,_⟩=>match max with
  |none=>match ev x with
   |.c (.t (.sl 0 .nil _))=>F8 ev lo 0 fun l=>F8 ev hi 0 fun h=>a1t τ e fun s=>(0<=l∧l<=h∧h<=0)∧K (.c (.t (.sl 0 .nil [])))
   |.c (.t (.sl size k rows))=>F8 ev lo 0 fun l=>F8 ev hi rows.length fun h=>a1t τ e fun s=>
     cond (Nat.beq s size) ((0<=l∧l<=h∧h<=rows.length)∧K (.c (.t (.sl size (Q3 k hi max) ((rows.take h.toNat).drop l.toNat))))) False
   |.c (.own id l0 len app)=>F8 ev lo 0 fun l=>F8 ev hi len fun h=>
     a1t τ e fun s=>a1l id H fun b=>W0 b <| cond (Nat.beq s b.size) (((0<=l∧l<=h∧h<=(len:Int))∧K (.c (.own id (l0+l.toNat) (h - l).toNat (app && lo.isNone))))) False
   |_=>False
  |some y=>match ev y with
   |.c (.t (.atm (.int _ m)))=>match ev x with
    |.c (.t (.sl size k rows))=>F8 ev lo 0 fun l=>F8 ev hi 0 fun h=>a1t τ e fun s=>cond hi.isSome
      (cond (Nat.beq s size) ((0<=l∧l<=h∧m=h∧h<=rows.length)∧K (.c (.t (.sl size .full ((rows.take h.toNat).drop l.toNat))))) False) False
    |.c (.own id l0 len app)=>F8 ev lo 0 fun l=>F8 ev hi 0 fun h=>cond hi.isSome
      (a1t τ e fun s=>a1l id H fun b=>W0 b <| cond (Nat.beq s b.size) (((0<=l∧l<=h∧m=h∧h<=(len:Int))∧K (.c (.own id (l0+l.toNat) (h - l).toNat false)))) False) False
    |_=>False
   |_=>False
 |_=>False
def b1F (k:IntKind) (a b n:Int):Prop:=n=a.fdiv (2 ^ min b.toNat k.bits)
def a4G (op:BinOp) (k:IntKind) (a b n:Int):Prop:=
 match op with
 |.and=>n=k.wrap (BitVec.ofInt k.bits a &&& BitVec.ofInt k.bits b).toNat
 |.or=>n=k.wrap (BitVec.ofInt k.bits a ||| BitVec.ofInt k.bits b).toNat
 |.xor=>n=k.wrap (BitVec.ofInt k.bits a ^^^ BitVec.ofInt k.bits b).toNat
 |.andNot=>n=k.wrap (BitVec.ofInt k.bits a &&& ~~~ BitVec.ofInt k.bits b).toNat
 |_=>False
def b8l (op:BinOp) (k k':IntKind) (a b:Int) (K:S->Prop):Prop:=
 match op with
 |.shl=>0<=b∧∃n,E1 k (a*2 ^ min b.toNat k.bits) n∧K (a7 k n)
 |.shr=>0<=b∧∃n,b1F k a b n∧K (a7 k n)
 |op=>cond (decide (k=k')) (match op with
  |.add=>∃n,E1 k (a+b) n∧K (a7 k n)
  |.sub=>∃n,E1 k (a - b) n∧K (a7 k n)
  |.mul=>∃n,E1 k (a*b) n∧K (a7 k n)
  |.quo=>b≠0∧∃n,E1 k (a.tdiv b) n∧K (a7 k n)
  |.rem=>b≠0∧K (a7 k (a.tmod b))
  |.eql=>ac2 (a=b) K
  |.neq=>ac2 (a≠b) K
  |.lss=>ac2 (a<b) K
  |.leq=>ac2 (a<=b) K
  |.gtr=>ac2 (a > b) K
  |.geq=>ac2 (a≥b) K
  |op=>∃n,a4G op k a b n∧K (a7 k n)) False
def ai3 (x:C) (k:Bool->Prop):Prop:=
 match x with
 |.t (.sl _ .nil _)=>k true
 |.t (.sl _ .nul _)=>k true
 |.t (.sl _ .non _)=>k false
 |.t (.sl _ _ rows)=>0<rows.length∧k false
 |.own _ _ len _=>0<len∧k false
 |_=>False
def EqS (P:Program) (t:TypeId) (n:Nat):Prop:=P.eqGuardType P.depth t=false∧∀(ul bs:List Int) (w:World),ul.length=n->bs.length=n->
 (Op.equalIn 10000 t (.agg (ul.map (Value.int .i64)).toArray) (.agg (bs.map (Value.int .i64)).toArray)).run P w=.ok (ul == bs) w
def a7f:List C->(List Int->Prop)->Prop
 |[],k=>k []
 |.t (.atm (.int .i64 a))::cs,k=>a7f cs fun l=>k (a::l)
 |_,_=>False
def bi3 (P:Program) (op:BinOp) (t:TypeId) (cs ds:List C) (K:S->Prop):Prop:=
 a7f cs fun ul=>a7f ds fun bs=>(EqS P t ul.length∧bs.length=ul.length)∧match op with
  |.eql=>a0Z (ul == bs) K
  |.neq=>a0Z (!(ul == bs)) K
  |_=>False
def b31 (P:Program) (τ:Tab) (op:BinOp) (t:TypeId) (x y:S) (K:S->Prop):Prop:=
 match x,y with
 |.c (.t (.atm (.int k a))),.c (.t (.atm (.int k' b)))=>b8l op k k' a b K
 |.c (.t (.atm (.bool a))),.c (.t (.atm (.bool b)))=>match τ t with
  |some ⟨.bool,_,_,_,_⟩=>match op with
   |.eql=>a0Z (a == b) K
   |.neq=>a0Z (!(a == b)) K
   |_=>False
  |_=>False
 |.c x,.c (.t (.sl _ .nil []))=>match τ t with
  |some ⟨.slice _,_,_,_,_⟩=>match op with
   |.eql=>ai3 x fun b=>K (d9 b)
   |.neq=>ai3 x fun b=>K (d9 (!b))
   |_=>False
  |_=>False
 |.c (.t (.ptr _)),.c (.t (.atm (.pointer none)))=>P.underlying t=some (.pointer (P.pointee t))∧match op with
  |.eql=>K (d9 false)
  |.neq=>K (d9 true)
  |_=>False
 |.c (.ptr _ _ _),.c (.t (.atm (.pointer none)))=>P.underlying t=some (.pointer (P.pointee t))∧match op with
  |.eql=>K (d9 false)
  |.neq=>K (d9 true)
  |_=>False
 |.c (.t (.atm (.pointer none))),.c (.t (.atm (.pointer none)))=>P.underlying t=some (.pointer (P.pointee t))∧match op with
  |.eql=>K (d9 true)
  |.neq=>K (d9 false)
  |_=>False
 |.agg cs,.agg ds=>bi3 P op t cs ds K
 |_,_=>False
def aun (op:UnOp) (x:S) (K:S->Prop):Prop:=
 match op,x with
 |.neg,.c (.t (.atm (.int k a)))=>∃n,E1 k (0 - a) n∧K (a7 k n)
 |.not,.c (.t (.atm (.bool b)))=>K (d9 (!b))
 |_,_=>False
def aP5 (τ:Tab) (src dst:TypeId) (x:S) (K:S->Prop):Prop:=
 match x,τ src,τ dst with
 |.c (.t (.atm (.int _ a))),some _,some ⟨.int k,_,_,_,_⟩=>∃n,E1 k a n∧K (a7 k n)
 |_,_,_=>False
def I8 (e:TypeId) (size:Nat) (rows:List (List C)) (box:Bool):Blk:=⟨.live,e,size,rows,box,false,false⟩
def bc1 (e:TypeId) (size:Nat) (rows:List (List C)):Blk:=⟨.live,e,size,rows,false,true,false⟩
def a3P (b:Blk):Blk:=⟨.old,b.elem,b.size,b.rows,b.box,true,b.mp⟩
def ao8 (τ:Tab) (ev:Operand->S) (n:Nat) (t:TypeId) (l c:Operand) (K:S->List Blk->Prop):Prop:=
 match ev l,ev c,τ t with
 |.c (.t (.atm (.int _ a))),.c (.t (.atm (.int _ b))),some ⟨.slice e,_,_,_,_⟩=>match τ e with
  |some d=>cond (Nat.beq d.size 0) False ((0<=a∧a<=b∧b*(d.bytes+1)<=140737488355328)∧
    a9k t6 d.zero fun z=>K (.c (.own n 0 a.toNat true)) [I8 e d.size (List.replicate a.toNat z) false])
  |none=>False
 |_,_,_=>False
def a55 (fs:List (Nat × Nat × Bool)) (i:Nat) (cs:List C) (k:Nat->Prop):Prop:=
 match fs[i]? with
 |some (off,size,_)=>cond (Nat.beq cs.length size && Nat.blt 0 size) (k off) False
 |none=>False
def au1 (fs:List (Nat × Nat × Bool)) (cells:List C):List (Nat × S)->(List C->Prop)->Prop
 |[],k=>k cells
 |(i,s)::rest,k=>a0X s fun cs=>a55 fs i cs fun off=>a3m off cs cells fun cells'=>au1 fs cells' rest k
def au3 (size:Nat) (cells:List C):List (Nat × S)->(List C->Prop)->Prop
 |[],k=>k cells
 |(i,s)::rest,k=>a0X s fun cs=>cond (Nat.beq cs.length size && Nat.blt 0 size) (a3m (i*size) cs cells fun cells'=>au3 size cells' rest k) False
def a5H (τ:Tab) (ev:Operand->S) (t:TypeId) (parts:List (Nat × Operand)) (K:S->Prop):Prop:=
 match τ t with
 |some ⟨.struct fs,_,_,_,z⟩=>a9k t6 z fun z=>au1 fs z (parts.map fun p=>(p.1,ev p.2)) fun cs=>K (.agg cs)
 |some ⟨.arr _ e,_,_,_,z⟩=>a1t τ e fun s=>a9k t6 z fun z=>au3 s z (parts.map fun p=>(p.1,ev p.2)) fun cs=>K (.agg cs)
 |_=>False
def aq7 (size:Nat) (rows:List (List C)):List (Nat × S)->(List (List C)->Prop)->Prop
 |[],k=>k rows
 |(i,s)::rest,k=>a0X s fun cs=>cond (Nat.beq cs.length size && Nat.blt i rows.length) (a3F i cs rows fun rows'=>aq7 size rows' rest k) False
def K4 (τ:Tab) (ev:Operand->S) (n:Nat) (t:TypeId) (len:Nat) (parts:List (Nat × Operand)) (K:S->List Blk->Prop):Prop:=
 match τ t with
 |some ⟨.slice e,_,_,_,_⟩=>match τ e with
  |some d=>cond (Nat.beq d.size 0 || Nat.ble 16777216 (len*d.size)) False (a9k t6 d.zero fun z=>aq7 d.size (List.replicate len z) (parts.map fun p=>(p.1,ev p.2)) fun rows=>
    match a2o rows with
    |some rs=>a9j (K (.c (.t (.sl d.size .full rs))) []) (K (.c (.own n 0 len true)) [I8 e d.size rows false]) (K (.c (.t (.sl d.size .any rs))) [])
    |none=>K (.c (.own n 0 len true)) [I8 e d.size rows false])
  |none=>False
 |_=>False
def b5I (ev:Operand->S) (n:Nat) (t:TypeId) (x:Operand) (K:S->List Blk->Prop):Prop:=
 a0X (ev x) fun cs=>match cs with
  |[]=>False
  |c::r=>match a6U (c::r) with
   |some ts=>ai4 (K (.c (.t (.ptr ts))) []) (K (.c (.ptr n 0 0)) [I8 t (c::r).length [c::r] true])
   |none=>K (.c (.ptr n 0 0)) [I8 t (c::r).length [c::r] true]
def a5A (τ:Tab) (n:Nat) (t:TypeId) (K:S->List Blk->Prop):Prop:=
 match τ t with
 |some d=>a9k t6 d.zero fun z=>cond (Nat.beq z.length 0) False (K (.c (.ptr n 0 0)) [I8 t z.length [z] true])
 |none=>False
def aX0 (τ:Tab) (t:TypeId) (x:S) (K:S->Prop):Prop:=
 match τ t with
 |some ⟨.slice _,_,_,_,_⟩=>match x with
  |.c (.t (.sl _ _ rows))=>K (a7 .i64 rows.length)
  |.c (.own _ _ len _)=>K (a7 .i64 len)
  |_=>False
 |some ⟨.arr n _,_,_,_,_⟩=>K (a7 .i64 n)
 |_=>False
def toC (rows:List (List T)):List (List C):=rows.map (·.map C.t)
def b6D (size:Nat) (H:Hp) (x:S) (k:List (List C)->Prop):Prop:=
 match x with
 |.c (.t (.sl s _ rows))=>(rows.length=0∨s=size)∧k (toC rows)
 |.c (.own id lo len _)=>a1l id H fun b=>W0 b (cond (Nat.beq b.size size) (lo+len<=b.rows.length∧k ((b.rows.drop lo).take len)) False)
 |_=>False
def a1x (τ:Tab) (ev:Operand->S) (H:Hp) (n:Nat) (t:TypeId) (s x:Operand) (Kq:S->List Blk->Prop) (Kg:S->Hp->Prop):Prop:=
 match τ t with
 |some ⟨.slice e,_,_,_,_⟩=>match τ e with
  |some d=>cond (Nat.beq d.size 0) False (b6D d.size H (ev x) fun xr=>
    match ev s with
    |.c (.t (.sl _ .nil _))=>xr.length*(d.bytes+1)<=140737488355328∧Kq (.c (.own n 0 xr.length true)) [I8 e d.size xr false]
    |.c (.t (.sl sz .full rows))=>((rows.length=0∨(0<xr.length∧sz=d.size))∧(rows.length+xr.length)*(d.bytes+1)<=140737488355328)∧
      Kq (.c (.own n 0 (rows.length+xr.length) true)) [I8 e d.size (toC rows++xr) false]
    |.c (.own id _ len true)=>a1l id H fun b=>cond (Nat.beq b.size d.size && Nat.beq b.elem e) (a78 b
      ((len=b.rows.length∧(len+xr.length)*(d.bytes+1)<=140737488355328)∧
        a3F id (a3P b) H fun H1=>a98 H1 [bc1 e d.size (b.rows++xr)] fun H'=>Kg (.c (.own n 0 (len+xr.length) true)) H')
      ((len<=b.rows.length∧(len+xr.length)*(d.bytes+1)<=140737488355328)∧
        a3F id ⟨.dead,e,d.size,[],false,false,false⟩ H fun H1=>a98 H1 [I8 e d.size (b.rows.take len++xr) false] fun H'=>Kg (.c (.own n 0 (len+xr.length) true)) H')) False
    |_=>False)
  |none=>False
 |_=>False
def b2G (τ:Tab) (ev:Operand->S) (n:Nat) (t t':TypeId) (s x:Operand) (Kq:S->List Blk->Prop):Prop:=
 match τ t,τ t' with
 |some ⟨.slice e,_,_,_,_⟩,some ⟨.int _,_,_,_,_⟩=>match τ e with
  |some d=>cond (Nat.beq d.size 0) False (match ev s,ev x with
    |.c (.t (.sl _ .nil _)),.c (.t (.atm (.int .i64 m)))=>(1<=m∧m.toNat*(d.bytes+1)<=140737488355328)∧
      a9k t6 d.zero fun z=>Kq (.c (.own n 0 m.toNat true)) [I8 e d.size (List.replicate m.toNat z) false]
    |_,_=>False)
  |none=>False
 |_,_=>False
def be2 (τ:Tab) (t:TypeId) (x:S) (K:S->Prop):Prop:=
 match τ t with
 |some ⟨.slice _,_,_,_,_⟩=>match x with
  |.c (.t (.sl _ .nil _))=>K (a7 .i64 0)
  |_=>False
 |_=>False
def C1 (lo len:Nat) (rows xr:List (List C)):List (List C):=rows.take lo++(xr.take len++rows.drop (lo+(xr.take len).length))
def ar3 (τ:Tab) (ev:Operand->S) (H:Hp) (t:TypeId) (x s:Operand) (Kg:S->Hp->Prop):Prop:=
 match τ t with
 |some ⟨.slice e,_,_,_,_⟩=>match τ e with
  |some d=>cond (Nat.beq d.size 0) False (b6D d.size H (ev s) fun xr=>
    match ev x with
    |.c (.own id lo len _)=>a1l id H fun b=>a0Q b (cond (Nat.beq b.size d.size && Nat.beq b.elem e) (lo+len<=b.rows.length∧
      a3F id (p5 b (C1 lo len b.rows xr)) H fun H'=>Kg (a7 .i64 (xr.take len).length) H') False)
    |_=>False)
  |none=>False
 |_=>False
def aI6 (τ:Tab) (ev:Operand->S) (H:Hp) (t:TypeId) (x:Operand) (Kg:S->Hp->Prop):Prop:=
 match τ t with
 |some ⟨.slice e,_,_,_,_⟩=>match τ e with
  |some d=>cond (Nat.beq d.size 0) False (a9k t6 d.zero fun z=>
    match ev x with
    |.c (.own id lo len _)=>a1l id H fun b=>a0Q b (cond (Nat.beq b.size d.size && Nat.beq b.elem e) (lo+len<=b.rows.length∧
      a3F id (p5 b (C1 lo len b.rows (List.replicate len z))) H fun H'=>Kg .junk H') False)
    |_=>False)
  |none=>False
 |_=>False
def b09:List S->Option (List C)
 |[]=>some []
 |.c x::r=>match b09 r with
  |some xs=>some (x::xs)
  |none=>none
 |_::_=>none
def b3k (max:Bool):List S->(S->Prop)->Prop
 |[.c (.t (.atm (.int k a))),.c (.t (.atm (.int _ b)))],K=>K (a7 k (cond max (if b > a then b else a) (if b<a then b else a)))
 |_,_=>False
def a79 (P:Program) (g:FuncId) (args:List S) (H:Hp) (Kq:S->List Blk->Prop) (Kg:S->Hp->Prop):Prop:=
 (∃ r B,N1 P g args H r B∧as6 r fun r=>Kq r B)∨(∃ r H',a8 P g args H r H'∧as6 r fun r=>Kg r H')
def a8d (P:Program) (t:TypeId):Bool:=match P.underlying t with
 |some (.interface _)=>false
 |some _=>true
 |none=>false
def b9k (P:Program) (t:TypeId) (x:S) (K:S->Prop):Prop:=a8d P t=true∧a60 x fun s=>K (.ifc t s)
def aK1 (P:Program) (t:TypeId) (ok:Bool) (x:S) (K:S->Prop):Prop:=match x with
 |.ifc d s=>a8d P t=true∧cond (Nat.beq d t) (a60 s fun s=>match ok with
  |true=>K (.tup [s,d9 true])
  |false=>K s) False
 |_=>False
def a92 (P:Program) (t:TypeId) (name:String) (f:FuncId) (b:Bool) (e:TypeId):Bool:=match P.info? t,P.underlying t with
 |some i,some (.pointer e')=>Nat.beq e' e && (match i.methods.find? (fun m=>m.name == name) with
  |some m=>m.path.isEmpty && (match m.func with
   |some (g,c)=>Nat.beq g f && (c == b)
   |none=>false)
  |none=>false)
 |_,_=>false
def b6Z (x:S):Operand->S
 |.tmp 0=>x
 |_=>.junk
def a32 (P:Program) (τ:Tab) (H:Hp) (x:S) (name:String) (args:List S) (Kq:S->List Blk->Prop) (Kg:S->Hp->Prop):Prop:=match x with
 |.ifc t s=>∃f b e,a92 P t name f b e=true∧match b with
  |true=>a79 P f (s::args) H Kq Kg
  |false=>a5m τ (b6Z s) H e (.tmp 0) fun r=>a79 P f (r::args) H Kq Kg
 |_=>False
def a3w:List Int->Value
 |[a]=>.int .i64 a
 |l=>.agg (l.map (Value.int .i64)).toArray
def a6h (a:Int):C:=.t (.atm (.int .i64 a))
def ac8:List C->Option (List Int × C)
 |[]=>none
 |[c]=>some ([],c)
 |c::d::r=>match c with
  |.t (.atm (.int .i64 a))=>match ac8 (d::r) with
   |some (l,c)=>some (a::l,c)
   |none=>none
  |_=>none
def a3u:List (List C)->Option (List (List Int × C))
 |[]=>some []
 |r::rs=>match ac8 r,a3u rs with
  |some x,some xs=>some (x::xs)
  |_,_=>none
def a1w (ks:List Int):List (List Int × C)->Option C
 |[]=>none
 |x::r=>match ks == x.1 with
  |true=>some x.2
  |false=>a1w ks r
def a3Y (ks:List Int):List (List Int)->List MapEntry->Nat->Option (Nat × Value)
 |l::ls,e::es,i=>match ks == l with
  |true=>some (i,e.val)
  |false=>a3Y ks ls es (i+1)
 |_,_,_=>none
structure aN2 (P:Program) (kt:TypeId) (n:Nat):Prop where
 ck:∀(b:Bool) (ks:List Int) (w:World),ks.length=n->(Instr.checkKey b 10000 kt (a3w ks)).run P w=.ok () w
 fnd:∀(ks:List Int) (es:List MapEntry) (ls:List (List Int)) (w:World),ks.length=n->es.map (·.key)=ls.map a3w->(∀ l ∈ ls,l.length=n)->(Instr.findKey kt (a3w ks) es).run P w=.ok (a3Y ks ls es 0) w
structure b0t (P:Program) (t kt e:TypeId) (z:Value) (n:Nat):Prop where
 u:P.underlying t=some (.map kt e)
 k:aN2 P kt n
 n:1<=n
 zv:∀w:World,(zeroValue e).run P w=.ok z w
 zo:z.oneCell'=true
def b6m (s:S) (k:List Int->Prop):Prop:=match s with
 |.c (.t (.atm (.int .i64 a)))=>k [a]
 |.agg cs=>a7f cs fun l=>cond (Nat.ble 2 l.length) (k l) False
 |_=>False
def aE9 (t:TypeId) (n:Nat) (rows:List (List C)):Blk:=⟨.live,t,n,rows,false,false,true⟩
def b8W (id:Nat) (H:Hp) (k:Blk->Prop):Prop:=a1l id H fun b=>match b.mode,b.mp,b.app with
 |.live,true,false=>k b
 |_,_,_=>False
def a1B (P:Program) (H:Hp) (t:TypeId) (ok:Bool) (x key:S) (K:S->Prop):Prop:=match x with
 |.c (.mp id)=>b6m key fun ks=>b8W id H fun b=>∃kt e z,b0t P t kt e z ks.length∧(b.size=ks.length+1)∧match a3u b.rows with
  |some l=>match a1w ks l with
   |some c=>match ok with
    |true=>K (.tup [.c c,d9 true])
    |false=>K (.c c)
   |none=>match ok with
    |true=>K (.tup [.c (t6 z),d9 false])
    |false=>K (.c (t6 z))
  |none=>False
 |_=>False
def a6O (P:Program) (H:Hp) (t:TypeId) (x key v:S) (Kg:S->Hp->Prop):Prop:=match x,v with
 |.c (.mp id),.c c=>b6m key fun ks=>b8W id H fun b=>∃kt e z,b0t P t kt e z ks.length∧(b.size=ks.length+1)∧match a3u b.rows with
  |some l=>match a1w ks l with
   |some _=>False
   |none=>b.rows.length<1000000∧a3F id (p5 b (b.rows++[ks.map a6h++[c]])) H fun H'=>Kg .junk H'
  |none=>False
 |_,_=>False
def b0z (s:S) (k:S->Prop):Prop:=match s with
 |.c (.ptr id r o)=>k (.c (.ptr id r o))
 |.c (.t (.ptr cs))=>k (.c (.t (.ptr cs)))
 |_=>False
def aop (P:Program) (τ:Tab) (ev:Operand->S) (H:Hp) (op:Op) (Kq:S->List Blk->Prop) (Kg:S->Hp->Prop):Prop:=
 match op with
 |.move x|.assign x=>a60 (ev x) fun s=>Kq s []
 |.pick c a b=>match ev c with
  |.c (.t (.atm (.bool t)))=>cond t (a60 (ev a) fun s=>Kq s []) (a60 (ev b) fun s=>Kq s [])
  |_=>False
 |.load t x=>a5m τ ev H t x fun s=>as6 s fun s=>Kq s []
 |.store t x v=>a8e τ ev H t x v fun H'=>Kg .junk H'
 |.fieldAddr s x f=>a1i τ ev s x f fun s=>Kq s []
 |.indexAddr t x i=>Y4 τ ev H t x i fun s=>Kq s []
 |.slice t x lo hi max=>a23 τ ev H t x lo hi max fun s=>Kq s []
 |.binOp op t x y _=>b31 P τ op t (ev x) (ev y) fun s=>Kq s []
 |.unOp op _ x=>aun op (ev x) fun s=>Kq s []
 |.convert src dst x=>aP5 τ src dst (ev x) fun s=>Kq s []
 |.makeSlice t l c=>a8m H 0 fun n=>ao8 τ ev n t l c Kq
 |.build t parts=>a5H τ ev t parts.toList fun s=>Kq s []
 |.buildSlice t n parts=>a8m H 0 fun m=>K4 τ ev m t n parts.toList Kq
 |.box t x=>a8m H 0 fun n=>b5I ev n t x Kq
 |.alloc t=>a8m H 0 fun n=>a5A τ n t Kq
 |.extract x i=>match ev x with
  |.tup ss=>a1l i ss fun s=>as6 s fun s=>Kq s []
  |_=>False
 |.makeFunc fn first caps=>match first.toList,b09 (caps.toList.map ev) with
  |[],some cs=>match a6U cs with
   |some ts=>Kq (.c (.t (.fn fn ts))) []
   |none=>Kq (.c (.fn fn cs)) []
  |_,_=>False
 |.call c=>match c.callee with
  |.builtin .len=>match c.argTypes.toList,c.args.toList with
   |t::_,x::_=>aX0 τ t (ev x) fun s=>Kq s []
   |_,_=>False
  |.builtin .append=>match c.argTypes.toList,c.args.toList with
   |[t,t'],[s,x]=>cond (Nat.beq t t') (a8m H 0 fun n=>a1x τ ev H n t s x Kq Kg) (a8m H 0 fun n=>b2G τ ev n t t' s x Kq)
   |_,_=>False
  |.builtin .cap=>match c.argTypes.toList,c.args.toList with
   |[t],[x]=>be2 τ t (ev x) fun s=>Kq s []
   |_,_=>False
  |.builtin .copy=>match c.argTypes.toList,c.args.toList with
   |[t,t'],[x,s]=>cond (Nat.beq t t') (ar3 τ ev H t x s Kg) False
   |_,_=>False
  |.builtin .clear=>match c.argTypes.toList,c.args.toList with
   |[t],[x]=>aI6 τ ev H t x Kg
   |_,_=>False
  |.builtin .min=>b3k false (c.args.toList.map ev) fun s=>Kq s []
  |.builtin .max=>b3k true (c.args.toList.map ev) fun s=>Kq s []
  |.value f=>match ev f with
   |.c (.t (.fn (.func g) caps))=>a79 P g (c.args.toList.map ev++caps.map fun x=>.c (.t x)) H Kq Kg
   |.c (.fn (.func g) caps)=>a79 P g (c.args.toList.map ev++caps.map .c) H Kq Kg
   |_=>False
  |.invoke r name=>a32 P τ H (ev r) name (c.args.toList.map ev) Kq Kg
  |_=>False
 |.nilCheck x=>b0z (ev x) fun s=>Kq s []
 |.makeInterface t x=>b9k P t (ev x) fun s=>Kq s []
 |.typeAssert x _ t ok=>aK1 P t ok (ev x) fun s=>Kq s []
 |.makeMap t none=>a8m H 0 fun n=>∃kt e z m,b0t P t kt e z m∧Kq (.c (.mp n)) [aE9 t (m+1) []]
 |.lookup t x k ok=>a1B P H t ok (ev x) (ev k) fun s=>Kq s []
 |.mapUpdate t x k v=>a6O P H t (ev x) (ev k) (ev v) Kg
 |_=>False
end
section
open Go.RowKit
section
variable {α β:Type}
theorem at4 {n:Nat} {l:List α} {k:List α->Prop} (h:ah9 n l k):n<=l.length∧k (l.take n):=by
 induction n generalizing l k with
 |zero=>exact ⟨D5 _,by simpa [ah9] using h⟩
 |succ n ih=>cases l with
  |nil=>exact h.elim
  |cons x l=>obtain ⟨h1,h2⟩:=ih h;exact ⟨by simp;omega,by simpa using h2⟩
theorem a7K {n:Nat} {l:List α} {k:List α->Prop} (h:a8w n l k):n<=l.length∧k (l.drop n):=by
 induction n generalizing l with
 |zero=>cases l<;>exact ⟨D5 _,by simpa [a8w] using h⟩
 |succ n ih=>cases l with
  |nil=>exact h.elim
  |cons x l=>obtain ⟨h1,h2⟩:=ih h;exact ⟨by simp;omega,by simpa using h2⟩
theorem H9 {n:Nat} {l:List α} {k:α->Prop} (h:a1l n l k):∃x,l[n]? =some x∧k x:=by
 induction n generalizing l with
 |zero=>cases l with
  |nil=>exact h.elim
  |cons x l=>exact ⟨x,rfl,h⟩
 |succ n ih=>cases l with
  |nil=>exact h.elim
  |cons x l=>obtain ⟨y,h1,h2⟩:=ih h;exact ⟨y,by simpa using h1,h2⟩
theorem x3 {n:Nat} {v:α} {l:List α} {k:List α->Prop}:a3F n v l k↔k (l.set n v):=by
 induction l generalizing n k with
 |nil=>show k []↔_;simp
 |cons x l ih=>cases n with
  |zero=>exact Iff.rfl
  |succ n=>show a3F n v l (fun q=>k (x::q))↔_;rw [ih];rfl
theorem b3N {o:Nat} {xs l:List α} {k:List α->Prop} (h:a3m o xs l k):o+xs.length<=l.length∨xs=[]:=by
 induction l generalizing o xs k with
 |nil=>cases xs with
  |nil=>exact .inr rfl
  |cons x xs=>cases o<;>exact h.elim
 |cons y l ih=>cases xs with
  |nil=>exact .inr rfl
  |cons x xs=>
   refine .inl ?_
   cases o with
   |zero=>rcases ih h with h|h<;>(try subst h)<;>simp at *;omega
   |succ o=>rcases ih h with h|h<;>simp at *;omega
theorem a7n {o:Nat} {xs l:List α} {k:List α->Prop} (h:a3m o xs l k) (h0:xs≠[]):o+xs.length<=l.length∧k (l.take o++xs++l.drop (o+xs.length)):=by
 refine ⟨(b3N h).resolve_right h0,?_⟩
 induction l generalizing o xs k with
 |nil=>cases xs with
  |nil=>exact absurd rfl h0
  |cons x xs=>cases o<;>exact h.elim
 |cons y l ih=>cases xs with
  |nil=>exact absurd rfl h0
  |cons x xs=>
   cases o with
   |zero=>
    cases xs with
    |nil=>cases l<;>simpa [a3m] using h
    |cons x' xs=>simpa using ih (o:=0) h (by simp)
   |succ o=>simpa [show o+1+(xs.length+1)=(o+(xs.length+1))+1 by omega] using ih (o:=o) h (by simp)
theorem aj8 {o:Nat} {xs l:List α} {k:List α->Prop} (hl:o+xs.length<=l.length) (h0:xs≠[]) (h:k (l.take o++xs++l.drop (o+xs.length))):a3m o xs l k:=by
 induction l generalizing o xs k with
 |nil=>cases xs with
  |nil=>exact absurd rfl h0
  |cons x xs=>simp at hl
 |cons y l ih=>cases xs with
  |nil=>exact absurd rfl h0
  |cons x xs=>
   cases o with
   |zero=>
    cases xs with
    |nil=>cases l<;>simpa [a3m] using h
    |cons x' xs=>exact ih (o:=0) (by simp at hl ⊢;omega) (by simp) (by simpa using h)
   |succ o=>exact ih (o:=o) (by simp at hl ⊢;omega) (by simp) (by simpa [show o+1+(xs.length+1)=(o+(xs.length+1))+1 by omega] using h)
theorem D2 {f:α->β} {l:List α} {k:List β->Prop}:a9k f l k↔k (l.map f):=by
 induction l generalizing k with
 |nil=>simp [a9k]
 |cons x l ih=>simp [a9k,ih]
theorem S0 {a l:List α} {k:List α->Prop}:a98 a l k↔k (a++l):=by
 induction a generalizing k with
 |nil=>exact Iff.rfl
 |cons x a ih=>show a98 a l (fun q=>k (x::q))↔_;rw [ih];rfl
theorem C0 {l:List α} {n:Nat} {k:Nat->Prop}:a8m l n k↔k (n+l.length):=by
 induction l generalizing n with
 |nil=>exact Iff.rfl
 |cons x l ih=>show a8m l (n+1) k↔_;rw [ih,a1g,Nat.add_comm 1];rfl
end
theorem y5 {s:S} {k:S->Prop}:a60 s k↔k s:=by cases s<;>rfl
theorem a0Z.get {b:Bool} {k:S->Prop} (h:a0Z b k):k (d9 b):=by cases b<;>first|exact h.yes rfl|exact h.no rfl
theorem ac2.get {p:Prop} [Decidable p] {k:S->Prop} (h:ac2 p k):k (d9 (decide p)):=by
 by_cases hp:p
 ·rw [lbI hp];exact h.yes hp
 ·rw [lbK hp];exact h.no hp
theorem a0x {s:S} {k:S->Prop} (h:as6 s k):k s:=by
 cases s with
 |c x=>cases x with
  |t y=>cases y with
   |atm v=>cases v<;>first|exact a0Z.get h|exact h
   |_=>exact h
  |_=>exact h
 |_=>exact h
theorem a11 {s:S} {k:List C->Prop} (h:a0X s k):∃cs,k cs∧((∃ c,s=.c c∧cs=[c])∨s=.agg cs):=by
 cases s with
 |c x=>exact ⟨_,h,.inl ⟨x,rfl,rfl⟩⟩
 |agg cs=>exact ⟨_,h,.inr rfl⟩
 |_=>exact h.elim
theorem w8 {b:Bool} {x:Prop} (h:cond b x False):b=true∧x:=by cases b with|true=>exact ⟨rfl,h⟩|false=>exact h.elim
theorem Q0 {b:Bool} {x:Prop} (h:cond b False x):b=false∧x:=by cases b with|false=>exact ⟨rfl,h⟩|true=>exact h.elim
structure az1 (P:Program) (t:TypeId) (d:TD):Prop where
 info:∃i,P.info? t=some i∧i.size=d.size∧i.bytes=d.bytes∧∃z,i.zero=some z∧z.cells.toList=d.zero∧(∀ v ∈ d.zero,v.oneCell'=true)∧d.zero.length=d.size
 und:∃u,P.underlying t=some u∧match d.k with
  |.bas=>d.agg=false∧(match u with|.struct _|.array _ _=>False|_=>True)
  |.bool=>d.agg=false∧u=.bool
  |.int k=>d.agg=false∧u=.int k
  |.slice e=>d.agg=false∧u=.slice e
  |.arr n e=>d.agg=true∧u=.array n e
  |.struct fs=>d.agg=true∧∃fields,u=.struct fields∧fs.map (fun x=>(x.1,x.2.1))=fields.toList.map (fun f=>(f.offset,P.cellsOf f.type))∧(∀ f ∈ fields.toList,(P.info? f.type).isSome=true)∧
    fields.toList.mapM (fun f=>(P.info? f.type).map fun i=>(f.offset,i.size))=some (fs.map (fun x=>(x.1,x.2.1)))
structure v6 (P:Program) (τ:Tab):Prop where
 mixed:P.follows .mixedOrders=true
 td:∀t d,τ t=some d->az1 P t d
def b5F (P:Program) (o:Oper) (a:Act) (w:World) (R:Value->World->Prop):Prop:=
 ∀(K:Act->World->Prop) (Q:Exit->Act->World->Prop),(∀ v w',R v w'->K (a.put o.dst v) w')->o.wp P a w K Q
theorem m8 {P:Program} {o:Oper} {a:Act} {w w':World} {R:Value->World->Prop} {v:Value} (h:(execOp a.eval o).run P w=.ok (.value v) w') (hr:R v w'):b5F P o a w R:=by
 intro K Q hK
 unfold Oper.wp
 rw [h]
 exact hK _ _ hr
theorem a7L {P:Program} {o:Oper} {a:Act} {w w':World} {R:Value->World->Prop} (h:(execOp a.eval o).run P w=.ok .skip w') (hr:R undef w'):b5F P o a w R:=by
 intro K Q hK
 unfold Oper.wp
 rw [h]
 exact hK _ _ hr
theorem a3k {P:Program} {o:Oper} {a:Act} {w w':World} {R:Value->World->Prop} {f:FuncId} {args:Array Value} (h:(execOp a.eval o).run P w=.ok (.enter f args) w')
 (hr:Calls P f args w' fun e w''=>∃v,e=.returned v∧R v w''):b5F P o a w R:=by
 intro K Q hK
 unfold Oper.wp
 rw [h]
 refine Calls.mono hr ?_
 rintro e w'' ⟨v,rfl,hv⟩
 exact hK _ _ hv
abbrev L8 (w:World) (ι:Io) (M:Ms) (ev:Operand->S) (a:Act):Prop:=∀x,RS w ι M (ev x) (a.eval x)
def QOp (P:Program) (o:Oper) (ev:Operand->S) (H:Hp) (s:S) (B:List Blk):Prop:=
 ∀(a:Act) (w:World) (ι:Io) (M:Ms),L8 w ι M ev a->j3 w ι M H->MB w M->(∀ k,k<B.length->ι (H.length+k)=none)->b5F P o a w (C5 w ι M H.length s B)
def GOp (P:Program) (o:Oper) (ev:Operand->S) (H:Hp) (s:S) (H':Hp):Prop:=
 ∀(a:Act) (w:World) (ι:Io) (M:Ms),L8 w ι M ev a->j3 w ι M H->MB w M->a1c ι H.length->b5F P o a w (B4 w ι M H s H')
theorem C5.of_none {w w':World} {ι:Io} {M:Ms} {n:Nat} {s:S} {v:Value} (h:RS w' ι M s v) (he:Ext w w'):C5 w ι M n s [] v w':=by
 refine ⟨fun _=>.nil,h.keep (fun _ _ _=>rfl) ?_ (fun id l hl=>?_),he,by simp,by simp,by simp⟩
 ·rintro b (hb|⟨k,hk,_⟩)
  ·exact .inl hb
  ·simp at hk
 ·unfold s8;rw [if_neg (by simp),hl]
theorem i6 {P:Program} {o:Oper} {ev:Operand->S} {H:Hp} {s:S}
 (h:∀(a:Act) (w:World) (ι:Io) (M:Ms),L8 w ι M ev a->j3 w ι M H->∃v,(execOp a.eval o).run P w=.ok (.value v) w∧RS w ι M s v):QOp P o ev H s []:=by
 intro a w ι M he hh hm _
 obtain ⟨v,h1,h2⟩:=h a w ι M he hh
 exact m8 h1 (C5.of_none h2 (Ext.refl w))
theorem RS.inv_c {w:World} {ι:Io} {M:Ms} {x:C} {v:Value} (h:RS w ι M (.c x) v):RC w ι M x v:=by cases h;assumption
theorem RS.inv_t {w:World} {ι:Io} {M:Ms} {x:T} {v:Value} (h:RS w ι M (.c (.t x)) v):RT w M x v:=by cases h with|c h=>cases h;assumption
theorem RS.inv_atm {w:World} {ι:Io} {M:Ms} {x v:Value} (h:RS w ι M (.c (.t (.atm x))) v):v=x:=by cases h.inv_t;rfl
theorem RS.mk_atm {w:World} {ι:Io} {M:Ms} {v:Value} (h:v.oneCell'=true):RS w ι M (.c (.t (.atm v))) v:=.c (.t (.atm h))
theorem RS.int {w:World} {ι:Io} {M:Ms} {k:IntKind} {n:Int}:RS w ι M (a7 k n) (.int k n):=.mk_atm rfl
theorem RS.bool {w:World} {ι:Io} {M:Ms} {b:Bool}:RS w ι M (d9 b) (.bool b):=.mk_atm rfl
theorem RC.const {w:World} {ι:Io} {M:Ms} {v:Value} (h:v.oneCell'=true):RC w ι M (t6 v) v:=by
 unfold t6
 split
 ·exact .t (.sl (b:=0) (off:=0) (fun _ _=>undef) (by simp) (by simp) (by unfold maxLen;omega) (by simp) (by simp) (by simp) (by simp [at2]) (by simp [at2]))
 ·exact .t (.atm h)
theorem RS.const {w:World} {ι:Io} {M:Ms} (v:Value):RS w ι M (aE1 v) v:=by
 unfold aE1
 split
 ·rename_i cs
  cases hb:cs.toList.all (·.oneCell') with
  |false=>exact .junk
  |true=>
   have:RS w ι M (.agg (cs.toList.map t6)) (.agg cs.toList.toArray):=.agg cs.toList (by simp) fun j c hc=>by
    rw [lba] at hc
    cases hj:cs.toList[j]? with
    |none=>rw [hj] at hc;cases hc
    |some u=>
     rw [hj] at hc
     injection hc with hc
     subst hc
     rw [lbl,hj]
     exact RC.const (lbw.1 hb u (lbm hj))
   simpa using this
 ·exact .junk
 ·exact .c (.t (.sl (b:=0) (off:=0) (fun _ _=>undef) (by simp) (by simp) (by unfold maxLen;omega) (by simp) (by simp) (by simp) (by simp [at2]) (by simp [at2])))
 ·rename_i h1 h2 h3
  refine .c (.t (.atm ?_))
  cases v<;>first|rfl|(exact absurd rfl (h1 _))|(exact absurd rfl (h2 _))
end
section
open Go.RowKit
section
variable {P:Program} {τ:Tab} {o:Oper} {ev:Operand->S} {H:Hp}
theorem L8.to {w:World} {ι:Io} {M:Ms} {a:Act} (h:L8 w ι M ev a) {x:Operand} {s:S} (e:ev x=s):RS w ι M s (a.eval x):=e ▸ h x
theorem aQ6 (x:Operand) (ho:o.op=.move x∨o.op=.assign x):QOp P o ev H (ev x) []:=
 i6 fun a w ι M he hh=>⟨a.eval x,by rcases ho with ho|ho<;>simp [execOp,ho],he x⟩
theorem b4F (c x y:Operand) (t:Bool) (ho:o.op=.pick c x y) (hc:ev c=d9 t):QOp P o ev H (cond t (ev x) (ev y)) []:=
 i6 fun a w ι M he hh=>⟨cond t (a.eval x) (a.eval y),by
  have h:=(he.to hc).inv_atm
  cases t<;>simp [execOp,ho,h,asBool],by cases t<;>exact he _⟩
def bl2:TypeDesc->Bool
 |.struct _=>true
 |.array _ _=>true
 |_=>false
theorem ao4 {t:TypeId} {d:TD} (h:az1 P t d) (w:World):(isAgg t).run P w=.ok d.agg w:=by
 obtain ⟨u,hu,hk⟩:=h.und
 have hr:(isAgg t).run P w=.ok (bl2 u) w:=by
  clear hk
  simp only [isAgg,Sem.run_bind,run_underlying hu,Result.andThen_ok]
  cases u<;>rfl
 rw [hr]
 cases hd:d.k<;>rw [hd] at hk<;>simp only at hk
 ·obtain ⟨h1,h2⟩:=hk
  rw [h1]
  cases u<;>first|exact h2.elim|rfl
 ·obtain ⟨h1,rfl⟩:=hk;rw [h1];rfl
 ·obtain ⟨h1,rfl⟩:=hk;rw [h1];rfl
 ·obtain ⟨h1,rfl⟩:=hk;rw [h1];rfl
 ·obtain ⟨h1,rfl⟩:=hk;rw [h1];rfl
 ·obtain ⟨h1,_,rfl,_⟩:=hk;rw [h1];rfl
theorem a2G {t:TypeId} {d:TD} (h:az1 P t d) (w:World):(sizeOf t).run P w=.ok d.size w:=by
 obtain ⟨i,hi,hs,_⟩:=h.info
 simp [sizeOf,typeInfo,hi,hs]
theorem a4a {t:TypeId} {d:TD} (h:az1 P t d) {w:World} {ι:Io} {M:Ms} {b off:Nat} {cells:List C}
 (hc:∀j c,cells[j]? =some c->∃u,w.cell? ⟨b,off+j,none⟩=some u∧RC w ι M c u) {s:S}
 (hs:(d.agg=true∧d.size<=cells.length∧s=.agg (cells.take d.size))∨(d.agg=false∧∃c,cells[0]? =some c∧s=.c c)):
 ∃v,(Instr.loadAt t (.pointer (some ⟨b,off,none⟩))).run P w=.ok v w∧RS w ι M s v:=by
 rcases hs with ⟨ha,hl,rfl⟩|⟨ha,c,h0,rfl⟩
 ·have hex:∀j,j<d.size->∃u,w.cell? ⟨b,off+j,none⟩=some u∧∃c,cells[j]? =some c∧RC w ι M c u:=fun j hj=>by
   obtain ⟨u,h1,h2⟩:=hc j _ (lbf (by omega))
   exact ⟨u,h1,_,lbf (by omega),h2⟩
  refine ⟨.agg ((List.range d.size).map fun j=>(w.cell? ⟨b,off+j,none⟩).getD undef).toArray,?_,?_⟩
  ·have:=run_loadCells (P:=P) w ⟨b,off,none⟩ d.size (fun j=>(w.cell? ⟨b,off+j,none⟩).getD undef) (fun j hj=>by
    obtain ⟨u,h1,_⟩:=hex j hj
    have e:(⟨b,off,none⟩:Addr).add j=⟨b,off+j,none⟩:=by unfold Addr.add;split<;>simp_all
    rw [e,h1];rfl)
   simp [Instr.loadAt,Instr.sureAddr,loadVar,ao4 h,a2G h,ha,this]
  ·refine .agg _ (by simp;omega) fun j c hj=>?_
   have hlt:j<d.size:=by have:=(lbe.1 hj).1;simp at this;omega
   obtain ⟨u,h1,c',h2,h3⟩:=hex j hlt
   rw [List.getElem?_take_of_lt hlt,h2] at hj
   injection hj with hj
   subst hj
   rw [lbl,lba,lbh hlt]
   simp [h1,h3]
 ·obtain ⟨u,h1,h2⟩:=hc 0 c h0
  refine ⟨u,?_,.c h2⟩
  simp only [at7] at h1
  simp [Instr.loadAt,Instr.sureAddr,loadVar,ao4 h,ha,h1]
theorem b8Q {rows:List (List C)} {r:Nat} {row:List C} (h:rows[r]? =some row) (j:Nat):at2 rows r j=row[j]?:=by simp [at2,h]
theorem E8.row {w:World} {ι:Io} {M:Ms} {k:Blk} {b cap size:Nat} (hmp:k.mp=false) (h:E8 w ι M k (.blk b cap size)) {r:Nat} {row:List C} (hr:k.rows[r]? =some row):
 ∀j c,row[j]? =some c->∃u,w.cell? ⟨b,r*size+j,none⟩=some u∧RC w ι M c u:=fun j c hj=>by
 obtain ⟨_,_,_,_,_,cur,hb,_,h8⟩:=h
 rw [B7 hmp] at hb
 obtain ⟨u,h1,h2⟩:=h8 r j c (by rw [b8Q hr];exact hj)
 exact ⟨u,by simp [World.cell?,hb,h1],h2⟩
theorem aR9 {b:Blk} {r:Nat} {k:List C->Prop} (h:b3Q b r k):∃row,b.rows[r]? =some row∧k row∧(b.box=true->b.rows=[row]∧r=0):=by
 unfold b3Q at h
 split at h
 ·split at h
  ·rename_i hb _ _ row hr
   exact ⟨row,by rw [hr];rfl,h,fun _=>⟨hr,rfl⟩⟩
  ·exact h.elim
 ·obtain ⟨row,h1,h2⟩:=h
  rename_i hb
  exact ⟨row,h1,h2,fun h=>by rw [hb] at h;cases h⟩
theorem W2 {b:Blk} {k:Prop} (h:W0 b k):(b.mode≠.dead∧b.mp=false)∧k:=by
 unfold W0 at h
 cases hb:b.mode<;>cases hm:b.mp<;>rw [hb,hm] at h<;>first|exact h.elim|exact ⟨⟨by simp,rfl⟩,h⟩
theorem a3a {b:Blk} {k:Prop} (h:a0Q b k):(b.mode=.live∧b.mp=false)∧b.app=false∧k:=by
 unfold a0Q at h
 cases hb:b.mode<;>cases ha:b.app<;>cases hm:b.mp<;>rw [hb,ha,hm] at h<;>first|exact h.elim|exact ⟨⟨rfl,rfl⟩,rfl,h⟩
theorem aD4 {b:Blk} {k k':Prop} (h:a78 b k k'):(b.mode=.live∧b.mp=false)∧((b.app=true∧k)∨(b.app=false∧k')):=by
 unfold a78 at h
 cases hb:b.mode<;>cases hm:b.mp<;>cases ha:b.app<;>rw [hb,hm] at h<;>first|exact h.elim|(simp only [ha] at h;first|exact ⟨⟨rfl,rfl⟩,.inl ⟨rfl,h⟩⟩|exact ⟨⟨rfl,rfl⟩,.inr ⟨rfl,h⟩⟩)
theorem aV1 {d:TD} {row:List C} {o:Nat} {K:S->Prop} (h:aG3 d row o K):
 ∃s,K s∧((d.agg=true∧d.size<=(row.drop o).length∧s=.agg ((row.drop o).take d.size))∨(d.agg=false∧∃c,(row.drop o)[0]? =some c∧s=.c c)):=by
 obtain ⟨_,h⟩:=a7K h
 cases ha:d.agg<;>rw [ha] at h
 ·obtain ⟨c,h1,h2⟩:=H9 h
  exact ⟨_,h2,.inr ⟨rfl,c,h1,rfl⟩⟩
 ·obtain ⟨h1,h2⟩:=at4 h
  exact ⟨_,h2,.inl ⟨rfl,h1,rfl⟩⟩
theorem a7z (hτ:v6 P τ) {t:TypeId} {x:Operand} {K:S->Prop} (h:a5m τ ev H t x K):∃s,K s∧∀(a:Act) (w:World) (ι:Io) (M:Ms),L8 w ι M ev a->j3 w ι M H->∃v ad,a.eval x=.pointer (some ad)∧(Instr.loadAt t (a.eval x)).run P w=.ok v w∧RS w ι M s v:=by
 unfold a5m at h
 split at h
 ·exact h.elim
 rename_i d hd
 split at h
 ·rename_i id r off hx
  obtain ⟨b,hb,h⟩:=H9 h
  obtain ⟨⟨hdead,hmp⟩,h⟩:=W2 h
  obtain ⟨row,hrow,h,_⟩:=aR9 h
  obtain ⟨s,hs,hcase⟩:=aV1 h
  refine ⟨s,hs,fun a w ι M he hh=>?_⟩
  generalize hv:a.eval x=v
  have hr:=he.to hx
  rw [hv] at hr
  cases hr with
  |c hr=>cases hr with
   |@ptr _ _ _ bb cap size hi=>
    have hbr:=(hh.blk id b hb hdead _ hi).row hmp hrow
    obtain ⟨v,h1,h2⟩:=a4a (hτ.td t d hd) (w:=w) (ι:=ι) (M:=M) (b:=bb) (off:=r*size+off) (cells:=row.drop off)
     (fun j c hj=>by rw [lbj] at hj;rw [a1g];exact hbr _ _ hj) hcase
    exact ⟨v,_,rfl,h1,h2⟩
 ·rename_i cells hx
  have hcase:∃s,K s∧((d.agg=true∧d.size<=(cells.map C.t).length∧s=.agg ((cells.map C.t).take d.size))∨(d.agg=false∧∃c,(cells.map C.t)[0]? =some c∧s=.c c)):=by
   unfold a6H at h
   cases ha:d.agg<;>rw [ha] at h
   ·obtain ⟨c,h1,h2⟩:=H9 h
    exact ⟨_,h2,.inr ⟨rfl,.t c,by simp [lba,h1],rfl⟩⟩
   ·obtain ⟨h1,h2⟩:=at4 h
    rw [D2,List.map_take] at h2
    exact ⟨_,h2,.inl ⟨rfl,by simpa using h1,rfl⟩⟩
  obtain ⟨s,hs,hcase⟩:=hcase
  refine ⟨s,hs,fun a w ι M he hh=>?_⟩
  generalize hv:a.eval x=v
  have hr:=(he.to hx).inv_t
  rw [hv] at hr
  cases hr with
  |@ptr _ b off f hc hr=>
   obtain ⟨v,h1,h2⟩:=a4a (hτ.td t d hd) (w:=w) (ι:=ι) (M:=M) (b:=b) (off:=off) (cells:=cells.map C.t)
    (fun j c hj=>by
      rw [lba] at hj
      cases hj':cells[j]? with
      |none=>rw [hj'] at hj;cases hj
      |some c'=>
       rw [hj'] at hj
       injection hj with hj
       subst hj
       exact ⟨f j,(hc j c' hj').1,.t (hr j c' hj')⟩) hcase
   exact ⟨v,_,rfl,h1,h2⟩
 ·exact h.elim
theorem aR0 (hτ:v6 P τ) {t:TypeId} {x:Operand} (ho:o.op=.load t x) {K:S->Prop} (h:a5m τ ev H t x K):∃s,K s∧QOp P o ev H s []:=by
 obtain ⟨s,hs,hv⟩:=a7z hτ h
 refine ⟨s,hs,i6 fun a w ι M he hh=>?_⟩
 obtain ⟨v,ad,h0,h1,h2⟩:=hv a w ι M he hh
 exact ⟨v,by simp [execOp,ho,h1],h2⟩
end
end
section
open Go.RowKit
section
variable {P:Program} {τ:Tab} {o:Oper} {ev:Operand->S} {H:Hp}
theorem Addr.add_none (b off n:Nat):(⟨b,off,none⟩:Addr).add n=⟨b,off+n,none⟩:=by unfold Addr.add;split<;>simp_all
theorem ay6 (hτ:v6 P τ) {s:TypeId} {f:Nat} {k:Nat->Prop} (h:a6N τ s f k):
 ∃off fields fd,k off∧P.underlying s=some (.struct fields)∧fields[f]? =some fd∧fd.offset=off∧∃i,P.info? fd.type=some i∧i.size≠0:=by
 unfold a6N at h
 split at h
 ·rename_i fs _ _ _ _ hd
  split at h
  ·rename_i off size _ hf
   obtain ⟨h0,hk⟩:=Q0 h
   obtain ⟨u,hu,ha,fields,rfl,hm,hall,_⟩:=(hτ.td _ _ hd).und
   have h1:(fs.map (fun x=>(x.1,x.2.1)))[f]? =some (off,size):=by rw [lba,hf];rfl
   rw [hm,lba] at h1
   cases hfd:fields.toList[f]? with
   |none=>rw [hfd] at h1;cases h1
   |some fd=>
    rw [hfd] at h1
    injection h1 with h1
    injection h1 with h1 h2
    have hi:=hall fd (lbm hfd)
    obtain ⟨i,hi⟩:=b22.1 hi
    refine ⟨off,fields,fd,hk,hu,by simpa using hfd,h1,i,hi,?_⟩
    have:P.cellsOf fd.type=i.size:=by simp [Program.cellsOf,hi]
    have h0':size≠0:=by intro hz;subst hz;simp at h0
    omega
  ·exact h.elim
 ·exact h.elim
theorem a8P {s:TypeId} {f:Nat} {fields:Array Field} {fd:Field} {i:TypeInfo} (hu:P.underlying s=some (.struct fields)) (hf:fields[f]? =some fd) (hi:P.info? fd.type=some i) (h0:i.size≠0)
 (w:World) (b off:Nat):(Instr.fieldAt s (.pointer (some ⟨b,off,none⟩)) f).run P w=.ok (.pointer (some ⟨b,off+fd.offset,none⟩)) w:=by
 simp [Instr.fieldAt,run_underlying hu,hf,Instr.sureAddr,fieldPlace,sizeOf,typeInfo,hi,h0,Addr.add_none]
theorem a7Q (hτ:v6 P τ) {s:TypeId} {x:Operand} {f:Nat} (ho:o.op=.fieldAddr s x f) {K:S->Prop} (h:a1i τ ev s x f K):∃s,K s∧QOp P o ev H s []:=by
 obtain ⟨off,fields,fd,h,hu,hf,rfl,i,hi,h0⟩:=ay6 hτ h
 split at h
 ·rename_i id r o' hx
  refine ⟨_,h,i6 fun a w ι M he hh=>?_⟩
  generalize hv:a.eval x=v
  have hr:=he.to hx
  rw [hv] at hr
  cases hr with
  |c hr=>cases hr with
   |@ptr _ _ _ b cap size hi'=>
    refine ⟨_,by simp [execOp,ho,hv,a8P hu hf hi h0];rfl,?_⟩
    rw [a1g]
    exact .c (.ptr hi')
 ·rename_i cells hx
  obtain ⟨hl,h⟩:=a7K h
  refine ⟨_,h,i6 fun a w ι M he hh=>?_⟩
  generalize hv:a.eval x=v
  have hr:=(he.to hx).inv_t
  rw [hv] at hr
  cases hr with
  |@ptr _ b off f hc hr=>
   refine ⟨_,by simp [execOp,ho,hv,a8P hu hf hi h0],.c (.t (.ptr (b:=b) (off:=off+fd.offset) (fun j=>f (fd.offset+j)) (fun j c hj=>?_) (fun j c hj=>?_)))⟩
   ·rw [lbj] at hj
    rw [a1g]
    exact hc _ _ hj
   ·rw [lbj] at hj
    exact hr _ _ hj
 ·exact h.elim
theorem Q8 (hτ:v6 P τ) {e:TypeId} {k:Nat->Prop} (h:a1t τ e k):∃d,τ e=some d∧k d.size∧∀w,(sizeOf e).run P w=.ok d.size w:=by
 unfold a1t at h
 split at h
 ·rename_i d hd
  exact ⟨d,hd,h,a2G (hτ.td _ _ hd)⟩
 ·exact h.elim
theorem G7 (hτ:v6 P τ) {t e:TypeId} {a:Bool} {s b:Nat} {z:List Value} (h:τ t=some ⟨.slice e,a,s,b,z⟩):P.underlying t=some (.slice e):=by
 obtain ⟨u,hu,_,rfl⟩:=(hτ.td _ _ h).und;exact hu
theorem aJ0 (hτ:v6 P τ) {t e:TypeId} {a:Bool} {n s b:Nat} {z:List Value} (h:τ t=some ⟨.arr n e,a,s,b,z⟩):P.underlying t=some (.array n e):=by
 obtain ⟨u,hu,_,rfl⟩:=(hτ.td _ _ h).und;exact hu
theorem a8C {t e:TypeId} (hu:P.underlying t=some (.slice e)) {w:World} {size:Nat} (hs:(sizeOf e).run P w=.ok size w) {k:IntKind} {n:Int} {A:Option Addr} {len cap b off:Nat}
 (h0:0<=n) (h1:n<(len:Int)) (hA:0<len->A=some ⟨b,off,none⟩):
 (Instr.indexAt t (.slice A len cap) (.int k n)).run P w=.ok (.pointer (some ⟨b,off+n.toNat*size,none⟩)) w:=by
 have:=hA (by omega)
 subst this
 simp [Instr.indexAt,asIntOf,run_underlying hu,h0,h1,hs,Addr.add_none]
theorem a6I {t e:TypeId} {m:Nat} (hu:P.underlying t=some (.array m e)) {w:World} {size:Nat} (hs:(sizeOf e).run P w=.ok size w) {k:IntKind} {n:Int} {b off:Nat}
 (h0:0<=n) (h1:n<(m:Int)):
 (Instr.indexAt t (.pointer (some ⟨b,off,none⟩)) (.int k n)).run P w=.ok (.pointer (some ⟨b,off+n.toNat*size,none⟩)) w:=by
 simp [Instr.indexAt,asIntOf,run_underlying hu,Instr.sureAddr,h0,h1,hs,Addr.add_none]
theorem p8 {α:Type} {rows:List (List α)} {i j:Nat} {row:List α} {c:α} (h:rows[i]? =some row) (h':row[j]? =some c):at2 rows i j=some c:=by simp [at2,h,h']
theorem x5 {α:Type} {rows:List (List α)} {i j:Nat} {c:α} (h:at2 rows i j=some c):∃row,rows[i]? =some row∧row[j]? =some c:=by
 unfold at2 at h
 cases hr:rows[i]? with
 |none=>rw [hr] at h;cases h
 |some row=>rw [hr] at h;exact ⟨row,rfl,h⟩
theorem a7P (hτ:v6 P τ) {t:TypeId} {x i:Operand} (ho:o.op=.indexAddr t x i) {K:S->Prop} (h:Y4 τ ev H t x i K):∃s,K s∧QOp P o ev H s []:=by
 unfold Y4 at h
 split at h
 rotate_left
 ·exact h.elim
 rename_i k n hi
 split at h
 ·rename_i e _ _ _ _ ht
  have hu:=G7 hτ ht
  split at h
  ·rename_i size sk rows hx
   obtain ⟨d,hd,h,hsz⟩:=Q8 hτ h
   obtain ⟨hs,row,h0,hrow,hK⟩:=w8 h
   clear h
   have hs:d.size=size:=by simpa using hs
   subst hs
   refine ⟨_,hK,i6 fun a w ι M he hh=>?_⟩
   generalize hv:a.eval x=v
   have hiv:=(he.to hi).inv_atm
   have hr:=(he.to hx).inv_t
   rw [hv] at hr
   have hlt:n.toNat<rows.length:=(lbe.1 hrow).1
   cases hr with
   |@sl _ _ _ b off cap A f hrow' hcap hmax hk hn hA hc hr=>
    refine ⟨_,by simp [execOp,ho,hv,hiv];rw [a8C hu (hsz w) (b:=b) (off:=off) h0 (by omega) (fun h=>hA (by intro e;rw [e] at h;simp at h))];rfl,
     .c (.t (.ptr (fun j=>f n.toNat j) (fun j c hj=>?_) (fun j c hj=>hr _ _ _ (p8 hrow hj))))⟩
    have:=hc n.toNat j c (p8 hrow hj)
    rw [a1g]
    exact this
  ·rename_i id lo len app hx
   obtain ⟨d,hd,h,hsz⟩:=Q8 hτ h
   obtain ⟨bk,hbk,h⟩:=H9 h
   obtain ⟨⟨hdead,hmp⟩,h⟩:=W2 h
   obtain ⟨hs,⟨h0,h1⟩,h⟩:=w8 h
   have hs:d.size=bk.size:=by simpa using hs
   refine ⟨_,h,i6 fun a w ι M he hh=>?_⟩
   generalize hv:a.eval x=v
   have hiv:=(he.to hi).inv_atm
   have hr:=he.to hx
   rw [hv] at hr
   cases hr with
   |c hr=>cases hr with
    |@own _ _ _ _ b cap size A cap' h' q1 q2 q3 q4 q5=>
     obtain ⟨hq,_⟩:=hh.blk id bk hbk hdead _ h'
     refine ⟨_,by simp [execOp,ho,hv,hiv];rw [a8C hu (hsz w) (b:=b) (off:=lo*size) h0 h1 q2];rfl,?_⟩
     have e:lo*size+n.toNat*d.size=(lo+n.toNat)*size+0:=by rw [hs,hq,N4,at7]
     rw [e]
     exact .c (.ptr h')
    |nil h=>simp at h1;omega
  ·exact h.elim
 ·rename_i m e _ _ _ _ ht
  have hu:=aJ0 hτ ht
  obtain ⟨d,hd,h,hsz⟩:=Q8 hτ h
  split at h
  ·rename_i id r o' hx
   obtain ⟨⟨h0,h1⟩,h⟩:=h
   refine ⟨_,h,i6 fun a w ι M he hh=>?_⟩
   generalize hv:a.eval x=v
   have hiv:=(he.to hi).inv_atm
   have hr:=he.to hx
   rw [hv] at hr
   cases hr with
   |c hr=>cases hr with
    |ptr hi'=>
     refine ⟨_,by simp [execOp,ho,hv,hiv];rw [a6I hu (hsz w) h0 h1];rfl,?_⟩
     rw [a1g]
     exact .c (.ptr hi')
  ·rename_i cells hx
   obtain ⟨⟨h0,h1⟩,h⟩:=h
   obtain ⟨hl,h⟩:=a7K h
   refine ⟨_,h,i6 fun a w ι M he hh=>?_⟩
   generalize hv:a.eval x=v
   have hiv:=(he.to hi).inv_atm
   have hr:=(he.to hx).inv_t
   rw [hv] at hr
   cases hr with
   |@ptr _ b off f hc hr=>
    refine ⟨_,by simp [execOp,ho,hv,hiv];rw [a6I hu (hsz w) h0 h1];rfl,.c (.t (.ptr (fun j=>f (n.toNat*d.size+j)) (fun j c hj=>?_) (fun j c hj=>?_)))⟩
    ·rw [lbj] at hj
     rw [a1g]
     exact hc _ _ hj
    ·rw [lbj] at hj
     exact hr _ _ hj
  ·exact h.elim
 ·exact h.elim
theorem J1 {x:Option Operand} {dflt:Int} {k:Int->Prop} (h:F8 ev x dflt k):
 ∃n,k n∧((x=none∧n=dflt)∨∃y kk,x=some y∧ev y=a7 kk n):=by
 unfold F8 at h
 split at h
 ·exact ⟨_,h,.inl ⟨rfl,rfl⟩⟩
 ·split at h
  ·rename_i y _ kk n hy
   exact ⟨n,h,.inr ⟨y,kk,rfl,hy⟩⟩
  ·exact h.elim
theorem T0 {w:World} {ι:Io} {M:Ms} {a:Act} (he:L8 w ι M ev a) {lo hi:Option Operand} {l h:Int} {len cap:Nat}
 (hl:(lo=none∧l=0)∨∃y kk,lo=some y∧ev y=a7 kk l) (hh:(hi=none∧h=(len:Int))∨∃y kk,hi=some y∧ev y=a7 kk h)
 (h0:0<=l) (h1:l<=h) (h2:h<=(cap:Int)):
 (Instr.sliceBounds true len cap (lo.map a.eval) (hi.map a.eval) none).run P w=.ok (l.toNat,h.toNat,cap) w:=by
 have e1:∀(n:Int) (m:Nat) (kk:IntKind) c,0<=n->n<=(m:Int)->(Instr.sliceBound (.int kk n) m c).run P w=.ok n.toNat w:=fun n m kk c q1 q2=>by
  simp [Instr.sliceBound,asIntOf,q1,q2]
 rcases hl with ⟨rfl,rfl⟩|⟨y,kk,rfl,hy⟩<;>rcases hh with ⟨rfl,rfl⟩|⟨y',kk',rfl,hy'⟩
 ·simp [Instr.sliceBounds]
 ·simp [Instr.sliceBounds,(he.to hy').inv_atm,e1 _ _ _ _ (by omega) h2]
 ·simp only [Instr.sliceBounds,a0n,Option.map_none,(he.to hy).inv_atm,Sem.run_bind,Sem.run_pure,Result.andThen_ok,b5n,a8N,if_false,e1 _ _ _ _ h0 h1]
  simp
 ·simp only [Instr.sliceBounds,a0n,Option.map_none,(he.to hy).inv_atm,(he.to hy').inv_atm,Sem.run_bind,Sem.run_pure,Result.andThen_ok,b5n,a8N,if_false,if_true,e1 _ _ _ _ (Int.le_trans h0 h1) h2]
  rw [e1 _ _ _ _ h0 (by omega)]
  simp
theorem az7 {k:SK} {hi max:Option Operand} {α:Type} {rows:List α} {A:Option Addr}:(Q3 k hi max=.nul->rows=[]∧A=none)∧(Q3 k hi max=.non->A≠none):=by
 unfold Q3;split<;>exact ⟨(fun h=>nomatch h),(fun h=>nomatch h)⟩
theorem am8 (hτ:v6 P τ) {t:TypeId} {x:Operand} {lo hi:Option Operand} (ho:o.op=.slice t x lo hi none) {K:S->Prop} (h:a23 τ ev H t x lo hi none K):∃s,K s∧QOp P o ev H s []:=by
 unfold a23 at h
 split at h
 rotate_left
 ·exact h.elim
 rename_i e _ _ _ _ ht
 simp only at h
 have hu:=G7 hτ ht
 split at h
 ·rename_i rows hx
  obtain ⟨l,h,hl⟩:=J1 h
  obtain ⟨u,h,hhi⟩:=J1 h
  obtain ⟨d,hd,h,hsz⟩:=Q8 hτ h
  obtain ⟨⟨h0,h1,h2⟩,h⟩:=h
  refine ⟨_,h,i6 fun a w ι M he hh=>?_⟩
  generalize hv:a.eval x=v
  have hr:=(he.to hx).inv_t
  rw [hv] at hr
  cases hr with
  |@sl _ _ _ b off cap A f hrow hcap hmax hk hn hA hc hr=>
   obtain ⟨rfl,rfl,rfl⟩:=hn rfl
   obtain rfl:l=0:=by omega
   obtain rfl:u=0:=by omega
   have hb:=T0 (P:=P) (w:=w) (len:=0) he hl hhi (cap:=0) (by omega) (by omega) (by omega)
   refine ⟨.slice none 0 0,?_,?_⟩
   ·simp [execOp,ho,hv,Instr.sliceAt,run_underlying hu,Instr.slice,hb,hsz]
   ·exact .c (.t (.sl (rows:=[]) (b:=0) (off:=0) (fun _ _=>undef) (by simp) (by simp) (by simp) (by simp) (by simp) (by simp) (by intro i j c hc;simp [at2] at hc) (by intro i j c hc;simp [at2] at hc)))
 ·rename_i size k rows hnn hx
  obtain ⟨l,h,hl⟩:=J1 h
  obtain ⟨u,h,hhi⟩:=J1 h
  obtain ⟨d,hd,h,hsz⟩:=Q8 hτ h
  obtain ⟨hs,⟨h0,h1,h2⟩,h⟩:=w8 h
  have hs:d.size=size:=by simpa using hs
  subst hs
  refine ⟨_,h,i6 fun a w ι M he hh=>?_⟩
  generalize hv:a.eval x=v
  have hr:=(he.to hx).inv_t
  rw [hv] at hr
  cases hr with
  |@sl _ _ _ b off cap A f hrow hcap hmax hk hn hA hc hr=>
   have hb:=T0 (P:=P) (w:=w) he hl hhi (cap:=cap) h0 h1 (by omega)
   refine ⟨.slice (if cap=l.toNat then A else A.map (·.add (l.toNat*d.size))) (u.toNat - l.toNat) (cap - l.toNat),?_,?_⟩
   ·simp [execOp,ho,hv,Instr.sliceAt,run_underlying hu,Instr.slice,hb,hsz]
   ·have hlen:((rows.take u.toNat).drop l.toNat).length=u.toNat - l.toNat:=by simp;omega
    have hat:∀i j c,at2 ((rows.take u.toNat).drop l.toNat) i j=some c->at2 rows (l.toNat+i) j=some c:=fun i j c hc=>by
     obtain ⟨row,h1,h2⟩:=x5 hc
     rw [lbj,lbi] at h1
     split at h1
     ·exact p8 h1 h2
     ·cases h1
    rw [← hlen]
    refine .c (.t (.sl (b:=b) (off:=off+l.toNat*d.size) (fun i j=>f (l.toNat+i) j) ?_ (by omega) (by omega) ?_ ?_ ?_ ?_ ?_ (hx:=az7)))
    ·intro r hr
     exact hrow r (a8x (aP2 hr))
    ·intro hf
     have hkf:k=.full∧hi=none:=by
      unfold Q3 at hf
      split at hf
      ·exact ⟨rfl,rfl⟩
      ·cases hf
     obtain ⟨rfl,rfl⟩:=hkf
     rcases hhi with ⟨_,rfl⟩|⟨y,kk,hy,_⟩
     ·rw [hk rfl,hlen];simp
     ·cases hy
    ·intro hf
     unfold Q3 at hf
     split at hf<;>cases hf
    ·intro hne
     have hlt:0<((rows.take u.toNat).drop l.toNat).length:=af7.2 hne
     rw [if_neg (by omega),hA (by intro e;subst e;simp at hlt)]
     simp [Addr.add_none]
    ·intro i j c hc'
     obtain ⟨q1,q2⟩:=hc _ _ _ (hat i j c hc')
     refine ⟨?_,q2⟩
     rw [← q1]
     congr 2
     rw [N4];omega
    ·intro i j c hc'
     exact hr _ _ _ (hat i j c hc')
 ·rename_i id l0 len app hx
  obtain ⟨l,h,hl⟩:=J1 h
  obtain ⟨u,h,hhi⟩:=J1 h
  obtain ⟨d,hd,h,hsz⟩:=Q8 hτ h
  obtain ⟨bk,hbk,h⟩:=H9 h
  obtain ⟨⟨hdead,hmp⟩,h⟩:=W2 h
  obtain ⟨hs,⟨h0,h1,h2⟩,h⟩:=w8 h
  have hs:d.size=bk.size:=by simpa using hs
  refine ⟨_,h,i6 fun a w ι M he hh=>?_⟩
  generalize hv:a.eval x=v
  have hr:=he.to hx
  rw [hv] at hr
  cases hr with
  |c hr=>cases hr with
   |@own _ _ _ _ b cap size A cap' h' q1 q2 q3 q4 q5=>
    obtain ⟨hq,_⟩:=hh.blk id bk hbk hdead _ h'
    have hb:=T0 (P:=P) (w:=w) he hl hhi (cap:=cap') h0 h1 (by omega)
    refine ⟨.slice (if cap'=l.toNat then A else A.map (·.add (l.toNat*d.size))) (u.toNat - l.toNat) (cap' - l.toNat),?_,?_⟩
    ·simp [execOp,ho,hv,Instr.sliceAt,run_underlying hu,Instr.slice,hb,hsz]
    ·rw [show (u - l).toNat=u.toNat - l.toNat by omega]
     refine .c (.own h' (by omega) ?_ (by omega) (by omega) ?_)
     ·intro hpos
      rw [if_neg (by omega),q2 (by omega)]
      simp [Addr.add_none,hs,hq,N4]
     ·intro happ
      obtain ⟨ha,hlo⟩:app=true∧lo=none:=by simpa using happ
      subst hlo
      rcases hl with ⟨_,rfl⟩|⟨y,kk,hy,_⟩
      ·obtain ⟨r1,r2,r3⟩:=q5 ha
       subst r2
       simp [r1,r3,Addr.add_none]
      ·cases hy
   |nil h'=>
    have hl0:l=0:=by omega
    have hu0:u=0:=by simp at h2;omega
    subst hl0 hu0
    have hb:=T0 (P:=P) (w:=w) he hl hhi (cap:=0) h0 h1 (by omega)
    refine ⟨_,by simp [execOp,ho,hv,Instr.sliceAt,run_underlying hu,Instr.slice,hb,hsz];rfl,?_⟩
    exact .c (.nil h')
 ·exact h.elim
theorem Z2 {w:World} {ι:Io} {M:Ms} {a:Act} (he:L8 w ι M ev a) {lo:Option Operand} {y z:Operand} {l h:Int} {len cap:Nat} {kk kz:IntKind}
 (hl:(lo=none∧l=0)∨∃y kk,lo=some y∧ev y=a7 kk l) (hh:ev y=a7 kk h) (hz:ev z=a7 kz h)
 (h0:0<=l) (h1:l<=h) (h2:h<=(cap:Int)):
 (Instr.sliceBounds true len cap (lo.map a.eval) (some (a.eval y)) (some (a.eval z))).run P w=.ok (l.toNat,h.toNat,h.toNat) w:=by
 have e1:∀(n:Int) (m:Nat) (kk:IntKind) c,0<=n->n<=(m:Int)->(Instr.sliceBound (.int kk n) m c).run P w=.ok n.toNat w:=fun n m kk c q1 q2=>by
  simp [Instr.sliceBound,asIntOf,q1,q2]
 rcases hl with ⟨rfl,rfl⟩|⟨x,kx,rfl,hx⟩
 ·simp only [Instr.sliceBounds,Option.map_none,(he.to hh).inv_atm,(he.to hz).inv_atm,Sem.run_bind,Sem.run_pure,Result.andThen_ok,if_true,e1 _ _ _ _ h1 h2]
  rw [e1 _ _ _ _ h1 (by omega)]
  simp
 ·simp only [Instr.sliceBounds,a0n,(he.to hh).inv_atm,(he.to hz).inv_atm,(he.to hx).inv_atm,Sem.run_bind,Sem.run_pure,Result.andThen_ok,if_true,e1 _ _ _ _ (Int.le_trans h0 h1) h2]
  rw [e1 h _ _ _ (by omega) (by omega)]
  simp only [Result.andThen_ok]
  rw [e1 l _ _ _ h0 (by omega)]
  simp
theorem am0 (hτ:v6 P τ) {t:TypeId} {x z:Operand} {lo hi:Option Operand} (ho:o.op=.slice t x lo hi (some z)) {K:S->Prop} (h:a23 τ ev H t x lo hi (some z) K):∃s,K s∧QOp P o ev H s []:=by
 unfold a23 at h
 split at h
 rotate_left
 ·exact h.elim
 rename_i e _ _ _ _ ht
 have hu:=G7 hτ ht
 simp only at h
 split at h
 rotate_left
 ·exact h.elim
 rename_i kz m hz
 split at h
 ·rename_i size k rows hx
  obtain ⟨l,h,hl⟩:=J1 h
  obtain ⟨u,h,hhi⟩:=J1 h
  obtain ⟨d,hd,h,hsz⟩:=Q8 hτ h
  obtain ⟨hsome,h⟩:=w8 h
  obtain ⟨hs,⟨h0,h1,rfl,h2⟩,hK⟩:=w8 h
  have hs:d.size=size:=by simpa using hs
  subst hs
  obtain ⟨y,kk,rfl,hy⟩:∃y kk,hi=some y∧ev y=a7 kk m:=by
   rcases hhi with ⟨rfl,_⟩|h
   ·cases hsome
   ·exact h
  refine ⟨_,hK,i6 fun a w ι M he hh=>?_⟩
  generalize hv:a.eval x=v
  have hr:=(he.to hx).inv_t
  rw [hv] at hr
  cases hr with
  |@sl _ _ _ b off cap A f hrow hcap hmax hk hn hA hc hr=>
   have hb:=Z2 (P:=P) (w:=w) he hl hy hz (len:=rows.length) (cap:=cap) h0 h1 (by omega)
   refine ⟨.slice (if m.toNat=l.toNat then A else A.map (·.add (l.toNat*d.size))) (m.toNat - l.toNat) (m.toNat - l.toNat),?_,?_⟩
   ·simp [execOp,ho,hv,Instr.sliceAt,run_underlying hu,Instr.slice,hb,hsz]
   ·have hlen:((rows.take m.toNat).drop l.toNat).length=m.toNat - l.toNat:=by simp;omega
    have hat:∀i j c,at2 ((rows.take m.toNat).drop l.toNat) i j=some c->at2 rows (l.toNat+i) j=some c:=fun i j c hc=>by
     obtain ⟨row,h1,h2⟩:=x5 hc
     rw [lbj,lbi] at h1
     split at h1
     ·exact p8 h1 h2
     ·cases h1
    rw [← hlen]
    refine .c (.t (.sl (b:=b) (off:=off+l.toNat*d.size) (fun i j=>f (l.toNat+i) j) ?_ (by omega) (by omega) ?_ ?_ ?_ ?_ ?_))
    ·intro r hr
     exact hrow r (a8x (aP2 hr))
    ·intro _;rfl
    ·intro hf;cases hf
    ·intro hne
     have hlt:0<((rows.take m.toNat).drop l.toNat).length:=af7.2 hne
     rw [if_neg (by omega),hA (by intro e;subst e;simp at hlt)]
     simp [Addr.add_none]
    ·intro i j c hc'
     obtain ⟨q1,q2⟩:=hc _ _ _ (hat i j c hc')
     refine ⟨?_,q2⟩
     rw [← q1]
     congr 2
     rw [N4];omega
    ·intro i j c hc'
     exact hr _ _ _ (hat i j c hc')
 ·rename_i id l0 len app hx
  obtain ⟨l,h,hl⟩:=J1 h
  obtain ⟨u,h,hhi⟩:=J1 h
  obtain ⟨hsome,h⟩:=w8 h
  obtain ⟨d,hd,h,hsz⟩:=Q8 hτ h
  obtain ⟨bk,hbk,h⟩:=H9 h
  obtain ⟨⟨hdead,hmp⟩,h⟩:=W2 h
  obtain ⟨hs,⟨h0,h1,rfl,h2⟩,hK⟩:=w8 h
  have hs:d.size=bk.size:=by simpa using hs
  obtain ⟨y,kk,rfl,hy⟩:∃y kk,hi=some y∧ev y=a7 kk m:=by
   rcases hhi with ⟨rfl,_⟩|h
   ·cases hsome
   ·exact h
  refine ⟨_,hK,i6 fun a w ι M he hh=>?_⟩
  generalize hv:a.eval x=v
  have hr:=he.to hx
  rw [hv] at hr
  cases hr with
  |c hr=>cases hr with
   |@own _ _ _ _ b cap size A cap' h' q1 q2 q3 q4 q5=>
    obtain ⟨hq,_⟩:=hh.blk id bk hbk hdead _ h'
    have hb:=Z2 (P:=P) (w:=w) he hl hy hz (len:=len) (cap:=cap') h0 h1 (by omega)
    refine ⟨.slice (if m.toNat=l.toNat then A else A.map (·.add (l.toNat*d.size))) (m.toNat - l.toNat) (m.toNat - l.toNat),?_,?_⟩
    ·simp [execOp,ho,hv,Instr.sliceAt,run_underlying hu,Instr.slice,hb,hsz]
    ·rw [show (m - l).toNat=m.toNat - l.toNat by omega]
     refine .c (.own h' (by omega) ?_ (by omega) (by omega) (by intro h;cases h))
     intro hpos
     rw [if_neg (by omega),q2 (by omega)]
     simp [Addr.add_none,hs,hq,N4]
   |nil h'=>
    have hl0:l=0:=by omega
    have hu0:m=0:=by simp at h2;omega
    subst hl0 hu0
    have hb:=Z2 (P:=P) (w:=w) he hl hy hz (len:=0) (cap:=0) h0 h1 (by omega)
    refine ⟨_,by simp [execOp,ho,hv,Instr.sliceAt,run_underlying hu,Instr.slice,hb,hsz];rfl,?_⟩
    exact .c (.nil h')
 ·exact h.elim
theorem ay2 (hτ:v6 P τ) {t:TypeId} {x:Operand} {lo hi max:Option Operand} (ho:o.op=.slice t x lo hi max) {K:S->Prop} (h:a23 τ ev H t x lo hi max K):∃s,K s∧QOp P o ev H s []:=by
 cases max with
 |none=>exact am8 hτ ho h
 |some z=>exact am0 hτ ho h
end
end
section
open Go.RowKit
section
variable {P:Program} {τ:Tab} {o:Oper} {ev:Operand->S} {H:Hp}
theorem aJ3 {op:BinOp} {t:TypeId} {x y:Operand} {a b:Value} (w:World) (h1:∀cs,a≠.agg cs) (h2:a≠.nilIface):(eqGuard op t x y a b).run P w=.ok () w:=by
 unfold eqGuard
 generalize (match op with|.eql|.neq=>true|_=>false:Bool)=q
 cases a<;>first
  |exact absurd rfl h2
  |exact absurd rfl (h1 _)
  |(cases q<;>simp)
theorem P6 {op:BinOp} {t yt:TypeId} {x y:Operand} (ho:o.op=.binOp op t x y yt) {a:Act} {w:World} {v:Value}
 (h1:∀cs,a.eval x≠.agg cs) (h2:a.eval x≠.nilIface) (h:(binOp op t (a.eval x) (a.eval y)).run P w=.ok v w):(execOp a.eval o).run P w=.ok (.value v) w:=by
 simp [execOp,ho,aJ3 w h1 h2,h]
theorem aX6 {op:BinOp} {t yt:TypeId} {x y:Operand} (ho:o.op=.binOp op t x y yt) {k k':IntKind} {p q:Int} (hx:ev x=a7 k p) (hy:ev y=a7 k' q) {K:S->Prop}
 (h:b8l op k k' p q K):∃s,K s∧QOp P o ev H s []:=by
 have key:∀(s:S) (v:Value),(∀ w,(binOp op t (.int k p) (.int k' q)).run P w=.ok v w)->(∀ w ι M,RS w ι M s v)->QOp P o ev H s []:=fun s v hr hs=>
  i6 fun a w ι M he hh=>by
   have e1:=(he.to hx).inv_atm
   have e2:=(he.to hy).inv_atm
   exact ⟨v,P6 ho (by rw [e1];simp) (by rw [e1];simp) (by rw [e1,e2];exact hr w),hs w ι M⟩
 unfold b8l at h
 split at h
 ·obtain ⟨h0,n,hn,h⟩:=h
  refine ⟨_,h,key _ (.int k n) (fun w=>?_) (fun _ _ _=>.int)⟩
  simp only [binOp,Op.shift]
  rw [Sem.run_ite,if_neg (by omega)]
  unfold E1 at hn
  rw [hn]
  rfl
 ·obtain ⟨h0,n,hn,h⟩:=h
  unfold b1F at hn
  subst hn
  refine ⟨_,h,key _ _ (fun w=>?_) (fun _ _ _=>.int)⟩
  simp only [binOp,Op.shift]
  rw [Sem.run_ite,if_neg (by omega)]
  rfl
 ·rename_i op' hne1 hne2
  obtain ⟨hk,h'⟩:=w8 h
  clear h
  have hk:k=k':=by simpa using hk
  subst hk
  revert h'
  intro h
  split at h
  case h_1=>
   obtain ⟨n,hn,h⟩:=h
   exact ⟨_,h,key _ _ (fun w=>by simp [binOp,Op.intArith];rw [← hn]) (fun _ _ _=>.int)⟩
  case h_2=>
   obtain ⟨n,hn,h⟩:=h
   exact ⟨_,h,key _ _ (fun w=>by simp [binOp,Op.intArith];rw [← hn]) (fun _ _ _=>.int)⟩
  case h_3=>
   obtain ⟨n,hn,h⟩:=h
   exact ⟨_,h,key _ _ (fun w=>by simp [binOp,Op.intArith];rw [← hn]) (fun _ _ _=>.int)⟩
  case h_4=>
   obtain ⟨h0,n,hn,h⟩:=h
   exact ⟨_,h,key _ _ (fun w=>by simp [binOp,Op.intDiv,h0];rw [← hn]) (fun _ _ _=>.int)⟩
  case h_5=>
   obtain ⟨h0,h⟩:=h
   exact ⟨_,h,key _ _ (fun w=>by simp [binOp,Op.intDiv,h0]) (fun _ _ _=>.int)⟩
  case h_6=>exact ⟨_,h.get,key _ (.bool (decide (p=q))) (fun w=>by simp [binOp,Op.intCmp];rfl) (fun _ _ _=>.bool)⟩
  case h_7=>exact ⟨_,h.get,key _ (.bool (decide (p≠q))) (fun w=>by simp [binOp,Op.intCmp];rfl) (fun _ _ _=>.bool)⟩
  case h_8=>exact ⟨_,h.get,key _ _ (fun w=>by simp [binOp,Op.intCmp]) (fun _ _ _=>.bool)⟩
  case h_9=>exact ⟨_,h.get,key _ _ (fun w=>by simp [binOp,Op.intCmp]) (fun _ _ _=>.bool)⟩
  case h_10=>exact ⟨_,h.get,key _ _ (fun w=>by simp [binOp,Op.intCmp]) (fun _ _ _=>.bool)⟩
  case h_11=>exact ⟨_,h.get,key _ _ (fun w=>by simp [binOp,Op.intCmp]) (fun _ _ _=>.bool)⟩
  case h_12=>
   obtain ⟨n,hn,h⟩:=h
   refine ⟨_,h,key _ (.int k n) (fun w=>?_) (fun _ _ _=>.int)⟩
   cases op<;>first|exact False.elim hn|(simp [a4G] at hn;simp [binOp,Op.intBits,hn];done)
theorem a8f:∀{cs:List C} {k:List Int->Prop},a7f cs k->∃ul:List Int,cs=ul.map (fun a=>C.t (.atm (.int .i64 a)))∧k ul
 |[],k,h=>⟨[],rfl,h⟩
 |c::cs,k,h=>by
  unfold a7f at h
  split at h
  ·rename_i heq;cases heq
  ·rename_i a cs' heq
   injection heq with h1 h2
   subst h1;subst h2
   obtain ⟨ul,rfl,hk⟩:=a8f h
   exact ⟨a::ul,rfl,hk⟩
  ·exact h.elim
theorem a7k {w:World} {ι:Io} {M:Ms} {cs:List C} {ul:List Int} {v:Value} (h:RS w ι M (.agg cs) v) (e:cs=ul.map (fun a=>C.t (.atm (.int .i64 a)))):v=.agg (ul.map (Value.int .i64)).toArray:=by
 subst e
 cases h with
 |agg vs hl hr=>
  congr 2
  refine List.ext_getElem (by simpa using hl) fun i h1 h2=>?_
  have:=hr i _ (lbf (by simpa using h2))
  simp only [List.getElem_map] at this ⊢
  rw [lbl,lbf h1] at this
  exact (RS.c this).inv_atm
theorem b0a (hτ:v6 P τ) {op:BinOp} {t yt:TypeId} {x y:Operand} (ho:o.op=.binOp op t x y yt) {K:S->Prop} (h:b31 P τ op t (ev x) (ev y) K):∃s,K s∧QOp P o ev H s []:=by
 unfold b31 at h
 split at h
 ·rename_i k a k' b hx hy
  exact aX6 ho hx hy h
 ·rename_i p q hx hy
  split at h
  ·rename_i ht
   obtain ⟨u,hu,_,rfl⟩:=(hτ.td _ _ ht).und
   split at h
   ·refine ⟨_,h.get,i6 fun a w ι M he hh=>⟨_,P6 ho (v:=.bool (p == q)) ?_ ?_ ?_,.bool⟩⟩
    ·simp [(he.to hx).inv_atm]
    ·simp [(he.to hx).inv_atm]
    ·rw [(he.to hx).inv_atm,(he.to hy).inv_atm];exact run_eql_bool w t p q hu
   ·refine ⟨_,h.get,i6 fun a w ι M he hh=>⟨_,P6 ho (v:=.bool (!(p == q))) ?_ ?_ ?_,.bool⟩⟩
    ·simp [(he.to hx).inv_atm]
    ·simp [(he.to hx).inv_atm]
    ·rw [(he.to hx).inv_atm,(he.to hy).inv_atm];simp [binOp,run_equal_bool w t p q hu]
   ·exact h.elim
  ·exact h.elim
 ·rename_i cx s hx hy
  split at h
  ·rename_i e _ _ _ _ ht
   have hu:=G7 hτ ht
   have key:∀(k:Bool->Prop),ai3 cx k->∃r,k r∧∀(a:Act) (w:World) (ι:Io) (M:Ms),L8 w ι M ev a->∃A n c,a.eval x=.slice A n c∧A.isNone=r:=by
    intro k hk
    unfold ai3 at hk
    split at hk
    ·refine ⟨true,hk,fun a w ι M he=>?_⟩
     have hr:=(he.to hx).inv_t
     generalize a.eval x=v at *
     cases hr with
     |sl f hrow hcap hmax hk hn hA hc hr=>exact ⟨_,_,_,rfl,by rw [(hn rfl).2.1];rfl⟩
    ·refine ⟨true,hk,fun a w ι M he=>?_⟩
     have hr:=(he.to hx).inv_t
     generalize a.eval x=v at *
     cases hr with
     |sl f hrow hcap hmax hk hn hA hc hr hx=>exact ⟨_,_,_,rfl,by rw [(hx.1 rfl).2];rfl⟩
    ·refine ⟨false,hk,fun a w ι M he=>?_⟩
     have hr:=(he.to hx).inv_t
     generalize a.eval x=v at *
     cases hr with
     |@sl _ _ _ _ _ _ A f hrow hcap hmax hk hn hA hc hr hx=>
      refine ⟨_,_,_,rfl,?_⟩
      cases A with
      |none=>exact absurd rfl (hx.2 rfl)
      |some a=>rfl
    ·rename_i rows _ _ _
     refine ⟨false,hk.2,fun a w ι M he=>?_⟩
     have hr:=(he.to hx).inv_t
     generalize a.eval x=v at *
     cases hr with
     |sl f hrow hcap hmax hk' hn hA hc hr=>exact ⟨_,_,_,rfl,by rw [hA (by intro e;subst e;simp at hk)];rfl⟩
    ·refine ⟨false,hk.2,fun a w ι M he=>?_⟩
     have hr:=(he.to hx).inv_c
     generalize a.eval x=v at *
     cases hr with
     |own h' q1 q2 q3 q4 q5=>exact ⟨_,_,_,rfl,by rw [q2 hk.1];rfl⟩
     |nil h'=>have:=hk.1;omega
    ·exact hk.elim
   have hnil:∀(a:Act) (w:World) (ι:Io) (M:Ms),L8 w ι M ev a->∃c,a.eval y=.slice none 0 c:=fun a w ι M he=>by
    have hr:=(he.to hy).inv_t
    generalize a.eval y=v at *
    cases hr with
    |sl f hrow hcap hmax hk hn hA hc hr=>obtain ⟨_,rfl,_⟩:=hn rfl;exact ⟨_,rfl⟩
   split at h
   ·obtain ⟨r,h,hr⟩:=key _ h
    refine ⟨_,h,i6 fun a w ι M he hh=>?_⟩
    obtain ⟨A,n,c,e1,rfl⟩:=hr a w ι M he
    obtain ⟨c',e2⟩:=hnil a w ι M he
    exact ⟨.bool A.isNone,P6 ho (by simp [e1]) (by simp [e1]) (by rw [e1,e2];exact Lib.run_eql_slice_nil w t e A n c 0 c' hu),.bool⟩
   ·obtain ⟨r,h,hr⟩:=key _ h
    refine ⟨_,h,i6 fun a w ι M he hh=>?_⟩
    obtain ⟨A,n,c,e1,rfl⟩:=hr a w ι M he
    obtain ⟨c',e2⟩:=hnil a w ι M he
    exact ⟨.bool (!A.isNone),P6 ho (by simp [e1]) (by simp [e1]) (by rw [e1,e2];exact run_neq_slice_nil_any w t e A n c 0 c' hu),.bool⟩
   ·exact h.elim
  ·exact h.elim
 ·rename_i pcs hx hy
  obtain ⟨hu,h⟩:=h
  have hp:∀(a:Act) (w:World) (ι:Io) (M:Ms),L8 w ι M ev a->∃p,a.eval x=.pointer (some p):=fun a w ι M he=>by
   have hr:=(he.to hx).inv_t
   generalize a.eval x=v at *
   cases hr with
   |ptr f hc hr=>exact ⟨_,rfl⟩
  split at h
  ·refine ⟨_,h,i6 fun a w ι M he hh=>?_⟩
   obtain ⟨p,e1⟩:=hp a w ι M he
   have e2:=(he.to hy).inv_atm
   exact ⟨.bool false,P6 ho (by simp [e1]) (by simp [e1]) (by rw [e1,e2];exact run_eql_pointer_nil w t (some p) hu),.bool⟩
  ·refine ⟨_,h,i6 fun a w ι M he hh=>?_⟩
   obtain ⟨p,e1⟩:=hp a w ι M he
   have e2:=(he.to hy).inv_atm
   exact ⟨.bool true,P6 ho (by simp [e1]) (by simp [e1]) (by rw [e1,e2];exact run_neq_pointer_nil w t (some p) hu),.bool⟩
  ·exact h.elim
 ·rename_i pid pr po hx hy
  obtain ⟨hu,h⟩:=h
  have hp:∀(a:Act) (w:World) (ι:Io) (M:Ms),L8 w ι M ev a->∃p,a.eval x=.pointer (some p):=fun a w ι M he=>by
   have hr:=he.to hx
   generalize a.eval x=v at *
   cases hr with
   |c hr=>cases hr with
    |ptr h=>exact ⟨_,rfl⟩
  split at h
  ·refine ⟨_,h,i6 fun a w ι M he hh=>?_⟩
   obtain ⟨p,e1⟩:=hp a w ι M he
   have e2:=(he.to hy).inv_atm
   exact ⟨.bool false,P6 ho (by simp [e1]) (by simp [e1]) (by rw [e1,e2];exact run_eql_pointer_nil w t (some p) hu),.bool⟩
  ·refine ⟨_,h,i6 fun a w ι M he hh=>?_⟩
   obtain ⟨p,e1⟩:=hp a w ι M he
   have e2:=(he.to hy).inv_atm
   exact ⟨.bool true,P6 ho (by simp [e1]) (by simp [e1]) (by rw [e1,e2];exact run_neq_pointer_nil w t (some p) hu),.bool⟩
  ·exact h.elim
 ·rename_i hx hy
  obtain ⟨hu,h⟩:=h
  split at h
  ·refine ⟨_,h,i6 fun a w ι M he hh=>?_⟩
   have e1:=(he.to hx).inv_atm
   have e2:=(he.to hy).inv_atm
   exact ⟨.bool true,P6 ho (by simp [e1]) (by simp [e1]) (by rw [e1,e2];exact run_eql_pointer_nil w t none hu),.bool⟩
  ·refine ⟨_,h,i6 fun a w ι M he hh=>?_⟩
   have e1:=(he.to hx).inv_atm
   have e2:=(he.to hy).inv_atm
   exact ⟨.bool false,P6 ho (by simp [e1]) (by simp [e1]) (by rw [e1,e2];exact run_neq_pointer_nil w t none hu),.bool⟩
  ·exact h.elim
 ·rename_i cs ds hx hy
  unfold bi3 at h
  obtain ⟨ul,e1,h⟩:=a8f h
  obtain ⟨bs,e2,h⟩:=a8f h
  obtain ⟨⟨⟨hg,hE⟩,hl⟩,h⟩:=h
  split at h
  ·refine ⟨_,h.get,i6 fun a w ι M he hh=>⟨.bool (ul == bs),?_,.bool⟩⟩
   rw [execOp,ho]
   simp only [a7k (he.to hx) e1,a7k (he.to hy) e2]
   simp [run_eqGuard_agg _ _ _ _ _ _ _ hg,run_eql_struct,hE ul bs w rfl hl]
  ·refine ⟨_,h.get,i6 fun a w ι M he hh=>⟨.bool (!(ul == bs)),?_,.bool⟩⟩
   rw [execOp,ho]
   simp only [a7k (he.to hx) e1,a7k (he.to hy) e2]
   simp [run_eqGuard_agg _ _ _ _ _ _ _ hg,run_neq_struct,hE ul bs w rfl hl]
  ·exact h.elim
 ·exact h.elim
theorem b3n {op:UnOp} {t:TypeId} {x:Operand} (ho:o.op=.unOp op t x) {K:S->Prop} (h:aun op (ev x) K):∃s,K s∧QOp P o ev H s []:=by
 unfold aun at h
 split at h
 ·rename_i k n hx
  obtain ⟨m,hm,h⟩:=h
  exact ⟨_,h,i6 fun a w ι M he hh=>⟨.int k m,by simp [execOp,ho,(he.to hx).inv_atm,Op.unary,Op.intArith];rw [hm];simp,.int⟩⟩
 ·rename_i b hx
  exact ⟨_,h,i6 fun a w ι M he hh=>⟨.bool (!b),by simp [execOp,ho,(he.to hx).inv_atm,Op.unary],.bool⟩⟩
 ·exact h.elim
theorem b15 {x:Operand} (ho:o.op=.nilCheck x) {K:S->Prop} (h:b0z (ev x) K):∃s,K s∧QOp P o ev H s []:=by
 unfold b0z at h
 split at h
 ·rename_i id r o' hx
  exact ⟨_,h,i6 fun a w ι M he hh=>by
   have hr:=he.to hx
   generalize hv:a.eval x=v at hr
   cases hr with
   |c hr=>cases hr with
    |ptr hi=>exact ⟨_,by simp [execOp,ho,hv],.c (.ptr hi)⟩⟩
 ·rename_i cs hx
  exact ⟨_,h,i6 fun a w ι M he hh=>by
   have hr:=he.to hx
   generalize hv:a.eval x=v at hr
   cases hr with
   |c hr=>cases hr with
    |t hr=>cases hr with
     |ptr f hc hr=>exact ⟨_,by simp [execOp,ho,hv],.c (.t (.ptr f hc hr))⟩⟩
 ·exact h.elim
theorem aQ4 (hτ:v6 P τ) {src dst:TypeId} {x:Operand} (ho:o.op=.convert src dst x) {K:S->Prop} (h:aP5 τ src dst (ev x) K):∃s,K s∧QOp P o ev H s []:=by
 unfold aP5 at h
 split at h
 ·rename_i k0 n d k _ _ _ _ hx hs hd
  obtain ⟨m,hm,h⟩:=h
  obtain ⟨u,hu,_⟩:=(hτ.td _ _ hs).und
  obtain ⟨u',hu',_,rfl⟩:=(hτ.td _ _ hd).und
  exact ⟨_,h,i6 fun a w ι M he hh=>⟨.int k m,by
   rw [hm]
   simp [execOp,ho,(he.to hx).inv_atm,convert,run_underlying hu,run_underlying hu',Conv.intToInt],.int⟩⟩
 ·exact h.elim
theorem aa2 {x:Operand} {i:Nat} (ho:o.op=.extract x i) {ss:List S} (hx:ev x=.tup ss) {s:S} (hs:ss[i]? =some s):QOp P o ev H s []:=
 i6 fun a w ι M he hh=>by
  generalize hv:a.eval x=v
  have hr:=he.to hx
  rw [hv] at hr
  cases hr with
  |tup vs hl hr=>
   have hlt:i<vs.length:=by rw [hl];exact (lbe.1 hs).1
   have:=hr i s hs
   rw [lbl,lbf hlt] at this
   exact ⟨vs[i],by simp [execOp,ho,hv,Instr.extract,hlt],this⟩
theorem b07 (hτ:v6 P τ) {c:Call} {t:TypeId} {ts:List TypeId} {x:Operand} {xs:List Operand} (ho:o.op=.call c) (hc:c.callee=.builtin .len) (hts:c.argTypes.toList=t::ts) (hxs:c.args.toList=x::xs) {K:S->Prop}
 (h:aX0 τ t (ev x) K):∃s,K s∧QOp P o ev H s []:=by
 obtain ⟨callee,args,argTypes⟩:=c
 simp only at hc hts hxs
 subst hc
 obtain rfl:argTypes=(t::ts).toArray:=by rw [← hts]
 obtain rfl:args=(x::xs).toArray:=by rw [← hxs]
 unfold aX0 at h
 split at h
 ·rename_i e _ _ _ _ ht
  have hu:=G7 hτ ht
  split at h
  ·rename_i sz k rows hx
   refine ⟨_,h,i6 fun a w ι M he hh=>⟨.int .i64 rows.length,?_,.int⟩⟩
   have hr:=(he.to hx).inv_t
   generalize hv:a.eval x=v at *
   cases hr
   simp [execOp,ho,resolve,invoke,builtin,Builtin.len_,hv,run_underlying hu,goInt]
  ·rename_i id lo len app hx
   refine ⟨_,h,i6 fun a w ι M he hh=>⟨.int .i64 len,?_,.int⟩⟩
   have hr:=(he.to hx).inv_c
   generalize hv:a.eval x=v at *
   cases hr<;>simp [execOp,ho,resolve,invoke,builtin,Builtin.len_,hv,run_underlying hu,goInt]
  ·exact h.elim
 ·rename_i n e _ _ _ _ ht
  have hu:=aJ0 hτ ht
  refine ⟨_,h,i6 fun a w ι M he hh=>⟨.int .i64 n,?_,.int⟩⟩
  simp [execOp,ho,resolve,invoke,builtin,Builtin.len_,run_underlying hu,goInt]
 ·exact h.elim
theorem ai0 {c:Call} (mx:Bool) (ho:o.op=.call c) (hc:c.callee=.builtin (cond mx .max .min)) {K:S->Prop}
 (h:b3k mx (c.args.toList.map ev) K):∃s,K s∧QOp P o ev H s []:=by
 obtain ⟨callee,args,argTypes⟩:=c
 simp only at hc h
 subst hc
 unfold b3k at h
 split at h
 ·rename_i k p k' q hx
  obtain ⟨args⟩:=args
  rcases args with _|⟨x,_|⟨y,_|⟨z,r⟩⟩⟩<;>simp at hx
  obtain ⟨hx,hy⟩:=hx
  refine ⟨_,h,i6 fun a w ι M he hh=>⟨.int k (cond mx (if q > p then q else p) (if q<p then q else p)),?_,.int⟩⟩
  cases mx<;>simp [execOp,ho,resolve,invoke,builtin,Builtin.min_,Builtin.max_,Builtin.min2,Builtin.max2,(he.to hx).inv_atm,(he.to hy).inv_atm]
 ·exact h.elim
theorem b34 {l:List S} {cs:List C} (h:b09 l=some cs):l=cs.map S.c:=by
 induction l generalizing cs with
 |nil=>simp [b09] at h;subst h;rfl
 |cons s l ih=>cases s<;>simp [b09] at h
               split at h
               ·rename_i xs hxs;injection h with h;subst h;rw [ih hxs];rfl
               ·cases h
theorem a7J {l:List C} {ts:List T} (h:a6U l=some ts):l=ts.map C.t:=by
 induction l generalizing ts with
 |nil=>simp [a6U] at h;subst h;rfl
 |cons s l ih=>cases s<;>simp [a6U] at h
               split at h
               ·rename_i xs hxs;injection h with h;subst h;rw [ih hxs];rfl
               ·cases h
theorem b02 {l:List (List C)} {ts:List (List T)} (h:a2o l=some ts):l=toC ts:=by
 induction l generalizing ts with
 |nil=>simp [a2o] at h;subst h;rfl
 |cons s l ih=>simp only [a2o] at h
               split at h
               ·rename_i a b ha hb;injection h with h;subst h;rw [ih hb,a7J ha];rfl
               ·cases h
theorem a9c {fn:Fn} {first caps:Array Operand} (ho:o.op=.makeFunc fn first caps) (hf:first.toList=[]) {cs:List C} (hc:caps.toList.map ev=cs.map S.c):QOp P o ev H (.c (.fn fn cs)) []:=
 i6 fun a w ι M he hh=>by
  obtain rfl:first=#[]:=by simpa using hf
  refine ⟨.func fn #[] (caps.toList.map a.eval).toArray,by simp [execOp,ho,Instr.makeFunc];apply Array.ext';simp,.c (.fn _ ?_ fun j c hj=>?_)⟩
  ·rw [lbr];simpa using congrArg List.length hc
  ·have h1:(caps.toList.map ev)[j]? =some (.c c):=by rw [hc,lba,hj];rfl
   rw [lba] at h1
   cases hx:caps.toList[j]? with
   |none=>rw [hx] at h1;cases h1
   |some x=>
    rw [hx] at h1
    injection h1 with h1
    rw [lbl,lba,hx]
    exact (he.to h1).inv_c
theorem a8c {fn:Fn} {first caps:Array Operand} (ho:o.op=.makeFunc fn first caps) (hf:first.toList=[]) {ts:List T} (hc:caps.toList.map ev=(ts.map C.t).map S.c):QOp P o ev H (.c (.t (.fn fn ts))) []:=
 i6 fun a w ι M he hh=>by
  obtain rfl:first=#[]:=by simpa using hf
  refine ⟨.func fn #[] (caps.toList.map a.eval).toArray,by simp [execOp,ho,Instr.makeFunc];apply Array.ext';simp,.c (.t (.fn _ ?_ fun j c hj=>?_))⟩
  ·rw [lbr];simpa using congrArg List.length hc
  ·have h1:(caps.toList.map ev)[j]? =some (.c (.t c)):=by rw [hc,lba,lba,hj];rfl
   rw [lba] at h1
   cases hx:caps.toList[j]? with
   |none=>rw [hx] at h1;cases h1
   |some x=>
    rw [hx] at h1
    injection h1 with h1
    rw [lbl,lba,hx]
    exact (he.to h1).inv_t
end
end
section
open Go.RowKit
def a20 (w:World) (ι:Io) (M:Ms) (cs:List C) (vs:Array Value):Prop:=vs.size=cs.length∧∀(j:Nat) (c:C),cs[j]? =some c->∃u,vs[j]? =some u∧RC w ι M c u
theorem RS.cells {w:World} {ι:Io} {M:Ms} {s:S} {v:Value} (h:RS w ι M s v) {cs:List C} (hc:(∃ c,s=.c c∧cs=[c])∨s=.agg cs):a20 w ι M cs v.cells:=by
 rcases hc with ⟨c,rfl,rfl⟩|rfl
 ·have hr:=h.inv_c
  have h1:=hr.one
  have:v.cells=#[v]:=by cases v<;>first|rfl|(simp [Value.oneCell'] at h1)
  rw [this]
  refine ⟨rfl,fun j c' hj=>?_⟩
  cases j with
  |zero=>simp at hj;subst hj;exact ⟨v,rfl,hr⟩
  |succ j=>simp at hj
 ·cases h with
  |agg vs hl hr=>
   refine ⟨by simpa [Value.cells] using hl,fun j c hj=>?_⟩
   have hlt:j<vs.length:=by rw [hl];exact (lbe.1 hj).1
   have:=hr j c hj
   rw [lbl,lbf hlt] at this
   exact ⟨vs[j],by simp [Value.cells,hlt],this⟩
theorem a20.agg {w:World} {ι:Io} {M:Ms} {cs:List C} {vs:Array Value} (h:a20 w ι M cs vs):RS w ι M (.agg cs) (.agg vs):=by
 have:RS w ι M (.agg cs) (.agg vs.toList.toArray):=.agg vs.toList (by simpa using h.1) fun j c hj=>by
  obtain ⟨u,h1,h2⟩:=h.2 j c hj
  rw [lbl]
  simpa [h1] using h2
 simpa using this
theorem a20.const {w:World} {ι:Io} {M:Ms} {vs:Array Value} (h:∀v ∈ vs.toList,v.oneCell'=true):a20 w ι M (vs.toList.map t6) vs:=
 ⟨by simp,fun j c hj=>by
   rw [lba] at hj
   cases hv:vs.toList[j]? with
   |none=>rw [hv] at hj;cases hj
   |some v=>
    rw [hv] at hj
    injection hj with hj
    subst hj
    exact ⟨v,by simpa using hv,RC.const (h v (lbm hv))⟩⟩
theorem a20.one {w:World} {ι:Io} {M:Ms} {cs:List C} {vs:Array Value} (h:a20 w ι M cs vs):∀v ∈ vs.toList,v.oneCell'=true:=fun v hv=>by
 obtain ⟨j,hj⟩:=ar0.1 hv
 have hlt:j<cs.length:=by
  have:=(lbe.1 hj).1
  rw [← h.1];simpa using this
 obtain ⟨u,h1,h2⟩:=h.2 j _ (lbf hlt)
 have:u=v:=by
  have hj':vs[j]? =some v:=by simpa using hj
  rw [hj'] at h1;injection h1 with h1;exact h1.symm
 exact this ▸ h2.one
theorem ac7 (off:Nat) (vs:Array Value) (cells:Array Value) (h:off+vs.size<=cells.size):
 ∃r,vs.zipIdx.foldl (fun cs (x:Value × Nat)=>cs.setIfInBounds (off+x.2) x.1) cells=r∧r.size=cells.size∧
  ∀m,r[m]? =if off<=m∧m<off+vs.size then vs[m - off]? else cells[m]?:=by
 refine ⟨_,rfl,?_⟩
 rw [← Array.foldl_toList,Array.toList_zipIdx]
 have key:∀(l:List Value) (j:Nat) (c:Array Value),off+j+l.length<=c.size->
  ((l.zipIdx j).foldl (fun cs (x:Value × Nat)=>cs.setIfInBounds (off+x.2) x.1) c).size=c.size∧
  ∀m,((l.zipIdx j).foldl (fun cs (x:Value × Nat)=>cs.setIfInBounds (off+x.2) x.1) c)[m]? =if off+j<=m∧m<off+j+l.length then l[m - (off+j)]? else c[m]?:=by
  intro l
  induction l with
  |nil=>intro j c hc;simp
        intro m h1 h2;omega
  |cons v l ih=>
   intro j c hc
   simp only [lbu] at hc
   obtain ⟨h1,h2⟩:=ih (j+1) (c.setIfInBounds (off+j) v) (by rw [Array.size_setIfInBounds];omega)
   simp only [List.zipIdx_cons,List.foldl_cons]
   refine ⟨by rw [h1];simp,fun m=>?_⟩
   rw [h2]
   by_cases hm:m=off+j
   ·subst hm
    rw [if_neg (by omega),if_pos (by simp)]
    simp [show off+j<c.size by omega]
   ·by_cases hm2:off+(j+1)<=m∧m<off+(j+1)+l.length
    ·rw [if_pos hm2,if_pos (by simp only [lbu];omega),show m - (off+j)=(m - (off+(j+1)))+1 by omega]
     simp
    ·rw [if_neg hm2,if_neg (by simp only [lbu];omega),Array.getElem?_setIfInBounds_ne (by omega)]
 have:=key vs.toList 0 cells (by simpa using h)
 simpa using this
theorem a20.over {w:World} {ι:Io} {M:Ms} {cells cs:List C} {arr vs:Array Value} (h:a20 w ι M cells arr) (h':a20 w ι M cs vs) {off:Nat} (hl:off+cs.length<=cells.length):
 a20 w ι M (cells.take off++cs++cells.drop (off+cs.length)) (vs.zipIdx.foldl (fun cs (x:Value × Nat)=>cs.setIfInBounds (off+x.2) x.1) arr):=by
 obtain ⟨r,hr,hs,hm⟩:=ac7 off vs arr (by rw [h.1,h'.1];exact hl)
 rw [hr]
 refine ⟨by rw [hs,h.1];simp;omega,fun j c hj=>?_⟩
 rw [hm,h'.1]
 by_cases h1:j<off
 ·rw [if_neg (by omega)]
  rw [lbE,lbb (by simp;omega),List.getElem?_take_of_lt h1] at hj
  exact h.2 j c hj
 ·by_cases h2:j<off+cs.length
  ·rw [if_pos (by omega)]
   rw [lbb (by simp;omega),lbc (by simp;omega)] at hj
   have:(cells.take off).length=off:=by simp;omega
   rw [this] at hj
   exact h'.2 _ c hj
  ·rw [if_neg (by omega)]
   rw [lbc (by simp;omega),lbj] at hj
   have:(cells.take off++cs).length=off+cs.length:=by simp;omega
   rw [this,show off+cs.length+(j - (off+cs.length))=j by omega] at hj
   exact h.2 j c hj
section
variable {P:Program} {τ:Tab} {o:Oper} {ev:Operand->S} {H:Hp}
theorem au4 {w:World} {ι:Io} {M:Ms} {a:Act} (he:L8 w ι M ev a) {fs:List (Nat × Nat × Bool)}:∀(parts:List (Nat × Operand)) (cells:List C) (arr:Array Value) {k:List C->Prop},
 a20 w ι M cells arr->au1 fs cells (parts.map fun p=>(p.1,ev p.2)) k->
 ∃cells',k cells'∧∃r,Instr.fill ((fs.map (fun x=>(x.1,x.2.1)))[·]?) arr (parts.map fun p=>(p.1,a.eval p.2))=some r∧a20 w ι M cells' r
 |[],cells,arr,k,hr,h=>⟨cells,h,arr,rfl,hr⟩
 |(i,x)::rest,cells,arr,k,hr,h=>by
  obtain ⟨cs,h,hcs⟩:=a11 h
  unfold a55 at h
  split at h
  ·rename_i off size ag hf
   obtain ⟨hb,h⟩:=w8 h
   have hb:cs.length=size∧0<size:=by simpa [K5] using hb
   obtain ⟨hlen,h⟩:=a7n h (by intro e;subst e;simp at hb;omega)
   have hv:=(he x).cells hcs
   obtain ⟨cells',hk,r,hr1,hr2⟩:=au4 he rest _ _ (hr.over hv hlen) h
   refine ⟨cells',hk,r,?_,hr2⟩
   simp only [a3q,Instr.fill]
   rw [lba,hf]
   simp only [a0n]
   rw [if_neg (by have q1:=hv.1;have q2:=hr.1;have q3:=hlen;simp at q3 ⊢;omega)]
   exact hr1
  ·exact h.elim
theorem ar7 {w:World} {ι:Io} {M:Ms} {a:Act} (he:L8 w ι M ev a) {size:Nat}:∀(parts:List (Nat × Operand)) (cells:List C) (arr:Array Value) {k:List C->Prop},
 a20 w ι M cells arr->au3 size cells (parts.map fun p=>(p.1,ev p.2)) k->
 ∃cells',k cells'∧∃r,Instr.fill (fun i=>some (i*size,size)) arr (parts.map fun p=>(p.1,a.eval p.2))=some r∧a20 w ι M cells' r
 |[],cells,arr,k,hr,h=>⟨cells,h,arr,rfl,hr⟩
 |(i,x)::rest,cells,arr,k,hr,h=>by
  obtain ⟨cs,h,hcs⟩:=a11 h
  obtain ⟨hb,h⟩:=w8 h
  have hb:cs.length=size∧0<size:=by simpa [K5] using hb
  obtain ⟨hlen,h⟩:=a7n h (by intro e;subst e;simp at hb;omega)
  have hv:=(he x).cells hcs
  obtain ⟨cells',hk,r,hr1,hr2⟩:=ar7 he rest _ _ (hr.over hv hlen) h
  refine ⟨cells',hk,r,?_,hr2⟩
  simp only [a3q,Instr.fill]
  rw [if_neg (by have q1:=hv.1;have q2:=hr.1;have q3:=hlen;simp at q3 ⊢;omega)]
  exact hr1
theorem a5C {s:S} {k:List C->Prop} (h:a0X s k):∃cs,k cs∧a0X s (·=cs):=by
 cases s<;>first|exact ⟨_,h,rfl⟩|exact h.elim
theorem a3M {s:S} {k k':List C->Prop} (h:a0X s k) (hk:∀cs,k cs->k' cs):a0X s k':=by
 cases s<;>first|exact hk _ h|exact h.elim
theorem ap6 {fs:List (Nat × Nat × Bool)}:∀(parts:List (Nat × S)) (cells:List C) {k:List C->Prop},au1 fs cells parts k->∃c,k c∧au1 fs cells parts (·=c)
 |[],cells,k,h=>⟨cells,h,rfl⟩
 |(i,s)::rest,cells,k,h=>by
  obtain ⟨cs,h,hcs⟩:=a5C h
  unfold a55 at h
  split at h
  ·rename_i off size ag hf
   obtain ⟨hb,h⟩:=w8 h
   have hb':cs.length=size∧0<size:=by simpa [K5] using hb
   have hne:cs≠[]:=by intro e;subst e;simp at hb';omega
   obtain ⟨hlen,h⟩:=a7n h hne
   obtain ⟨c,h1,h2⟩:=ap6 rest _ h
   refine ⟨c,h1,a3M hcs ?_⟩
   rintro _ rfl
   unfold a55
   rw [hf]
   simp only [hb,cond_true]
   exact aj8 hlen hne h2
  ·exact h.elim
theorem aq3 {size:Nat}:∀(parts:List (Nat × S)) (cells:List C) {k:List C->Prop},au3 size cells parts k->∃c,k c∧au3 size cells parts (·=c)
 |[],cells,k,h=>⟨cells,h,rfl⟩
 |(i,s)::rest,cells,k,h=>by
  obtain ⟨cs,h,hcs⟩:=a5C h
  obtain ⟨hb,h⟩:=w8 h
  have hb':cs.length=size∧0<size:=by simpa [K5] using hb
  have hne:cs≠[]:=by intro e;subst e;simp at hb';omega
  obtain ⟨hlen,h⟩:=a7n h hne
  obtain ⟨c,h1,h2⟩:=aq3 rest _ h
  refine ⟨c,h1,a3M hcs ?_⟩
  rintro _ rfl
  simp only [hb,cond_true]
  exact aj8 hlen hne h2
theorem a8h (a:Act) (parts:Array (Nat × Operand)):(parts.map fun (i,x)=>(i,a.eval x)).toList=parts.toList.map fun p=>(p.1,a.eval p.2):=by simp
theorem aH8 (hτ:v6 P τ) {t:TypeId} {parts:Array (Nat × Operand)} (ho:o.op=.build t parts) {K:S->Prop} (h:a5H τ ev t parts.toList K):∃s,K s∧QOp P o ev H s []:=by
 unfold a5H at h
 split at h
 ·rename_i fs _ _ _ z ht
  rw [D2] at h
  obtain ⟨u,hu,_,fields,rfl,_,_,hm⟩:=(hτ.td _ _ ht).und
  obtain ⟨i,hi,_,_,z',hz,hzs,hone,_⟩:=(hτ.td _ _ ht).info
  simp only at hzs hone
  subst hzs
  obtain ⟨cs,hk,hd⟩:=ap6 _ _ h
  refine ⟨_,hk,i6 fun a w ι M he hh=>?_⟩
  obtain ⟨cs',rfl,r,h1,h2⟩:=au4 he parts.toList _ z'.cells (a20.const hone) hd
  refine ⟨.agg r,?_,h2.agg⟩
  have hb:P.built t (parts.map fun (i,x)=>(i,a.eval x)).toList=some r:=by
   rw [a8h]
   simp only [Program.built,hi,hu,hz,hm]
   simpa using h1
  simp only [execOp,ho,Sem.run_bind,run_build w t _ r hb,Result.andThen_ok]
  rfl
 ·rename_i n e _ _ _ z ht
  obtain ⟨d,hd,h,_⟩:=Q8 hτ h
  rw [D2] at h
  have hu:=aJ0 hτ ht
  obtain ⟨i,hi,_,_,z',hz,hzs,hone,_⟩:=(hτ.td _ _ ht).info
  obtain ⟨ie,hie,hse,_⟩:=(hτ.td _ _ hd).info
  simp only at hzs hone
  subst hzs
  obtain ⟨cs,hk,hd'⟩:=aq3 _ _ h
  refine ⟨_,hk,i6 fun a w ι M he hh=>?_⟩
  obtain ⟨cs',rfl,r,h1,h2⟩:=ar7 he parts.toList _ z'.cells (a20.const hone) hd'
  refine ⟨.agg r,?_,h2.agg⟩
  have hb:P.built t (parts.map fun (i,x)=>(i,a.eval x)).toList=some r:=by
   rw [a8h]
   simp only [Program.built,hi,hu,hz,hie,hse]
   exact h1
  simp only [execOp,ho,Sem.run_bind,run_build w t _ r hb,Result.andThen_ok]
  rfl
 ·exact h.elim
theorem C5.new {w w':World} {ι:Io} {M:Ms} {n:Nat} {s:S} {v:Value} {e:TypeId} {size cap:Nat} {rows:List (List C)} {box ap:Bool} {cur:Array Value}
 (hos:w'.os=w.os) (htape:w'.tape=w.tape) (hout:w'.output=w.output) (hheap:w'.heap=w.heap.push (.cells cur e (0,0)))
 (hn:ι n=none) (h0:0<size) (hl:rows.length<=cap) (hm:cap<=maxLen) (hrow:∀r ∈ rows,r.length=size) (hsz:cur.size=cap*size)
 (hc:∀i j c,at2 rows i j=some c->∃u,cur[i*size+j]? =some u∧RC w ι M c u)
 (hs:∀(ι':Io) (M':Ms),ι' n=some (.blk w.heap.size cap size)->RS w' ι' M' s v):C5 w ι M n s [⟨.live,e,size,rows,box,ap,false⟩] v w':=by
 have hsize:w'.heap.size=w.heap.size+1:=by rw [hheap];simp
 have hold:∀b,b<w.heap.size->w'.heap[b]? =w.heap[b]?:=fun b hb=>by rw [hheap,Array.getElem?_push,if_neg (by omega)]
 have hnew:w'.heap[w.heap.size]? =some (.cells cur e (0,0)):=by rw [hheap];simp
 refine ⟨fun _=>.blk w.heap.size cap size,hs _ _ ?_,⟨hos,htape,hout,by omega,hold⟩,?_,?_,?_⟩
 ·unfold s8;rw [if_pos (by simp)]
 ·intro k blk hk
  cases k with
  |succ k=>simp at hk
  |zero=>
   simp at hk
   subst hk
   refine ⟨rfl,rfl,h0,hl,b9g hm,hrow,cur,hnew,hsz,fun i j c hij=>?_⟩
   obtain ⟨u,h1,h2⟩:=hc i j c hij
   refine ⟨u,h1,h2.keep (fun b hb _=>hold b hb) ?_ (fun id l hid=>?_)⟩
   ·rintro b (hb|⟨k,hk,c',s',he⟩)
    ·exact .inl hb
    ·injection he with he;exact .inr (by omega)
   ·unfold s8
    split
    ·rename_i hc'
     have:id=n:=by simp at hc';omega
     subst this
     rw [hn] at hid
     cases hid
    ·exact hid
 ·intro k b c s' hk he
  injection he with he
  omega
 ·intro k k' b c s' c' s'' hk hk' _ _
  simp at hk hk'
  omega
theorem ad4 {cs:List C} {i j:Nat} {c:C} (h:at2 [cs] i j=some c):i=0∧cs[j]? =some c:=by
 obtain ⟨row,h1,h2⟩:=x5 h
 cases i with
 |zero=>simp at h1;subst h1;exact ⟨rfl,h2⟩
 |succ i=>simp at h1
theorem b0v {t:TypeId} {x:Operand} (ho:o.op=.box t x) {K:S->List Blk->Prop} (h:b5I ev H.length t x K):∃s B,K s B∧QOp P o ev H s B:=by
 unfold b5I at h
 obtain ⟨cs,h,hcs⟩:=a11 h
 split at h
 ·exact h.elim
 rename_i c r
 have hown:K (.c (.ptr H.length 0 0)) [I8 t (c::r).length [c::r] true]->∃s B,K s B∧QOp P o ev H s B:=fun h=>by
  refine ⟨_,_,h,fun a w ι M he hh hm hf=>?_⟩
  obtain ⟨ha1,ha2⟩:=(he x).cells hcs
  refine m8 (w':=w.alloc (.cells (a.eval x).cells t)) (v:=.pointer (some ⟨w.heap.size,0,none⟩)) (by simp [execOp,ho,Instr.box,newVar,newRow]) ?_
  refine C5.new (cap:=1) (cur:=(a.eval x).cells) rfl rfl rfl rfl (hf 0 (by simp)) (by simp) (by simp) (by unfold maxLen;omega) (by simp) (by rw [ha1];simp) ?_ ?_
  ·intro i j c' hij
   obtain ⟨rfl,hj⟩:=ad4 hij
   obtain ⟨u,h1,h2⟩:=ha2 j c' hj
   exact ⟨u,by simpa using h1,h2⟩
  ·intro ι' M' hi
   have:=RC.ptr (w:=w.alloc (.cells (a.eval x).cells t)) (M:=M') (r:=0) (o:=0) hi
   simp only [a9Y,y3] at this
   exact .c this
 split at h
 ·rename_i ts hts
  have hts:=a7J hts
  obtain ⟨h|h⟩:=h
  rotate_left
  ·exact hown h
  refine ⟨_,_,h,fun a w ι M he hh hm hf=>?_⟩
  obtain ⟨ha1,ha2⟩:=(he x).cells hcs
  refine m8 (w':=w.alloc (.cells (a.eval x).cells t)) (v:=.pointer (some ⟨w.heap.size,0,none⟩)) (by simp [execOp,ho,Instr.box,newVar,newRow]) ?_
  have hext:Ext w (w.alloc (.cells (a.eval x).cells t)):=⟨rfl,rfl,rfl,by simp,fun b hb=>heap_alloc_old w _ hb⟩
  refine C5.of_none ?_ hext
  have hat:∀j c',ts[j]? =some c'->∃u,(a.eval x).cells[j]? =some u∧RT w M c' u:=fun j c' hj=>by
   obtain ⟨u,h1,h2⟩:=ha2 j (.t c') (by rw [hts,lba,hj];rfl)
   refine ⟨u,by simpa using h1,?_⟩
   cases h2 with
   |t h2=>exact h2
  refine .c (.t (.ptr (b:=w.heap.size) (off:=0) (fun j=>(a.eval x).cells.getD j undef) ?_ ?_))
  ·intro j c' hj
   obtain ⟨u,s1,s2⟩:=hat j c' hj
   refine ⟨?_,fun hM=>absurd (hm _ hM) (by omega)⟩
   have hn:=heap_alloc_new w (.cells (a.eval x).cells t)
   simp only [World.cell?]
   rw [hn]
   simp [s1]
  ·intro j c' hj
   obtain ⟨u,s1,s2⟩:=hat j c' hj
   have:(a.eval x).cells.getD j undef=u:=by simp [s1]
   show RT _ M c' ((a.eval x).cells.getD j undef)
   rw [this]
   exact s2.keep (fun b hb _=>hext.keep b hb) (fun b h=>.inl h)
 ·exact hown h
theorem aI7 (hτ:v6 P τ) {t:TypeId} (ho:o.op=.alloc t) {K:S->List Blk->Prop} (h:a5A τ H.length t K):∃s B,K s B∧QOp P o ev H s B:=by
 unfold a5A at h
 split at h
 ·rename_i d hd
  rw [D2] at h
  obtain ⟨hb,h⟩:=Q0 h
  have hb:d.zero.length≠0:=by intro e;simp [e] at hb
  refine ⟨_,_,h,fun a w ι M he hh hm hf=>?_⟩
  obtain ⟨i,hi,_,_,z,hz,hzs,hone,_⟩:=(hτ.td _ _ hd).info
  obtain ⟨ha1,ha2⟩:=a20.const (w:=w) (ι:=ι) (M:=M) (vs:=z.cells) (by rw [hzs];exact hone)
  rw [hzs] at ha1 ha2
  refine m8 (w':=w.alloc (.cells z.cells t)) (v:=.pointer (some ⟨w.heap.size,0,none⟩)) (by simp [execOp,ho,Instr.alloc,zeroValue,typeInfo,hi,hz,newVar,newRow]) ?_
  refine C5.new (cap:=1) (cur:=z.cells) rfl rfl rfl rfl (hf 0 (by simp)) (by simp;omega) (by simp) (by unfold maxLen;omega) (by simp) (by rw [ha1];simp) ?_ ?_
  ·intro i j c' hij
   obtain ⟨rfl,hj⟩:=ad4 hij
   obtain ⟨u,h1,h2⟩:=ha2 j c' hj
   exact ⟨u,by simpa using h1,h2⟩
  ·intro ι' M' hi
   have:=RC.ptr (w:=w.alloc (.cells z.cells t)) (M:=M') (r:=0) (o:=0) hi
   simp only [a9Y,y3] at this
   exact .c this
 ·exact h.elim
theorem a24 {z:Array Value} {size n i j:Nat} (hz:z.size=size) (hi:i<n) (hj:j<size):(madeCells z (n*size))[i*size+j]? =z[j]?:=by
 have hlt:i*size+j<n*size:=by
  have:i*size+size<=n*size:=by rw [← lbV];exact lbU _ hi
  omega
 unfold madeCells
 rw [Array.getElem?_map,Array.getElem?_range,if_pos hlt]
 have hmod:(i*size+j) % z.size=j:=by rw [hz,aQ1,Nat.mul_add_mod];exact b2l hj
 simp only [a0n,hmod]
 rw [Array.getElem?_eq_getElem (by omega),getElem!_pos]
theorem aM2 (hτ:v6 P τ) {t:TypeId} {l c:Operand} (ho:o.op=.makeSlice t l c) {K:S->List Blk->Prop} (h:ao8 τ ev H.length t l c K):∃s B,K s B∧QOp P o ev H s B:=by
 unfold ao8 at h
 split at h
 ·rename_i k1 p k2 q e _ _ _ _ hl hc ht
  split at h
  ·rename_i d hd
   obtain ⟨hb,⟨h0,h1,h2⟩,h⟩:=Q0 h
   rw [D2] at h
   have hb:d.size≠0:=by intro e;simp [e] at hb
   refine ⟨_,_,h,fun a w ι M he hh hm hf=>?_⟩
   obtain ⟨i,hi,hs,hby,z,hz,hzs,hone,hzl⟩:=(hτ.td _ _ hd).info
   have hu:=G7 hτ ht
   have hq:q*(i.bytes:Int)<=q*((d.bytes:Int)+1):=lbW (by omega) (by omega)
   have hq1:q<=q*((d.bytes:Int)+1):=by
    have:q*1<=q*((d.bytes:Int)+1):=lbW (by omega) (by omega)
    omega
   have hmk:=run_make (P:=P) w t e i z hu hi hz k1 k2 p q h0 h1 (by rw [ak8];omega) (by omega)
   have hsz:z.cells.size=i.size:=by
    rw [hs,←hzl,←hzs];simp
   refine m8 (w':=w.alloc (.cells (madeCells z.cells (q.toNat*i.size)) e)) (v:=.slice (some ⟨w.heap.size,0,none⟩) p.toNat q.toNat)
    (by simp only [execOp,ho,(he.to hl).inv_atm,(he.to hc).inv_atm,Sem.run_bind,hmk,Result.andThen_ok];rfl) ?_
   obtain ⟨ha1,ha2⟩:=a20.const (w:=w) (ι:=ι) (M:=M) (vs:=z.cells) (by rw [hzs];exact hone)
   rw [hzs] at ha1 ha2
   refine C5.new (cap:=q.toNat) (cur:=madeCells z.cells (q.toNat*i.size)) rfl rfl rfl rfl (hf 0 (by simp)) (by omega) (by simp;omega) (by unfold maxLen;omega) ?_ (by rw [size_madeCells,hs]) ?_ ?_
   ·intro r hr
    rw [(a8Z.1 hr).2,←ha1,hsz,hs]
   ·intro i' j c' hij
    obtain ⟨row,hr1,hr2⟩:=x5 hij
    rw [lbk] at hr1
    split at hr1
    ·rename_i hlt
     injection hr1 with hr1
     subst hr1
     obtain ⟨u,q1,q2⟩:=ha2 j c' hr2
     have hj:j<i.size:=by rw [← hsz];exact (lb5.1 q1).1
     exact ⟨u,by rw [← hs,a24 hsz (by omega) hj,q1],q2⟩
    ·cases hr1
   ·intro ι' M' hi
    exact .c (.own hi (by omega) (fun _=>by rw [a9Y]) (by omega) (by unfold maxLen;omega) (fun _=>⟨rfl,rfl,rfl⟩))
  ·exact h.elim
 ·exact h.elim
end
end
section
open Go.RowKit
structure u5 (w:World) (ι:Io) (M:Ms) (size:Nat) (rows:List (List C)) (vals:List Value):Prop where
 len:vals.length=rows.length*size
 row:∀r ∈ rows,r.length=size
 cell:∀i j c,at2 rows i j=some c->∃u,vals[i*size+j]? =some u∧RC w ι M c u
theorem u5.at {w:World} {ι:Io} {M:Ms} {size:Nat} {rows:List (List C)} {vals:List Value} (h:u5 w ι M size rows vals) {q:Nat} {u:Value} (hu:vals[q]? =some u):
 ∃i j c,q=i*size+j∧at2 rows i j=some c∧RC w ι M c u:=by
 have hq:q<rows.length*size:=by rw [← h.len];exact (lbe.1 hu).1
 have h0:0<size:=by
  rcases a3U size with h|h
  ·subst h;simp at hq
  ·exact h
 have hi:q / size<rows.length:=by rw [Nat.div_lt_iff_lt_mul h0];exact hq
 have hj:q % size<size:=ap1 _ h0
 have hr:=h.row rows[q / size] (lbF hi)
 have hc:at2 rows (q / size) (q % size)=some (rows[q / size][q % size]'(by omega)):=p8 (lbf hi) (lbf (by omega))
 have e:q=q / size*size+q % size:=by rw [aQ1];exact (Nat.div_add_mod q size).symm
 obtain ⟨u',h1,h2⟩:=h.cell _ _ _ hc
 rw [← e,hu] at h1
 injection h1 with h1
 subst h1
 exact ⟨_,_,_,e,hc,h2⟩
theorem u5.one {w:World} {ι:Io} {M:Ms} {size:Nat} {rows:List (List C)} {vals:List Value} (h:u5 w ι M size rows vals):∀u ∈ vals,u.oneCell'=true:=fun u hu=>by
 obtain ⟨q,hq⟩:=ar0.1 hu
 obtain ⟨_,_,_,_,_,h⟩:=h.at hq
 exact h.one
theorem u5.nil (w:World) (ι:Io) (M:Ms) (size:Nat):u5 w ι M size [] []:=⟨by simp,by simp,by simp [at2]⟩
theorem u5.append {w:World} {ι:Io} {M:Ms} {size:Nat} {r1 r2:List (List C)} {v1 v2:List Value} (h1:u5 w ι M size r1 v1) (h2:u5 w ι M size r2 v2):
 u5 w ι M size (r1++r2) (v1++v2):=by
 refine ⟨by rw [lbq,lbq,h1.len,h2.len,N4],?_,?_⟩
 ·intro r hr
  rcases lbA.1 hr with hr|hr
  ·exact h1.row r hr
  ·exact h2.row r hr
 ·intro i j c hc
  obtain ⟨row,hr1,hr2⟩:=x5 hc
  by_cases hi:i<r1.length
  ·rw [lbb hi] at hr1
   obtain ⟨u,q1,q2⟩:=h1.cell i j c (p8 hr1 hr2)
   exact ⟨u,by rw [lbb (lbe.1 q1).1];exact q1,q2⟩
  ·rw [lbc (by omega)] at hr1
   obtain ⟨u,q1,q2⟩:=h2.cell _ j c (p8 hr1 hr2)
   refine ⟨u,?_,q2⟩
   have e:i*size+j=r1.length*size+((i - r1.length)*size+j):=by
    rw [← a1g,←N4,show r1.length+(i - r1.length)=i by omega]
   rw [lbc (by rw [h1.len,e];omega),h1.len,show i*size+j - r1.length*size=(i - r1.length)*size+j by omega]
   exact q1
theorem aV7 {w:World} {ι:Io} {M:Ms} {size:Nat} {k:SK} {rows:List (List T)} {A:Option Addr} {n cap:Nat} (h:RT w M (.sl size k rows) (.slice A n cap)):
 n=rows.length∧∃vals,u5 w ι M size (toC rows) vals∧(rows≠[]->∃b off,A=some ⟨b,off,none⟩∧∀q u,vals[q]? =some u->w.cell? ⟨b,off+q,none⟩=some u):=by
 cases h with
 |@sl _ _ _ b off _ _ f hrow hcap hmax hk hn hA hc hr=>
  refine ⟨rfl,(List.range (rows.length*size)).map (fun q=>f (q / size) (q % size)),?_,fun hne=>⟨b,off,hA hne,fun q u hq=>?_⟩⟩
  ·refine ⟨by simp [toC],?_,?_⟩
   ·intro r hr'
    obtain ⟨r',h1,rfl⟩:=lby.1 hr'
    rw [lbr]
    exact hrow r' h1
   ·intro i j c hij
    obtain ⟨row,h1,h2⟩:=x5 hij
    unfold toC at h1
    rw [lba] at h1
    cases hri:rows[i]? with
    |none=>rw [hri] at h1;cases h1
    |some row'=>
     rw [hri] at h1
     injection h1 with h1
     subst h1
     rw [lba] at h2
     cases hrj:row'[j]? with
     |none=>rw [hrj] at h2;cases h2
     |some c'=>
      rw [hrj] at h2
      injection h2 with h2
      subst h2
      have hi:i<rows.length:=(lbe.1 hri).1
      have hj:j<size:=by rw [← hrow row' (lbm hri)];exact (lbe.1 hrj).1
      have hlt:i*size+j<rows.length*size:=by
       have:i*size+size<=rows.length*size:=by rw [← lbV];exact lbU _ hi
       omega
      have e1:(i*size+j) / size=i:=by
       rw [aQ1,Nat.mul_add_div (by omega),Nat.div_eq_of_lt hj,at7]
      have e2:(i*size+j) % size=j:=by
       rw [aQ1,Nat.mul_add_mod];exact b2l hj
      refine ⟨f i j,?_,.t (hr i j c' (p8 hri hrj))⟩
      rw [lba,lbh hlt]
      simp [e1,e2]
  ·have hlt:q<rows.length*size:=by have:=(lbe.1 hq).1;simpa using this
   rw [lba,lbh hlt] at hq
   injection hq with hq
   subst hq
   have h0:0<size:=by
    rcases a3U size with h|h
    ·subst h;simp at hlt
    ·exact h
   have hi:q / size<rows.length:=by rw [Nat.div_lt_iff_lt_mul h0];exact hlt
   have hj:q % size<size:=ap1 _ h0
   have hrl:=hrow rows[q / size] (lbF hi)
   have:=(hc (q / size) (q % size) _ (p8 (lbf hi) (lbf (by omega)))).1
   rw [show q / size*size+q % size=q by rw [aQ1];exact Nat.div_add_mod q size] at this
   exact this
theorem a4M {w:World} {ι:Io} {M:Ms} {k:Blk} {b cap size:Nat} (hmp:k.mp=false) (h:E8 w ι M k (.blk b cap size)) {lo len:Nat} (hl:lo+len<=k.rows.length):
 ∃vals,u5 w ι M size ((k.rows.drop lo).take len) vals∧∀q u,vals[q]? =some u->w.cell? ⟨b,lo*size+q,none⟩=some u:=by
 obtain ⟨h1,h2,h3,h4,h5,cur,h6,h7,h8⟩:=h
 rw [B7 hmp] at h6
 have hmul:lo*size+len*size<=cap*size:=by rw [← N4];exact lbU _ (by omega)
 refine ⟨(cur.toList.drop (lo*size)).take (len*size),⟨?_,?_,?_⟩,?_⟩
 ·rw [lbs,a3Q,a5j,h7,lbs,a3Q]
  rw [a12 (by omega),a12 (by omega)]
 ·intro r hr
  exact h5 r (aP2 (a8x hr))
 ·intro i j c hij
  obtain ⟨row,q1,q2⟩:=x5 hij
  rw [lbi] at q1
  split at q1
  ·rename_i hi
   rw [lbj] at q1
   obtain ⟨u,r1,r2⟩:=h8 _ _ _ (p8 q1 q2)
   refine ⟨u,?_,r2⟩
   have hj:j<size:=by rw [← h5 row (lbm q1)];exact (lbe.1 q2).1
   have hlt:i*size+j<len*size:=by
    have:i*size+size<=len*size:=by rw [← lbV];exact lbU _ hi
    omega
   rw [List.getElem?_take_of_lt hlt,lbj,←a1g,←N4]
   simpa using r1
  ·cases q1
 ·intro q u hq
  rw [lbi] at hq
  split at hq
  ·rw [lbj] at hq
   simp [World.cell?,h6]
   simpa using hq
  ·cases hq
section
variable {P:Program} {τ:Tab} {o:Oper} {ev:Operand->S} {H:Hp}
theorem aS5 (hτ:v6 P τ) {size:Nat} {t e:TypeId} (hu:P.underlying t=some (.slice e)) {x:Operand} {k:List (List C)->Prop} (h:b6D size H (ev x) k):
 ∃xr,k xr∧∀(a:Act) (w:World) (ι:Io) (M:Ms),L8 w ι M ev a->j3 w ι M H->∃news,u5 w ι M size xr news∧Src P size t (a.eval x) xr.length news w∧
  (xr.length=0∨∃ad c,a.eval x=.slice (some ad) xr.length c∧∀j v,news[j]? =some v->w.cell? (ad.add j)=some v):=by
 unfold b6D at h
 split at h
 ·rename_i s sk rows hx
  refine ⟨_,h.2,fun a w ι M he hh=>?_⟩
  have hr:=(he.to hx).inv_t
  generalize a.eval x=v at *
  by_cases hne:rows=[]
  ·subst hne
   cases hr with
   |@sl _ _ _ b off cap A f hrow hcap hmax hk hn hA hc hr=>
    refine ⟨[],u5.nil w ι M size,?_,.inl rfl⟩
    cases A with
    |none=>exact Src.ofNil w hu _
    |some ad=>exact Src.ofSlice w hu ad 0 _ [] (by simp) (by simp) (by simp)
  ·have hs:s=size:=by
    rcases h.1 with h|h
    ·exact absurd (lbG h) hne
    ·exact h
   subst hs
   cases hr with
   |@sl _ _ _ b off cap A f hrow hcap hmax hk hn hA hc hr hxx=>
    obtain ⟨_,vals,h1,h2⟩:=aV7 (ι:=ι) (RT.sl f hrow hcap hmax hk hn hA hc hr hxx)
    obtain ⟨b,off,rfl,h3⟩:=h2 hne
    have h3':∀j v,vals[j]? =some v->w.cell? ((⟨b,off,none⟩:Addr).add j)=some v:=fun j v hj=>by rw [Addr.add_none];exact h3 j v hj
    have e:rows.length=(toC rows).length:=by simp [toC]
    rw [e]
    exact ⟨vals,h1,Src.ofSlice w hu _ _ _ vals h1.len h3' h1.one,.inr ⟨_,_,rfl,h3'⟩⟩
 ·rename_i id lo len app hx
  obtain ⟨bk,hbk,h⟩:=H9 h
  obtain ⟨⟨hdead,hmp⟩,h⟩:=W2 h
  obtain ⟨hs,hl,h⟩:=w8 h
  have hs:bk.size=size:=by simpa using hs
  refine ⟨_,h,fun a w ι M he hh=>?_⟩
  have hr:=(he.to hx).inv_c
  generalize a.eval x=v at *
  have hlen:((bk.rows.drop lo).take len).length=len:=by simp;omega
  cases hr with
  |@own _ _ _ _ b cap sz A cap' h' q1 q2 q3 q4 q5=>
   have hb:=hh.blk id bk hbk hdead _ h'
   obtain rfl:sz=size:=hb.1.symm.trans hs
   obtain ⟨vals,h1,h2⟩:=a4M hmp hb hl
   rw [hlen]
   by_cases h0:len=0
   ·subst h0
    have:vals=[]:=lbG (by rw [h1.len];simp)
    subst this
    refine ⟨[],h1,?_,.inl rfl⟩
    cases A with
    |none=>exact Src.ofNil w hu _
    |some ad=>exact Src.ofSlice w hu ad 0 _ [] (by simp) (by simp) (by simp)
   ·obtain rfl:=q2 (by omega)
    have h3':∀j v,vals[j]? =some v->w.cell? ((⟨b,lo*sz,none⟩:Addr).add j)=some v:=fun j v hj=>by rw [Addr.add_none];exact h2 j v hj
    have hvl:=h1.len
    rw [hlen] at hvl
    exact ⟨vals,h1,Src.ofSlice w hu _ _ _ vals hvl h3' h1.one,.inr ⟨_,_,rfl,h3'⟩⟩
  |nil h'=>
   have hb:=hh.blk id bk hbk hdead _ h'
   have hb':bk.rows=[]:=hb
   refine ⟨[],by rw [hb'];exact u5.nil w ι M size,?_,.inl (by simp)⟩
   rw [hb']
   cases ‹Option Addr› with
   |none=>exact Src.ofNil w hu _
   |some ad=>exact Src.ofSlice w hu ad 0 _ [] (by simp) (by simp) (by simp)
 ·exact h.elim
end
end
section
open Go.RowKit
section
variable {P:Program} {τ:Tab} {o:Oper} {ev:Operand->S} {H:Hp}
theorem I7 {c:Call} (ho:o.op=.call c) (hc:c.callee=.builtin .append) {t:TypeId} {s x:Operand} (ht:c.argTypes.toList=[t,t]) (ha:c.args.toList=[s,x]) {a:Act} {w w':World} {v:Value}
 (h:(Builtin.append_ #[t,t] o.type #[a.eval s,a.eval x]).run P w=.ok v w'):(execOp a.eval o).run P w=.ok (.value v) w':=by
 obtain ⟨callee,args,argTypes⟩:=c
 simp only at hc ht ha
 subst hc
 obtain rfl:argTypes=#[t,t]:=by apply Array.ext';simpa using ht
 obtain rfl:args=#[s,x]:=by apply Array.ext';simpa using ha
 simp [execOp,ho,resolve,invoke,builtin,h]
theorem aO1 {size:Nat} {cur:Array Value} {vals rest:List Value} {i j:Nat} {u:Value} (hcur:cur.toList=vals++rest) (h:vals[i*size+j]? =some u):cur[i*size+j]? =some u:=by
 have:cur.toList[i*size+j]? =some u:=by rw [hcur,lbb (lbe.1 h).1];exact h
 simpa using this
theorem a1y (hτ:v6 P τ) {t e:TypeId} {d:TD} (hu:P.underlying t=some (.slice e)) (hd:τ e=some d) (h0:d.size≠0) {w:World} {ι:Io} {M:Ms} {ty:TypeId}
 {base:Option Addr} {sLen sCap:Nat} {r1 r2:List (List C)} {olds news:List Value} {x:Value} (h1:u5 w ι M d.size r1 olds) (h2:u5 w ι M d.size r2 news) (hl:r1.length=sLen)
 (hold:(Builtin.firstCells d.size sLen (.slice base sLen sCap)).run P w.drew=.ok olds.toArray w.drew) (hs:Src P d.size t x r2.length news w) (hg:sCap<sLen+r2.length)
 (hb:(r1.length+r2.length)*(d.bytes+1)<=140737488355328):
 ∃cap cur,(Builtin.append_ #[t,t] ty #[.slice base sLen sCap,x]).run P w=.ok (.slice (some ⟨w.heap.size,0,none⟩) (sLen+r2.length) cap) (w.drew.alloc (.cells cur e))∧
  cur.size=cap*d.size∧sLen+r2.length<=cap∧cap<=maxLen∧∀i j c,at2 (r1++r2) i j=some c->∃u,cur[i*d.size+j]? =some u∧RC w ι M c u:=by
 obtain ⟨i,hi,hsz,hby,z,hz,hzs,hone,hzl⟩:=(hτ.td _ _ hd).info
 rw [← hsz] at h0 h1 h2 hold hs
 have hb1:(sLen+r2.length)*i.bytes<=140737488355328:=by
  refine lbT (Nat.mul_le_mul_left _ (Nat.le_succ _)) ?_
  rw [hby,←hl];exact hb
 have hb2:sLen+r2.length<=140737488355328:=by
  refine lbT (aw3 _ (Nat.succ_pos d.bytes)) ?_
  rw [← hl];exact hb
 have hmx:sLen+r2.length<=maxLen:=by unfold maxLen;omega
 have hrun:=run_append_grow_src (P:=P) w t t ty e i z hu hi hz base sLen sCap olds hold x r2.length news hs hg (by omega) (growslice_fits hg hb1)
 refine ⟨_,_,hrun,?_,grownCap_ge _ _ _ _,grownCap_le_maxLen _ _ _ _ hmx,?_⟩
 ·have hzc:z.cells.size=i.size:=by rw [hsz,←hzl,←hzs];simp
  simp only [Array.size_append,a8R,size_zeroCells,hzc,lbq,h1.len,h2.len,hl,←N4,←hsz]
  congr 1
  have:=grownCap_ge w (sLen+r2.length) sCap e
  omega
 ·intro i' j c hc
  obtain ⟨u,q1,q2⟩:=(h1.append h2).cell i' j c hc
  exact ⟨u,by rw [← hsz];exact aO1 (rest:=(Builtin.zeroCells z.cells (grownCap w (sLen+r2.length) sCap e - (sLen+r2.length))).toList) (by simp) q1,q2⟩
theorem b14 {n:Nat} (h:n<=140737488355328):n<=maxLen:=by unfold maxLen;omega
theorem C5.nil {w:World} {ι:Io} {M:Ms} {n:Nat} {e:TypeId} {size:Nat} {box ap:Bool} {A:Option Addr}:C5 w ι M n (.c (.own n 0 0 true)) [⟨.live,e,size,[],box,ap,false⟩] (.slice A 0 0) w:=by
 refine ⟨fun _=>.nil,.c (.nil ?_),Ext.refl w,?_,?_,?_⟩
 ·unfold s8;rw [if_pos (by simp)]
 ·intro k blk hk
  cases k with
  |succ k=>simp at hk
  |zero=>simp at hk;subst hk;exact ⟨rfl,rfl⟩
 ·intro k b c s _ h;cases h
 ·intro k k' b c s c' s' _ _ h;cases h
theorem T1 {w:World} {size n cap:Nat} {A:Option Addr} {vals:List Value} (hl:vals.length=n*size) (h:vals=[]∨∃b off,A=some ⟨b,off,none⟩∧∀q u,vals[q]? =some u->w.cell? ⟨b,off+q,none⟩=some u):
 (Builtin.firstCells size n (.slice A n cap)).run P w.drew=.ok vals.toArray w.drew:=by
 rcases h with rfl|⟨b,off,rfl,h⟩
 ·cases A with
  |none=>exact run_firstCells_none w.drew size n n cap
  |some ad=>exact run_firstCells_some w.drew size n ad n cap [] hl (by simp)
 ·exact run_firstCells_some w.drew size n _ n cap vals hl (fun j v hj=>by rw [Addr.add_none];simpa using h j v hj)
theorem Y5 {w:World} {ι:Io} {M:Ms} {n b cap size len:Nat} (hi:ι n=some (.blk b cap size)) (hl:len<=cap) (hm:cap<=maxLen):RS w ι M (.c (.own n 0 len true)) (.slice (some ⟨b,0,none⟩) len cap):=
 .c (.own hi (by omega) (fun _=>by rw [a9Y]) hl hm (fun _=>⟨rfl,rfl,rfl⟩))
theorem j3.other {w w':World} {ι ι':Io} {M M':Ms} (hH:j3 w ι M H) {id b cap size:Nat} {k:Blk} (hk:H[id]? =some k) (hl:k.mode=.live) (hi:ι id=some (.blk b cap size)) (hap:k.app=false)
 (hkeep:∀b',b'<w.heap.size->b'≠b->w'.heap[b']? =w.heap[b']?) (hm:∀b,M' b->M b∨w.heap.size<=b) (he:∀id l,ι id=some l->ι' id=some l):
 ∀id' k',id'≠id->H[id']? =some k'->k'.mode≠.dead->∀l,ι id'=some l->E8 w' ι' M' k' l:=by
 intro id' k' hne hk' hd l hl'
 have hb:=hH.blk id' k' hk' hd l hl'
 have hMb:M b:=hH.liv id k hk hl b cap size hi
 cases l with
 |nil=>exact hb
 |blk b' cap' size'=>
  obtain ⟨q1,q2,q3,q4,q5,cur,q6,q7,q8⟩:=hb
  have hne':b'≠b:=by
   intro e
   subst e
   cases hm':k'.mode with
   |live=>exact hne (hH.inj id' id k' k hk' hk hm' hl _ _ _ _ _ hl' hi)
   |froz=>exact hH.fro id' k' hk' hm' _ _ _ hl' hMb
   |old=>
    have:=(hH.old id' id k' k hk' hk hm' hl _ _ _ _ _ hl' hi).1
    rw [hap] at this;cases this
   |dead=>exact hd hm'
  refine ⟨q1,q2,q3,q4,q5,cur,(hkeep b' (x9 q6) hne').trans q6,q7,fun i j c hc=>?_⟩
  obtain ⟨u,r1,r2⟩:=q8 i j c hc
  refine ⟨u,r1,r2.keep (fun b'' hb'' hM=>hkeep b'' hb'' (by rintro rfl;exact hM hMb)) hm he⟩
theorem getElem?_set_ne' {l:List Blk} {i j:Nat} {v:Blk} (h:j≠i):(l.set i v)[j]? =l[j]?:=by rw [List.getElem?_set_ne (Ne.symm h)]
theorem b3U {k:Blk} {cur c:Array Value} {e:TypeId} (h:a2E k cur=.cells c e (0,0)):k.mp=false∧c=cur∧e=k.elem:=by
 unfold a2E at h
 cases hm:k.mp<;>rw [hm] at h
 ·injection h with h1 h2
  exact ⟨rfl,h1.symm,h2.symm⟩
 ·cases h
theorem E8.kept {w w':World} {ι ι':Io} {M M':Ms} {kk:Blk} {b cap size:Nat} (h:E8 w ι M kk (.blk b cap size)) (h0:w'.heap[b]? =w.heap[b]?) (hr:∀c u,RC w ι M c u->RC w' ι' M' c u):
 E8 w' ι' M' kk (.blk b cap size):=by
 obtain ⟨q1,q2,q3,q4,q5,cur',q6,q7,q8⟩:=h
 refine ⟨q1,q2,q3,q4,q5,cur',h0.trans q6,q7,fun i j c hc=>?_⟩
 obtain ⟨u,r1,r2⟩:=q8 i j c hc
 exact ⟨u,r1,hr c u r2⟩
theorem E8.grow {w w':World} {ι ι':Io} {M M':Ms} {kk:Blk} {b cap size:Nat} {e:TypeId} {cur0 cur:Array Value} (h:E8 w ι M kk (.blk b cap size)) (h0:w.heap[b]? =some (.cells cur0 e (0,0)))
 (h1:w'.heap[b]? =some (.cells cur e (0,0))) (h2:cur.size=cur0.size) (h3:∀q,q<kk.rows.length*size->cur[q]? =cur0[q]?) (hr:∀c u,RC w ι M c u->RC w' ι' M' c u):
 E8 w' ι' M' kk (.blk b cap size):=by
 obtain ⟨q1,q2,q3,q4,q5,cur',q6,q7,q8⟩:=h
 rw [h0] at q6
 injection q6 with q6
 obtain ⟨hmp,e1,e2⟩:=b3U q6.symm
 subst e1 e2
 refine ⟨q1,q2,q3,q4,q5,cur,by rw [B7 hmp];exact h1,by rw [h2];exact q7,fun i j c hc=>?_⟩
 obtain ⟨u,r1,r2⟩:=q8 i j c hc
 obtain ⟨row,s1,s2⟩:=x5 hc
 have hi:=(lbe.1 s1).1
 have hj:j<size:=by rw [← q5 row (lbm s1)];exact (lbe.1 s2).1
 have hlt:i*size+j<kk.rows.length*size:=by
  have:i*size+size<=kk.rows.length*size:=by rw [← lbV];exact lbU _ hi
  omega
 exact ⟨u,by rw [h3 _ hlt];exact r1,hr c u r2⟩
def b8A (w w':World) (k kd:Blk) (ap:Bool) (b bn size:Nat) (n:Nat) (e:TypeId) (cur:Array Value):Prop:=
 (kd.mode=.dead∧k.app=false)∨(kd=a3P k∧ap=true∧k.rows.length<=n∧
   ((bn≠b∧w'.heap[b]? =w.heap[b]?)∨(bn=b∧∃cur0,w.heap[b]? =some (.cells cur0 e (0,0))∧cur.size=cur0.size∧∀q,q<k.rows.length*size->cur[q]? =cur0[q]?)))
theorem B4.append {w w':World} {ι:Io} {M:Ms} (hH:j3 w ι M H) (hM:MB w M) (hF:a1c ι H.length) {id b cap size:Nat} {k kd:Blk} (hk:H[id]? =some k) (hl:k.mode=.live)
 (hi:ι id=some (.blk b cap size)) {bn cap' len:Nat} {ap:Bool} {e:TypeId} {rows:List (List C)} {cur:Array Value} (hdead:b8A w w' k kd ap b bn size rows.length e cur) (hos:w'.os=w.os) (htape:w'.tape=w.tape) (hout:w'.output=w.output)
 (hsize:w.heap.size<=w'.heap.size) (hkeep:∀b',b'<w.heap.size->b'≠b->w'.heap[b']? =w.heap[b']?) (hbn:bn=b∨w.heap.size<=bn) (hnew:w'.heap[bn]? =some (.cells cur e (0,0)))
 (h0:0<size) (hlen:rows.length=len) (hle:len<=cap') (hm:cap'<=maxLen) (hrow:∀r ∈ rows,r.length=size) (hsz:cur.size=cap'*size)
 (hc:∀i j c,at2 rows i j=some c->∃u,cur[i*size+j]? =some u∧RC w ι M c u):
 B4 w ι M H (.c (.own H.length 0 len true)) ((H.set id kd)++[⟨.live,e,size,rows,false,ap,false⟩]) (.slice (some ⟨bn,0,none⟩) len cap') w':=by
 have hidl:id<H.length:=(lbe.1 hk).1
 have hMb:M b:=hH.liv id k hk hl b cap size hi
 have hblt:b<w.heap.size:=hM b hMb
 let ι':Io:=fun j=>if j=H.length then some (.blk bn cap' size) else ι j
 let M':Ms:=fun b'=>M b'∨b'=bn
 have hext:∀id l,ι id=some l->ι' id=some l:=fun j l hj=>by
  show (if j=H.length then _ else _)=_
  rw [if_neg (by rintro rfl;rw [hF _ (lbS _)] at hj;cases hj),hj]
 have hMn:∀b',M' b'->M b'∨w.heap.size<=b':=by
  rintro b' (h|rfl)
  ·exact .inl h
  ·rcases hbn with rfl|h
   ·exact .inl hMb
   ·exact .inr h
 have hnl:ι' H.length=some (.blk bn cap' size):=by show (if _ then _ else _)=_;rw [if_pos rfl]
 have hold:∀j,j<H.length->ι' j=ι j:=fun j hj=>by show (if _ then _ else _)=_;rw [if_neg (by omega)]
 have hkdl:kd.mode≠.live∧kd.mode≠.froz:=by
  rcases hdead with ⟨h,_⟩|⟨rfl,_⟩
  ·rw [h];exact ⟨(by intro h;cases h),(by intro h;cases h)⟩
  ·exact ⟨(by intro h;cases h),(by intro h;cases h)⟩
 have hget:∀j kk,((H.set id kd)++[(⟨.live,e,size,rows,false,ap,false⟩:Blk)])[j]? =some kk->
  (j=id∧kk=kd)∨(j≠id∧j<H.length∧H[j]? =some kk)∨(j=H.length∧kk=⟨.live,e,size,rows,false,ap,false⟩):=by
  intro j kk hj
  by_cases hjl:j<H.length
  ·rw [lbb (by simpa using hjl)] at hj
   by_cases hjd:j=id
   ·subst hjd
    rw [List.getElem?_set_self (by simpa using hjl)] at hj
    injection hj with hj
    exact .inl ⟨rfl,hj.symm⟩
   ·rw [getElem?_set_ne' hjd] at hj
    exact .inr (.inl ⟨hjd,hjl,hj⟩)
  ·rw [lbc (by simpa using hjl)] at hj
   have:j=H.length:=by
    have:=(lbe.1 hj).1
    simp at this
    omega
   subst this
   simp at hj
   exact .inr (.inr ⟨rfl,hj.symm⟩)
 have hkeepR:∀c u,RC w ι M c u->RC w' ι' M' c u:=fun c u h=>h.keep (fun b'' hb'' hM'=>hkeep b'' hb'' (by rintro rfl;exact hM' hMb)) hMn hext
 have hsame:∀kk cap0,kk.rows.length<=k.rows.length->k.app=true->E8 w ι M kk (.blk b cap0 size)->E8 w' ι' M' kk (.blk b cap0 size):=by
  intro kk cap0 hle' hka hb
  rcases hdead with ⟨_,h⟩|⟨_,_,_,h|⟨rfl,cur0,h1,h2,h3⟩⟩
  ·rw [hka] at h;cases h
  ·exact hb.kept h.2 hkeepR
  ·exact hb.grow h1 hnew h2 (fun q hq=>h3 q (lb9 hq (lbU _ hle'))) hkeepR
 refine ⟨ι',M',Y5 hnl hle hm,⟨?_,?_,?_,?_,?_⟩,?_,?_,⟨hos,htape,hout,hsize,?_,hold,hMn,fun b' h=>.inl (.inl h),?_,by simp⟩⟩
 ·intro j kk hj hd l hl'
  rcases hget j kk hj with ⟨rfl,rfl⟩|⟨h1,h2,h3⟩|⟨rfl,rfl⟩
  ·have hdead2:=hdead;rcases hdead2 with ⟨h,_⟩|⟨rfl,_⟩
   ·exact absurd h hd
   ·rw [hold j hidl,hi] at hl'
    injection hl' with hl'
    subst hl'
    have hb:=hH.blk j k hk (by rw [hl];intro h;cases h) _ hi
    cases hka:k.app with
    |true=>exact hsame (a3P k) cap (lbS _) hka hb
    |false=>
     rcases hdead with ⟨h,_⟩|⟨_,_,_,h|⟨rfl,cur0,h1,h2,h3⟩⟩
     ·cases h
     ·exact E8.kept (kk:=a3P k) hb h.2 hkeepR
     ·exact E8.grow (kk:=a3P k) hb h1 hnew h2 h3 hkeepR
  ·rw [hold j h2] at hl'
   cases hka:k.app with
   |false=>exact hH.other hk hl hi hka hkeep hMn hext j kk h1 h3 hd l hl'
   |true=>
    have hb:=hH.blk j kk h3 hd l hl'
    cases l with
    |nil=>exact hb
    |blk b' c' s'=>
     by_cases hbb:b'=b
     ·subst hbb
      cases hm':kk.mode with
      |live=>exact absurd (hH.inj j id kk k h3 hk hm' hl _ _ _ _ _ hl' hi) h1
      |froz=>exact absurd hMb (hH.fro j kk h3 hm' _ _ _ hl')
      |dead=>exact absurd hm' hd
      |old=>
       obtain ⟨_,rfl,h5⟩:=hH.old j id kk k h3 hk hm' hl _ _ _ _ _ hl' hi
       exact hsame kk c' h5 hka hb
     ·have hb2:=hb;obtain ⟨q1,q2,q3,q4,q5,cur',q6,q7,q8⟩:=hb2
      exact hb.kept (hkeep b' (x9 q6) hbb) hkeepR
  ·rw [hnl] at hl'
   injection hl' with hl'
   subst hl'
   refine ⟨rfl,h0,(show rows.length<=cap' by omega),b9g hm,hrow,cur,hnew,hsz,fun i j c hij=>?_⟩
   obtain ⟨u,r1,r2⟩:=hc i j c hij
   exact ⟨u,r1,hkeepR c u r2⟩
 ·intro j kk hj hlv b' c' s' hij
  rcases hget j kk hj with ⟨rfl,rfl⟩|⟨h1,h2,h3⟩|⟨rfl,rfl⟩
  ·exact absurd hlv hkdl.1
  ·rw [hold j h2] at hij
   exact .inl (hH.liv j kk h3 hlv _ _ _ hij)
  ·rw [hnl] at hij
   injection hij with hij
   injection hij with hij
   exact .inr hij.symm
 ·intro j kk hj hlv b' c' s' hij
  rcases hget j kk hj with ⟨rfl,rfl⟩|⟨h1,h2,h3⟩|⟨rfl,rfl⟩
  ·exact absurd hlv hkdl.2
  ·rw [hold j h2] at hij
   have hnm:=hH.fro j kk h3 hlv _ _ _ hij
   have hbl:b'<w.heap.size:=by
    obtain ⟨_,_,_,_,_,cur',q,_⟩:=hH.blk j kk h3 (by rw [hlv];intro h;cases h) _ hij
    exact x9 q
   rintro (h|rfl)
   ·exact hnm h
   ·rcases hbn with rfl|h
    ·exact hnm hMb
    ·omega
  ·cases hlv
 ·intro j j' kk kk' hj hj' hlv hlv' b' c' s' c'' s'' hij hij'
  rcases hget j kk hj with ⟨rfl,rfl⟩|⟨h1,h2,h3⟩|⟨rfl,rfl⟩
  ·exact absurd hlv hkdl.1
  ·rcases hget j' kk' hj' with ⟨rfl,rfl⟩|⟨h1',h2',h3'⟩|⟨rfl,rfl⟩
   ·exact absurd hlv' hkdl.1
   ·rw [hold j h2] at hij
    rw [hold j' h2'] at hij'
    exact hH.inj j j' kk kk' h3 h3' hlv hlv' _ _ _ _ _ hij hij'
   ·rw [hold j h2] at hij
    rw [hnl] at hij'
    injection hij' with hij'
    injection hij' with hij'
    subst hij'
    have hbl:bn<w.heap.size:=by
     obtain ⟨_,_,_,_,_,cur',q,_⟩:=hH.blk j kk h3 (by rw [hlv];intro h;cases h) _ hij
     exact x9 q
    rcases hbn with rfl|h
    ·exact absurd (hH.inj j id kk k h3 hk hlv hl _ _ _ _ _ hij hi) h1
    ·omega
  ·rcases hget j' kk' hj' with ⟨rfl,rfl⟩|⟨h1',h2',h3'⟩|⟨rfl,rfl⟩
   ·exact absurd hlv' hkdl.1
   ·rw [hold j' h2'] at hij'
    rw [hnl] at hij
    injection hij with hij
    injection hij with hij
    subst hij
    have hbl:bn<w.heap.size:=by
     obtain ⟨_,_,_,_,_,cur',q,_⟩:=hH.blk j' kk' h3' (by rw [hlv'];intro h;cases h) _ hij'
     exact x9 q
    rcases hbn with rfl|h
    ·exact absurd (hH.inj j' id kk' k h3' hk hlv' hl _ _ _ _ _ hij' hi) h1'
    ·omega
   ·rfl
 ·intro j j' kk kk' hj hj' hlv hlv' b' c' s' c'' s'' hij hij'
  rcases hget j' kk' hj' with ⟨rfl,rfl⟩|⟨h1',h2',h3'⟩|⟨rfl,rfl⟩
  ·exact absurd hlv' hkdl.1
  ·rw [hold j' h2'] at hij'
   rcases hget j kk hj with ⟨rfl,rfl⟩|⟨h1,h2,h3⟩|⟨rfl,rfl⟩
   ·rw [hold j hidl,hi] at hij
    injection hij with hij
    injection hij with e1 e2 e3
    subst e1
    exact absurd (hH.inj j' j kk' k h3' hk hlv' hl _ _ _ _ _ hij' hi) h1'
   ·rw [hold j h2] at hij
    exact hH.old j j' kk kk' h3 h3' hlv hlv' _ _ _ _ _ hij hij'
   ·cases hlv
  ·rw [hnl] at hij'
   injection hij' with hij'
   injection hij' with e1 e2 e3
   subst e1 e2 e3
   rcases hget j kk hj with ⟨rfl,rfl⟩|⟨h1,h2,h3⟩|⟨rfl,rfl⟩
   ·rw [hold j hidl,hi] at hij
    injection hij with hij
    injection hij with e1 e2 e3
    subst e1 e3
    rcases hdead with ⟨h,_⟩|⟨rfl,hap,hle',_⟩
    ·rw [h] at hlv;cases hlv
    ·exact ⟨hap,rfl,hle'⟩
   ·rw [hold j h2] at hij
    have hbl:bn<w.heap.size:=by
     obtain ⟨_,_,_,_,_,cur',q,_⟩:=hH.blk j kk h3 (by rw [hlv];intro h;cases h) _ hij
     exact x9 q
    rcases hbn with rfl|h
    ·obtain ⟨q1,q2,q3⟩:=hH.old j id kk k h3 hk hlv hl _ _ _ _ _ hij hi
     rcases hdead with ⟨_,h⟩|⟨rfl,hap,hle',_⟩
     ·rw [q1] at h;cases h
     ·exact ⟨hap,q2,lbT q3 hle'⟩
    ·omega
   ·cases hlv
 ·rintro b' (h|rfl)
  ·exact lb9 (hM b' h) hsize
  ·exact x9 hnew
 ·intro j hj
  rw [lbq,List.length_set] at hj
  simp at hj
  show (if _ then _ else _)=_
  rw [if_neg (by omega)]
  exact hF j (by omega)
 ·intro b' hb' hnl'
  exact hkeep b' hb' (by rintro rfl;exact hnl' ⟨id,k,cap,size,hk,hl,hi⟩)
 ·rintro b' ⟨j,kk,c',s',hj,hlv,hij⟩
  rcases hget j kk hj with ⟨rfl,rfl⟩|⟨h1,h2,h3⟩|⟨rfl,rfl⟩
  ·exact absurd hlv hkdl.1
  ·rw [hold j h2] at hij
   exact .inl ⟨j,kk,c',s',h3,hlv,hij⟩
  ·rw [hnl] at hij
   injection hij with hij
   injection hij with hij
   subst hij
   rcases hbn with rfl|h
   ·exact .inl ⟨id,k,cap,size,hk,hl,hi⟩
   ·exact .inr h
end
end
section
open Go.RowKit
section
variable {P:Program} {τ:Tab} {o:Oper} {ev:Operand->S} {H:Hp}
theorem I4 {id:Nat} {kd:Blk} {H:Hp} {j:Nat} {kk:Blk} (hj:(H.set id kd)[j]? =some kk):(j=id∧kk=kd)∨(j≠id∧H[j]? =some kk):=by
 by_cases h:j=id
 ·subst h
  have hlt:j<H.length:=by have:=(lbe.1 hj).1;simpa using this
  rw [List.getElem?_set_self hlt] at hj
  injection hj with hj
  exact .inl ⟨rfl,hj.symm⟩
 ·rw [getElem?_set_ne' h] at hj
  exact .inr ⟨h,hj⟩
theorem B4.kill {w w':World} {ι:Io} {M:Ms} {H H':Hp} {s:S} {v:Value} {kd:Blk} (hd:kd.mode=.dead) (id:Nat) (h:B4 w ι M H s H' v w'):B4 w ι M H s (H'.set id kd) v w':=by
 obtain ⟨ι',M',h1,h2,h3,h4,h5⟩:=h
 refine ⟨ι',M',h1,⟨?_,?_,?_,?_,?_⟩,h3,by simpa using h4,⟨h5.os,h5.tape,h5.output,h5.size,h5.keep,h5.same,h5.mnew,h5.mold,?_,by simpa using h5.len⟩⟩
 ·intro j kk hj hm l hl
  rcases I4 hj with ⟨_,rfl⟩|⟨_,hj⟩
  ·exact absurd hd hm
  ·exact h2.blk j kk hj hm l hl
 ·intro j kk hj hm
  rcases I4 hj with ⟨_,rfl⟩|⟨_,hj⟩
  ·rw [hd] at hm;cases hm
  ·exact h2.liv j kk hj hm
 ·intro j kk hj hm
  rcases I4 hj with ⟨_,rfl⟩|⟨_,hj⟩
  ·rw [hd] at hm;cases hm
  ·exact h2.fro j kk hj hm
 ·intro j j' kk kk' hj hj' hm hm'
  rcases I4 hj with ⟨_,rfl⟩|⟨_,hj⟩
  ·rw [hd] at hm;cases hm
  ·rcases I4 hj' with ⟨_,rfl⟩|⟨_,hj'⟩
   ·rw [hd] at hm';cases hm'
   ·exact h2.inj j j' kk kk' hj hj' hm hm'
 ·intro j j' kk kk' hj hj' hm hm'
  rcases I4 hj with ⟨_,rfl⟩|⟨_,hj⟩
  ·rw [hd] at hm;cases hm
  ·rcases I4 hj' with ⟨_,rfl⟩|⟨_,hj'⟩
   ·rw [hd] at hm';cases hm'
   ·exact h2.old j j' kk kk' hj hj' hm hm'
 ·rintro b ⟨j,kk,c,sz,hj,hm,hi⟩
  rcases I4 hj with ⟨_,rfl⟩|⟨_,hj⟩
  ·rw [hd] at hm;cases hm
  ·exact h5.live b ⟨j,kk,c,sz,hj,hm,hi⟩
theorem B4.age {w w':World} {ι:Io} {M:Ms} {H H':Hp} {s:S} {v:Value} {kd:Blk} (hd:kd.mode=.old) (hr:kd.rows=[]) {id:Nat} (hid:id<H.length) (hi:ι id=some .nil) (h:B4 w ι M H s H' v w'):B4 w ι M H s (H'.set id kd) v w':=by
 obtain ⟨ι',M',h1,h2,h3,h4,h5⟩:=h
 have hi':ι' id=some .nil:=(h5.same id hid).trans hi
 refine ⟨ι',M',h1,⟨?_,?_,?_,?_,?_⟩,h3,by simpa using h4,⟨h5.os,h5.tape,h5.output,h5.size,h5.keep,h5.same,h5.mnew,h5.mold,?_,by simpa using h5.len⟩⟩
 ·intro j kk hj hm l hl
  rcases I4 hj with ⟨rfl,rfl⟩|⟨_,hj⟩
  ·rw [hi'] at hl;injection hl with hl;subst hl;exact hr
  ·exact h2.blk j kk hj hm l hl
 ·intro j kk hj hm
  rcases I4 hj with ⟨_,rfl⟩|⟨_,hj⟩
  ·rw [hd] at hm;cases hm
  ·exact h2.liv j kk hj hm
 ·intro j kk hj hm
  rcases I4 hj with ⟨_,rfl⟩|⟨_,hj⟩
  ·rw [hd] at hm;cases hm
  ·exact h2.fro j kk hj hm
 ·intro j j' kk kk' hj hj' hm hm'
  rcases I4 hj with ⟨_,rfl⟩|⟨_,hj⟩
  ·rw [hd] at hm;cases hm
  ·rcases I4 hj' with ⟨_,rfl⟩|⟨_,hj'⟩
   ·rw [hd] at hm';cases hm'
   ·exact h2.inj j j' kk kk' hj hj' hm hm'
 ·intro j j' kk kk' hj hj' hm hm' b c s' c' s'' hij hij'
  rcases I4 hj with ⟨rfl,rfl⟩|⟨_,hj⟩
  ·rw [hi'] at hij;cases hij
  ·rcases I4 hj' with ⟨_,rfl⟩|⟨_,hj'⟩
   ·rw [hd] at hm';cases hm'
   ·exact h2.old j j' kk kk' hj hj' hm hm' b c s' c' s'' hij hij'
 ·rintro b ⟨j,kk,c,sz,hj,hm,hi⟩
  rcases I4 hj with ⟨_,rfl⟩|⟨_,hj⟩
  ·rw [hd] at hm;cases hm
  ·exact h5.live b ⟨j,kk,c,sz,hj,hm,hi⟩
set_option maxHeartbeats 1000000 in
theorem a8D (hτ:v6 P τ) {c:Call} (ho:o.op=.call c) (hc:c.callee=.builtin .append) {t:TypeId} {s x:Operand} (ht:c.argTypes.toList=[t,t]) (ha:c.args.toList=[s,x])
 {e:TypeId} (hu:P.underlying t=some (.slice e)) {d:TD} (hd:τ e=some d) (h0:d.size≠0) {xr:List (List C)}
 (hx:∀(a:Act) (w:World) (ι:Io) (M:Ms),L8 w ι M ev a->j3 w ι M H->∃news,u5 w ι M d.size xr news∧Src P d.size t (a.eval x) xr.length news w∧
   (xr.length=0∨∃ad c,a.eval x=.slice (some ad) xr.length c∧∀j v,news[j]? =some v->w.cell? (ad.add j)=some v))
 {id lo len:Nat} (hs:ev s=.c (.own id lo len true)) {k:Blk} (hk:H[id]? =some k) (hlv:k.mode=.live) (hmp:k.mp=false) (hlen:len<=k.rows.length) (hbd:(len+xr.length)*(d.bytes+1)<=140737488355328)
 (hbk:k.size=d.size∧k.elem=e) {kd:Blk} {ap:Bool} (hkd:(kd.mode=.dead∧k.app=false)∨(kd=a3P k∧ap=true∧len=k.rows.length)):
 GOp P o ev H (.c (.own H.length 0 (len+xr.length) true)) ((H.set id kd)++[⟨.live,e,d.size,k.rows.take len++xr,false,ap,false⟩]):=by
 obtain ⟨i,hi,hsz,hby,z,hz,hzs,hone,hzl⟩:=(hτ.td _ _ hd).info
 have hidl:id<H.length:=(lbe.1 hk).1
 have htl:(k.rows.take len).length=len:=by simp;omega
 intro a w ι M he hh hm hF
 obtain ⟨news,hn1,hn2,hn3⟩:=hx a w ι M he hh
 have hr:=(he.to hs).inv_c
 generalize hv:a.eval s=v at *
 cases hr with
 |@own _ _ _ _ b cap size A cap' hι q1 q2 q3 q4 q5=>
  obtain ⟨rfl,rfl,rfl⟩:=q5 rfl
  have hbr:=hh.blk id k hk (by rw [hlv];intro h;cases h) _ hι
  obtain rfl:size=d.size:=hbr.1.symm.trans hbk.1
  obtain ⟨olds,ho1,ho2⟩:=a4M hmp hbr (lo:=0) (len:=len) (by omega)
  rw [ai9] at ho1
  have hall:=ho1.append hn1
  have hlall:(k.rows.take len++xr).length=len+xr.length:=by rw [lbq,htl]
  by_cases hxr:xr.length=0
  ·have hxr':xr=[]:=lbG hxr
   subst hxr'
   have:news=[]:=lbG (by rw [hn1.len];simp)
   subst this
   rw [← hsz] at hn2
   have hrun:=run_append_nothing (P:=P) w t t o.type e i hu hi (some ⟨b,0,none⟩) len cap' q3 (a.eval x) hn2
   obtain ⟨r1,r2,r3,r4,r5,cur,r6,r7,r8⟩:=hbr
   rw [B7 hmp] at r6
   refine m8 (I7 ho hc ht ha (by rw [hv];exact hrun)) ?_
   have hleft:b8A w w k kd ap b b d.size (k.rows.take len++[]).length e cur:=by
    rcases hkd with h|⟨h1,h2,h3⟩
    ·exact .inl h
    ·exact .inr ⟨h1,h2,by rw [hlall];omega,.inr ⟨rfl,cur,by rw [r6,hbk.2],rfl,fun _ _=>rfl⟩⟩
   exact B4.append hh hm hF hk hlv hι hleft rfl rfl rfl (lbS _) (fun _ _ _=>rfl) (.inl rfl) (by rw [r6,hbk.2]) (by omega) hlall q3 r4.le hall.row r7 (fun i' j c' hc'=>by
    obtain ⟨row,s1,s2⟩:=x5 hc'
    rw [a1p,lbi] at s1
    split at s1
    ·exact r8 _ _ _ (p8 s1 s2)
    ·cases s1)
  ·obtain ⟨ad,c',hxe,hxc⟩:=hn3.resolve_left hxr
   by_cases hroom:len+xr.length<=cap'
   ·obtain ⟨r1,r2,r3,r4,r5,cur,r6,r7,r8⟩:=hbr
    rw [B7 hmp] at r6
    have hfit:len*i.size+news.length<=cur.size:=by
     rw [hn1.len,r7,hsz,←N4];exact lbU _ hroom
    have hg:w.heap[b]? =some (.cells cur e (0,0)):=by rw [r6,hbk.2]
    have hrun:=run_append_room (P:=P) w t o.type e i hu hi b len cap' cur hg ad xr.length c' news (by rw [hn1.len,hsz]) hxc hn1.one hroom hfit
    refine m8 (I7 ho hc ht ha (by rw [hv,hxe];exact hrun)) ?_
    have holds:olds=cur.toList.take (len*i.size):=by
     apply I6
     intro q
     by_cases hq:q<len*i.size
     ·have hlt:q<olds.length:=by rw [ho1.len,htl,←hsz];exact hq
      have e1:=ho2 q _ (lbf hlt)
      simp only [World.cell?,hg,a9Y,y3] at e1
      rw [lbf hlt,List.getElem?_take_of_lt hq,←e1]
      simp
     ·rw [lbd (by rw [ho1.len,htl,←hsz];omega),lbd (by simp;omega)]
    have hcs:(cur.toList.take (len*i.size)++news++cur.toList.drop (len*i.size+news.length)).toArray.size=cur.size:=by
     simp only [a8R,lbq,lbs,a3Q,a5j]
     omega
    have hleft:b8A w (w.setRow b (cur.toList.take (len*i.size)++news++cur.toList.drop (len*i.size+news.length)).toArray) k kd ap b b d.size (k.rows.take len++xr).length e (cur.toList.take (len*i.size)++news++cur.toList.drop (len*i.size+news.length)).toArray:=by
     rcases hkd with h|⟨h1,h2,h3⟩
     ·exact .inl h
     ·refine .inr ⟨h1,h2,by rw [hlall];omega,.inr ⟨rfl,cur,hg,hcs,fun q hq=>?_⟩⟩
      rw [← h3,←hsz] at hq
      rw [List.getElem?_toArray,lbE,lbb (by simp;omega),List.getElem?_take_of_lt hq]
      simp
    refine B4.append (cur:=(cur.toList.take (len*i.size)++news++cur.toList.drop (len*i.size+news.length)).toArray) hh hm hF hk hlv hι hleft rfl rfl rfl (by simp) (fun b' _ hb'=>setRow_other w b b' _ hb') (.inl rfl) (setRow_heap w b cur _ e _ hg) (by omega) hlall hroom r4.le hall.row ?_ (fun i' j c'' hc''=>?_)
    ·simp only [a8R,lbq,lbs,a3Q,a5j]
     omega
    ·obtain ⟨u,s1,s2⟩:=hall.cell _ _ _ hc''
     refine ⟨u,aO1 (rest:=cur.toList.drop (len*i.size+news.length)) ?_ s1,s2⟩
     rw [holds]
   ·obtain ⟨cap2,cur,r1,r2,r3,r4,r5⟩:=a1y (ty:=o.type) hτ hu hd h0 ho1 hn1 htl (base:=some ⟨b,0,none⟩) (sCap:=cap') (T1 (by rw [ho1.len,htl]) (.inr ⟨b,0,rfl,fun q u hq=>by have:=ho2 q u hq;simpa using this⟩)) hn2 (by omega) (by rw [htl];exact hbd)
    refine m8 (I7 ho hc ht ha (by rw [hv];exact r1)) ?_
    have hblt:b<w.heap.size:=x9 hbr.2.2.2.2.2.choose_spec.1
    have hleft:b8A w (w.drew.alloc (.cells cur e)) k kd ap b w.heap.size d.size (k.rows.take len++xr).length e cur:=by
     rcases hkd with h|⟨h1,h2,h3⟩
     ·exact .inl h
     ·exact .inr ⟨h1,h2,by rw [hlall];omega,.inl ⟨by omega,heap_alloc_old w.drew _ hblt⟩⟩
    exact B4.append hh hm hF hk hlv hι hleft rfl rfl rfl (by simp) (fun b' hb' _=>heap_alloc_old w.drew _ hb') (.inr (lbS _)) (heap_alloc_new w.drew _) (by omega) hlall r3 r4 hall.row r2 r5
 |nil hι=>
  rename_i A
  have hbr:=hh.blk id k hk (by rw [hlv];intro h;cases h) _ hι
  have hkr:k.rows=[]:=hbr
  have hset:∀nb:Blk,(H.set id kd)++[nb]=(H++[nb]).set id kd:=fun nb=>by
   rw [b28 _ _ hidl]
  rw [hset,hkr]
  have hfr:∀j,j<[I8 e d.size xr false].length->ι (H.length+j)=none:=fun j _=>hF _ (by omega)
  have hkill:∀{w':World} {s:S} {H':Hp} {v:Value},B4 w ι M H s H' v w'->B4 w ι M H s (H'.set id kd) v w':=fun h=>by
   rcases hkd with ⟨h1,_⟩|⟨rfl,_,_⟩
   ·exact B4.kill h1 id h
   ·exact B4.age (kd:=a3P k) rfl hkr hidl hι h
  by_cases hxr:xr=[]
  ·subst hxr
   have:news=[]:=lbG (by rw [hn1.len];simp)
   subst this
   rw [← hsz] at hn2
   have hrun:=run_append_nothing (P:=P) w t t o.type e i hu hi A 0 0 (lbS _) (a.eval x) hn2
   refine m8 (I7 ho hc ht ha (by rw [hv];exact hrun)) ?_
   exact hkill (C5.gpost hh hm hF C5.nil)
  ·have hpos:0<xr.length:=af7.2 hxr
   obtain ⟨cap,cur,q1,q2,q3,q4,q5⟩:=a1y (ty:=o.type) hτ hu hd h0 (u5.nil w ι M d.size) hn1 rfl (base:=A) (sLen:=0) (sCap:=0) (T1 (by simp) (.inl rfl)) hn2 (by simp;omega) (by simpa using hbd)
   refine m8 (I7 ho hc ht ha (by rw [hv];exact q1)) ?_
   simp only [a5n,y3,a8T,List.take_nil] at q3 q5 ⊢
   exact hkill (C5.gpost hh hm hF (C5.new rfl rfl rfl rfl (hfr 0 (by simp)) (by omega) q3 q4 hn1.row q2 q5 fun ι' M' hi'=>Y5 hi' q3 q4))
set_option maxHeartbeats 1000000 in
theorem an0 (hτ:v6 P τ) {c:Call} (ho:o.op=.call c) (hc:c.callee=.builtin .append) {t:TypeId} {s x:Operand} (ht:c.argTypes.toList=[t,t]) (ha:c.args.toList=[s,x])
 {Kq:S->List Blk->Prop} {Kg:S->Hp->Prop} (h:a1x τ ev H H.length t s x Kq Kg):(∃ s B,Kq s B∧QOp P o ev H s B)∨(∃ s H',Kg s H'∧GOp P o ev H s H'):=by
 unfold a1x at h
 split at h
 rotate_left
 ·exact h.elim
 rename_i e _ _ _ _ hte
 have hu:=G7 hτ hte
 split at h
 rotate_left
 ·exact h.elim
 rename_i d hd
 obtain ⟨hb,h⟩:=Q0 h
 have h0:d.size≠0:=by intro e;simp [e] at hb
 obtain ⟨xr,h,hx⟩:=aS5 hτ hu h
 obtain ⟨i,hi,hsz,hby,z,hz,hzs,hone,hzl⟩:=(hτ.td _ _ hd).info
 split at h
 ·rename_i sz rows hs
  obtain ⟨hbd,h⟩:=h
  refine .inl ⟨_,_,h,fun a w ι M he hh hm hf=>?_⟩
  obtain ⟨news,hn1,hn2,_⟩:=hx a w ι M he hh
  have hr:=(he.to hs).inv_t
  generalize hv:a.eval s=v at *
  cases hr with
  |@sl _ _ _ b off cap A f hrow hcap hmax hk hnil hA hc' hr=>
   obtain ⟨rfl,rfl,rfl⟩:=hnil rfl
   by_cases hxr:xr=[]
   ·subst hxr
    have:news=[]:=lbG (by rw [hn1.len];simp)
    subst this
    rw [← hsz] at hn2
    have hrun:=run_append_nothing (P:=P) w t t o.type e i hu hi none 0 0 (lbS _) (a.eval x) hn2
    exact m8 (I7 ho hc ht ha (by rw [hv];exact hrun)) C5.nil
   ·have hpos:0<xr.length:=af7.2 hxr
    obtain ⟨cap,cur,q1,q2,q3,q4,q5⟩:=a1y (ty:=o.type) hτ hu hd h0 (u5.nil w ι M d.size) hn1 rfl (base:=none) (sLen:=0) (sCap:=0) (T1 (by simp) (.inl rfl)) hn2 (by omega) (by simpa using hbd)
    refine m8 (I7 ho hc ht ha (by rw [hv];exact q1)) ?_
    simp only [y3,a8T] at q3 q5 ⊢
    exact C5.new rfl rfl rfl rfl (hf 0 (by simp)) (by omega) q3 q4 hn1.row q2 q5 fun ι' M' hi'=>Y5 hi' q3 q4
 ·rename_i sz rows hs
  obtain ⟨⟨hcd,hbd⟩,h⟩:=h
  refine .inl ⟨_,_,h,fun a w ι M he hh hm hf=>?_⟩
  obtain ⟨news,hn1,hn2,_⟩:=hx a w ι M he hh
  have hr:=(he.to hs).inv_t
  generalize hv:a.eval s=v at *
  cases hr with
  |@sl _ _ _ b off cap A f hrow hcap hmax hk hnil hA hc' hr=>
   obtain rfl:=hk rfl
   by_cases hxr:xr=[]
   ·subst hxr
    have hr0:rows=[]:=by
     rcases hcd with h|⟨h,_⟩
     ·exact lbG h
     ·simp at h
    subst hr0
    have:news=[]:=lbG (by rw [hn1.len];simp)
    subst this
    rw [← hsz] at hn2
    have hrun:=run_append_nothing (P:=P) w t t o.type e i hu hi A 0 0 (lbS _) (a.eval x) hn2
    exact m8 (I7 ho hc ht ha (by rw [hv];exact hrun)) C5.nil
   ·have hpos:0<xr.length:=af7.2 hxr
    have hbase:∃vals,u5 w ι M d.size (toC rows) vals∧(vals=[]∨∃b off,A=some ⟨b,off,none⟩∧∀q u,vals[q]? =some u->w.cell? ⟨b,off+q,none⟩=some u):=by
     by_cases hr0:rows=[]
     ·subst hr0;exact ⟨[],u5.nil w ι M d.size,.inl rfl⟩
     ·have hsz':sz=d.size:=by
       rcases hcd with h|⟨_,h⟩
       ·exact absurd (lbG h) hr0
       ·exact h
      subst hsz'
      obtain ⟨_,vals,h1,h2⟩:=aV7 (ι:=ι) (RT.sl f hrow hcap hmax hk hnil hA hc' hr)
      exact ⟨vals,h1,.inr (h2 hr0)⟩
    obtain ⟨vals,hv1,hv2⟩:=hbase
    have hl:(toC rows).length=rows.length:=by simp [toC]
    obtain ⟨cap,cur,q1,q2,q3,q4,q5⟩:=a1y (ty:=o.type) hτ hu hd h0 hv1 hn1 hl (base:=A) (sCap:=rows.length) (T1 (by rw [hv1.len,hl]) hv2) hn2 (by omega) (by rw [hl];exact hbd)
    refine m8 (I7 ho hc ht ha (by rw [hv];exact q1)) ?_
    exact C5.new rfl rfl rfl rfl (hf 0 (by simp)) (by omega) (by rw [lbq,hl];exact q3) q4 (hv1.append hn1).row q2 q5 fun ι' M' hi'=>Y5 hi' q3 q4
 ·rename_i id lo len hs
  obtain ⟨k,hk,h⟩:=H9 h
  obtain ⟨hbk,h⟩:=w8 h
  have hbk:k.size=d.size∧k.elem=e:=by simpa using hbk
  obtain ⟨⟨hlv,hmp⟩,⟨hap,⟨hlen,hbd⟩,h⟩|⟨hap,⟨hlen,hbd⟩,h⟩⟩:=aD4 h
  ·rw [x3,S0] at h
   have:=a8D hτ ho hc ht ha hu hd h0 hx hs hk hlv hmp (Nat.le_of_eq hlen) hbd hbk (kd:=a3P k) (ap:=true) (.inr ⟨rfl,rfl,hlen⟩)
   rw [hlen,lbn (lbS _)] at this
   rw [hlen] at h
   exact .inr ⟨_,_,h,this⟩
  ·rw [x3,S0] at h
   exact .inr ⟨_,_,h,a8D hτ ho hc ht ha hu hd h0 hx hs hk hlv hmp hlen hbd hbk (.inl ⟨rfl,hap⟩)⟩
 ·exact h.elim
theorem an5 {z:Array Value} {size n i j:Nat} (hz:z.size=size) (hi:i<n) (hj:j<size):(Builtin.zeroCells z n)[i*size+j]? =z[j]?:=by
 rw [← a24 hz hi hj,←hz];rfl
theorem a93 {w:World} {t tx ty e:TypeId} {k:IntKind} {i:TypeInfo} {z:Value} (ht:P.underlying t=some (.slice e)) (hx:P.underlying tx=some (.int k)) (hi:P.info? e=some i) (hz:i.zero=some z) (h0:i.size≠0)
 {m:Nat} (h1:1<=m) (hb:m*(i.bytes+1)<=140737488355328):
 (Builtin.append_ #[t,tx] ty #[.slice none 0 0,.int .i64 m]).run P w=
   .ok (.slice (some ⟨w.heap.size,0,none⟩) m (grownCap w m 0 e)) (w.drew.alloc (.cells (Builtin.zeroCells z.cells m++Builtin.zeroCells z.cells (grownCap w m 0 e - m)) e)):=by
 have hb1:m*i.bytes<=140737488355328:=lbT (Nat.mul_le_mul_left _ (Nat.le_succ _)) hb
 have hb2:m<=140737488355328:=lbT (aw3 _ (Nat.succ_pos i.bytes)) hb
 have hfit:=growslice_fits (need:=m) (old:=0) (by omega) hb1
 have h48':¬(281474976710656<Builtin.nextslicecap m 0*i.bytes):=by omega
 have h63':¬(9223372036854775807<(m:Int)):=by omega
 have hbi:(m:Int)*(i.bytes:Int)<=140737488355328:=by
  have:=Int.ofNat_le.2 hb1
  simpa using this
 have h47:¬(281474976710656<(m:Int)*(i.bytes:Int)):=by omega
 have hw:IntKind.i64.wrap (m:Int)=m:=IntWalk.i64_in m ⟨by omega,by omega⟩
 have hm0:¬m=0:=by omega
 have hneg:¬((m:Int)<0):=by omega
 simp [asIntOf,Builtin.append_,run_underlying ht,run_underlying hx,sizeOf,typeInfo,zeroValue,hi,hz,hw,h0,hm0,hneg,h47,h63',h48',Question.forced,Builtin.firstCells,newRow,grownCap,asInt]
 intro h
 rcases Nat.mul_eq_zero.1 h with h|h<;>omega
theorem aQ3 (hτ:v6 P τ) {c:Call} (ho:o.op=.call c) (hc:c.callee=.builtin .append) {t t':TypeId} {s x:Operand} (ht:c.argTypes.toList=[t,t']) (ha:c.args.toList=[s,x])
 {Kq:S->List Blk->Prop} (h:b2G τ ev H.length t t' s x Kq):∃s B,Kq s B∧QOp P o ev H s B:=by
 unfold b2G at h
 split at h
 rotate_left
 ·exact h.elim
 rename_i e _ _ _ _ k _ _ _ _ hte htx
 have hu:=G7 hτ hte
 have hux:P.underlying t'=some (.int k):=by
  obtain ⟨u,h1,h2⟩:=(hτ.td _ _ htx).und
  obtain ⟨_,rfl⟩:=h2
  exact h1
 split at h
 rotate_left
 ·exact h.elim
 rename_i d hd
 obtain ⟨hb,h⟩:=Q0 h
 have h0:d.size≠0:=by intro e;simp [e] at hb
 obtain ⟨i,hi,hsz,hby,z,hz,hzs,hone,hzl⟩:=(hτ.td _ _ hd).info
 split at h
 rotate_left
 ·exact h.elim
 rename_i sz rows m hs hx
 obtain ⟨⟨hm1,hbd⟩,h⟩:=h
 rw [D2] at h
 refine ⟨_,_,h,fun a w ι M he hh hm hf=>?_⟩
 have hr:=(he.to hs).inv_t
 have hxv:=(he.to hx).inv_atm
 generalize hv:a.eval s=v at *
 cases hr with
 |@sl _ _ _ b off cap A f hrow hcap hmax hk hnil hA hc' hr=>
  obtain ⟨rfl,rfl,rfl⟩:=hnil rfl
  obtain ⟨q,rfl⟩:∃q:Nat,m=q:=⟨m.toNat,by omega⟩
  simp only [lbY] at hbd
  have hrun:=a93 (P:=P) (w:=w) (ty:=o.type) hu hux hi hz (by omega) (m:=q) (by omega) (by rw [hby];exact hbd)
  have hzc:z.cells.size=i.size:=by rw [hsz,←hzl,←hzs];simp
  have hb2:q<=140737488355328:=lbT (aw3 _ (Nat.succ_pos d.bytes)) hbd
  have hge:=grownCap_ge w q 0 e
  have hmx:=grownCap_le_maxLen w q 0 e (b14 hb2)
  obtain ⟨ha1,ha2⟩:=a20.const (w:=w) (ι:=ι) (M:=M) (vs:=z.cells) (by rw [hzs];exact hone)
  rw [hzs] at ha1 ha2
  refine m8 (w':=w.drew.alloc (.cells (Builtin.zeroCells z.cells q++Builtin.zeroCells z.cells (grownCap w q 0 e - q)) e)) (v:=.slice (some ⟨w.heap.size,0,none⟩) q (grownCap w q 0 e)) ?_ ?_
  ·obtain ⟨callee,args,argTypes⟩:=c
   simp only at hc ht ha
   subst hc
   obtain rfl:argTypes=#[t,t']:=by apply Array.ext';simpa using ht
   obtain rfl:args=#[s,x]:=by apply Array.ext';simpa using ha
   simp [execOp,ho,resolve,invoke,builtin,hv,hxv,hrun]
  ·simp only [lbY]
   refine C5.new (cap:=grownCap w q 0 e) rfl rfl rfl rfl (hf 0 (by simp)) (by omega) (by simpa using hge) hmx ?_ ?_ ?_ fun ι' M' hi'=>Y5 hi' hge hmx
   ·intro r hr
    rw [(a8Z.1 hr).2,←ha1,hzc,hsz]
   ·rw [Array.size_append,size_zeroCells,size_zeroCells,hzc,hsz,←N4]
    congr 1;omega
   ·intro i' j c' hij
    obtain ⟨row,hr1,hr2⟩:=x5 hij
    rw [lbk] at hr1
    split at hr1
    ·rename_i hlt
     injection hr1 with hr1
     subst hr1
     obtain ⟨u,q1,q2⟩:=ha2 j c' hr2
     have hj:j<i.size:=by rw [← hzc];exact (lb5.1 q1).1
     refine ⟨u,?_,q2⟩
     have hlt2:i'*d.size+j<q*d.size:=by
      have:i'*d.size+d.size<=q*d.size:=by rw [← lbV];exact lbU _ hlt
      omega
     rw [Array.getElem?_append_left (by rw [size_zeroCells,hzc,hsz];exact hlt2),←hsz,an5 hzc hlt hj,q1]
    ·cases hr1
theorem aX1 (hτ:v6 P τ) {c:Call} (ho:o.op=.call c) (hc:c.callee=.builtin .cap) {t:TypeId} {x:Operand} (ht:c.argTypes.toList=[t]) (ha:c.args.toList=[x]) {K:S->Prop}
 (h:be2 τ t (ev x) K):∃s,K s∧QOp P o ev H s []:=by
 obtain ⟨callee,args,argTypes⟩:=c
 simp only at hc ht ha
 subst hc
 obtain rfl:argTypes=#[t]:=by apply Array.ext';simpa using ht
 obtain rfl:args=#[x]:=by apply Array.ext';simpa using ha
 unfold be2 at h
 split at h
 ·rename_i e _ _ _ _ hte
  have hu:=G7 hτ hte
  split at h
  ·rename_i sz rows hx
   refine ⟨_,h,i6 fun a w ι M he hh=>⟨.int .i64 0,?_,.int⟩⟩
   have hr:=(he.to hx).inv_t
   generalize hv:a.eval x=v at *
   cases hr with
   |@sl _ _ _ b off cap A f hrow hcap hmax hk hnil hA hc' hr=>
    obtain ⟨rfl,rfl,rfl⟩:=hnil rfl
    simp [execOp,ho,resolve,invoke,builtin,Builtin.cap_,hv,run_underlying hu,goInt]
  ·exact h.elim
 ·exact h.elim
end
end
section
open Go.RowKit
theorem a6b {w:World} {b:Nat} {k:Blk} {rows:List (List C)} {cur:Array Value} (hmp:k.mp=false) (h:w.heap[b]? =some (.cells cur k.elem (0,0))):w.heap[b]? =some (a2E (p5 k rows) cur):=by
 rw [B7 (show (p5 k rows).mp=false from hmp)];exact h
section
variable {P:Program} {τ:Tab} {o:Oper} {ev:Operand->S} {H:Hp}
theorem B4.store {w w':World} {ι:Io} {M:Ms} (hH:j3 w ι M H) (hM:MB w M) (hF:a1c ι H.length) {id b cap size:Nat} {k k':Blk} (hk:H[id]? =some k) (hl:k.mode=.live) (hap:k.app=false)
 (hi:ι id=some (.blk b cap size)) (hl':k'.mode=.live) (hos:w'.os=w.os) (htape:w'.tape=w.tape) (hout:w'.output=w.output)
 (hsize:w'.heap.size=w.heap.size) (hkeep:∀b',b'≠b->w'.heap[b']? =w.heap[b']?) (hnew:E8 w' ι M k' (.blk b cap size)):
 B4 w ι M H .junk (H.set id k') undef w':=by
 have hMb:M b:=hH.liv id k hk hl b cap size hi
 have hget:∀j kk,(H.set id k')[j]? =some kk->(j=id∧kk=k')∨(j≠id∧H[j]? =some kk):=fun j kk hj=>I4 hj
 refine ⟨ι,M,.junk,⟨?_,?_,?_,?_,?_⟩,fun b' h=>by rw [hsize];exact hM b' h,by simpa using hF,⟨hos,htape,hout,by omega,?_,fun _ _=>rfl,fun b' h=>.inl h,fun b' h=>.inl h,?_,by simp⟩⟩
 ·intro j kk hj hd l hl2
  rcases hget j kk hj with ⟨rfl,rfl⟩|⟨h1,h2⟩
  ·rw [hi] at hl2;injection hl2 with hl2;subst hl2;exact hnew
  ·exact hH.other hk hl hi hap (fun b' _ h=>hkeep b' h) (fun b' h=>.inl h) (fun _ _ h=>h) j kk h1 h2 hd l hl2
 ·intro j kk hj hm
  rcases hget j kk hj with ⟨rfl,rfl⟩|⟨h1,h2⟩
  ·exact hH.liv j k hk hl
  ·exact hH.liv j kk h2 hm
 ·intro j kk hj hm
  rcases hget j kk hj with ⟨rfl,rfl⟩|⟨h1,h2⟩
  ·rw [hl'] at hm;cases hm
  ·exact hH.fro j kk h2 hm
 ·intro j j' kk kk' hj hj' hm hm'
  rcases hget j kk hj with ⟨rfl,rfl⟩|⟨h1,h2⟩<;>rcases hget j' kk' hj' with ⟨rfl,rfl⟩|⟨h1',h2'⟩
  ·intros;rfl
  ·exact hH.inj _ _ _ _ hk h2' hl hm'
  ·exact hH.inj _ _ _ _ h2 hk hm hl
  ·exact hH.inj _ _ _ _ h2 h2' hm hm'
 ·intro j j' kk kk' hj hj' hm hm' b' c s c' s' hij hij'
  rcases hget j kk hj with ⟨rfl,rfl⟩|⟨h1,h2⟩
  ·rw [hl'] at hm;cases hm
  ·rcases hget j' kk' hj' with ⟨rfl,rfl⟩|⟨h1',h2'⟩
   ·have:=(hH.old _ _ _ _ h2 hk hm hl _ _ _ _ _ hij hij').1
    rw [hap] at this;cases this
   ·exact hH.old _ _ _ _ h2 h2' hm hm' _ _ _ _ _ hij hij'
 ·intro b' _ hnl
  exact hkeep b' (by rintro rfl;exact hnl ⟨id,k,cap,size,hk,hl,hi⟩)
 ·rintro b' ⟨j,kk,c',s',hj,hm,hi'⟩
  rcases hget j kk hj with ⟨rfl,rfl⟩|⟨h1,h2⟩
  ·exact .inl ⟨j,k,c',s',hk,hl,hi'⟩
  ·exact .inl ⟨j,kk,c',s',h2,hm,hi'⟩
theorem a9e {t:TypeId} {d:TD} (h:az1 P t d) {w:World} {b off:Nat} {e:TypeId} {cur:Array Value} {v:Value} (hg:w.heap[b]? =some (.cells cur e (0,0))) (hs:v.cells.size=d.size)
 (hl:off+v.cells.size<=cur.size) (h1:∀u ∈ v.cells.toList,u.oneCell'=true):
 (Instr.storeAt t (.pointer (some ⟨b,off,none⟩)) v).run P w=.ok () (w.setRow b (cur.toList.take off++v.cells.toList++cur.toList.drop (off+v.cells.size)).toArray):=by
 have:=run_storeCells_at P b off e v.cells.toList 0 cur w hg (by simpa using hl) h1
 simp only [at7,a5j] at this
 simp [Instr.storeAt,Instr.sureAddr,storeVar,a2G h,hs,this]
theorem az6 (hτ:v6 P τ) {t:TypeId} {x v:Operand} (ho:o.op=.store t x v) {K:Hp->Prop} (h:a8e τ ev H t x v K):∃H',K H'∧GOp P o ev H .junk H':=by
 unfold a8e at h
 split at h
 ·exact h.elim
 rename_i d hd
 split at h
 rotate_left
 ·exact h.elim
 rename_i id r o' hx
 obtain ⟨k,hk,h⟩:=H9 h
 obtain ⟨⟨hlv,hmp⟩,hap,h⟩:=a3a h
 obtain ⟨cs,h,hcs⟩:=a11 h
 obtain ⟨hsz,h⟩:=w8 h
 have hsz:cs.length=d.size:=by simpa using hsz
 obtain ⟨row,hrow,h,hbox⟩:=aR9 h
 by_cases hne:cs=[]
 · -- nothing is stored
   subst hne
   have hov:∀{kk:List C->Prop},a3m o' [] row kk->kk row:=fun {kk} hh=>by cases row<;>cases o'<;>exact hh
   have h:=hov h
   have hsame:∀rows,p5 k rows=k↔rows=k.rows:=fun rows=>⟨fun e=>by rw [← congrArg Blk.rows e];rfl,fun e=>by subst e;cases k;rfl⟩
   have hset:H.set id k=H:=by
    apply I6
    intro j
    by_cases hj:j=id
    ·subst hj;rw [List.getElem?_set_self (lbe.1 hk).1,hk]
    ·rw [getElem?_set_ne' hj]
   have hK:K H:=by
    split at h
    ·rename_i hb
     rw [x3,(hsame _).2 (by rw [(hbox hb).1]),hset] at h
     exact h
    ·rw [x3,(hsame _).2 (by
      apply I6
      intro j
      by_cases hj:j=r
      ·subst hj;rw [List.getElem?_set_self (lbe.1 hrow).1,hrow]
      ·rw [List.getElem?_set_ne (Ne.symm hj)]),hset] at h
     exact h
   refine ⟨H,hK,fun a w ι M he hh hm hF=>?_⟩
   have hv:=(he v).cells hcs
   generalize hvx:a.eval x=vx
   have hr:=(he.to hx).inv_c
   rw [hvx] at hr
   cases hr with
   |@ptr _ _ _ b cap size hi=>
    have hbr:=hh.blk id k hk (by rw [hlv];intro h;cases h) _ hi
    obtain ⟨q1,q2,q3,q4,q5,cur,q6,q7,q8⟩:=hbr
    rw [B7 hmp] at q6
    have hc0:(a.eval v).cells.toList=[]:=lbG (by simpa using hv.1)
    have hrun:(Instr.storeAt t (.pointer (some ⟨b,r*size+o',none⟩)) (a.eval v)).run P w=.ok () w:=by
     simp [Instr.storeAt,Instr.sureAddr,storeVar,a2G (hτ.td t d hd),hc0,storeCells,show (a.eval v).cells.size=d.size by rw [hv.1];exact hsz]
    refine a7L (by simp only [execOp,ho,hvx,Sem.run_bind,hrun,Result.andThen_ok];rfl) ⟨ι,M,.junk,hh,hm,hF,a3x.refl w ι M H⟩
 ·obtain ⟨hlen,h'⟩:=a7n h hne
  clear h
  revert h'
  intro h
  have hH':∃rows',K (H.set id (p5 k rows'))∧rows'.length=k.rows.length∧rows'=k.rows.set r (row.take o'++cs++row.drop (o'+cs.length)):=by
   split at h
   ·rename_i hb
    rw [x3] at h
    obtain ⟨e1,e2⟩:=hbox hb
    exact ⟨_,h,by rw [e1];rfl,by rw [e1,e2];rfl⟩
   ·rw [x3] at h
    exact ⟨_,h,by simp,rfl⟩
  obtain ⟨rows',hK,hrl,hrows'⟩:=hH'
  refine ⟨_,hK,fun a w ι M he hh hm hF=>?_⟩
  have hv:=(he v).cells hcs
  generalize hvx:a.eval x=vx
  have hr:=(he.to hx).inv_c
  rw [hvx] at hr
  cases hr with
  |@ptr _ _ _ b cap size hi=>
   have hbr:=hh.blk id k hk (by rw [hlv];intro h;cases h) _ hi
   have hMb:=hh.liv id k hk hlv _ _ _ hi
   obtain ⟨q1,q2,q3,q4,q5,cur,q6,q7,q8⟩:=hbr
   rw [B7 hmp] at q6
   have hrlen:row.length=size:=q5 row (lbm hrow)
   have hr0:r<k.rows.length:=(lbe.1 hrow).1
   have hmul:r*size+size<=cap*size:=by rw [← lbV];exact lbU _ (by omega)
   have hfit:r*size+o'+(a.eval v).cells.size<=cur.size:=by rw [hv.1,q7];omega
   have hrun:=a9e (hτ.td t d hd) (b:=b) (off:=r*size+o') q6 (by rw [hv.1];exact hsz) hfit hv.one
   refine a7L (by simp only [execOp,ho,hvx,Sem.run_bind,hrun,Result.andThen_ok];rfl) ?_
   have hkeep:∀b',b'≠b->(w.setRow b (cur.toList.take (r*size+o')++(a.eval v).cells.toList++cur.toList.drop (r*size+o'+(a.eval v).cells.size)).toArray).heap[b']? =w.heap[b']?:=fun b' hb'=>setRow_other w b b' _ hb'
   refine B4.store hh hm hF hk hlv hap hi (by exact hlv) rfl rfl rfl (by simp) hkeep ⟨q1,q2,by show rows'.length<=cap;omega,q4,?_,_,(a6b hmp (setRow_heap w b cur _ k.elem _ q6)),?_,?_⟩
   ·show ∀r ∈ rows',r.length=size
    rw [hrows']
    intro r' hr'
    rcases b4u hr' with h|rfl
    ·exact q5 r' h
    ·simp;omega
   ·simp only [a8R,lbq,lbs,a3Q,a5j]
    omega
   ·intro i j c hc
    obtain ⟨row',s1,s2⟩:=x5 hc
    have s1':rows'[i]? =some row':=s1
    rw [hrows'] at s1'
    have keepc:∀{c:C} {u:Value},RC w ι M c u->RC (w.setRow b (cur.toList.take (r*size+o')++(a.eval v).cells.toList++cur.toList.drop (r*size+o'+(a.eval v).cells.size)).toArray) ι M c u:=
     fun h=>h.keep (fun b' _ hb'=>hkeep b' (by rintro rfl;exact hb' hMb)) (fun b' h=>.inl h) (fun _ _ h=>h)
    have hlt:i<k.rows.length:=by have:=(lbe.1 s1).1;rw [← hrl];exact this
    by_cases hir:i=r
    ·subst hir
     rw [List.getElem?_set_self hlt] at s1'
     injection s1' with s1'
     subst s1'
     have hj:j<size:=by have:=(lbe.1 s2).1;simp at this;omega
     by_cases hj1:j<o'
     ·rw [lbE,lbb (by simp;omega),List.getElem?_take_of_lt hj1] at s2
      obtain ⟨u,t1,t2⟩:=q8 i j c (p8 hrow s2)
      refine ⟨u,?_,keepc t2⟩
      rw [List.getElem?_toArray,lbE,lbb (by simp;omega),List.getElem?_take_of_lt (by omega)]
      simpa using t1
     ·by_cases hj2:j<o'+cs.length
      ·rw [lbb (by simp;omega),lbc (by simp;omega)] at s2
       rw [show (row.take o').length=o' by simp;omega] at s2
       obtain ⟨u,t1,t2⟩:=hv.2 _ _ s2
       refine ⟨u,?_,keepc t2⟩
       have hvl:=hv.1
       rw [List.getElem?_toArray,lbb (by simp;omega),lbc (by simp;omega)]
       rw [show (cur.toList.take (i*size+o')).length=i*size+o' by simp;omega,show i*size+j - (i*size+o')=j - o' by omega]
       simpa using t1
      ·rw [lbc (by simp;omega),lbj] at s2
       rw [show (row.take o'++cs).length=o'+cs.length by simp;omega,show o'+cs.length+(j - (o'+cs.length))=j by omega] at s2
       obtain ⟨u,t1,t2⟩:=q8 i j c (p8 hrow s2)
       refine ⟨u,?_,keepc t2⟩
       have hvl:=hv.1
       rw [List.getElem?_toArray,lbc (by simp;omega),lbj]
       rw [show (cur.toList.take (i*size+o')++(a.eval v).cells.toList).length=i*size+o'+(a.eval v).cells.size by simp;omega,
        show i*size+o'+(a.eval v).cells.size+(i*size+j - (i*size+o'+(a.eval v).cells.size))=i*size+j by omega]
       simpa using t1
    ·rw [List.getElem?_set_ne (Ne.symm hir)] at s1'
     obtain ⟨u,t1,t2⟩:=q8 i j c (p8 s1' s2)
     refine ⟨u,?_,keepc t2⟩
     have hj:j<size:=by rw [← q5 row' (lbm s1')];exact (lbe.1 s2).1
     have hvl:=hv.1
     rcases at6 hir with hlt'|hgt'
     ·have:i*size+size<=r*size:=by rw [← lbV];exact lbU _ hlt'
      rw [List.getElem?_toArray,lbE,lbb (by simp;omega),List.getElem?_take_of_lt (by omega)]
      simpa using t1
     ·have:r*size+size<=i*size:=by rw [← lbV];exact lbU _ hgt'
      rw [List.getElem?_toArray,lbc (by simp;omega),lbj]
      rw [show (cur.toList.take (r*size+o')++(a.eval v).cells.toList).length=r*size+o'+(a.eval v).cells.size by simp;omega,
       show r*size+o'+(a.eval v).cells.size+(i*size+j - (r*size+o'+(a.eval v).cells.size))=i*size+j by omega]
      simpa using t1
theorem ap8 {size:Nat}:∀(parts:List (Nat × S)) (rows:List (List C)) {k:List (List C)->Prop},aq7 size rows parts k->∃c,k c∧aq7 size rows parts (·=c)
 |[],rows,k,h=>⟨rows,h,rfl⟩
 |(i,s)::rest,rows,k,h=>by
  obtain ⟨cs,h,hcs⟩:=a5C h
  obtain ⟨hb,h⟩:=w8 h
  rw [x3] at h
  obtain ⟨c,h1,h2⟩:=ap8 rest _ h
  refine ⟨c,h1,a3M hcs ?_⟩
  rintro _ rfl
  simp only [hb,cond_true]
  rw [x3]
  exact h2
theorem aw5 {w:World} {ι:Io} {M:Ms} {a:Act} (he:L8 w ι M ev a) {size:Nat} (h0:0<size):∀(parts:List (Nat × Operand)) (rows:List (List C)) (arr:Array Value) {k:List (List C)->Prop},
 u5 w ι M size rows arr.toList->aq7 size rows (parts.map fun p=>(p.1,ev p.2)) k->
 ∃rows',k rows'∧rows'.length=rows.length∧∃r,Instr.fill (fun i=>some (i*size,size)) arr (parts.map fun p=>(p.1,a.eval p.2))=some r∧u5 w ι M size rows' r.toList
 |[],rows,arr,k,hr,h=>⟨rows,h,rfl,arr,rfl,hr⟩
 |(i,x)::rest,rows,arr,k,hr,h=>by
  obtain ⟨cs,h,hcs⟩:=a11 h
  obtain ⟨hb,h⟩:=w8 h
  rw [x3] at h
  have hb:cs.length=size∧i<rows.length:=by simpa [K5] using hb
  have hv:=(he x).cells hcs
  have hlen:=hr.len
  rw [a5j] at hlen
  have hmul:i*size+size<=rows.length*size:=by rw [← lbV];exact lbU _ hb.2
  obtain ⟨r0,hr0,hs0,hm0⟩:=ac7 (i*size) (a.eval x).cells arr (by rw [hv.1,hb.1,hlen];exact hmul)
  have hok:u5 w ι M size (rows.set i cs) r0.toList:=by
   refine ⟨by rw [a5j,hs0,hlen,List.length_set],?_,?_⟩
   ·intro r hr'
    rcases b4u hr' with h|rfl
    ·exact hr.row r h
    ·exact hb.1
   ·intro i' j c hc
    obtain ⟨row,s1,s2⟩:=x5 hc
    rw [Array.getElem?_toList,hm0,hv.1,hb.1]
    by_cases hi:i'=i
    ·subst hi
     rw [List.getElem?_set_self hb.2] at s1
     injection s1 with s1
     subst s1
     have hj:j<size:=by rw [← hb.1];exact (lbe.1 s2).1
     rw [if_pos (by omega),show i'*size+j - i'*size=j by omega]
     exact hv.2 j c s2
    ·rw [List.getElem?_set_ne (Ne.symm hi)] at s1
     have hj:j<size:=by rw [← hr.row row (lbm s1)];exact (lbe.1 s2).1
     have hno:¬(i*size<=i'*size+j∧i'*size+j<i*size+size):=by
      rintro ⟨h1,h2⟩
      rcases at6 hi with h|h
      ·have:i'*size+size<=i*size:=by rw [← lbV];exact lbU _ h
       omega
      ·have:i*size+size<=i'*size:=by rw [← lbV];exact lbU _ h
       omega
     rw [if_neg hno]
     have:=hr.cell i' j c (p8 s1 s2)
     simpa using this
  obtain ⟨rows',hk,hl',r,q1,q2⟩:=aw5 he h0 rest _ r0 hok h
  refine ⟨rows',hk,by simpa using hl',r,?_,q2⟩
  simp only [a3q,Instr.fill]
  rw [if_neg (by have q1:=hv.1;simp;omega),hr0]
  exact q1
theorem b2C {w:World} {ι:Io} {M:Ms} {z:Array Value} {size n:Nat} (hz:z.size=size) (hone:∀v ∈ z.toList,v.oneCell'=true):u5 w ι M size (List.replicate n (z.toList.map t6)) (madeCells z (n*size)).toList:=by
 refine ⟨by simp [madeCells],?_,?_⟩
 ·intro r hr
  rw [(a8Z.1 hr).2];simp [hz]
 ·intro i j c hc
  obtain ⟨row,s1,s2⟩:=x5 hc
  rw [lbk] at s1
  split at s1
  ·rename_i hi
   injection s1 with s1
   subst s1
   obtain ⟨u,q1,q2⟩:=(a20.const (w:=w) (ι:=ι) (M:=M) hone).2 j c s2
   have hj:j<size:=by rw [← hz];exact (lb5.1 q1).1
   exact ⟨u,by rw [Array.getElem?_toList,a24 hz hi hj];exact q1,q2⟩
  ·cases s1
theorem a7a (hτ:v6 P τ) {t:TypeId} {len:Nat} {parts:Array (Nat × Operand)} (ho:o.op=.buildSlice t len parts) {K:S->List Blk->Prop} (h:K4 τ ev H.length t len parts.toList K):
 ∃s B,K s B∧QOp P o ev H s B:=by
 unfold K4 at h
 split at h
 rotate_left
 ·exact h.elim
 rename_i e _ _ _ _ ht
 have hu:=G7 hτ ht
 split at h
 rotate_left
 ·exact h.elim
 rename_i d hd
 obtain ⟨hb,h⟩:=Q0 h
 rw [D2] at h
 have hb:d.size≠0∧len*d.size<16777216:=by
  rw [a5l] at hb
  refine ⟨by intro e;simp [e] at hb,?_⟩
  have:=hb.2
  rw [← lbR,a8O] at this
  omega
 obtain ⟨i,hi,hsz,hby,z,hz,hzs,hone,hzl⟩:=(hτ.td _ _ hd).info
 have hzsz:z.cells.size=d.size:=by rw [← hzl,←hzs];simp
 obtain ⟨rows,h,hdet⟩:=ap8 _ _ h
 have key:∀(a:Act) (w:World) (ι:Io) (M:Ms),L8 w ι M ev a->∃r:Array Value,(Instr.buildSlice t len (parts.map fun (i,x)=>(i,a.eval x))).run P w=.ok (.slice (some ⟨w.heap.size,0,none⟩) len len) (w.alloc (.cells r e))∧
  u5 w ι M d.size rows r.toList∧rows.length=len:=by
  intro a w ι M he
  obtain ⟨rows',rfl,hl,r,q1,q2⟩:=aw5 he (size:=d.size) (by omega) parts.toList _ (madeCells z.cells (len*d.size)) (by
   have:=b2C (w:=w) (ι:=ι) (M:=M) (n:=len) hzsz (by rw [hzs];exact hone)
   rw [hzs] at this
   exact this) hdet
  by_cases hl0:len=0
  ·subst hl0
   have hr0:r=#[]:=by
    have:=q2.len
    rw [hl] at this
    simp at this
    exact this
   refine ⟨r,?_,q2,by simpa using hl⟩
   have q1':Instr.fill (fun i=>some (i*d.size,d.size)) #[] (parts.toList.map fun p=>(p.1,a.eval p.2))=some r:=by
    simpa [madeCells,Array.range_zero'] using q1
   simp [Instr.buildSlice,run_underlying hu,sizeOf,typeInfo,hi,hsz,newRow,q1',Array.range_zero']
  ·refine ⟨r,?_,q2,by simpa using hl⟩
   refine run_buildSlice w t e len _ r i z hu hi hz (by rw [hsz];omega) (by rw [hsz];intro h;rcases Nat.mul_eq_zero.1 h with h|h<;>omega) ?_
   rw [a8h,hsz]
   exact q1
 have hown:K (.c (.own H.length 0 len true)) [I8 e d.size rows false]->∃s B,K s B∧QOp P o ev H s B:=fun h=>by
  refine ⟨_,_,h,fun a w ι M he hh hm hf=>?_⟩
  obtain ⟨r,q1,q2,q3⟩:=key a w ι M he
  have hmx:len<=maxLen:=by
   have:len<=len*d.size:=aw3 _ (by omega)
   unfold maxLen;omega
  refine m8 (by simp only [execOp,ho,Sem.run_bind,q1,Result.andThen_ok];rfl) ?_
  refine C5.new (cap:=len) (cur:=r) rfl rfl rfl rfl (hf 0 (by simp)) (by omega) (by omega) hmx q2.row (by have:=q2.len;rw [q3] at this;simpa using this) (fun i j c hc=>by
   obtain ⟨u,s1,s2⟩:=q2.cell i j c hc
   exact ⟨u,by simpa using s1,s2⟩) fun ι' M' hi'=>Y5 hi' (lbS _) hmx
 split at h
 ·rename_i rs hrs
  have hrs:=b02 hrs
  have hdata:∀sk:SK,sk=.full∨sk=.any->K (.c (.t (.sl d.size sk rs))) []->∃s B,K s B∧QOp P o ev H s B:=fun sk hsk h=>by
   refine ⟨_,_,h,fun a w ι M he hh hm hf=>?_⟩
   obtain ⟨r,q1,q2,q3⟩:=key a w ι M he
   refine m8 (by simp only [execOp,ho,Sem.run_bind,q1,Result.andThen_ok];rfl) ?_
   have hext:Ext w (w.alloc (.cells r e)):=⟨rfl,rfl,rfl,by simp,fun b hb=>heap_alloc_old w _ hb⟩
   refine C5.of_none ?_ hext
   have hlen:rs.length=len:=by rw [← q3,hrs];simp [toC]
   have hmx:len<=maxLen:=by
    have:len<=len*d.size:=aw3 _ (by omega)
    unfold maxLen;omega
   rw [← hlen]
   have hat:∀i j c,at2 rs i j=some c->at2 rows i j=some (.t c):=fun i j c hc=>by
    obtain ⟨row,s1,s2⟩:=x5 hc
    rw [hrs]
    exact p8 (row:=row.map C.t) (by simp [toC,s1]) (by simp [s2])
   refine .c (.t (.sl (b:=w.heap.size) (off:=0) (fun i j=>r.getD (i*d.size+j) undef) ?_ (lbS _) (by omega) (fun _=>rfl) (by rcases hsk with rfl|rfl<;>(intro h;cases h)) (fun _=>rfl) ?_ ?_ (by rcases hsk with rfl|rfl<;>exact ⟨(fun h=>nomatch h),(fun h=>nomatch h)⟩)))
   ·intro r' hr'
    have:=q2.row (r'.map C.t) (by rw [hrs];exact lby.2 ⟨r',hr',rfl⟩)
    simpa using this
   ·intro i j c hc
    obtain ⟨u,s1,s2⟩:=q2.cell _ _ _ (hat i j c hc)
    rw [Array.getElem?_toList] at s1
    refine ⟨?_,fun hM=>absurd (hm _ hM) (by omega)⟩
    have hn:=heap_alloc_new w (.cells r e)
    simp only [World.cell?]
    rw [hn]
    simp [s1]
   ·intro i j c hc
    obtain ⟨u,s1,s2⟩:=q2.cell _ _ _ (hat i j c hc)
    rw [Array.getElem?_toList] at s1
    have:r.getD (i*d.size+j) undef=u:=by simp [s1]
    show RT _ M c (r.getD (i*d.size+j) undef)
    rw [this]
    cases s2 with
    |t s2=>exact s2.keep (fun b hb _=>hext.keep b hb) (fun b h=>.inl h)
  obtain ⟨h|h|h⟩:=h
  ·exact hdata _ (.inl rfl) h
  ·exact hown h
  ·exact hdata _ (.inr rfl) h
 ·exact hown h
theorem a8i {c:Call} (ho:o.op=.call c) (hc:c.callee=.builtin .copy) {t:TypeId} {x s:Operand} (ht:c.argTypes.toList=[t,t]) (ha:c.args.toList=[x,s]) {a:Act} {w w':World} {v:Value}
 (h:(Builtin.copy_ #[t,t] o.type #[a.eval x,a.eval s]).run P w=.ok v w'):(execOp a.eval o).run P w=.ok (.value v) w':=by
 obtain ⟨callee,args,argTypes⟩:=c
 simp only at hc ht ha
 subst hc
 obtain rfl:argTypes=#[t,t]:=by apply Array.ext';simpa using ht
 obtain rfl:args=#[x,s]:=by apply Array.ext';simpa using ha
 simp [execOp,ho,resolve,invoke,builtin,h]
theorem B4.result {w w':World} {ι:Io} {M:Ms} {H H':Hp} {s:S} {v u:Value} {x:Value} (hv:x.oneCell'=true) (h:B4 w ι M H s H' v w'):B4 w ι M H (.c (.t (.atm x))) H' x w':=by
 obtain ⟨ι',M',_,h⟩:=h
 exact ⟨ι',M',.c (.t (.atm hv)),h⟩
theorem aT7 {w:World} {ι:Io} {M:Ms} {k:Blk} {b cap size lo len:Nat} {xr:List (List C)} {news:List Value} {cur:Array Value} (hb:E8 w ι M k (.blk b cap size)) (hmp:k.mp=false) (hcur:w.heap[b]? =some (.cells cur k.elem (0,0)))
 (hl:lo+len<=k.rows.length) (hn:u5 w ι M size xr news) (hcl:cur.size=cap*size) (hlc:k.rows.length<=cap):
 u5 w ι M size (C1 lo len k.rows xr) ((cur.toList.take (lo*size)++news.take ((xr.take len).length*size)++cur.toList.drop (lo*size+(xr.take len).length*size)).take (k.rows.length*size)):=by
 have hxl:(xr.take len).length<=len:=by simp;omega
 generalize hm:(xr.take len).length=m at *
 have m1:lo*size+m*size<=k.rows.length*size:=by rw [← N4];exact lbU _ (by omega)
 have m2:k.rows.length*size<=cap*size:=lbU _ hlc
 have hnl:(news.take (m*size)).length=m*size:=by
  rw [lbs,hn.len]
  refine a12 (lbU _ ?_)
  rw [← hm];simp;omega
 obtain ⟨o1,a1,a2⟩:=a4M hmp hb (lo:=0) (len:=lo) (by omega)
 obtain ⟨o3,c1,c2⟩:=a4M hmp hb (lo:=lo+m) (len:=k.rows.length - (lo+m)) (by omega)
 rw [ai9] at a1
 have e3:(k.rows.drop (lo+m)).take (k.rows.length - (lo+m))=k.rows.drop (lo+m):=lbn (by simp)
 rw [e3] at c1
 have hmid:u5 w ι M size (xr.take len) (news.take (m*size)):=by
  refine ⟨by rw [hnl,hm],fun r hr=>hn.row r (a8x hr),fun i j c hc=>?_⟩
  obtain ⟨row,s1,s2⟩:=x5 hc
  rw [lbi] at s1
  split at s1
  ·rename_i hi
   obtain ⟨u,t1,t2⟩:=hn.cell _ _ _ (p8 s1 s2)
   have hj:j<size:=by rw [← hn.row row (lbm s1)];exact (lbe.1 s2).1
   have him:i<m:=by rw [← hm];have:=(lbe.1 s1).1;simp;omega
   have hlt:i*size+j<m*size:=by
    have:i*size+size<=m*size:=by rw [← lbV];exact lbU _ him
    omega
   exact ⟨u,by rw [List.getElem?_take_of_lt hlt];exact t1,t2⟩
  ·cases s1
 have hall:=a1.append (hmid.append c1)
 have ho1:o1=cur.toList.take (lo*size):=by
  apply I6
  intro q
  have hlen:o1.length=lo*size:=by rw [a1.len,lbs,a12 (by omega)]
  by_cases hq:q<lo*size
  ·have e1:=a2 q _ (lbf (by omega))
   simp only [World.cell?,hcur,a9Y,y3] at e1
   rw [lbf (by omega),List.getElem?_take_of_lt hq,←e1]
   simp
  ·rw [lbd (by omega),lbd (by simp;omega)]
 have hl3:o3.length=k.rows.length*size - (lo*size+m*size):=by
  rw [c1.len,a3Q,←N4,←Nat.sub_mul]
 have ho3:o3=(cur.toList.drop (lo*size+m*size)).take (k.rows.length*size - (lo*size+m*size)):=by
  apply I6
  intro q
  by_cases hq:q<k.rows.length*size - (lo*size+m*size)
  ·have e1:=c2 q _ (lbf (by omega))
   simp only [World.cell?,hcur,N4] at e1
   rw [lbf (by omega),List.getElem?_take_of_lt hq,lbj,←e1]
   simp
  ·rw [lbd (by omega),lbd (by simp;omega)]
 have hfin:o1++(news.take (m*size)++o3)=(cur.toList.take (lo*size)++news.take (m*size)++cur.toList.drop (lo*size+m*size)).take (k.rows.length*size):=by
  rw [ho1,ho3,List.take_append,lbn (l:=cur.toList.take (lo*size)++news.take (m*size)) (by rw [lbq,hnl];simp;omega),lbE]
  congr 3
  rw [lbq,hnl]
  simp only [lbs,a5j]
  rw [a12 (by omega)]
 rw [← hfin]
 unfold C1
 rw [hm]
 exact hall
theorem aR1 (hτ:v6 P τ) {c:Call} (ho:o.op=.call c) (hc:c.callee=.builtin .copy) {t:TypeId} {x s:Operand} (ht:c.argTypes.toList=[t,t]) (ha:c.args.toList=[x,s])
 {Kg:S->Hp->Prop} (h:ar3 τ ev H t x s Kg):∃s H',Kg s H'∧GOp P o ev H s H':=by
 unfold ar3 at h
 split at h
 rotate_left
 ·exact h.elim
 rename_i e _ _ _ _ hte
 have hu:=G7 hτ hte
 split at h
 rotate_left
 ·exact h.elim
 rename_i d hd
 obtain ⟨hb0,h⟩:=Q0 h
 have h0:d.size≠0:=by intro e;simp [e] at hb0
 obtain ⟨xr,h,hx⟩:=aS5 hτ hu h
 obtain ⟨i,hi,hsz,hby,z,hz,hzs,hone,hzl⟩:=(hτ.td _ _ hd).info
 split at h
 rotate_left
 ·exact h.elim
 rename_i id lo len app hs
 obtain ⟨k,hk,h⟩:=H9 h
 obtain ⟨⟨hlv,hmp⟩,hap,h⟩:=a3a h
 obtain ⟨hbk,hlen,h⟩:=w8 h
 have hbk:k.size=d.size∧k.elem=e:=by simpa using hbk
 rw [x3] at h
 refine ⟨_,_,h,fun a w ι M he hh hm hF=>?_⟩
 obtain ⟨news,hn1,hn2,hn3⟩:=hx a w ι M he hh
 have hr:=(he.to hs).inv_c
 generalize hv:a.eval x=v at *
 have hmin:(xr.take len).length=Nat.min xr.length len:=by rw [lbs];exact Nat.min_comm _ _
 have hload:(Builtin.firstCells i.size (Nat.min xr.length len) (a.eval s)).run P w=.ok (news.take ((xr.take len).length*d.size)).toArray w:=by
  rw [← hmin]
  rcases hn3 with h0'|⟨ad,c',hxe,hxc⟩
  ·have hz0:(xr.take len).length=0:=by rw [lbs];omega
   have hxr:xr=[]:=lbG h0'
   subst hxr
   have:=hn2.cells
   have hnn:news=[]:=lbG (by rw [hn1.len];simp)
   subst hnn
   rw [← hsz] at this
   simpa using this
  ·rw [hxe]
   have hl:=run_loadCells_list (P:=P) w ad (news.take ((xr.take len).length*d.size)) (fun j v hj=>by
    rw [lbi] at hj
    split at hj
    ·exact hxc j v hj
    ·cases hj)
   have hln:(news.take ((xr.take len).length*d.size)).length=(xr.take len).length*i.size:=by
    rw [lbs,hn1.len,hsz]
    refine a12 (lbU _ ?_)
    rw [lbs];exact Nat.min_le_right _ _
   rw [hln] at hl
   simpa [Builtin.firstCells] using hl
 cases hr with
 |@own _ _ _ _ b cap size A cap' hι q1 q2 q3 q4 q5=>
  have hbr:=hh.blk id k hk (by rw [hlv];intro h;cases h) _ hι
  have hMb:=hh.liv id k hk hlv _ _ _ hι
  obtain rfl:size=d.size:=hbr.1.symm.trans hbk.1
  have hbr2:=hbr
  obtain ⟨r1,r2,r3,r4,r5,cur,r6,r7,r8⟩:=hbr2
  rw [B7 hmp] at r6
  have hcp:=aT7 hbr hmp r6 hlen hn1 r7 r3
  generalize hvals:news.take ((xr.take len).length*d.size)=vals at *
  have hvl:vals.length=(xr.take len).length*d.size:=by
   rw [← hvals,lbs,hn1.len]
   refine a12 (lbU _ ?_)
   rw [lbs];exact Nat.min_le_right _ _
  have hfit:lo*d.size+vals.length<=cur.size:=by
   rw [hvl,r7,←N4]
   refine lbU _ ?_
   have:(xr.take len).length<=len:=by rw [lbs];exact Nat.min_le_left _ _
   omega
  have hone':∀u ∈ vals,u.oneCell'=true:=fun u hu=>hn1.one u (by rw [← hvals] at hu;exact a8x hu)
  have hrows:(C1 lo len k.rows xr).length=k.rows.length:=by
   have:(xr.take len).length<=len:=by rw [lbs];exact Nat.min_le_left _ _
   unfold C1
   simp only [lbq,lbs,a3Q]
   simp only [lbs] at this
   omega
  have hst:(storeCells ⟨b,lo*d.size,none⟩ vals).run P w=.ok () (w.setRow b (cur.toList.take (lo*d.size)++vals++cur.toList.drop (lo*d.size+vals.length)).toArray):=by
   have:=run_storeCells_at P b (lo*d.size) k.elem vals 0 cur w r6 (by simpa using hfit) hone'
   simpa using this
  rw [← hvl] at hcp
  have hkeep:∀b',b'≠b->(w.setRow b (cur.toList.take (lo*d.size)++vals++cur.toList.drop (lo*d.size+vals.length)).toArray).heap[b']? =w.heap[b']?:=fun b' hb'=>setRow_other w b b' _ hb'
  have hpost:B4 w ι M H (a7 .i64 (xr.take len).length) (H.set id (p5 k (C1 lo len k.rows xr))) (goInt (xr.take len).length) (w.setRow b (cur.toList.take (lo*d.size)++vals++cur.toList.drop (lo*d.size+vals.length)).toArray):=by
   refine B4.result (u:=undef) rfl (B4.store hh hm hF hk hlv hap hι (by exact hlv) rfl rfl rfl (by simp) hkeep ⟨r1,r2,by show (C1 lo len k.rows xr).length<=cap;rw [hrows];exact r3,r4,hcp.row,_,(a6b hmp (setRow_heap w b cur _ k.elem _ r6)),?_,fun i' j c' hc'=>?_⟩)
   ·simp only [a8R,lbq,lbs,a3Q,a5j]
    omega
   ·obtain ⟨u,s1,s2⟩:=hcp.cell i' j c' hc'
    rw [lbi] at s1
    split at s1
    ·exact ⟨u,by rw [List.getElem?_toArray];exact s1,s2.keep (fun b' _ hb'=>hkeep b' (by rintro rfl;exact hb' hMb)) (fun b' h=>.inl h) (fun _ _ h=>h)⟩
    ·cases s1
  have hlo:=hn2.len
  by_cases hlz:len=0
  ·subst hlz
   have hv0:vals=[]:=lbG (by rw [hvl];simp)
   subst hv0
   have hw:w.setRow b (cur.toList.take (lo*d.size)++[]++cur.toList.drop (lo*d.size+([]:List Value).length)).toArray=w:=by
    simp only [storeCells,Sem.run_pure] at hst
    injection hst with _ hst
    exact hst.symm
   rw [hw] at hpost
   refine m8 (a8i ho hc ht ha ?_) hpost
   rw [hv]
   have hload0:(Builtin.firstCells i.size 0 (a.eval s)).run P w=.ok #[] w:=by simpa using hload
   cases A<;>simp [Builtin.copy_,run_underlying hu,hlo,sizeOf,typeInfo,hi,hload0,storeCells]
  ·obtain rfl:=q2 (by omega)
   refine m8 (a8i ho hc ht ha ?_) hpost
   rw [hv]
   simp [Builtin.copy_,run_underlying hu,hlo,sizeOf,typeInfo,hi,hload,hst,hmin]
 |@nil _ _ A hι=>
  have hbr:=hh.blk id k hk (by rw [hlv];intro h;cases h) _ hι
  have hkr:k.rows=[]:=hbr
  have e1:xr.take 0=[]:=as2
  have e2:C1 0 0 k.rows xr=k.rows:=by unfold C1;simp
  have e3:H.set id (p5 k (C1 0 0 k.rows xr))=H:=by
   rw [e2]
   apply I6
   intro j
   by_cases hj:j=id
   ·subst hj;rw [List.getElem?_set_self (lbe.1 hk).1,hk];rfl
   ·rw [getElem?_set_ne' hj]
  rw [e3,e1] at *
  have hlo:=hn2.len
  refine m8 (v:=goInt 0) (w':=w) (a8i ho hc ht ha ?_) ⟨ι,M,.c (.t (.atm rfl)),hh,hm,hF,a3x.refl w ι M H⟩
  rw [hv]
  have hload0:(Builtin.firstCells i.size 0 (a.eval s)).run P w=.ok #[] w:=by simpa using hload
  cases A<;>simp [Builtin.copy_,run_underlying hu,hlo,sizeOf,typeInfo,hi,hload0,storeCells]
theorem a5B {c:Call} (ho:o.op=.call c) (hc:c.callee=.builtin .clear) {t:TypeId} {x:Operand} (ht:c.argTypes.toList=[t]) (ha:c.args.toList=[x]) {a:Act} {w w':World} {v:Value}
 (h:(Builtin.clear_ #[t] o.type #[a.eval x]).run P w=.ok v w'):(execOp a.eval o).run P w=.ok (.value v) w':=by
 obtain ⟨callee,args,argTypes⟩:=c
 simp only at hc ht ha
 subst hc
 obtain rfl:argTypes=#[t]:=by apply Array.ext';simpa using ht
 obtain rfl:args=#[x]:=by apply Array.ext';simpa using ha
 simp [execOp,ho,resolve,invoke,builtin,h]
theorem B4.junk {w w':World} {ι:Io} {M:Ms} {H H':Hp} {s:S} {v u:Value} (h:B4 w ι M H s H' v w'):B4 w ι M H .junk H' u w':=by
 obtain ⟨ι',M',_,h⟩:=h
 exact ⟨ι',M',.junk,h⟩
theorem ay9 (hτ:v6 P τ) {c:Call} (ho:o.op=.call c) (hc:c.callee=.builtin .clear) {t:TypeId} {x:Operand} (ht:c.argTypes.toList=[t]) (ha:c.args.toList=[x])
 {Kg:S->Hp->Prop} (h:aI6 τ ev H t x Kg):∃s H',Kg s H'∧GOp P o ev H s H':=by
 unfold aI6 at h
 split at h
 rotate_left
 ·exact h.elim
 rename_i e _ _ _ _ hte
 have hu:=G7 hτ hte
 split at h
 rotate_left
 ·exact h.elim
 rename_i d hd
 obtain ⟨hb0,h⟩:=Q0 h
 rw [D2] at h
 obtain ⟨i,hi,hsz,hby,z,hz,hzs,hone,hzl⟩:=(hτ.td _ _ hd).info
 have hzsz:z.cells.size=d.size:=by rw [← hzl,←hzs];simp
 split at h
 rotate_left
 ·exact h.elim
 rename_i id lo len app hs
 obtain ⟨k,hk,h⟩:=H9 h
 obtain ⟨⟨hlv,hmp⟩,hap,h⟩:=a3a h
 obtain ⟨hbk,hlen,h⟩:=w8 h
 have hbk:k.size=d.size∧k.elem=e:=by simpa using hbk
 rw [x3] at h
 refine ⟨_,_,h,fun a w ι M he hh hm hF=>?_⟩
 have hr:=(he.to hs).inv_c
 generalize hv:a.eval x=v at *
 have hzr:d.zero.map t6=z.cells.toList.map t6:=by rw [hzs]
 generalize hxr:List.replicate len (d.zero.map t6)=xr at *
 have hxl:xr.length=len:=by rw [← hxr];simp
 have hxt:xr.take len=xr:=lbn (by omega)
 have hn1:u5 w ι M d.size xr (madeCells z.cells (len*d.size)).toList:=by
  rw [← hxr,hzr]
  exact b2C hzsz (by rw [hzs];exact hone)
 generalize hvals:(madeCells z.cells (len*d.size)).toList=vals at *
 have hvl:vals.length=len*d.size:=by rw [hn1.len,hxl]
 have hvt:vals.take ((xr.take len).length*d.size)=vals:=lbn (by rw [hxt,hxl];omega)
 cases hr with
 |@own _ _ _ _ b cap size A cap' hι q1 q2 q3 q4 q5=>
  have hbr:=hh.blk id k hk (by rw [hlv];intro h;cases h) _ hι
  have hMb:=hh.liv id k hk hlv _ _ _ hι
  obtain rfl:size=d.size:=hbr.1.symm.trans hbk.1
  have hbr2:=hbr
  obtain ⟨r1,r2,r3,r4,r5,cur,r6,r7,r8⟩:=hbr2
  rw [B7 hmp] at r6
  have hcp:=aT7 hbr hmp r6 hlen hn1 r7 r3
  rw [hvt] at hcp
  have hmm:(xr.take len).length*d.size=vals.length:=by rw [hxt,hxl,hvl]
  rw [hmm] at hcp
  have hfit:lo*d.size+vals.length<=cur.size:=by
   rw [hvl,r7,←N4]
   exact lbU _ (by omega)
  have hone':∀u ∈ vals,u.oneCell'=true:=fun u hu=>hn1.one u hu
  have hrows:(C1 lo len k.rows xr).length=k.rows.length:=by
   unfold C1
   rw [hxt]
   simp only [lbq,lbs,a3Q]
   omega
  have hst:(storeCells ⟨b,lo*d.size,none⟩ vals).run P w=.ok () (w.setRow b (cur.toList.take (lo*d.size)++vals++cur.toList.drop (lo*d.size+vals.length)).toArray):=by
   have:=run_storeCells_at P b (lo*d.size) k.elem vals 0 cur w r6 (by simpa using hfit) hone'
   simpa using this
  have hkeep:∀b',b'≠b->(w.setRow b (cur.toList.take (lo*d.size)++vals++cur.toList.drop (lo*d.size+vals.length)).toArray).heap[b']? =w.heap[b']?:=fun b' hb'=>setRow_other w b b' _ hb'
  have hpost:B4 w ι M H .junk (H.set id (p5 k (C1 lo len k.rows xr))) (.tuple #[]) (w.setRow b (cur.toList.take (lo*d.size)++vals++cur.toList.drop (lo*d.size+vals.length)).toArray):=by
   refine B4.junk (u:=.tuple #[]) (B4.store hh hm hF hk hlv hap hι (by exact hlv) rfl rfl rfl (by simp) hkeep ⟨r1,r2,by show (C1 lo len k.rows xr).length<=cap;rw [hrows];exact r3,r4,hcp.row,_,(a6b hmp (setRow_heap w b cur _ k.elem _ r6)),?_,fun i' j c' hc'=>?_⟩)
   ·simp only [a8R,lbq,lbs,a3Q,a5j]
    omega
   ·obtain ⟨u,s1,s2⟩:=hcp.cell i' j c' hc'
    rw [lbi] at s1
    split at s1
    ·exact ⟨u,by rw [List.getElem?_toArray];exact s1,s2.keep (fun b' _ hb'=>hkeep b' (by rintro rfl;exact hb' hMb)) (fun b' h=>.inl h) (fun _ _ h=>h)⟩
    ·cases s1
  by_cases hlz:len=0
  ·subst hlz
   have hv0:vals=[]:=lbG (by rw [hvl];simp)
   subst hv0
   have hw:w.setRow b (cur.toList.take (lo*d.size)++[]++cur.toList.drop (lo*d.size+([]:List Value).length)).toArray=w:=by
    simp only [storeCells,Sem.run_pure] at hst
    injection hst with _ hst
    exact hst.symm
   rw [hw] at hpost
   refine m8 (a5B ho hc ht ha ?_) hpost
   rw [hv]
   cases A<;>simp [Builtin.clear_,run_underlying hu]
  ·obtain rfl:=q2 (by omega)
   refine m8 (a5B ho hc ht ha ?_) hpost
   rw [hv]
   have hzc:(Builtin.zeroCells z.cells len).toList=vals:=by
    rw [← hvals,←hzsz];rfl
   cases len with
   |zero=>exact absurd rfl hlz
   |succ n=>simp [Builtin.clear_,run_underlying hu,zeroValue,typeInfo,hi,hz,hzc,hst]
 |@nil _ _ A hι=>
  have hbr:=hh.blk id k hk (by rw [hlv];intro h;cases h) _ hι
  have hkr:k.rows=[]:=hbr
  have hx0:xr=[]:=lbG hxl
  have e2:C1 0 0 k.rows xr=k.rows:=by unfold C1;simp
  have e3:H.set id (p5 k (C1 0 0 k.rows xr))=H:=by
   rw [e2]
   apply I6
   intro j
   by_cases hj:j=id
   ·subst hj;rw [List.getElem?_set_self (lbe.1 hk).1,hk];rfl
   ·rw [getElem?_set_ne' hj]
  rw [e3] at *
  refine m8 (v:=.tuple #[]) (w':=w) (a5B ho hc ht ha ?_) ⟨ι,M,.junk,hh,hm,hF,a3x.refl w ι M H⟩
  rw [hv]
  cases A<;>simp [Builtin.clear_,run_underlying hu]
end
end
end Go.Proofs.YtpjgpclheebhkaaGreat
