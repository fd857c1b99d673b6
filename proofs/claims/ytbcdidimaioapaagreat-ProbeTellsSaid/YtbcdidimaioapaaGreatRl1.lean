/- Part 1. -/
import Derived.WalkKit
import Derived.WalkSpells
import Derived.Lib.Hide
import Derived.Laws.OwnMore
import Derived.Deep.Draws
import Derived.Laws.Small
import Derived.Laws.StructEq
import Derived.Great.BuildSlice
import Derived.Laws.MakeOwn
import Derived.Laws.Tables
import Derived.Deep.Upon
namespace Go.Proofs.YtbcdidimaioapaaGreat
open Go.RowKit
set_option linter.all false
abbrev iB:=@if_pos
abbrev iC:=@if_neg
theorem iA {α:Type} {l:List α} {k:Nat} (h:k<l.length):∃x,l[k]? =some x:=⟨_,List.getElem?_eq_getElem h⟩
abbrev LI:=List Int
abbrev LB:=List (Nat × Bool)
theorem om {p:Prop} (h:p:=by omega):p:=h
theorem de {p:Prop} (h:p:=by decide):p:=h
theorem zq {p:Prop} (h:p:=by simp):p:=h
theorem rz {p:Prop} (h:p:=by repeat' (first|refine ⟨?_,?_⟩|exact rfl|exact trivial)):p:=h
abbrev lba:=@List.getElem?_map
abbrev lbb:=@List.getElem?_append_left
abbrev lbc:=@List.getElem?_append_right
abbrev lbd:=@List.getElem?_eq_none
abbrev lbe:=@List.getElem?_eq_some_iff
abbrev lbf:=@List.getElem?_eq_getElem
abbrev lbg:=@List.getElem?_set
abbrev lbh:=@List.getElem?_range
abbrev lbi:=@List.getElem?_take
abbrev lbj:=@List.getElem?_drop
abbrev lbk:=@List.getElem?_replicate
abbrev lbl:=@List.getD_eq_getElem?_getD
abbrev lbm:=@List.mem_of_getElem?
abbrev lbn:=@List.take_of_length_le
abbrev lbo:=@List.drop_of_length_le
abbrev lbp:=@List.map_congr_left
abbrev lbq:=@List.length_append
abbrev lbr:=@List.length_map
abbrev lbs:=@List.length_take
abbrev lbt:=@List.length_filter_le
abbrev lbu:=@List.length_cons
abbrev lbv:=@List.all_eq_true
abbrev lbw:=@List.any_eq_true
abbrev lbx:=@List.mem_map
abbrev lby:=@List.mem_filter
abbrev lbz:=@List.mem_append
abbrev lbA:=@List.mem_cons
abbrev lbB:=@List.mem_range
abbrev lbC:=@List.map_append
abbrev lbD:=@List.append_assoc
abbrev lbE:=@List.getElem_mem
abbrev lbF:=@List.eq_nil_of_length_eq_zero
abbrev lbG:=@List.take_add_one
abbrev lbH:=@decide_eq_true
abbrev lbI:=@decide_eq_true_eq
abbrev lbJ:=@decide_eq_false
abbrev lbK:=@decide_eq_false_iff_not
abbrev lbL:=@of_decide_eq_true
abbrev lbM:=@of_decide_eq_false
abbrev lbN:=@Bool.and_eq_true
abbrev lbO:=@Bool.or_eq_true
abbrev lbP:=@Bool.and_eq_false_iff
abbrev lbQ:=@Bool.not_eq_true
abbrev lbR:=@Nat.le_refl
abbrev lbS:=@Nat.le_trans
abbrev lbT:=@Nat.mul_le_mul
abbrev lbU:=@Nat.mul_le_mul_right
abbrev lbV:=@Nat.succ_mul
abbrev lbW:=@Int.mul_le_mul_of_nonneg_left
abbrev lbX:=@Int.mul_le_mul_of_nonneg_right
abbrev lbY:=@Int.toNat_natCast
abbrev lbZ:=@Int.toNat_of_nonneg
abbrev lb0:=@Int.mul_nonneg
abbrev lb1:=@Rat.mul_nonneg
abbrev lb2:=@Rat.mul_pos
abbrev lb3:=@Rat.le_refl
abbrev lb4:=@Rat.not_lt
abbrev lb5:=@Option.some.injEq
abbrev lb6:=@Array.getElem?_eq_some_iff
abbrev lb7:=@List.getD_cons_zero
abbrev lb8:=@List.getD_cons_succ
abbrev lb9:=@List.take_append_drop
abbrev a5X:=@List.filter_append
abbrev a02:=@Classical.byContradiction
abbrev a6P:=@Nat.lt_of_lt_of_le
abbrev G0:=@Nat.zero_le
abbrev a3w:=@Nat.add_assoc
abbrev aL6:=@Nat.add_comm
abbrev b0I:=@Nat.add_zero
abbrev b4V:=@List.map_take
abbrev b4c:=@Option.isSome_iff_exists
abbrev Y3:=@Nat.add_mul
abbrev a6G:=@Option.map_some
abbrev a7S:=@Bool.false_eq_true
abbrev ah1:=@List.mem_of_mem_take
abbrev b1G:=@List.mem_of_mem_drop
abbrev a7N:=@List.length_pos_iff
abbrev as3:=@List.mem_iff_getElem?
abbrev a1o:=@Nat.blt_eq
abbrev az3:=@List.map_cons
abbrev aN8:=@Nat.zero_mul
abbrev W7:=@Nat.zero_add
abbrev ag5:=@Nat.mul_comm
abbrev b4e:=@Nat.mod_eq_of_lt
abbrev a7P:=@Int.mul_comm
abbrev a95:=@List.mem_replicate
abbrev a4t:=@Nat.eq_zero_or_pos
abbrev a9G:=@Nat.mod_lt
abbrev b51:=@Nat.div_add_mod
abbrev a3S:=@List.length_drop
abbrev a7M:=@Array.length_toList
abbrev a3q:=@Nat.min_eq_left
abbrev aK2:=@Nat.le_mul_of_pos_right
abbrev a6J:=@List.size_toArray
abbrev a9m:=@List.drop_zero
abbrev a05:=@List.append_nil
abbrev a16:=@List.ext_getElem?
abbrev b4S:=@List.set_append_left
abbrev a15:=@List.length_nil
abbrev a6A:=@List.nil_append
abbrev b2Q:=@List.mem_or_eq_of_mem_set
abbrev au4:=@Nat.lt_or_gt_of_ne
abbrev a2t:=@Bool.or_eq_false_iff
abbrev a85:=@List.take_zero
abbrev T3:=@Array.getD_eq_getD_getElem?
abbrev I0:=@Nat.lt_or_ge
abbrev az7:=@Option.getD_some
abbrev a5a:=@List.mem_zipIdx_iff_getElem?
abbrev at0:=@Bool.not_true
abbrev a8C:=@Bool.false_or
abbrev aY5:=@List.contains_iff_mem
abbrev aw1:=@Nat.beq_refl
abbrev a1A:=@Nat.eq_of_beq_eq_true
abbrev aP3:=@List.filter_congr
abbrev au9:=@List.filter_cons
abbrev a9U:=@Nat.le_of_lt
abbrev aQ7:=@List.all_cons
abbrev aX4:=@Nat.le_of_not_lt
abbrev a8k:=@Classical.choose_spec
abbrev a47:=@List.cons_append
abbrev aT0:=@List.take_succ_eq_append_getElem
abbrev ax0:=@Option.map_eq_some_iff
abbrev a75:=@List.map_map
abbrev b3p:=@List.pairwise_iff_getElem
abbrev aX6:=@Nat.lt_trichotomy
abbrev a5N:=@Int.mul_le_mul
abbrev a86:=@Nat.pow_le_pow_right
abbrev au7:=@Int.emod_eq_of_lt
abbrev ax7:=@Int.emod_nonneg
abbrev aU5:=@Int.emod_lt_of_pos
abbrev aq7:=@List.nodup_nil
abbrev aV3:=@List.replicate_succ
abbrev a3r:=@List.drop_eq_getElem_cons
abbrev a0B:=@List.length_eq_zero_iff
abbrev aY7:=@Nat.add_sub_cancel
abbrev X9:=@List.take_length
abbrev aD1:=@Int.mul_add
abbrev a6D:=@Int.lt_or_le
abbrev aD2:=@Int.ediv_nonneg
abbrev as8:=@Int.add_comm
abbrev a5b:=@Int.lt_trichotomy
abbrev ac3:=@Int.mul_pos
abbrev V5:=@Int.le_of_lt
abbrev b2X:=@Int.lt_of_mul_lt_mul_left
abbrev at3:=@Int.sign_mul_natAbs
abbrev a2u:=@Int.one_mul
abbrev S9:=@Int.sign_eq_one_of_pos
abbrev a2q:=@Int.sign_eq_neg_one_of_neg
abbrev P5:=@Bool.true_and
abbrev aS1:=@Int.natAbs_natCast
abbrev af7:=@Int.add_zero
abbrev az9:=@Int.mul_one
abbrev a36:=@Int.eq_ofNat_of_zero_le
abbrev av8:=@List.mem_cons_self
abbrev a67:=@List.map_set
abbrev a5h:=@Int.tdiv_eq_ediv_of_nonneg
abbrev a6s:=@Int.tmod_eq_emod_of_nonneg
abbrev a2v:=@Int.natAbs_neg
abbrev a3y:=@Int.natAbs_mul
abbrev b3y:=@Int.natAbs_ediv_le_natAbs
abbrev a3Y:=@Int.natCast_mul
abbrev af3:=@Rat.div_def
abbrev az5:=@Rat.neg_num
abbrev b3V:=@Rat.sub_eq_add_neg
abbrev a89:=@Rat.num_intCast
abbrev as0:=@Rat.den_intCast
abbrev a5J:=@Nat.sub_le
abbrev aP7:=@Int.mul_ediv_cancel_left
abbrev b2u:=@Int.gcd_pos_of_ne_zero_right
abbrev a84:=@Rat.divInt_eq_div
abbrev ad3:=@Int.sub_eq_add_neg
abbrev b3o:=@Int.lt_or_gt_of_ne
abbrev aR8:=@List.length_replicate
abbrev ay6:=@List.pairwise_cons
abbrev aX0:=@Classical.epsilon_spec
abbrev aX5:=@Rat.intCast_mul
abbrev aA8:=@Rat.mul_eq_zero
abbrev a6X:=@Bool.not_eq_true'
abbrev a0z:=@List.all_append
abbrev a0D:=@List.getElem_of_mem
abbrev ar3:=@Rat.mul_comm
abbrev aa8:=@Rat.mul_assoc
abbrev b2f:=@Rat.mul_inv_cancel
abbrev b3i:=@List.drop_eq_nil_of_le
abbrev ac4:=@Bool.false_and
abbrev b3B:=@Int.sign_eq_zero_iff_zero
abbrev a8x:=@List.range_succ
abbrev aC2:=@Int.le_refl
abbrev ar0:=@List.mem_singleton
abbrev az4:=@Array.replicate_succ
abbrev ao8:=@Array.replicate_zero
abbrev aC9:=@List.push_toArray
abbrev aw2:=@List.append_toArray
abbrev aY1:=@List.filter_nil
inductive SK where
 |any|full|nil|nul|non
inductive T where
 |atm (v:Value)
 |sl (size:Nat) (k:SK) (rows:List (List T))
 |ptr (cells:List T)
 |fn (f:Fn) (caps:List T)
inductive C where
 |t (x:T)
 |ptr (id row off:Nat)
 |own (id lo len:Nat) (app:Bool)
 |fn (f:Fn) (caps:List C)
inductive S where
 |junk
 |c (x:C)
 |agg (cs:List C)
 |tup (ss:List S)
abbrev J:S:=.junk
inductive BM where
 |live|froz|old|dead
def BM.gone:BM->Prop
 |.dead=>True
 |.old=>True
 |_=>False
structure Blk where
 mode:BM
 elem:TypeId
 size:Nat
 rows:List (List C)
 box:Bool
 app:Bool:=false
inductive Loc where
 |nil
 |blk (b cap size:Nat)
abbrev Hp:=List Blk
abbrev Io:=Nat->Option Loc
abbrev Ms:=Nat->Prop
def at2 {α:Type} (rows:List (List α)) (i j:Nat):Option α:=(rows[i]?).bind (·[j]?)
inductive RT (w:World) (M:Ms):T->Value->Prop
 |atm {v:Value} (h:v.oneCell'=true):RT w M (.atm v) v
 |sl {size:Nat} {k:SK} {rows:List (List T)} {b off cap:Nat} {A:Option Addr} (f:Nat->Nat->Value)
   (hrow:∀r ∈ rows,r.length=size) (hcap:rows.length<=cap) (hmax:cap<=maxLen) (hk:k=.full->cap=rows.length)
   (hn:k=.nil->rows=[]/\A=none/\cap=0) (hA:rows≠[]->A=some ⟨b,off,none⟩)
   (hc:∀i j c,at2 rows i j=some c->w.cell? ⟨b,off+(i*size+j),none⟩=some (f i j)/\¬M b)
   (hr:∀i j c,at2 rows i j=some c->RT w M c (f i j)) (hx:(k=.nul->rows=[]/\A=none)/\(k=.non->A≠none):=by exact ⟨(fun h=>nomatch h),(fun h=>nomatch h)⟩):RT w M (.sl size k rows) (.slice A rows.length cap)
 |ptr {cells:List T} {b off:Nat} (f:Nat->Value)
   (hc:∀j c,cells[j]? =some c->w.cell? ⟨b,off+j,none⟩=some (f j)/\¬M b)
   (hr:∀j c,cells[j]? =some c->RT w M c (f j)):RT w M (.ptr cells) (.pointer (some ⟨b,off,none⟩))
 |fn {f:Fn} {caps:List T} (vs:List Value) (hl:vs.length=caps.length)
   (hr:∀j c,caps[j]? =some c->RT w M c (vs.getD j undef)):RT w M (.fn f caps) (.func f #[] vs.toArray)
inductive RC (w:World) (ι:Io) (M:Ms):C->Value->Prop
 |t {x:T} {v:Value} (h:RT w M x v):RC w ι M (.t x) v
 |ptr {id r o b cap size:Nat} (h:ι id=some (.blk b cap size)):RC w ι M (.ptr id r o) (.pointer (some ⟨b,r*size+o,none⟩))
 |own {id lo len:Nat} {app:Bool} {b cap size:Nat} {A:Option Addr} {cap':Nat} (h:ι id=some (.blk b cap size)) (h1:lo+len<=cap)
   (h2:0<len->A=some ⟨b,lo*size,none⟩) (h3:len<=cap') (h4:cap'<=maxLen)
   (h5:app=true->lo=0/\A=some ⟨b,0,none⟩/\cap'=cap):RC w ι M (.own id lo len app) (.slice A len cap')
 |nil {id:Nat} {app:Bool} {A:Option Addr} (h:ι id=some .nil):RC w ι M (.own id 0 0 app) (.slice A 0 0)
 |fn {f:Fn} {caps:List C} (vs:List Value) (hl:vs.length=caps.length)
   (hr:∀j c,caps[j]? =some c->RC w ι M c (vs.getD j undef)):RC w ι M (.fn f caps) (.func f #[] vs.toArray)
inductive RS (w:World) (ι:Io) (M:Ms):S->Value->Prop
 |junk {v:Value}:RS w ι M .junk v
 |c {x:C} {v:Value} (h:RC w ι M x v):RS w ι M (.c x) v
 |agg {cs:List C} (vs:List Value) (hl:vs.length=cs.length)
   (hr:∀j c,cs[j]? =some c->RC w ι M c (vs.getD j undef)):RS w ι M (.agg cs) (.agg vs.toArray)
 |tup {ss:List S} (vs:List Value) (hl:vs.length=ss.length)
   (hr:∀j s,ss[j]? =some s->RS w ι M s (vs.getD j undef)):RS w ι M (.tup ss) (.tuple vs.toArray)
def RT.one {w:World} {M:Ms} {x:T} {v:Value} (h:RT w M x v):v.oneCell'=true:=by
 cases h<;>first|assumption|rfl
def RC.one {w:World} {ι:Io} {M:Ms} {x:C} {v:Value} (h:RC w ι M x v):v.oneCell'=true:=by
 cases h<;>first|exact RT.one ‹_›|rfl
def S7 (w:World) (ι:Io) (M:Ms) (k:Blk):Loc->Prop
 |.nil=>k.rows=[]
 |.blk b cap size=>k.size=size/\0<size/\k.rows.length<=cap/\cap<=maxLen/\(∀ r ∈ k.rows,r.length=size)/\
   ∃cur:Array Value,w.heap[b]? =some (.cells cur k.elem (0,0))/\cur.size=cap*size/\
    ∀i j c,at2 k.rows i j=some c->∃u,cur[i*size+j]? =some u/\RC w ι M c u
structure v5 (w:World) (ι:Io) (M:Ms) (H:Hp):Prop where
 blk:∀(id:Nat) (k:Blk),H[id]? =some k->k.mode≠.dead->∀l,ι id=some l->S7 w ι M k l
 liv:∀(id:Nat) (k:Blk),H[id]? =some k->k.mode=.live->∀b cap size,ι id=some (.blk b cap size)->M b
 fro:∀(id:Nat) (k:Blk),H[id]? =some k->k.mode=.froz->∀b cap size,ι id=some (.blk b cap size)->¬M b
 inj:∀(id id':Nat) (k k':Blk),H[id]? =some k->H[id']? =some k'->k.mode=.live->k'.mode=.live->
  ∀b cap size cap' size',ι id=some (.blk b cap size)->ι id'=some (.blk b cap' size')->id=id'
 old:∀(id id':Nat) (k k':Blk),H[id]? =some k->H[id']? =some k'->k.mode=.old->k'.mode=.live->
  ∀b cap size cap' size',ι id=some (.blk b cap size)->ι id'=some (.blk b cap' size')->k'.app=true/\size=size'/\k.rows.length<=k'.rows.length
def a4k (ι:Io) (H:Hp) (b:Nat):Prop:=∃id k cap size,H[id]? =some k/\k.mode=.live/\ι id=some (.blk b cap size)
def MB (w:World) (M:Ms):Prop:=∀b,M b->b<w.heap.size
def a17 (ι:Io) (n:Nat):Prop:=∀id,n<=id->ι id=none
structure a4n (w:World) (ι:Io) (M:Ms) (H:Hp) (w':World) (ι':Io) (M':Ms) (H':Hp):Prop where
 os:w'.os=w.os
 tape:w'.tape=w.tape
 output:w'.output=w.output
 size:w.heap.size<=w'.heap.size
 keep:∀b,b<w.heap.size->¬a4k ι H b->w'.heap[b]? =w.heap[b]?
 same:∀id,id<H.length->ι' id=ι id
 mnew:∀b,M' b->M b\/w.heap.size<=b
 mold:∀b,M b->M' b\/a4k ι H b
 live:∀b,a4k ι' H' b->a4k ι H b\/w.heap.size<=b
 len:H.length<=H'.length
def C2 {w:World} {b:Nat} {o:Obj} (h:w.heap[b]? =some o):b<w.heap.size:=(lb6.1 h).1
def b03 {w:World} {a:Addr} {u:Value} (h:w.cell? a=some u):a.block<w.heap.size:=World.block_lt_of_cell? w a h
def RT.keep {w w':World} {M M':Ms} (hk:∀b,b<w.heap.size->¬M b->w'.heap[b]? =w.heap[b]?) (hm:∀b,M' b->M b\/w.heap.size<=b)
 {x:T} {v:Value} (h:RT w M x v):RT w' M' x v:=by
 induction h with
 |atm h=>exact .atm h
 |sl f hrow hcap hmax hk1 hn hA hc hr hx ih=>
  refine .sl f hrow hcap hmax hk1 hn hA (fun i j c hc'=>?_) ih hx;have ⟨h1,h2⟩:=hc i j c hc';have hlt:=b03 h1;refine ⟨(World.cell?_of_block (hk _ hlt h2)).trans h1,fun hM=>?_⟩;rcases hm _ hM with h3|h3
  ·exact h2 h3
  ·exact absurd h3 (by simpa using hlt)
 |ptr f hc hr ih=>
  refine .ptr f (fun j c hc'=>?_) ih;have ⟨h1,h2⟩:=hc j c hc';have hlt:=b03 h1;refine ⟨(World.cell?_of_block (hk _ hlt h2)).trans h1,fun hM=>?_⟩;rcases hm _ hM with h3|h3
  ·exact h2 h3
  ·exact absurd h3 (by simpa using hlt)
 |fn vs hl hr ih=>exact .fn vs hl ih
def RC.keep {w w':World} {ι ι':Io} {M M':Ms} (hk:∀b,b<w.heap.size->¬M b->w'.heap[b]? =w.heap[b]?) (hm:∀b,M' b->M b\/w.heap.size<=b)
 (hi:∀id l,ι id=some l->ι' id=some l) {x:C} {v:Value} (h:RC w ι M x v):RC w' ι' M' x v:=by
 induction h with
 |t h=>exact .t (h.keep hk hm)
 |ptr h=>exact .ptr (hi _ _ h)
 |own h h1 h2 h3 h4 h5=>exact .own (hi _ _ h) h1 h2 h3 h4 h5
 |nil h=>exact .nil (hi _ _ h)
 |fn vs hl hr ih=>exact .fn vs hl ih
def RS.keep {w w':World} {ι ι':Io} {M M':Ms} (hk:∀b,b<w.heap.size->¬M b->w'.heap[b]? =w.heap[b]?) (hm:∀b,M' b->M b\/w.heap.size<=b)
 (hi:∀id l,ι id=some l->ι' id=some l) {x:S} {v:Value} (h:RS w ι M x v):RS w' ι' M' x v:=by
 induction h with
 |junk=>exact .junk
 |c h=>exact .c (h.keep hk hm hi)
 |agg vs hl hr=>exact .agg vs hl fun j c hc=>(hr j c hc).keep hk hm hi
 |tup vs hl hr ih=>exact .tup vs hl ih
def a4k.inM {w:World} {ι:Io} {M:Ms} {H:Hp} (h:v5 w ι M H) {b:Nat} (hl:a4k ι H b):M b:=by
 have ⟨id,k,cap,size,h1,h2,h3⟩:=hl;exact h.liv id k h1 h2 b cap size h3
def a4n.refl (w:World) (ι:Io) (M:Ms) (H:Hp):a4n w ι M H w ι M H:=
 ⟨rfl,rfl,rfl,lbR _,fun _ _ _=>rfl,fun _ _=>rfl,fun _ h=>.inl h,fun _ h=>.inl h,fun _ h=>.inl h,lbR _⟩
def a4n.trans {w w1 w2:World} {ι ι1 ι2:Io} {M M1 M2:Ms} {H H1 H2:Hp} (hb:MB w M) (a:a4n w ι M H w1 ι1 M1 H1) (c:a4n w1 ι1 M1 H1 w2 ι2 M2 H2):
 a4n w ι M H w2 ι2 M2 H2 where
 os:=c.os.trans a.os
 tape:=c.tape.trans a.tape
 output:=c.output.trans a.output
 size:=lbS a.size c.size
 keep:=fun k hk hl=>(c.keep k (a6P hk a.size) fun h=>by rcases a.live k h with h|h;exact hl h;omega).trans (a.keep k hk hl)
 same:=fun id hid=>(c.same id (a6P hid a.len)).trans (a.same id hid)
 mnew:=fun k h=>by
  rcases c.mnew k h with h|h
  ·exact a.mnew k h
  ·exact .inr (lbS a.size h)
 mold:=fun k h=>by
  rcases a.mold k h with h1|h1
  ·rcases c.mold k h1 with h2|h2
   ·exact .inl h2
   ·rcases a.live k h2 with h3|h3
    ·exact .inr h3
    ·have:=hb k h;omega
  ·exact .inr h1
 live:=fun k h=>by
  rcases c.live k h with h|h
  ·exact a.live k h
  ·exact .inr (lbS a.size h)
 len:=lbS a.len c.len
structure Ext (w w':World):Prop where
 os:w'.os=w.os
 tape:w'.tape=w.tape
 output:w'.output=w.output
 size:w.heap.size<=w'.heap.size
 keep:∀b,b<w.heap.size->w'.heap[b]? =w.heap[b]?
def Ext.refl (w:World):Ext w w:=⟨rfl,rfl,rfl,lbR _,fun _ _=>rfl⟩
def G1 (ι:Io) (n m:Nat) (new:Nat->Loc):Io:=fun id=>if n<=id/\id<n+m then some (new (id - n)) else ι id
def a6U (M:Ms) (m:Nat) (new:Nat->Loc):Ms:=fun b=>M b\/∃k,k<m/\∃cap size,new k=.blk b cap size
def P4 (w:World) (ι:Io) (M:Ms) (n:Nat) (s:S) (B:List Blk) (v:Value) (w':World):Prop:=
 ∃new:Nat->Loc,RS w' (G1 ι n B.length new) (a6U M B.length new) s v/\Ext w w'/\
  (∀ k blk,B[k]? =some blk->blk.mode=.live/\S7 w' (G1 ι n B.length new) (a6U M B.length new) blk (new k))/\
  (∀ k b cap size,k<B.length->new k=.blk b cap size->w.heap.size<=b/\b<w'.heap.size)/\
  (∀ k k' b cap size cap' size',k<B.length->k'<B.length->new k=.blk b cap size->new k'=.blk b cap' size'->k=k')
def K7 (w:World) (ι:Io) (M:Ms) (H:Hp) (s:S) (H':Hp) (v:Value) (w':World):Prop:=
 ∃(ι':Io) (M':Ms),RS w' ι' M' s v/\v5 w' ι' M' H'/\MB w' M'/\a17 ι' H'.length/\a4n w ι M H w' ι' M' H'
def ad1 {ι:Io} {n m:Nat} {new:Nat->Loc} (hf:∀k,k<m->ι (n+k)=none) {id:Nat} {l:Loc} (h:ι id=some l):G1 ι n m new id=some l:=by
 unfold G1;split
 ·rename_i hc;have:=hf (id - n) om;rw [show n+(id - n)=id by omega,h] at this;cases this
 ·exact h
def P4.gpost {w:World} {ι:Io} {M:Ms} {H:Hp} {s:S} {B:List Blk} {v:Value} {w':World} (hH:v5 w ι M H) (hM:MB w M) (hF:a17 ι H.length)
 (h:P4 w ι M H.length s B v w'):K7 w ι M H s (H++B) v w':=by
 have ⟨new,h1,h2,h3,h4,h5⟩:=h;have hnone:∀k,k<B.length->ι (H.length+k)=none:=fun k _=>hF _ om
 have hold:∀id,id<H.length->G1 ι H.length B.length new id=ι id:=fun id hid=>by
  unfold G1;rw [iC om]
 have hnew:∀k,k<B.length->G1 ι H.length B.length new (H.length+k)=some (new k):=fun k hk=>by
  unfold G1;rw [iB om];congr 2;omega
 have hdist:∀id b cap size,ι id=some (.blk b cap size)->∀k,H[id]? =some k->k.mode≠.dead->b<w.heap.size:=fun id b cap size hi k hk hd=>by
  have:=hH.blk id k hk hd _ hi;have ⟨_,_,_,_,_,cur,hc,_⟩:=this;exact C2 hc
 refine ⟨_,_,h1,⟨?_,?_,?_,?_,?_⟩,?_,?_,?_⟩
 ·intro id k hk hd l hl;by_cases hid:id<H.length
  ·rw [lbb hid] at hk;rw [hold id hid] at hl;have hb:=hH.blk id k hk hd l hl;cases l with
   |nil=>exact hb
   |blk b cap size=>
    have ⟨q1,q2,q3,q4,q5,cur,q6,q7,q8⟩:=hb;refine ⟨q1,q2,q3,q4,q5,cur,(h2.keep b (C2 q6)).trans q6,q7,fun i j c hc=>?_⟩;have ⟨u,hu,hr⟩:=q8 i j c hc;refine ⟨u,hu,hr.keep (fun b hb _=>h2.keep b hb) (fun b hb=>?_) (fun id l=>ad1 hnone)⟩;rcases hb with hb|⟨k,hk,cap,size,he⟩
    ·exact .inl hb
    ·exact .inr (h4 k b cap size hk he).1
  ·rw [lbc om] at hk;have hlt:=(lbe.1 hk).1;have e:G1 ι H.length B.length new id=some (new (id - H.length)):=by
    unfold G1;rw [iB om]
   rw [e] at hl;injection hl with hl;subst hl;exact (h3 _ _ hk).2
 ·intro id k hk hl b cap size hi;by_cases hid:id<H.length
  ·rw [lbb hid] at hk;rw [hold id hid] at hi;exact .inl (hH.liv id k hk hl b cap size hi)
  ·rw [lbc om] at hk;have hlt:=(lbe.1 hk).1;have e:G1 ι H.length B.length new id=some (new (id - H.length)):=by
    unfold G1;rw [iB om]
   rw [e] at hi;injection hi with hi;exact .inr ⟨_,hlt,cap,size,hi⟩
 ·intro id k hk hl b cap size hi;by_cases hid:id<H.length
  ·rw [lbb hid] at hk;rw [hold id hid] at hi;have hb:=hdist _ _ _ _ hi k hk (by rw [hl];intro h;cases h);rintro (hM'|⟨k',hk',cap',size',he⟩)
   ·exact hH.fro id k hk hl b cap size hi hM'
   ·have:=(h4 _ _ _ _ hk' he).1;omega
  ·rw [lbc om] at hk;have:=(h3 _ _ hk).1;rw [hl] at this;cases this
 ·intro id id' k k' hk hk' hl hl' b cap size cap' size' hi hi';by_cases hid:id<H.length<;>by_cases hid':id'<H.length
  ·rw [lbb hid] at hk;rw [lbb hid'] at hk';rw [hold _ hid] at hi;rw [hold _ hid'] at hi';exact hH.inj id id' k k' hk hk' hl hl' b cap size cap' size' hi hi'
  ·rw [lbb hid] at hk;rw [hold _ hid] at hi;have:=hdist _ _ _ _ hi k hk (by rw [hl];intro h;cases h);rw [lbc om] at hk';have hlt:=(lbe.1 hk').1;have e:G1 ι H.length B.length new id'=some (new (id' - H.length)):=by
    unfold G1;rw [iB om]
   rw [e] at hi';injection hi' with hi';have:=(h4 _ _ _ _ hlt hi').1;omega
  ·rw [lbb hid'] at hk';rw [hold _ hid'] at hi';have:=hdist _ _ _ _ hi' k' hk' (by rw [hl'];intro h;cases h);rw [lbc om] at hk;have hlt:=(lbe.1 hk).1;have e:G1 ι H.length B.length new id=some (new (id - H.length)):=by
    unfold G1;rw [iB om]
   rw [e] at hi;injection hi with hi;have:=(h4 _ _ _ _ hlt hi).1;omega
  ·rw [lbc om] at hk hk';have hlt:=(lbe.1 hk).1;have hlt':=(lbe.1 hk').1;have e:G1 ι H.length B.length new id=some (new (id - H.length)):=by
    unfold G1;rw [iB om]
   have e':G1 ι H.length B.length new id'=some (new (id' - H.length)):=by
    unfold G1;rw [iB om]
   rw [e] at hi;rw [e'] at hi';injection hi with hi;injection hi' with hi';have:=h5 _ _ _ _ _ _ _ hlt hlt' hi hi';omega
 ·intro id id' k k' hk hk' hl hl' b cap size cap' size' hi hi';by_cases hid:id<H.length
  ·rw [lbb hid] at hk;rw [hold _ hid] at hi;by_cases hid':id'<H.length
   ·rw [lbb hid'] at hk';rw [hold _ hid'] at hi';exact hH.old id id' k k' hk hk' hl hl' b cap size cap' size' hi hi'
   ·have:=hdist _ _ _ _ hi k hk (by rw [hl];intro h;cases h);rw [lbc om] at hk';have hlt:=(lbe.1 hk').1;have e:G1 ι H.length B.length new id'=some (new (id' - H.length)):=by
     unfold G1;rw [iB om]
    rw [e] at hi';injection hi' with hi';have:=(h4 _ _ _ _ hlt hi').1;omega
  ·rw [lbc om] at hk;have:=(h3 _ _ hk).1;rw [hl] at this;cases this
 ·intro b hb;rcases hb with hb|⟨k,hk,cap,size,he⟩
  ·exact a6P (hM b hb) h2.size
  ·exact (h4 k b cap size hk he).2
 ·intro id hid;rw [lbq] at hid;unfold G1;rw [iC om];exact hF id om
 ·refine ⟨h2.os,h2.tape,h2.output,h2.size,fun b hb _=>h2.keep b hb,fun id hid=>hold id hid,?_,fun b hb=>.inl (.inl hb),?_,zq⟩
  ·intro b hb;rcases hb with hb|⟨k,hk,cap,size,he⟩
   ·exact .inl hb
   ·exact .inr (h4 k b cap size hk he).1
  ·rintro b ⟨id,k,cap,size,hk,hl,hi⟩;by_cases hid:id<H.length
   ·rw [lbb hid] at hk;rw [hold _ hid] at hi;exact .inl ⟨id,k,cap,size,hk,hl,hi⟩
   ·rw [lbc om] at hk;have hlt:=(lbe.1 hk).1;have e:G1 ι H.length B.length new id=some (new (id - H.length)):=by
     unfold G1;rw [iB om]
    rw [e] at hi;injection hi with hi;exact .inr (h4 _ _ _ _ hlt hi).1
def b3r (P : Program) (g : FuncId) : Prop := ∃ fn, P.funcs[g]? = some fn/\fn.body.isSome = true/\fn.name ≠ "runtime.NumGoroutine"
def a0x (P:Program) (g:FuncId) (args:List S) (H:Hp) (s:S) (B:List Blk):Prop:=
 b3r P g/\∀(w:World) (ι:Io) (M:Ms) (vals:List Value),vals.length=args.length->(∀ j s,args[j]? =some s->RS w ι M s (vals.getD j undef))->v5 w ι M H->MB w M->
  (∀ k,k<B.length->ι (H.length+k)=none)->Calls P g vals.toArray w fun e w'=>∃v,e=.returned v/\P4 w ι M H.length s B v w'
def e8 (P:Program) (g:FuncId) (args:List S) (H:Hp) (s:S) (H':Hp):Prop:=
 b3r P g/\∀(w:World) (ι:Io) (M:Ms) (vals:List Value),vals.length=args.length->(∀ j s,args[j]? =some s->RS w ι M s (vals.getD j undef))->v5 w ι M H->MB w M->
  a17 ι H.length->Calls P g vals.toArray w fun e w'=>∃v,e=.returned v/\K7 w ι M H s H' v w'
inductive TK where
 |bas
 |bool
 |int (k:IntKind)
 |slice (e:TypeId)
 |arr (n:Nat) (e:TypeId)
 |struct (fs:List (Nat × Nat × Bool))
structure TD where
 k:TK
 agg:Bool
 size:Nat
 bytes:Nat
 zero:List Value
abbrev Tab:=Nat->Option TD
abbrev Env:=List S
def F7 (v:Value):C:=
 match v with
 |.slice none 0 0=>.t (.sl 0 .nil [])
 |v=>.t (.atm v)
def b3j (v:Value):S:=
 match v with
 |.agg cs=>cond (cs.toList.all (·.oneCell')) (.agg (cs.toList.map F7)) .junk
 |.tuple _=>.junk
 |.slice none 0 0=>.c (.t (.sl 0 .nil []))
 |v=>.c (.t (.atm v))
def M4 (env:Env):Operand->S
 |.tmp t=>env.getD t .junk
 |.const v=>b3j v
 |.global _=>.junk
 |.func f=>.c (.t (.fn (.func f) []))
section
variable {α β:Type}
def b1C:Nat->List α->(List α->Prop)->Prop
 |0,_,k=>k []
 |_+1,[],_=>False
 |n+1,x::l,k=>b1C n l fun r=>k (x::r)
def aG4:Nat->List α->(List α->Prop)->Prop
 |0,l,k=>k l
 |_+1,[],_=>False
 |n+1,_::l,k=>aG4 n l k
def a4M (n:Nat) (l:List α) (k:α->Prop):Prop:=
 List.rec (motive:=fun _=>Nat->Prop) (fun _=>False) (fun x _ ih n=>Nat.rec (motive:=fun _=>Prop) (k x) (fun n _=>ih n) n) l n
def a7F (n:Nat) (v:α) (l:List α) (k:List α->Prop):Prop:=
 List.rec (motive:=fun _=>Nat->(List α->Prop)->Prop) (fun _ k=>k []) (fun x r ih n k=>Nat.rec (motive:=fun _=>Prop) (k (v::r)) (fun n _=>ih n fun q=>k (x::q)) n) l n k
def a6o:Nat->List α->List α->(List α->Prop)->Prop
 |_,[],l,k=>k l
 |_,_::_,[],_=>False
 |0,x::xs,_::l,k=>a6o 0 xs l fun r=>k (x::r)
 |n+1,x::xs,y::l,k=>a6o n (x::xs) l fun r=>k (y::r)
def ak8 (f:α->β):List α->(List β->Prop)->Prop
 |[],k=>k []
 |x::l,k=>ak8 f l fun r=>k (f x::r)
def av9 (l r:List α) (k:List α->Prop):Prop:=
 List.rec (motive:=fun _=>(List α->Prop)->Prop) (fun k=>k r) (fun x _ ih k=>ih fun q=>k (x::q)) l k
def ak6 (l:List α) (n:Nat) (k:Nat->Prop):Prop:=
 List.rec (motive:=fun _=>Nat->Prop) (fun n=>k n) (fun _ _ ih n=>ih (n+1)) l n
end
def b3f:List C->Option (List T)
 |[]=>some []
 |.t x::r=>match b3f r with
  |some xs=>some (x::xs)
  |none=>none
 |_::_=>none
def b0B:List (List C)->Option (List (List T))
 |[]=>some []
 |x::r=>match b3f x,b0B r with
  |some a,some b=>some (a::b)
  |_,_=>none
def e7 (k:IntKind) (n:Int):S:=.c (.t (.atm (.int k n)))
def n7 (b:Bool):S:=.c (.t (.atm (.bool b)))
def ay4 (s:S) (k:S->Prop):Prop:=
 match s with
 |.junk=>k .junk
 |.c x=>k (.c x)
 |.agg cs=>k (.agg cs)
 |.tup ss=>k (.tup ss)
structure a3L (b:Bool) (k:S->Prop):Prop where
 yes:b=true->k (n7 true)
 no:b=false->k (n7 false)
structure aE3 (p:Prop) [Decidable p] (k:S->Prop):Prop where
 yes:p->k (n7 true)
 no:¬p->k (n7 false)
def b1k (s:S) (k:S->Prop):Prop:=
 match s with
 |.junk=>k .junk
 |.c x=>match x with
  |.t y=>match y with
   |.atm v=>match v with
    |.bool b=>a3L b k
    |v=>k (.c (.t (.atm v)))
   |y=>k (.c (.t y))
  |x=>k (.c x)
 |.agg cs=>k (.agg cs)
 |.tup ss=>k (.tup ss)
def a46 (s:S) (k:List C->Prop):Prop:=
 match s with
 |.c x=>k [x]
 |.agg cs=>k cs
 |_=>False
def N1 (k:IntKind) (x n:Int):Prop:=n=k.wrap x
def b5a (d:TD) (row:List C) (o:Nat) (K:S->Prop):Prop:=
 aG4 o row fun r=>cond d.agg (b1C d.size r fun cs=>K (.agg cs)) (a4M 0 r fun c=>K (.c c))
def b0H (d:TD) (row:List T) (K:S->Prop):Prop:=
 cond d.agg (b1C d.size row fun cs=>ak8 C.t cs fun cs=>K (.agg cs)) (a4M 0 row fun c=>K (.c (.t c)))
def bs0 (b:Blk) (r:Nat) (k:List C->Prop):Prop:=
 match b.box with
 |true=>match b.rows,r with
  |[row],0=>k row
  |_,_=>False
 |false=>∃row,b.rows[r]? =some row/\k row
def a3e (b:Blk) (k:Prop):Prop:=match b.mode with|.dead=>False|_=>k
def a6l (b:Blk) (k:Prop):Prop:=match b.mode,b.app with|.live,false=>k|_,_=>False
def aA3 (b:Blk) (k k':Prop):Prop:=match b.mode with|.live=>cond b.app k k'|_=>False
structure a3A (a b c:Prop):Prop where
 out:a\/b\/c
def a3A.data {a b c:Prop} (h:a):a3A a b c:=⟨.inl h⟩
def a3A.own {a b c:Prop} (h:b):a3A a b c:=⟨.inr (.inl h)⟩
def a3A.weak {a b c:Prop} (h:c):a3A a b c:=⟨.inr (.inr h)⟩
structure aA6 (a b:Prop):Prop where
 out:a\/b
def aA6.data {a b:Prop} (h:a):aA6 a b:=⟨.inl h⟩
def aA6.own {a b:Prop} (h:b):aA6 a b:=⟨.inr h⟩
def aK7 (τ:Tab) (ev:Operand->S) (H:Hp) (t:TypeId) (x:Operand) (K:S->Prop):Prop:=
 match τ t with
 |none=>False
 |some d=>match ev x with
  |.c (.ptr id r o)=>a4M id H fun b=>a3e b (bs0 b r fun row=>b5a d row o K)
  |.c (.t (.ptr cells))=>b0H d cells K
  |_=>False
def D6 (b:Blk) (rows:List (List C)):Blk:=⟨b.mode,b.elem,b.size,rows,b.box,b.app⟩
def aY0 (τ:Tab) (ev:Operand->S) (H:Hp) (t:TypeId) (x v:Operand) (K:Hp->Prop):Prop:=
 match τ t with
 |none=>False
 |some d=>match ev x with
  |.c (.ptr id r o)=>a4M id H fun b=>a6l b <| a46 (ev v) fun cs=>cond (Nat.beq cs.length d.size)
    (bs0 b r fun row=>a6o o cs row fun row'=>
      match b.box with
      |true=>a7F id (D6 b [row']) H K
      |false=>a7F id (D6 b (b.rows.set r row')) H K) False
  |_=>False
def au5 (τ:Tab) (s:TypeId) (f:Nat) (k:Nat->Prop):Prop:=
 match τ s with
 |some ⟨.struct fs,_,_,_,_⟩=>match fs[f]? with
  |some (off,size,_)=>cond (Nat.beq size 0) False (k off)
  |none=>False
 |_=>False
def a8F (τ:Tab) (ev:Operand->S) (s:TypeId) (x:Operand) (f:Nat) (K:S->Prop):Prop:=
 au5 τ s f fun off=>match ev x with
  |.c (.ptr id r o)=>K (.c (.ptr id r (o+off)))
  |.c (.t (.ptr cells))=>aG4 off cells fun cs=>K (.c (.t (.ptr cs)))
  |_=>False
def a6m (τ:Tab) (e:TypeId) (k:Nat->Prop):Prop:=match τ e with|some d=>k d.size|none=>False
def a5p (τ:Tab) (ev:Operand->S) (H:Hp) (t:TypeId) (x i:Operand) (K:S->Prop):Prop:=
 match ev i with
 |.c (.t (.atm (.int _ n)))=>match τ t with
  |some ⟨.slice e,_,_,_,_⟩=>match ev x with
   |.c (.t (.sl size k rows))=>a6m τ e fun s=>cond (Nat.beq s size) (∃ row,0<=n/\rows[n.toNat]? =some row/\K (.c (.t (.ptr row)))) False
   |.c (.own id lo len app)=>a6m τ e fun s=>a4M id H fun b=>a3e b (cond (Nat.beq s b.size) ((0<=n/\n<(len:Int))/\K (.c (.ptr id (lo+n.toNat) 0))) False)
   |_=>False
  |some ⟨.arr m e,_,_,_,_⟩=>a6m τ e fun s=>match ev x with
   |.c (.ptr id r o)=>(0<=n/\n<(m:Int))/\K (.c (.ptr id r (o+n.toNat*s)))
   |.c (.t (.ptr cells))=>(0<=n/\n<(m:Int))/\aG4 (n.toNat*s) cells fun cs=>K (.c (.t (.ptr cs)))
   |_=>False
  |_=>False
 |_=>False
def X8 (ev:Operand->S) (x:Option Operand) (dflt:Int) (k:Int->Prop):Prop:=
 match x with
 |none=>k dflt
 |some x=>match ev x with
  |.c (.t (.atm (.int _ n)))=>k n
  |_=>False
def a1N (k:SK) (hi max:Option Operand):SK:=
 match k,hi,max with
 |.full,none,none=>.full
 |_,_,_=>.any
def a72 (τ:Tab) (ev:Operand->S) (H:Hp) (t:TypeId) (x:Operand) (lo hi max:Option Operand) (K:S->Prop):Prop:=
 match τ t with
 |some ⟨.slice e,_,_,_,_⟩=>match max with
  |none=>match ev x with
   |.c (.t (.sl 0 .nil _))=>X8 ev lo 0 fun l=>X8 ev hi 0 fun h=>a6m τ e fun s=>(0<=l/\l<=h/\h<=0)/\K (.c (.t (.sl 0 .nil [])))
   |.c (.t (.sl size k rows))=>X8 ev lo 0 fun l=>X8 ev hi rows.length fun h=>a6m τ e fun s=>
     cond (Nat.beq s size) ((0<=l/\l<=h/\h<=rows.length)/\K (.c (.t (.sl size (a1N k hi max) ((rows.take h.toNat).drop l.toNat))))) False
   |.c (.own id l0 len app)=>X8 ev lo 0 fun l=>X8 ev hi len fun h=>
     a6m τ e fun s=>a4M id H fun b=>a3e b <| cond (Nat.beq s b.size) (((0<=l/\l<=h/\h<=(len:Int))/\K (.c (.own id (l0+l.toNat) (h - l).toNat (app && lo.isNone))))) False
   |_=>False
  |some y=>match ev y with
   |.c (.t (.atm (.int _ m)))=>match ev x with
    |.c (.t (.sl size k rows))=>X8 ev lo 0 fun l=>X8 ev hi 0 fun h=>a6m τ e fun s=>cond hi.isSome
      (cond (Nat.beq s size) ((0<=l/\l<=h/\m=h/\h<=rows.length)/\K (.c (.t (.sl size .full ((rows.take h.toNat).drop l.toNat))))) False) False
    |.c (.own id l0 len app)=>X8 ev lo 0 fun l=>X8 ev hi 0 fun h=>cond hi.isSome
      (a6m τ e fun s=>a4M id H fun b=>a3e b <| cond (Nat.beq s b.size) (((0<=l/\l<=h/\m=h/\h<=(len:Int))/\K (.c (.own id (l0+l.toNat) (h - l).toNat false)))) False) False
    |_=>False
   |_=>False
 |_=>False
def b4n (k:IntKind) (a b n:Int):Prop:=n=a.fdiv (2 ^ min b.toNat k.bits)
def a0Z (op:BinOp) (k:IntKind) (a b n:Int):Prop:=
 match op with
 |.and=>n=k.wrap (BitVec.ofInt k.bits a &&& BitVec.ofInt k.bits b).toNat
 |.or=>n=k.wrap (BitVec.ofInt k.bits a ||| BitVec.ofInt k.bits b).toNat
 |.xor=>n=k.wrap (BitVec.ofInt k.bits a ^^^ BitVec.ofInt k.bits b).toNat
 |.andNot=>n=k.wrap (BitVec.ofInt k.bits a &&& ~~~ BitVec.ofInt k.bits b).toNat
 |_=>False
def bI0 (op:BinOp) (k k':IntKind) (a b:Int) (K:S->Prop):Prop:=
 match op with
 |.shl=>0<=b/\∃n,N1 k (a*2 ^ min b.toNat k.bits) n/\K (e7 k n)
 |.shr=>0<=b/\∃n,b4n k a b n/\K (e7 k n)
 |op=>cond (decide (k=k')) (match op with
  |.add=>∃n,N1 k (a+b) n/\K (e7 k n)
  |.sub=>∃n,N1 k (a - b) n/\K (e7 k n)
  |.mul=>∃n,N1 k (a*b) n/\K (e7 k n)
  |.quo=>b≠0/\∃n,N1 k (a.tdiv b) n/\K (e7 k n)
  |.rem=>b≠0/\K (e7 k (a.tmod b))
  |.eql=>aE3 (a=b) K
  |.neq=>aE3 (a≠b) K
  |.lss=>aE3 (a<b) K
  |.leq=>aE3 (a<=b) K
  |.gtr=>aE3 (a > b) K
  |.geq=>aE3 (a≥b) K
  |op=>∃n,a0Z op k a b n/\K (e7 k n)) False
def aX9 (x:C) (k:Bool->Prop):Prop:=
 match x with
 |.t (.sl _ .nil _)=>k true
 |.t (.sl _ .nul _)=>k true
 |.t (.sl _ .non _)=>k false
 |.t (.sl _ _ rows)=>0<rows.length/\k false
 |.own _ _ len _=>0<len/\k false
 |_=>False
def EqS (P:Program) (t:TypeId) (n:Nat):Prop:=P.eqGuardType P.depth t=false/\∀(ul bs:LI) (w:World),ul.length=n->bs.length=n->
 (Op.equalIn 10000 t (.agg (ul.map (Value.int .i64)).toArray) (.agg (bs.map (Value.int .i64)).toArray)).run P w=.ok (ul == bs) w
def b1N:List C->(LI->Prop)->Prop
 |[],k=>k []
 |.t (.atm (.int .i64 a))::cs,k=>b1N cs fun l=>k (a::l)
 |_,_=>False
def bR5 (P:Program) (op:BinOp) (t:TypeId) (cs ds:List C) (K:S->Prop):Prop:=
 b1N cs fun ul=>b1N ds fun bs=>(EqS P t ul.length/\bs.length=ul.length)/\match op with
  |.eql=>a3L (ul == bs) K
  |.neq=>a3L (!(ul == bs)) K
  |_=>False
def bC3 (P:Program) (τ:Tab) (op:BinOp) (t:TypeId) (x y:S) (K:S->Prop):Prop:=
 match x,y with
 |.c (.t (.atm (.int k a))),.c (.t (.atm (.int k' b)))=>bI0 op k k' a b K
 |.c (.t (.atm (.bool a))),.c (.t (.atm (.bool b)))=>match τ t with
  |some ⟨.bool,_,_,_,_⟩=>match op with
   |.eql=>a3L (a == b) K
   |.neq=>a3L (!(a == b)) K
   |_=>False
  |_=>False
 |.c x,.c (.t (.sl _ .nil []))=>match τ t with
  |some ⟨.slice _,_,_,_,_⟩=>match op with
   |.eql=>aX9 x fun b=>K (n7 b)
   |.neq=>aX9 x fun b=>K (n7 (!b))
   |_=>False
  |_=>False
 |.agg cs,.agg ds=>bR5 P op t cs ds K
 |_,_=>False
def aun (op:UnOp) (x:S) (K:S->Prop):Prop:=
 match op,x with
 |.neg,.c (.t (.atm (.int k a)))=>∃n,N1 k (0 - a) n/\K (e7 k n)
 |.not,.c (.t (.atm (.bool b)))=>K (n7 (!b))
 |_,_=>False
def b8Y (τ:Tab) (src dst:TypeId) (x:S) (K:S->Prop):Prop:=
 match x,τ src,τ dst with
 |.c (.t (.atm (.int _ a))),some _,some ⟨.int k,_,_,_,_⟩=>∃n,N1 k a n/\K (e7 k n)
 |_,_,_=>False
def D8 (e:TypeId) (size:Nat) (rows:List (List C)) (box:Bool):Blk:=⟨.live,e,size,rows,box,false⟩
def bI2 (e:TypeId) (size:Nat) (rows:List (List C)):Blk:=⟨.live,e,size,rows,false,true⟩
def a6g (b:Blk):Blk:=⟨.old,b.elem,b.size,b.rows,b.box,true⟩
def b4b (τ:Tab) (ev:Operand->S) (n:Nat) (t:TypeId) (l c:Operand) (K:S->List Blk->Prop):Prop:=
 match ev l,ev c,τ t with
 |.c (.t (.atm (.int _ a))),.c (.t (.atm (.int _ b))),some ⟨.slice e,_,_,_,_⟩=>match τ e with
  |some d=>cond (Nat.beq d.size 0) False ((0<=a/\a<=b/\b*(d.bytes+1)<=140737488355328)/\
    ak8 F7 d.zero fun z=>K (.c (.own n 0 a.toNat true)) [D8 e d.size (List.replicate a.toNat z) false])
  |none=>False
 |_,_,_=>False
def an4 (fs:List (Nat × Nat × Bool)) (i:Nat) (cs:List C) (k:Nat->Prop):Prop:=
 match fs[i]? with
 |some (off,size,_)=>cond (Nat.beq cs.length size && Nat.blt 0 size) (k off) False
 |none=>False
def b1D (fs:List (Nat × Nat × Bool)) (cells:List C):List (Nat × S)->(List C->Prop)->Prop
 |[],k=>k cells
 |(i,s)::rest,k=>a46 s fun cs=>an4 fs i cs fun off=>a6o off cs cells fun cells'=>b1D fs cells' rest k
def b1I (size:Nat) (cells:List C):List (Nat × S)->(List C->Prop)->Prop
 |[],k=>k cells
 |(i,s)::rest,k=>a46 s fun cs=>cond (Nat.beq cs.length size && Nat.blt 0 size) (a6o (i*size) cs cells fun cells'=>b1I size cells' rest k) False
def aS7 (τ:Tab) (ev:Operand->S) (t:TypeId) (parts:List (Nat × Operand)) (K:S->Prop):Prop:=
 match τ t with
 |some ⟨.struct fs,_,_,_,z⟩=>ak8 F7 z fun z=>b1D fs z (parts.map fun p=>(p.1,ev p.2)) fun cs=>K (.agg cs)
 |some ⟨.arr _ e,_,_,_,z⟩=>a6m τ e fun s=>ak8 F7 z fun z=>b1I s z (parts.map fun p=>(p.1,ev p.2)) fun cs=>K (.agg cs)
 |_=>False
def b0F (size:Nat) (rows:List (List C)):List (Nat × S)->(List (List C)->Prop)->Prop
 |[],k=>k rows
 |(i,s)::rest,k=>a46 s fun cs=>cond (Nat.beq cs.length size && Nat.blt i rows.length) (a7F i cs rows fun rows'=>b0F size rows' rest k) False
def a3J (τ:Tab) (ev:Operand->S) (n:Nat) (t:TypeId) (len:Nat) (parts:List (Nat × Operand)) (K:S->List Blk->Prop):Prop:=
 match τ t with
 |some ⟨.slice e,_,_,_,_⟩=>match τ e with
  |some d=>cond (Nat.beq d.size 0 || Nat.ble 16777216 (len*d.size)) False (ak8 F7 d.zero fun z=>b0F d.size (List.replicate len z) (parts.map fun p=>(p.1,ev p.2)) fun rows=>
    match b0B rows with
    |some rs=>a3A (K (.c (.t (.sl d.size .full rs))) []) (K (.c (.own n 0 len true)) [D8 e d.size rows false]) (K (.c (.t (.sl d.size .any rs))) [])
    |none=>K (.c (.own n 0 len true)) [D8 e d.size rows false])
  |none=>False
 |_=>False
def bo4 (ev:Operand->S) (n:Nat) (t:TypeId) (x:Operand) (K:S->List Blk->Prop):Prop:=
 a46 (ev x) fun cs=>match cs with
  |[]=>False
  |c::r=>match b3f (c::r) with
   |some ts=>aA6 (K (.c (.t (.ptr ts))) []) (K (.c (.ptr n 0 0)) [D8 t (c::r).length [c::r] true])
   |none=>K (.c (.ptr n 0 0)) [D8 t (c::r).length [c::r] true]
def b2D (τ:Tab) (n:Nat) (t:TypeId) (K:S->List Blk->Prop):Prop:=
 match τ t with
 |some d=>ak8 F7 d.zero fun z=>cond (Nat.beq z.length 0) False (K (.c (.ptr n 0 0)) [D8 t z.length [z] true])
 |none=>False
def bB8 (τ:Tab) (t:TypeId) (x:S) (K:S->Prop):Prop:=
 match τ t with
 |some ⟨.slice _,_,_,_,_⟩=>match x with
  |.c (.t (.sl _ _ rows))=>K (e7 .i64 rows.length)
  |.c (.own _ _ len _)=>K (e7 .i64 len)
  |_=>False
 |some ⟨.arr n _,_,_,_,_⟩=>K (e7 .i64 n)
 |_=>False
def toC (rows:List (List T)):List (List C):=rows.map (·.map C.t)
def bu4 (size:Nat) (H:Hp) (x:S) (k:List (List C)->Prop):Prop:=
 match x with
 |.c (.t (.sl s _ rows))=>(rows.length=0\/s=size)/\k (toC rows)
 |.c (.own id lo len _)=>a4M id H fun b=>a3e b (cond (Nat.beq b.size size) (lo+len<=b.rows.length/\k ((b.rows.drop lo).take len)) False)
 |_=>False
def am0 (τ:Tab) (ev:Operand->S) (H:Hp) (n:Nat) (t:TypeId) (s x:Operand) (Kq:S->List Blk->Prop) (Kg:S->Hp->Prop):Prop:=
 match τ t with
 |some ⟨.slice e,_,_,_,_⟩=>match τ e with
  |some d=>cond (Nat.beq d.size 0) False (bu4 d.size H (ev x) fun xr=>
    match ev s with
    |.c (.t (.sl _ .nil _))=>xr.length*(d.bytes+1)<=140737488355328/\Kq (.c (.own n 0 xr.length true)) [D8 e d.size xr false]
    |.c (.t (.sl sz .full rows))=>((rows.length=0\/(0<xr.length/\sz=d.size))/\(rows.length+xr.length)*(d.bytes+1)<=140737488355328)/\
      Kq (.c (.own n 0 (rows.length+xr.length) true)) [D8 e d.size (toC rows++xr) false]
    |.c (.own id _ len true)=>a4M id H fun b=>cond (Nat.beq b.size d.size && Nat.beq b.elem e) (aA3 b
      ((len=b.rows.length/\(len+xr.length)*(d.bytes+1)<=140737488355328)/\
        a7F id (a6g b) H fun H1=>av9 H1 [bI2 e d.size (b.rows++xr)] fun H'=>Kg (.c (.own n 0 (len+xr.length) true)) H')
      ((len<=b.rows.length/\(len+xr.length)*(d.bytes+1)<=140737488355328)/\
        a7F id ⟨.dead,e,d.size,[],false,false⟩ H fun H1=>av9 H1 [D8 e d.size (b.rows.take len++xr) false] fun H'=>Kg (.c (.own n 0 (len+xr.length) true)) H')) False
    |_=>False)
  |none=>False
 |_=>False
def b5y (τ:Tab) (ev:Operand->S) (n:Nat) (t t':TypeId) (s x:Operand) (Kq:S->List Blk->Prop):Prop:=
 match τ t,τ t' with
 |some ⟨.slice e,_,_,_,_⟩,some ⟨.int _,_,_,_,_⟩=>match τ e with
  |some d=>cond (Nat.beq d.size 0) False (match ev s,ev x with
    |.c (.t (.sl _ .nil _)),.c (.t (.atm (.int .i64 m)))=>(1<=m/\m.toNat*(d.bytes+1)<=140737488355328)/\
      ak8 F7 d.zero fun z=>Kq (.c (.own n 0 m.toNat true)) [D8 e d.size (List.replicate m.toNat z) false]
    |_,_=>False)
  |none=>False
 |_,_=>False
def bL6 (τ:Tab) (t:TypeId) (x:S) (K:S->Prop):Prop:=
 match τ t with
 |some ⟨.slice _,_,_,_,_⟩=>match x with
  |.c (.t (.sl _ .nil _))=>K (e7 .i64 0)
  |_=>False
 |_=>False
def K8 (lo len:Nat) (rows xr:List (List C)):List (List C):=rows.take lo++(xr.take len++rows.drop (lo+(xr.take len).length))
def b4D (τ:Tab) (ev:Operand->S) (H:Hp) (t:TypeId) (x s:Operand) (Kg:S->Hp->Prop):Prop:=
 match τ t with
 |some ⟨.slice e,_,_,_,_⟩=>match τ e with
  |some d=>cond (Nat.beq d.size 0) False (bu4 d.size H (ev s) fun xr=>
    match ev x with
    |.c (.own id lo len _)=>a4M id H fun b=>a6l b (cond (Nat.beq b.size d.size && Nat.beq b.elem e) (lo+len<=b.rows.length/\
      a7F id (D6 b (K8 lo len b.rows xr)) H fun H'=>Kg (e7 .i64 (xr.take len).length) H') False)
    |_=>False)
  |none=>False
 |_=>False
def aZ9 (τ:Tab) (ev:Operand->S) (H:Hp) (t:TypeId) (x:Operand) (Kg:S->Hp->Prop):Prop:=
 match τ t with
 |some ⟨.slice e,_,_,_,_⟩=>match τ e with
  |some d=>cond (Nat.beq d.size 0) False (ak8 F7 d.zero fun z=>
    match ev x with
    |.c (.own id lo len _)=>a4M id H fun b=>a6l b (cond (Nat.beq b.size d.size && Nat.beq b.elem e) (lo+len<=b.rows.length/\
      a7F id (D6 b (K8 lo len b.rows (List.replicate len z))) H fun H'=>Kg .junk H') False)
    |_=>False)
  |none=>False
 |_=>False
def b8n:List S->Option (List C)
 |[]=>some []
 |.c x::r=>match b8n r with
  |some xs=>some (x::xs)
  |none=>none
 |_::_=>none
def bm9 (max:Bool):List S->(S->Prop)->Prop
 |[.c (.t (.atm (.int k a))),.c (.t (.atm (.int _ b)))],K=>K (e7 k (cond max (if b > a then b else a) (if b<a then b else a)))
 |_,_=>False
def ba4 (P:Program) (g:FuncId) (args:List S) (H:Hp) (Kq:S->List Blk->Prop) (Kg:S->Hp->Prop):Prop:=
 (∃ r B,a0x P g args H r B/\b1k r fun r=>Kq r B)\/(∃ r H',e8 P g args H r H'/\b1k r fun r=>Kg r H')
def b3b (s:S) (k:S->Prop):Prop:=match s with
 |.c (.ptr id r o)=>k (.c (.ptr id r o))
 |.c (.t (.ptr cs))=>k (.c (.t (.ptr cs)))
 |_=>False
def aop (P:Program) (τ:Tab) (ev:Operand->S) (H:Hp) (op:Op) (Kq:S->List Blk->Prop) (Kg:S->Hp->Prop):Prop:=
 match op with
 |.move x|.assign x=>ay4 (ev x) fun s=>Kq s []
 |.pick c a b=>match ev c with
  |.c (.t (.atm (.bool t)))=>cond t (ay4 (ev a) fun s=>Kq s []) (ay4 (ev b) fun s=>Kq s [])
  |_=>False
 |.load t x=>aK7 τ ev H t x fun s=>b1k s fun s=>Kq s []
 |.store t x v=>aY0 τ ev H t x v fun H'=>Kg .junk H'
 |.fieldAddr s x f=>a8F τ ev s x f fun s=>Kq s []
 |.indexAddr t x i=>a5p τ ev H t x i fun s=>Kq s []
 |.slice t x lo hi max=>a72 τ ev H t x lo hi max fun s=>Kq s []
 |.binOp op t x y _=>bC3 P τ op t (ev x) (ev y) fun s=>Kq s []
 |.unOp op _ x=>aun op (ev x) fun s=>Kq s []
 |.convert src dst x=>b8Y τ src dst (ev x) fun s=>Kq s []
 |.makeSlice t l c=>ak6 H 0 fun n=>b4b τ ev n t l c Kq
 |.build t parts=>aS7 τ ev t parts.toList fun s=>Kq s []
 |.buildSlice t n parts=>ak6 H 0 fun m=>a3J τ ev m t n parts.toList Kq
 |.box t x=>ak6 H 0 fun n=>bo4 ev n t x Kq
 |.alloc t=>ak6 H 0 fun n=>b2D τ n t Kq
 |.extract x i=>match ev x with
  |.tup ss=>a4M i ss fun s=>b1k s fun s=>Kq s []
  |_=>False
 |.makeFunc fn first caps=>match first.toList,b8n (caps.toList.map ev) with
  |[],some cs=>match b3f cs with
   |some ts=>Kq (.c (.t (.fn fn ts))) []
   |none=>Kq (.c (.fn fn cs)) []
  |_,_=>False
 |.call c=>match c.callee with
  |.builtin .len=>match c.argTypes.toList,c.args.toList with
   |t::_,x::_=>bB8 τ t (ev x) fun s=>Kq s []
   |_,_=>False
  |.builtin .append=>match c.argTypes.toList,c.args.toList with
   |[t,t'],[s,x]=>cond (Nat.beq t t') (ak6 H 0 fun n=>am0 τ ev H n t s x Kq Kg) (ak6 H 0 fun n=>b5y τ ev n t t' s x Kq)
   |_,_=>False
  |.builtin .cap=>match c.argTypes.toList,c.args.toList with
   |[t],[x]=>bL6 τ t (ev x) fun s=>Kq s []
   |_,_=>False
  |.builtin .copy=>match c.argTypes.toList,c.args.toList with
   |[t,t'],[x,s]=>cond (Nat.beq t t') (b4D τ ev H t x s Kg) False
   |_,_=>False
  |.builtin .clear=>match c.argTypes.toList,c.args.toList with
   |[t],[x]=>aZ9 τ ev H t x Kg
   |_,_=>False
  |.builtin .min=>bm9 false (c.args.toList.map ev) fun s=>Kq s []
  |.builtin .max=>bm9 true (c.args.toList.map ev) fun s=>Kq s []
  |.value f=>match ev f with
   |.c (.t (.fn (.func g) caps))=>ba4 P g (c.args.toList.map ev++caps.map fun x=>.c (.t x)) H Kq Kg
   |.c (.fn (.func g) caps)=>ba4 P g (c.args.toList.map ev++caps.map .c) H Kq Kg
   |_=>False
  |_=>False
 |.nilCheck x=>b3b (ev x) fun s=>Kq s []
 |_=>False
section
variable {α β:Type}
def aL3 {n:Nat} {l:List α} {k:List α->Prop} (h:b1C n l k):n<=l.length/\k (l.take n):=by
 induction n generalizing l k with
 |zero=>exact ⟨G0 _,by simpa [b1C] using h⟩
 |succ n ih=>cases l with
  |nil=>exact h.elim
  |cons x l=>have ⟨h1,h2⟩:=ih h;exact ⟨by simp;omega,by simpa using h2⟩
def aa4 {n:Nat} {l:List α} {k:List α->Prop} (h:aG4 n l k):n<=l.length/\k (l.drop n):=by
 induction n generalizing l with
 |zero=>cases l<;>exact ⟨G0 _,by simpa [aG4] using h⟩
 |succ n ih=>cases l with
  |nil=>exact h.elim
  |cons x l=>have ⟨h1,h2⟩:=ih h;exact ⟨by simp;omega,by simpa using h2⟩
def U9 {n:Nat} {l:List α} {k:α->Prop} (h:a4M n l k):∃x,l[n]? =some x/\k x:=by
 induction n generalizing l with
 |zero=>cases l with
  |nil=>exact h.elim
  |cons x l=>exact ⟨x,rfl,h⟩
 |succ n ih=>cases l with
  |nil=>exact h.elim
  |cons x l=>have ⟨y,h1,h2⟩:=ih h;exact ⟨y,by simpa using h1,h2⟩
def S0 {n:Nat} {v:α} {l:List α} {k:List α->Prop}:a7F n v l k↔k (l.set n v):=by
 induction l generalizing n k with
 |nil=>show k []↔_;simp
 |cons x l ih=>cases n with
  |zero=>exact Iff.rfl
  |succ n=>show a7F n v l (fun q=>k (x::q))↔_;rw [ih];rfl
def b6J {o:Nat} {xs l:List α} {k:List α->Prop} (h:a6o o xs l k):o+xs.length<=l.length\/xs=[]:=by
 induction l generalizing o xs k with
 |nil=>cases xs with
  |nil=>exact .inr rfl
  |cons x xs=>cases o<;>exact h.elim
 |cons y l ih=>cases xs with
  |nil=>exact .inr rfl
  |cons x xs=>
   refine .inl ?_;cases o with
   |zero=>rcases ih h with h|h<;>(try subst h)<;>simp at *;omega
   |succ o=>rcases ih h with h|h<;>simp at *;omega
def a9K {o:Nat} {xs l:List α} {k:List α->Prop} (h:a6o o xs l k) (h0:xs≠[]):o+xs.length<=l.length/\k (l.take o++xs++l.drop (o+xs.length)):=by
 refine ⟨(b6J h).resolve_right h0,?_⟩;induction l generalizing o xs k with
 |nil=>cases xs with
  |nil=>exact absurd rfl h0
  |cons x xs=>cases o<;>exact h.elim
 |cons y l ih=>cases xs with
  |nil=>exact absurd rfl h0
  |cons x xs=>
   cases o with
   |zero=>
    cases xs with
    |nil=>cases l<;>simpa [a6o] using h
    |cons x' xs=>simpa using ih (o:=0) h zq
   |succ o=>simpa [show o+1+(xs.length+1)=(o+(xs.length+1))+1 by omega] using ih (o:=o) h zq
def b1Q {o:Nat} {xs l:List α} {k:List α->Prop} (hl:o+xs.length<=l.length) (h0:xs≠[]) (h:k (l.take o++xs++l.drop (o+xs.length))):a6o o xs l k:=by
 induction l generalizing o xs k with
 |nil=>cases xs with
  |nil=>exact absurd rfl h0
  |cons x xs=>simp at hl
 |cons y l ih=>cases xs with
  |nil=>exact absurd rfl h0
  |cons x xs=>
   cases o with
   |zero=>
    cases xs with
    |nil=>cases l<;>simpa [a6o] using h
    |cons x' xs=>exact ih (o:=0) (by simp at hl ⊢;omega) zq (by simpa using h)
   |succ o=>exact ih (o:=o) (by simp at hl ⊢;omega) zq (by simpa [show o+1+(xs.length+1)=(o+(xs.length+1))+1 by omega] using h)
def a2c {f:α->β} {l:List α} {k:List β->Prop}:ak8 f l k↔k (l.map f):=by
 induction l generalizing k with
 |nil=>simp [ak8]
 |cons x l ih=>simp [ak8,ih]
def a4z {a l:List α} {k:List α->Prop}:av9 a l k↔k (a++l):=by
 induction a generalizing k with
 |nil=>exact Iff.rfl
 |cons x a ih=>show av9 a l (fun q=>k (x::q))↔_;rw [ih];rfl
def a2d {l:List α} {n:Nat} {k:Nat->Prop}:ak6 l n k↔k (n+l.length):=by
 induction l generalizing n with
 |nil=>exact Iff.rfl
 |cons x l ih=>show ak6 l (n+1) k↔_;rw [ih,a3w,aL6 1];rfl
end
def a3k {s:S} {k:S->Prop}:ay4 s k↔k s:=by cases s<;>rfl
def a3L.get {b:Bool} {k:S->Prop} (h:a3L b k):k (n7 b):=by cases b<;>first|exact h.yes rfl|exact h.no rfl
def aE3.get {p:Prop} [Decidable p] {k:S->Prop} (h:aE3 p k):k (n7 (decide p)):=by
 by_cases hp:p
 ·rw [lbH hp];exact h.yes hp
 ·rw [lbJ hp];exact h.no hp
def a76 {s:S} {k:S->Prop} (h:b1k s k):k s:=by
 cases s with
 |c x=>cases x with
  |t y=>cases y with
   |atm v=>cases v<;>first|exact a3L.get h|exact h
   |_=>exact h
  |_=>exact h
 |_=>exact h
def a3c {s:S} {k:List C->Prop} (h:a46 s k):∃cs,k cs/\((∃ c,s=.c c/\cs=[c])\/s=.agg cs):=by
 cases s with
 |c x=>exact ⟨_,h,.inl ⟨x,rz⟩⟩
 |agg cs=>exact ⟨_,h,.inr rfl⟩
 |_=>exact h.elim
def I2 {b:Bool} {x:Prop} (h:cond b x False):b=true/\x:=by cases b with|true=>exact ⟨rfl,h⟩|false=>exact h.elim
def a11 {b:Bool} {x:Prop} (h:cond b False x):b=false/\x:=by cases b with|false=>exact ⟨rfl,h⟩|true=>exact h.elim
structure aQ3 (P:Program) (t:TypeId) (d:TD):Prop where
 info:∃i,P.info? t=some i/\i.size=d.size/\i.bytes=d.bytes/\∃z,i.zero=some z/\z.cells.toList=d.zero/\(∀ v ∈ d.zero,v.oneCell'=true)/\d.zero.length=d.size
 und:∃u,P.underlying t=some u/\match d.k with
  |.bas=>d.agg=false/\(match u with|.struct _|.array _ _=>False|_=>True)
  |.bool=>d.agg=false/\u=.bool
  |.int k=>d.agg=false/\u=.int k
  |.slice e=>d.agg=false/\u=.slice e
  |.arr n e=>d.agg=true/\u=.array n e
  |.struct fs=>d.agg=true/\∃fields,u=.struct fields/\fs.map (fun x=>(x.1,x.2.1))=fields.toList.map (fun f=>(f.offset,P.cellsOf f.type))/\(∀ f ∈ fields.toList,(P.info? f.type).isSome=true)/\
    fields.toList.mapM (fun f=>(P.info? f.type).map fun i=>(f.offset,i.size))=some (fs.map (fun x=>(x.1,x.2.1)))
structure G7 (P:Program) (τ:Tab):Prop where
 mixed:P.follows .mixedOrders=true
 td:∀t d,τ t=some d->aQ3 P t d
def b8H (P:Program) (o:Oper) (a:Act) (w:World) (R:Value->World->Prop):Prop:=
 ∀(K:Act->World->Prop) (Q:Exit->Act->World->Prop),(∀ v w',R v w'->K (a.put o.dst v) w')->o.wp P a w K Q
def C1 {P:Program} {o:Oper} {a:Act} {w w':World} {R:Value->World->Prop} {v:Value} (h:(execOp a.eval o).run P w=.ok (.value v) w') (hr:R v w'):b8H P o a w R:=by
 intro K Q hK;unfold Oper.wp;rw [h];exact hK _ _ hr
def aH6 {P:Program} {o:Oper} {a:Act} {w w':World} {R:Value->World->Prop} (h:(execOp a.eval o).run P w=.ok .skip w') (hr:R undef w'):b8H P o a w R:=by
 intro K Q hK;unfold Oper.wp;rw [h];exact hK _ _ hr
def aC8 {P:Program} {o:Oper} {a:Act} {w w':World} {R:Value->World->Prop} {f:FuncId} {args:Array Value} (h:(execOp a.eval o).run P w=.ok (.enter f args) w')
 (hr:Calls P f args w' fun e w''=>∃v,e=.returned v/\R v w''):b8H P o a w R:=by
 intro K Q hK;unfold Oper.wp;rw [h];refine Calls.mono hr ?_;rintro e w'' ⟨v,rfl,hv⟩;exact hK _ _ hv
abbrev a0J (w:World) (ι:Io) (M:Ms) (ev:Operand->S) (a:Act):Prop:=∀x,RS w ι M (ev x) (a.eval x)
def QOp (P:Program) (o:Oper) (ev:Operand->S) (H:Hp) (s:S) (B:List Blk):Prop:=
 ∀(a:Act) (w:World) (ι:Io) (M:Ms),a0J w ι M ev a->v5 w ι M H->MB w M->(∀ k,k<B.length->ι (H.length+k)=none)->b8H P o a w (P4 w ι M H.length s B)
def GOp (P:Program) (o:Oper) (ev:Operand->S) (H:Hp) (s:S) (H':Hp):Prop:=
 ∀(a:Act) (w:World) (ι:Io) (M:Ms),a0J w ι M ev a->v5 w ι M H->MB w M->a17 ι H.length->b8H P o a w (K7 w ι M H s H')
def P4.of_none {w w':World} {ι:Io} {M:Ms} {n:Nat} {s:S} {v:Value} (h:RS w' ι M s v) (he:Ext w w'):P4 w ι M n s [] v w':=by
 refine ⟨fun _=>.nil,h.keep (fun _ _ _=>rfl) ?_ (fun id l hl=>?_),he,zq,zq,zq⟩
 ·rintro b (hb|⟨k,hk,_⟩)
  ·exact .inl hb
  ·simp at hk
 ·unfold G1;rw [iC zq,hl]
def A6 {P:Program} {o:Oper} {ev:Operand->S} {H:Hp} {s:S}
 (h:∀(a:Act) (w:World) (ι:Io) (M:Ms),a0J w ι M ev a->v5 w ι M H->∃v,(execOp a.eval o).run P w=.ok (.value v) w/\RS w ι M s v):QOp P o ev H s []:=by
 intro a w ι M he hh hm _;have ⟨v,h1,h2⟩:=h a w ι M he hh;exact C1 h1 (P4.of_none h2 (Ext.refl w))
def RS.inv_c {w:World} {ι:Io} {M:Ms} {x:C} {v:Value} (h:RS w ι M (.c x) v):RC w ι M x v:=by cases h;assumption
def RS.inv_t {w:World} {ι:Io} {M:Ms} {x:T} {v:Value} (h:RS w ι M (.c (.t x)) v):RT w M x v:=by cases h with|c h=>cases h;assumption
def RS.inv_atm {w:World} {ι:Io} {M:Ms} {x v:Value} (h:RS w ι M (.c (.t (.atm x))) v):v=x:=by cases h.inv_t;rfl
def RS.mk_atm {w:World} {ι:Io} {M:Ms} {v:Value} (h:v.oneCell'=true):RS w ι M (.c (.t (.atm v))) v:=.c (.t (.atm h))
def RS.int {w:World} {ι:Io} {M:Ms} {k:IntKind} {n:Int}:RS w ι M (e7 k n) (.int k n):=.mk_atm rfl
def RS.bool {w:World} {ι:Io} {M:Ms} {b:Bool}:RS w ι M (n7 b) (.bool b):=.mk_atm rfl
def RC.const {w:World} {ι:Io} {M:Ms} {v:Value} (h:v.oneCell'=true):RC w ι M (F7 v) v:=by
 unfold F7;split
 ·exact .t (.sl (b:=0) (off:=0) (fun _ _=>undef) zq zq (by unfold maxLen;omega) zq zq zq (by simp [at2]) (by simp [at2]))
 ·exact .t (.atm h)
def RS.const {w:World} {ι:Io} {M:Ms} (v:Value):RS w ι M (b3j v) v:=by
 unfold b3j;split
 ·rename_i cs;cases hb:cs.toList.all (·.oneCell') with
  |false=>exact .junk
  |true=>
   have:RS w ι M (.agg (cs.toList.map F7)) (.agg cs.toList.toArray):=.agg cs.toList zq fun j c hc=>by
    rw [lba] at hc;cases hj:cs.toList[j]? with
    |none=>rw [hj] at hc;cases hc
    |some u=>
     rw [hj] at hc;injection hc with hc;subst hc;rw [lbl,hj];exact RC.const (lbv.1 hb u (lbm hj))
   simpa using this
 ·exact .junk
 ·exact .c (.t (.sl (b:=0) (off:=0) (fun _ _=>undef) zq zq (by unfold maxLen;omega) zq zq zq (by simp [at2]) (by simp [at2])))
 ·rename_i h1 h2 h3;refine .c (.t (.atm ?_));cases v<;>first|rfl|(exact absurd rfl (h1 _))|(exact absurd rfl (h2 _))
section
variable {P:Program} {τ:Tab} {o:Oper} {ev:Operand->S} {H:Hp}
def a0J.to {w:World} {ι:Io} {M:Ms} {a:Act} (h:a0J w ι M ev a) {x:Operand} {s:S} (e:ev x=s):RS w ι M s (a.eval x):=e ▸ h x
def b1e (x:Operand) (ho:o.op=.move x\/o.op=.assign x):QOp P o ev H (ev x) []:=
 A6 fun a w ι M he hh=>⟨a.eval x,by rcases ho with ho|ho<;>simp [execOp,ho],he x⟩
def b7s (c x y:Operand) (t:Bool) (ho:o.op=.pick c x y) (hc:ev c=n7 t):QOp P o ev H (cond t (ev x) (ev y)) []:=
 A6 fun a w ι M he hh=>⟨cond t (a.eval x) (a.eval y),by
  have h:=(he.to hc).inv_atm;cases t<;>simp [execOp,ho,h,asBool],by cases t<;>exact he _⟩
def bX0:TypeDesc->Bool
 |.struct _=>true
 |.array _ _=>true
 |_=>false
def aG3 {t:TypeId} {d:TD} (h:aQ3 P t d) (w:World):(isAgg t).run P w=.ok d.agg w:=by
 have ⟨u,hu,hk⟩:=h.und;have hr:(isAgg t).run P w=.ok (bX0 u) w:=by
  clear hk;simp only [isAgg,Sem.run_bind,run_underlying hu,Result.andThen_ok];cases u<;>rfl
 rw [hr];cases hd:d.k<;>rw [hd] at hk<;>simp only at hk
 ·have ⟨h1,h2⟩:=hk;rw [h1];cases u<;>first|exact h2.elim|rfl
 ·obtain ⟨h1,rfl⟩:=hk;rw [h1];rfl
 ·obtain ⟨h1,rfl⟩:=hk;rw [h1];rfl
 ·obtain ⟨h1,rfl⟩:=hk;rw [h1];rfl
 ·obtain ⟨h1,rfl⟩:=hk;rw [h1];rfl
 ·obtain ⟨h1,_,rfl,_⟩:=hk;rw [h1];rfl
def a4Q {t:TypeId} {d:TD} (h:aQ3 P t d) (w:World):(sizeOf t).run P w=.ok d.size w:=by
 have ⟨i,hi,hs,_⟩:=h.info;simp [sizeOf,typeInfo,hi,hs]
theorem zo {p:Prop} (h:p:=by simp;omega):p:=h
def a6z {t:TypeId} {d:TD} (h:aQ3 P t d) {w:World} {ι:Io} {M:Ms} {b off:Nat} {cells:List C}
 (hc:∀j c,cells[j]? =some c->∃u,w.cell? ⟨b,off+j,none⟩=some u/\RC w ι M c u) {s:S}
 (hs:(d.agg=true/\d.size<=cells.length/\s=.agg (cells.take d.size))\/(d.agg=false/\∃c,cells[0]? =some c/\s=.c c)):
 ∃v,(Instr.loadAt t (.pointer (some ⟨b,off,none⟩))).run P w=.ok v w/\RS w ι M s v:=by
 rcases hs with ⟨ha,hl,rfl⟩|⟨ha,c,h0,rfl⟩
 ·have hex:∀j,j<d.size->∃u,w.cell? ⟨b,off+j,none⟩=some u/\∃c,cells[j]? =some c/\RC w ι M c u:=fun j hj=>by
   have ⟨u,h1,h2⟩:=hc j _ (lbf om);exact ⟨u,h1,_,lbf om,h2⟩
  refine ⟨.agg ((List.range d.size).map fun j=>(w.cell? ⟨b,off+j,none⟩).getD undef).toArray,?_,?_⟩
  ·have:=run_loadCells (P:=P) w ⟨b,off,none⟩ d.size (fun j=>(w.cell? ⟨b,off+j,none⟩).getD undef) (fun j hj=>by
    have ⟨u,h1,_⟩:=hex j hj;have e:(⟨b,off,none⟩:Addr).add j=⟨b,off+j,none⟩:=by unfold Addr.add;split<;>simp_all
    rw [e,h1];rfl)
   simp [Instr.loadAt,Instr.sureAddr,loadVar,aG3 h,a4Q h,ha,this]
  ·refine .agg _ zo fun j c hj=>?_
   have hlt:j<d.size:=by have:=(lbe.1 hj).1;simp at this;omega
   have ⟨u,h1,c',h2,h3⟩:=hex j hlt;rw [List.getElem?_take_of_lt hlt,h2] at hj;injection hj with hj;subst hj;rw [lbl,lba,lbh hlt];simp [h1,h3]
 ·have ⟨u,h1,h2⟩:=hc 0 c h0;refine ⟨u,?_,.c h2⟩;simp only [b0I] at h1;simp [Instr.loadAt,Instr.sureAddr,loadVar,aG3 h,ha,h1]
def bu6 {rows:List (List C)} {r:Nat} {row:List C} (h:rows[r]? =some row) (j:Nat):at2 rows r j=row[j]?:=by simp [at2,h]
def S7.row {w:World} {ι:Io} {M:Ms} {k:Blk} {b cap size:Nat} (h:S7 w ι M k (.blk b cap size)) {r:Nat} {row:List C} (hr:k.rows[r]? =some row):
 ∀j c,row[j]? =some c->∃u,w.cell? ⟨b,r*size+j,none⟩=some u/\RC w ι M c u:=fun j c hj=>by
 have ⟨_,_,_,_,_,cur,hb,_,h8⟩:=h;have ⟨u,h1,h2⟩:=h8 r j c (by rw [bu6 hr];exact hj);exact ⟨u,by simp [World.cell?,hb,h1],h2⟩
def b1o {b:Blk} {r:Nat} {k:List C->Prop} (h:bs0 b r k):∃row,b.rows[r]? =some row/\k row/\(b.box=true->b.rows=[row]/\r=0):=by
 unfold bs0 at h;split at h
 ·split at h
  ·rename_i hb _ _ row hr;exact ⟨row,by rw [hr];rfl,h,fun _=>⟨hr,rfl⟩⟩
  ·exact h.elim
 ·have ⟨row,h1,h2⟩:=h;rename_i hb;exact ⟨row,h1,h2,fun h=>by rw [hb] at h;cases h⟩
def a1q {b:Blk} {k:Prop} (h:a3e b k):b.mode≠.dead/\k:=by
 unfold a3e at h;cases hb:b.mode<;>rw [hb] at h<;>first|exact h.elim|exact ⟨zq,h⟩
def a5B {b:Blk} {k:Prop} (h:a6l b k):b.mode=.live/\b.app=false/\k:=by
 unfold a6l at h;cases hb:b.mode<;>cases ha:b.app<;>rw [hb,ha] at h<;>first|exact h.elim|exact ⟨rfl,rfl,h⟩
def aV1 {b:Blk} {k k':Prop} (h:aA3 b k k'):b.mode=.live/\((b.app=true/\k)\/(b.app=false/\k')):=by
 unfold aA3 at h;cases hb:b.mode<;>cases ha:b.app<;>rw [hb] at h<;>first|exact h.elim|(simp only [ha] at h;first|exact ⟨rfl,.inl ⟨rfl,h⟩⟩|exact ⟨rfl,.inr ⟨rfl,h⟩⟩)
def b1X {d:TD} {row:List C} {o:Nat} {K:S->Prop} (h:b5a d row o K):
 ∃s,K s/\((d.agg=true/\d.size<=(row.drop o).length/\s=.agg ((row.drop o).take d.size))\/(d.agg=false/\∃c,(row.drop o)[0]? =some c/\s=.c c)):=by
 have ⟨_,h⟩:=aa4 h;cases ha:d.agg<;>rw [ha] at h
 ·have ⟨c,h1,h2⟩:=U9 h;exact ⟨_,h2,.inr ⟨rfl,c,h1,rfl⟩⟩
 ·have ⟨h1,h2⟩:=aL3 h;exact ⟨_,h2,.inl ⟨rfl,h1,rfl⟩⟩
def aG6 (hτ:G7 P τ) {t:TypeId} {x:Operand} {K:S->Prop} (h:aK7 τ ev H t x K):∃s,K s/\∀(a:Act) (w:World) (ι:Io) (M:Ms),a0J w ι M ev a->v5 w ι M H->∃v ad,a.eval x=.pointer (some ad)/\(Instr.loadAt t (a.eval x)).run P w=.ok v w/\RS w ι M s v:=by
 unfold aK7 at h;split at h
 ·exact h.elim
 rename_i d hd;split at h
 ·rename_i id r off hx;have ⟨b,hb,h⟩:=U9 h;have ⟨hdead,h⟩:=a1q h;have ⟨row,hrow,h,_⟩:=b1o h;have ⟨s,hs,hcase⟩:=b1X h;refine ⟨s,hs,fun a w ι M he hh=>?_⟩;generalize hv:a.eval x=v;have hr:=he.to hx;rw [hv] at hr;cases hr with
  |c hr=>cases hr with
   |@ptr _ _ _ bb cap size hi=>
    have hbr:=(hh.blk id b hb hdead _ hi).row hrow;have ⟨v,h1,h2⟩:=a6z (hτ.td t d hd) (w:=w) (ι:=ι) (M:=M) (b:=bb) (off:=r*size+off) (cells:=row.drop off)
     (fun j c hj=>by rw [lbj] at hj;rw [a3w];exact hbr _ _ hj) hcase
    exact ⟨v,_,rfl,h1,h2⟩
 ·rename_i cells hx;have hcase:∃s,K s/\((d.agg=true/\d.size<=(cells.map C.t).length/\s=.agg ((cells.map C.t).take d.size))\/(d.agg=false/\∃c,(cells.map C.t)[0]? =some c/\s=.c c)):=by
   unfold b0H at h;cases ha:d.agg<;>rw [ha] at h
   ·have ⟨c,h1,h2⟩:=U9 h;exact ⟨_,h2,.inr ⟨rfl,.t c,by simp [lba,h1],rfl⟩⟩
   ·have ⟨h1,h2⟩:=aL3 h;rw [a2c,b4V] at h2;exact ⟨_,h2,.inl ⟨rfl,by simpa using h1,rfl⟩⟩
  have ⟨s,hs,hcase⟩:=hcase;refine ⟨s,hs,fun a w ι M he hh=>?_⟩;generalize hv:a.eval x=v;have hr:=(he.to hx).inv_t;rw [hv] at hr;cases hr with
  |@ptr _ b off f hc hr=>
   have ⟨v,h1,h2⟩:=a6z (hτ.td t d hd) (w:=w) (ι:=ι) (M:=M) (b:=b) (off:=off) (cells:=cells.map C.t)
    (fun j c hj=>by
      rw [lba] at hj;cases hj':cells[j]? with
      |none=>rw [hj'] at hj;cases hj
      |some c'=>
       rw [hj'] at hj;injection hj with hj;subst hj;exact ⟨f j,(hc j c' hj').1,.t (hr j c' hj')⟩) hcase
   exact ⟨v,_,rfl,h1,h2⟩
 ·exact h.elim
def b1g (hτ:G7 P τ) {t:TypeId} {x:Operand} (ho:o.op=.load t x) {K:S->Prop} (h:aK7 τ ev H t x K):∃s,K s/\QOp P o ev H s []:=by
 have ⟨s,hs,hv⟩:=aG6 hτ h;refine ⟨s,hs,A6 fun a w ι M he hh=>?_⟩;have ⟨v,ad,h0,h1,h2⟩:=hv a w ι M he hh;exact ⟨v,by simp [execOp,ho,h1],h2⟩
end
section
variable {P:Program} {τ:Tab} {o:Oper} {ev:Operand->S} {H:Hp}
def Addr.add_none (b off n:Nat):(⟨b,off,none⟩:Addr).add n=⟨b,off+n,none⟩:=by unfold Addr.add;split<;>simp_all
def aP9 (hτ:G7 P τ) {s:TypeId} {f:Nat} {k:Nat->Prop} (h:au5 τ s f k):
 ∃off fields fd,k off/\P.underlying s=some (.struct fields)/\fields[f]? =some fd/\fd.offset=off/\∃i,P.info? fd.type=some i/\i.size≠0:=by
 unfold au5 at h;split at h
 ·rename_i fs _ _ _ _ hd;split at h
  ·rename_i off size _ hf;have ⟨h0,hk⟩:=a11 h;obtain ⟨u,hu,ha,fields,rfl,hm,hall,_⟩:=(hτ.td _ _ hd).und;have h1:(fs.map (fun x=>(x.1,x.2.1)))[f]? =some (off,size):=by rw [lba,hf];rfl
   rw [hm,lba] at h1;cases hfd:fields.toList[f]? with
   |none=>rw [hfd] at h1;cases h1
   |some fd=>
    rw [hfd] at h1;injection h1 with h1;injection h1 with h1 h2;have hi:=hall fd (lbm hfd);have ⟨i,hi⟩:=b4c.1 hi;refine ⟨off,fields,fd,hk,hu,by simpa using hfd,h1,i,hi,?_⟩;have:P.cellsOf fd.type=i.size:=by simp [Program.cellsOf,hi]
    have h0':size≠0:=by intro hz;subst hz;simp at h0
    omega
  ·exact h.elim
 ·exact h.elim
def ai4 {s:TypeId} {f:Nat} {fields:Array Field} {fd:Field} {i:TypeInfo} (hu:P.underlying s=some (.struct fields)) (hf:fields[f]? =some fd) (hi:P.info? fd.type=some i) (h0:i.size≠0)
 (w:World) (b off:Nat):(Instr.fieldAt s (.pointer (some ⟨b,off,none⟩)) f).run P w=.ok (.pointer (some ⟨b,off+fd.offset,none⟩)) w:=by
 simp [Instr.fieldAt,run_underlying hu,hf,Instr.sureAddr,fieldPlace,sizeOf,typeInfo,hi,h0,Addr.add_none]
def ab2 (hτ:G7 P τ) {s:TypeId} {x:Operand} {f:Nat} (ho:o.op=.fieldAddr s x f) {K:S->Prop} (h:a8F τ ev s x f K):∃s,K s/\QOp P o ev H s []:=by
 obtain ⟨off,fields,fd,h,hu,hf,rfl,i,hi,h0⟩:=aP9 hτ h;split at h
 ·rename_i id r o' hx;refine ⟨_,h,A6 fun a w ι M he hh=>?_⟩;generalize hv:a.eval x=v;have hr:=he.to hx;rw [hv] at hr;cases hr with
  |c hr=>cases hr with
   |@ptr _ _ _ b cap size hi'=>
    refine ⟨_,by simp [execOp,ho,hv,ai4 hu hf hi h0];rfl,?_⟩;rw [a3w];exact .c (.ptr hi')
 ·rename_i cells hx;have ⟨hl,h⟩:=aa4 h;refine ⟨_,h,A6 fun a w ι M he hh=>?_⟩;generalize hv:a.eval x=v;have hr:=(he.to hx).inv_t;rw [hv] at hr;cases hr with
  |@ptr _ b off f hc hr=>
   refine ⟨_,by simp [execOp,ho,hv,ai4 hu hf hi h0],.c (.t (.ptr (b:=b) (off:=off+fd.offset) (fun j=>f (fd.offset+j)) (fun j c hj=>?_) (fun j c hj=>?_)))⟩
   ·rw [lbj] at hj;rw [a3w];exact hc _ _ hj
   ·rw [lbj] at hj;exact hr _ _ hj
 ·exact h.elim
def a0u (hτ:G7 P τ) {e:TypeId} {k:Nat->Prop} (h:a6m τ e k):∃d,τ e=some d/\k d.size/\∀w,(sizeOf e).run P w=.ok d.size w:=by
 unfold a6m at h;split at h
 ·rename_i d hd;exact ⟨d,hd,h,a4Q (hτ.td _ _ hd)⟩
 ·exact h.elim
def R0 (hτ:G7 P τ) {t e:TypeId} {a:Bool} {s b:Nat} {z:List Value} (h:τ t=some ⟨.slice e,a,s,b,z⟩):P.underlying t=some (.slice e):=by
 obtain ⟨u,hu,_,rfl⟩:=(hτ.td _ _ h).und;exact hu
def b06 (hτ:G7 P τ) {t e:TypeId} {a:Bool} {n s b:Nat} {z:List Value} (h:τ t=some ⟨.arr n e,a,s,b,z⟩):P.underlying t=some (.array n e):=by
 obtain ⟨u,hu,_,rfl⟩:=(hτ.td _ _ h).und;exact hu
def ag4 {t e:TypeId} (hu:P.underlying t=some (.slice e)) {w:World} {size:Nat} (hs:(sizeOf e).run P w=.ok size w) {k:IntKind} {n:Int} {A:Option Addr} {len cap b off:Nat}
 (h0:0<=n) (h1:n<(len:Int)) (hA:0<len->A=some ⟨b,off,none⟩):
 (Instr.indexAt t (.slice A len cap) (.int k n)).run P w=.ok (.pointer (some ⟨b,off+n.toNat*size,none⟩)) w:=by
 have:=hA om;subst this;simp [Instr.indexAt,asIntOf,run_underlying hu,h0,h1,hs,Addr.add_none]
def a92 {t e:TypeId} {m:Nat} (hu:P.underlying t=some (.array m e)) {w:World} {size:Nat} (hs:(sizeOf e).run P w=.ok size w) {k:IntKind} {n:Int} {b off:Nat}
 (h0:0<=n) (h1:n<(m:Int)):
 (Instr.indexAt t (.pointer (some ⟨b,off,none⟩)) (.int k n)).run P w=.ok (.pointer (some ⟨b,off+n.toNat*size,none⟩)) w:=by
 simp [Instr.indexAt,asIntOf,run_underlying hu,Instr.sureAddr,h0,h1,hs,Addr.add_none]
def G5 {α:Type} {rows:List (List α)} {i j:Nat} {row:List α} {c:α} (h:rows[i]? =some row) (h':row[j]? =some c):at2 rows i j=some c:=by simp [at2,h,h']
def J4 {α:Type} {rows:List (List α)} {i j:Nat} {c:α} (h:at2 rows i j=some c):∃row,rows[i]? =some row/\row[j]? =some c:=by
 unfold at2 at h;cases hr:rows[i]? with
 |none=>rw [hr] at h;cases h
 |some row=>rw [hr] at h;exact ⟨row,rfl,h⟩
def aa7 (hτ:G7 P τ) {t:TypeId} {x i:Operand} (ho:o.op=.indexAddr t x i) {K:S->Prop} (h:a5p τ ev H t x i K):∃s,K s/\QOp P o ev H s []:=by
 unfold a5p at h;split at h
 rotate_left
 ·exact h.elim
 rename_i k n hi;split at h
 ·rename_i e _ _ _ _ ht;have hu:=R0 hτ ht;split at h
  ·rename_i size sk rows hx;have ⟨d,hd,h,hsz⟩:=a0u hτ h;have ⟨hs,row,h0,hrow,hK⟩:=I2 h;clear h;have hs:d.size=size:=by simpa using hs
   subst hs;refine ⟨_,hK,A6 fun a w ι M he hh=>?_⟩;generalize hv:a.eval x=v;have hiv:=(he.to hi).inv_atm;have hr:=(he.to hx).inv_t;rw [hv] at hr;have hlt:n.toNat<rows.length:=(lbe.1 hrow).1;cases hr with
   |@sl _ _ _ b off cap A f hrow' hcap hmax hk hn hA hc hr=>
    refine ⟨_,by simp [execOp,ho,hv,hiv];rw [ag4 hu (hsz w) (b:=b) (off:=off) h0 om (fun h=>hA (by intro e;rw [e] at h;simp at h))];rfl,
     .c (.t (.ptr (fun j=>f n.toNat j) (fun j c hj=>?_) (fun j c hj=>hr _ _ _ (G5 hrow hj))))⟩
    have:=hc n.toNat j c (G5 hrow hj);rw [a3w];exact this
  ·rename_i id lo len app hx;have ⟨d,hd,h,hsz⟩:=a0u hτ h;have ⟨bk,hbk,h⟩:=U9 h;have ⟨hdead,h⟩:=a1q h;have ⟨hs,⟨h0,h1⟩,h⟩:=I2 h;have hs:d.size=bk.size:=by simpa using hs
   refine ⟨_,h,A6 fun a w ι M he hh=>?_⟩;generalize hv:a.eval x=v;have hiv:=(he.to hi).inv_atm;have hr:=he.to hx;rw [hv] at hr;cases hr with
   |c hr=>cases hr with
    |@own _ _ _ _ b cap size A cap' h' q1 q2 q3 q4 q5=>
     have ⟨hq,_⟩:=hh.blk id bk hbk hdead _ h';refine ⟨_,by simp [execOp,ho,hv,hiv];rw [ag4 hu (hsz w) (b:=b) (off:=lo*size) h0 h1 q2];rfl,?_⟩;have e:lo*size+n.toNat*d.size=(lo+n.toNat)*size+0:=by rw [hs,hq,Y3,b0I]
     rw [e];exact .c (.ptr h')
    |nil h=>simp at h1;omega
  ·exact h.elim
 ·rename_i m e _ _ _ _ ht;have hu:=b06 hτ ht;have ⟨d,hd,h,hsz⟩:=a0u hτ h;split at h
  ·rename_i id r o' hx;have ⟨⟨h0,h1⟩,h⟩:=h;refine ⟨_,h,A6 fun a w ι M he hh=>?_⟩;generalize hv:a.eval x=v;have hiv:=(he.to hi).inv_atm;have hr:=he.to hx;rw [hv] at hr;cases hr with
   |c hr=>cases hr with
    |ptr hi'=>
     refine ⟨_,by simp [execOp,ho,hv,hiv];rw [a92 hu (hsz w) h0 h1];rfl,?_⟩;rw [a3w];exact .c (.ptr hi')
  ·rename_i cells hx;have ⟨⟨h0,h1⟩,h⟩:=h;have ⟨hl,h⟩:=aa4 h;refine ⟨_,h,A6 fun a w ι M he hh=>?_⟩;generalize hv:a.eval x=v;have hiv:=(he.to hi).inv_atm;have hr:=(he.to hx).inv_t;rw [hv] at hr;cases hr with
   |@ptr _ b off f hc hr=>
    refine ⟨_,by simp [execOp,ho,hv,hiv];rw [a92 hu (hsz w) h0 h1];rfl,.c (.t (.ptr (fun j=>f (n.toNat*d.size+j)) (fun j c hj=>?_) (fun j c hj=>?_)))⟩
    ·rw [lbj] at hj;rw [a3w];exact hc _ _ hj
    ·rw [lbj] at hj;exact hr _ _ hj
  ·exact h.elim
 ·exact h.elim
def T5 {x:Option Operand} {dflt:Int} {k:Int->Prop} (h:X8 ev x dflt k):
 ∃n,k n/\((x=none/\n=dflt)\/∃y kk,x=some y/\ev y=e7 kk n):=by
 unfold X8 at h;split at h
 ·exact ⟨_,h,.inl rz⟩
 ·split at h
  ·rename_i y _ kk n hy;exact ⟨n,h,.inr ⟨y,kk,rfl,hy⟩⟩
  ·exact h.elim
def a0P {w:World} {ι:Io} {M:Ms} {a:Act} (he:a0J w ι M ev a) {lo hi:Option Operand} {l h:Int} {len cap:Nat}
 (hl:(lo=none/\l=0)\/∃y kk,lo=some y/\ev y=e7 kk l) (hh:(hi=none/\h=(len:Int))\/∃y kk,hi=some y/\ev y=e7 kk h)
 (h0:0<=l) (h1:l<=h) (h2:h<=(cap:Int)):
 (Instr.sliceBounds true len cap (lo.map a.eval) (hi.map a.eval) none).run P w=.ok (l.toNat,h.toNat,cap) w:=by
 have e1:∀(n:Int) (m:Nat) (kk:IntKind) c,0<=n->n<=(m:Int)->(Instr.sliceBound (.int kk n) m c).run P w=.ok n.toNat w:=fun n m kk c q1 q2=>by
  simp [Instr.sliceBound,asIntOf,q1,q2]
 rcases hl with ⟨rfl,rfl⟩|⟨y,kk,rfl,hy⟩<;>rcases hh with ⟨rfl,rfl⟩|⟨y',kk',rfl,hy'⟩
 ·simp [Instr.sliceBounds]
 ·simp [Instr.sliceBounds,(he.to hy').inv_atm,e1 _ _ _ _ om h2]
 ·simp only [Instr.sliceBounds,a6G,Option.map_none,(he.to hy).inv_atm,Sem.run_bind,Sem.run_pure,Result.andThen_ok,Option.isSome_none,a7S,if_false,e1 _ _ _ _ h0 h1];simp
 ·simp only [Instr.sliceBounds,a6G,Option.map_none,(he.to hy).inv_atm,(he.to hy').inv_atm,Sem.run_bind,Sem.run_pure,Result.andThen_ok,Option.isSome_none,a7S,if_false,if_true,e1 _ _ _ _ (Int.le_trans h0 h1) h2];rw [e1 _ _ _ _ h0 om];simp
def aR4 {k:SK} {hi max:Option Operand} {α:Type} {rows:List α} {A:Option Addr}:(a1N k hi max=.nul->rows=[]/\A=none)/\(a1N k hi max=.non->A≠none):=by
 unfold a1N;split<;>exact ⟨(fun h=>nomatch h),(fun h=>nomatch h)⟩
def aE8 (hτ:G7 P τ) {t:TypeId} {x:Operand} {lo hi:Option Operand} (ho:o.op=.slice t x lo hi none) {K:S->Prop} (h:a72 τ ev H t x lo hi none K):∃s,K s/\QOp P o ev H s []:=by
 unfold a72 at h;split at h
 rotate_left
 ·exact h.elim
 rename_i e _ _ _ _ ht;simp only at h;have hu:=R0 hτ ht;split at h
 ·rename_i rows hx;have ⟨l,h,hl⟩:=T5 h;have ⟨u,h,hhi⟩:=T5 h;have ⟨d,hd,h,hsz⟩:=a0u hτ h;have ⟨⟨h0,h1,h2⟩,h⟩:=h;refine ⟨_,h,A6 fun a w ι M he hh=>?_⟩;generalize hv:a.eval x=v;have hr:=(he.to hx).inv_t;rw [hv] at hr;cases hr with
  |@sl _ _ _ b off cap A f hrow hcap hmax hk hn hA hc hr=>
   obtain ⟨rfl,rfl,rfl⟩:=hn rfl;obtain rfl:l=0:=om;obtain rfl:u=0:=om;have hb:=a0P (P:=P) (w:=w) (len:=0) he hl hhi (cap:=0) om om om;refine ⟨.slice none 0 0,?_,?_⟩
   ·simp [execOp,ho,hv,Instr.sliceAt,run_underlying hu,Instr.slice,hb,hsz]
   ·exact .c (.t (.sl (rows:=[]) (b:=0) (off:=0) (fun _ _=>undef) zq zq zq zq zq zq (by intro i j c hc;simp [at2] at hc) (by intro i j c hc;simp [at2] at hc)))
 ·rename_i size k rows hnn hx;have ⟨l,h,hl⟩:=T5 h;have ⟨u,h,hhi⟩:=T5 h;have ⟨d,hd,h,hsz⟩:=a0u hτ h;have ⟨hs,⟨h0,h1,h2⟩,h⟩:=I2 h;have hs:d.size=size:=by simpa using hs
  subst hs;refine ⟨_,h,A6 fun a w ι M he hh=>?_⟩;generalize hv:a.eval x=v;have hr:=(he.to hx).inv_t;rw [hv] at hr;cases hr with
  |@sl _ _ _ b off cap A f hrow hcap hmax hk hn hA hc hr=>
   have hb:=a0P (P:=P) (w:=w) he hl hhi (cap:=cap) h0 h1 om;refine ⟨.slice (if cap=l.toNat then A else A.map (·.add (l.toNat*d.size))) (u.toNat - l.toNat) (cap - l.toNat),?_,?_⟩
   ·simp [execOp,ho,hv,Instr.sliceAt,run_underlying hu,Instr.slice,hb,hsz]
   ·have hlen:((rows.take u.toNat).drop l.toNat).length=u.toNat - l.toNat:=by simp;omega
    have hat:∀i j c,at2 ((rows.take u.toNat).drop l.toNat) i j=some c->at2 rows (l.toNat+i) j=some c:=fun i j c hc=>by
     have ⟨row,h1,h2⟩:=J4 hc;rw [lbj,lbi] at h1;split at h1
     ·exact G5 h1 h2
     ·cases h1
    rw [← hlen];refine .c (.t (.sl (b:=b) (off:=off+l.toNat*d.size) (fun i j=>f (l.toNat+i) j) ?_ om om ?_ ?_ ?_ ?_ ?_ (hx:=aR4)))
    ·intro r hr;exact hrow r (ah1 (b1G hr))
    ·intro hf;have hkf:k=.full/\hi=none:=by
      unfold a1N at hf;split at hf
      ·exact rz
      ·cases hf
     obtain ⟨rfl,rfl⟩:=hkf;rcases hhi with ⟨_,rfl⟩|⟨y,kk,hy,_⟩
     ·rw [hk rfl,hlen];simp
     ·cases hy
    ·intro hf;unfold a1N at hf;split at hf<;>cases hf
    ·intro hne;have hlt:0<((rows.take u.toNat).drop l.toNat).length:=a7N.2 hne;rw [iC om,hA (by intro e;subst e;simp at hlt)];simp [Addr.add_none]
    ·intro i j c hc';have ⟨q1,q2⟩:=hc _ _ _ (hat i j c hc');refine ⟨?_,q2⟩;rw [← q1]
     congr 2
     rw [Y3];omega
    ·intro i j c hc';exact hr _ _ _ (hat i j c hc')
 ·rename_i id l0 len app hx;have ⟨l,h,hl⟩:=T5 h;have ⟨u,h,hhi⟩:=T5 h;have ⟨d,hd,h,hsz⟩:=a0u hτ h;have ⟨bk,hbk,h⟩:=U9 h;have ⟨hdead,h⟩:=a1q h;have ⟨hs,⟨h0,h1,h2⟩,h⟩:=I2 h;have hs:d.size=bk.size:=by simpa using hs
  refine ⟨_,h,A6 fun a w ι M he hh=>?_⟩;generalize hv:a.eval x=v;have hr:=he.to hx;rw [hv] at hr;cases hr with
  |c hr=>cases hr with
   |@own _ _ _ _ b cap size A cap' h' q1 q2 q3 q4 q5=>
    have ⟨hq,_⟩:=hh.blk id bk hbk hdead _ h';have hb:=a0P (P:=P) (w:=w) he hl hhi (cap:=cap') h0 h1 om;refine ⟨.slice (if cap'=l.toNat then A else A.map (·.add (l.toNat*d.size))) (u.toNat - l.toNat) (cap' - l.toNat),?_,?_⟩
    ·simp [execOp,ho,hv,Instr.sliceAt,run_underlying hu,Instr.slice,hb,hsz]
    ·rw [show (u - l).toNat=u.toNat - l.toNat by omega];refine .c (.own h' om ?_ om om ?_)
     ·intro hpos;rw [iC om,q2 om];simp [Addr.add_none,hs,hq,Y3]
     ·intro happ;obtain ⟨ha,hlo⟩:app=true/\lo=none:=by simpa using happ
      subst hlo;rcases hl with ⟨_,rfl⟩|⟨y,kk,hy,_⟩
      ·have ⟨r1,r2,r3⟩:=q5 ha;subst r2;simp [r1,r3,Addr.add_none]
      ·cases hy
   |nil h'=>
    have hl0:l=0:=om;have hu0:u=0:=by simp at h2;omega
    subst hl0 hu0;have hb:=a0P (P:=P) (w:=w) he hl hhi (cap:=0) h0 h1 om;refine ⟨_,by simp [execOp,ho,hv,Instr.sliceAt,run_underlying hu,Instr.slice,hb,hsz];rfl,?_⟩;exact .c (.nil h')
 ·exact h.elim
def a1Y {w:World} {ι:Io} {M:Ms} {a:Act} (he:a0J w ι M ev a) {lo:Option Operand} {y z:Operand} {l h:Int} {len cap:Nat} {kk kz:IntKind}
 (hl:(lo=none/\l=0)\/∃y kk,lo=some y/\ev y=e7 kk l) (hh:ev y=e7 kk h) (hz:ev z=e7 kz h)
 (h0:0<=l) (h1:l<=h) (h2:h<=(cap:Int)):
 (Instr.sliceBounds true len cap (lo.map a.eval) (some (a.eval y)) (some (a.eval z))).run P w=.ok (l.toNat,h.toNat,h.toNat) w:=by
 have e1:∀(n:Int) (m:Nat) (kk:IntKind) c,0<=n->n<=(m:Int)->(Instr.sliceBound (.int kk n) m c).run P w=.ok n.toNat w:=fun n m kk c q1 q2=>by
  simp [Instr.sliceBound,asIntOf,q1,q2]
 rcases hl with ⟨rfl,rfl⟩|⟨x,kx,rfl,hx⟩
 ·simp only [Instr.sliceBounds,Option.map_none,(he.to hh).inv_atm,(he.to hz).inv_atm,Sem.run_bind,Sem.run_pure,Result.andThen_ok,if_true,e1 _ _ _ _ h1 h2];rw [e1 _ _ _ _ h1 om];simp
 ·simp only [Instr.sliceBounds,a6G,(he.to hh).inv_atm,(he.to hz).inv_atm,(he.to hx).inv_atm,Sem.run_bind,Sem.run_pure,Result.andThen_ok,if_true,e1 _ _ _ _ (Int.le_trans h0 h1) h2];rw [e1 h _ _ _ om om];simp only [Result.andThen_ok];rw [e1 l _ _ _ h0 om];simp
theorem zi {p:Prop} (h:p:=by intro h;cases h):p:=h
def aD6 (hτ:G7 P τ) {t:TypeId} {x z:Operand} {lo hi:Option Operand} (ho:o.op=.slice t x lo hi (some z)) {K:S->Prop} (h:a72 τ ev H t x lo hi (some z) K):∃s,K s/\QOp P o ev H s []:=by
 unfold a72 at h;split at h
 rotate_left
 ·exact h.elim
 rename_i e _ _ _ _ ht;have hu:=R0 hτ ht;simp only at h;split at h
 rotate_left
 ·exact h.elim
 rename_i kz m hz;split at h
 ·rename_i size k rows hx;have ⟨l,h,hl⟩:=T5 h;have ⟨u,h,hhi⟩:=T5 h;have ⟨d,hd,h,hsz⟩:=a0u hτ h;have ⟨hsome,h⟩:=I2 h;obtain ⟨hs,⟨h0,h1,rfl,h2⟩,hK⟩:=I2 h;have hs:d.size=size:=by simpa using hs
  subst hs;obtain ⟨y,kk,rfl,hy⟩:∃y kk,hi=some y/\ev y=e7 kk m:=by
   rcases hhi with ⟨rfl,_⟩|h
   ·cases hsome
   ·exact h
  refine ⟨_,hK,A6 fun a w ι M he hh=>?_⟩;generalize hv:a.eval x=v;have hr:=(he.to hx).inv_t;rw [hv] at hr;cases hr with
  |@sl _ _ _ b off cap A f hrow hcap hmax hk hn hA hc hr=>
   have hb:=a1Y (P:=P) (w:=w) he hl hy hz (len:=rows.length) (cap:=cap) h0 h1 om;refine ⟨.slice (if m.toNat=l.toNat then A else A.map (·.add (l.toNat*d.size))) (m.toNat - l.toNat) (m.toNat - l.toNat),?_,?_⟩
   ·simp [execOp,ho,hv,Instr.sliceAt,run_underlying hu,Instr.slice,hb,hsz]
   ·have hlen:((rows.take m.toNat).drop l.toNat).length=m.toNat - l.toNat:=by simp;omega
    have hat:∀i j c,at2 ((rows.take m.toNat).drop l.toNat) i j=some c->at2 rows (l.toNat+i) j=some c:=fun i j c hc=>by
     have ⟨row,h1,h2⟩:=J4 hc;rw [lbj,lbi] at h1;split at h1
     ·exact G5 h1 h2
     ·cases h1
    rw [← hlen];refine .c (.t (.sl (b:=b) (off:=off+l.toNat*d.size) (fun i j=>f (l.toNat+i) j) ?_ om om ?_ ?_ ?_ ?_ ?_))
    ·intro r hr;exact hrow r (ah1 (b1G hr))
    ·intro _;rfl
    ·intro hf;cases hf
    ·intro hne;have hlt:0<((rows.take m.toNat).drop l.toNat).length:=a7N.2 hne;rw [iC om,hA (by intro e;subst e;simp at hlt)];simp [Addr.add_none]
    ·intro i j c hc';have ⟨q1,q2⟩:=hc _ _ _ (hat i j c hc');refine ⟨?_,q2⟩;rw [← q1]
     congr 2
     rw [Y3];omega
    ·intro i j c hc';exact hr _ _ _ (hat i j c hc')
 ·rename_i id l0 len app hx;have ⟨l,h,hl⟩:=T5 h;have ⟨u,h,hhi⟩:=T5 h;have ⟨hsome,h⟩:=I2 h;have ⟨d,hd,h,hsz⟩:=a0u hτ h;have ⟨bk,hbk,h⟩:=U9 h;have ⟨hdead,h⟩:=a1q h;obtain ⟨hs,⟨h0,h1,rfl,h2⟩,hK⟩:=I2 h;have hs:d.size=bk.size:=by simpa using hs
  obtain ⟨y,kk,rfl,hy⟩:∃y kk,hi=some y/\ev y=e7 kk m:=by
   rcases hhi with ⟨rfl,_⟩|h
   ·cases hsome
   ·exact h
  refine ⟨_,hK,A6 fun a w ι M he hh=>?_⟩;generalize hv:a.eval x=v;have hr:=he.to hx;rw [hv] at hr;cases hr with
  |c hr=>cases hr with
   |@own _ _ _ _ b cap size A cap' h' q1 q2 q3 q4 q5=>
    have ⟨hq,_⟩:=hh.blk id bk hbk hdead _ h';have hb:=a1Y (P:=P) (w:=w) he hl hy hz (len:=len) (cap:=cap') h0 h1 om;refine ⟨.slice (if m.toNat=l.toNat then A else A.map (·.add (l.toNat*d.size))) (m.toNat - l.toNat) (m.toNat - l.toNat),?_,?_⟩
    ·simp [execOp,ho,hv,Instr.sliceAt,run_underlying hu,Instr.slice,hb,hsz]
    ·rw [show (m - l).toNat=m.toNat - l.toNat by omega];refine .c (.own h' om ?_ om om zi);intro hpos;rw [iC om,q2 om];simp [Addr.add_none,hs,hq,Y3]
   |nil h'=>
    have hl0:l=0:=om;have hu0:m=0:=by simp at h2;omega
    subst hl0 hu0;have hb:=a1Y (P:=P) (w:=w) he hl hy hz (len:=0) (cap:=0) h0 h1 om;refine ⟨_,by simp [execOp,ho,hv,Instr.sliceAt,run_underlying hu,Instr.slice,hb,hsz];rfl,?_⟩;exact .c (.nil h')
 ·exact h.elim
def aP2 (hτ:G7 P τ) {t:TypeId} {x:Operand} {lo hi max:Option Operand} (ho:o.op=.slice t x lo hi max) {K:S->Prop} (h:a72 τ ev H t x lo hi max K):∃s,K s/\QOp P o ev H s []:=by
 cases max with
 |none=>exact aE8 hτ ho h
 |some z=>exact aD6 hτ ho h
end
section
variable {P:Program} {τ:Tab} {o:Oper} {ev:Operand->S} {H:Hp}
def b08 {op:BinOp} {t:TypeId} {x y:Operand} {a b:Value} (w:World) (h1:∀cs,a≠.agg cs) (h2:a≠.nilIface):(eqGuard op t x y a b).run P w=.ok () w:=by
 unfold eqGuard;generalize (match op with|.eql|.neq=>true|_=>false:Bool)=q;cases a<;>first|exact absurd rfl h2|exact absurd rfl (h1 _)|(cases q<;>simp)
def a71 {op:BinOp} {t yt:TypeId} {x y:Operand} (ho:o.op=.binOp op t x y yt) {a:Act} {w:World} {v:Value}
 (h1:∀cs,a.eval x≠.agg cs) (h2:a.eval x≠.nilIface) (h:(binOp op t (a.eval x) (a.eval y)).run P w=.ok v w):(execOp a.eval o).run P w=.ok (.value v) w:=by
 simp [execOp,ho,b08 w h1 h2,h]
def b2g {op:BinOp} {t yt:TypeId} {x y:Operand} (ho:o.op=.binOp op t x y yt) {k k':IntKind} {p q:Int} (hx:ev x=e7 k p) (hy:ev y=e7 k' q) {K:S->Prop}
 (h:bI0 op k k' p q K):∃s,K s/\QOp P o ev H s []:=by
 have key:∀(s:S) (v:Value),(∀ w,(binOp op t (.int k p) (.int k' q)).run P w=.ok v w)->(∀ w ι M,RS w ι M s v)->QOp P o ev H s []:=fun s v hr hs=>
  A6 fun a w ι M he hh=>by
   have e1:=(he.to hx).inv_atm;have e2:=(he.to hy).inv_atm;exact ⟨v,a71 ho (by rw [e1];simp) (by rw [e1];simp) (by rw [e1,e2];exact hr w),hs w ι M⟩
 unfold bI0 at h;split at h
 ·have ⟨h0,n,hn,h⟩:=h;refine ⟨_,h,key _ (.int k n) (fun w=>?_) (fun _ _ _=>.int)⟩;simp only [binOp,Op.shift];rw [Sem.run_ite,iC om];unfold N1 at hn;rw [hn]
  rfl
 ·have ⟨h0,n,hn,h⟩:=h;unfold b4n at hn;subst hn;refine ⟨_,h,key _ _ (fun w=>?_) (fun _ _ _=>.int)⟩;simp only [binOp,Op.shift];rw [Sem.run_ite,iC om]
  rfl
 ·rename_i op' hne1 hne2;have ⟨hk,h'⟩:=I2 h;clear h;have hk:k=k':=by simpa using hk
  subst hk
  revert h'
  intro h;split at h
  case h_1=>
   have ⟨n,hn,h⟩:=h;exact ⟨_,h,key _ _ (fun w=>by simp [binOp,Op.intArith];rw [← hn]) (fun _ _ _=>.int)⟩
  case h_2=>
   have ⟨n,hn,h⟩:=h;exact ⟨_,h,key _ _ (fun w=>by simp [binOp,Op.intArith];rw [← hn]) (fun _ _ _=>.int)⟩
  case h_3=>
   have ⟨n,hn,h⟩:=h;exact ⟨_,h,key _ _ (fun w=>by simp [binOp,Op.intArith];rw [← hn]) (fun _ _ _=>.int)⟩
  case h_4=>
   have ⟨h0,n,hn,h⟩:=h;exact ⟨_,h,key _ _ (fun w=>by simp [binOp,Op.intDiv,h0];rw [← hn]) (fun _ _ _=>.int)⟩
  case h_5=>
   have ⟨h0,h⟩:=h;exact ⟨_,h,key _ _ (fun w=>by simp [binOp,Op.intDiv,h0]) (fun _ _ _=>.int)⟩
  case h_6=>exact ⟨_,h.get,key _ (.bool (decide (p=q))) (fun w=>by simp [binOp,Op.intCmp];rfl) (fun _ _ _=>.bool)⟩
  case h_7=>exact ⟨_,h.get,key _ (.bool (decide (p≠q))) (fun w=>by simp [binOp,Op.intCmp];rfl) (fun _ _ _=>.bool)⟩
  case h_8=>exact ⟨_,h.get,key _ _ (fun w=>by simp [binOp,Op.intCmp]) (fun _ _ _=>.bool)⟩
  case h_9=>exact ⟨_,h.get,key _ _ (fun w=>by simp [binOp,Op.intCmp]) (fun _ _ _=>.bool)⟩
  case h_10=>exact ⟨_,h.get,key _ _ (fun w=>by simp [binOp,Op.intCmp]) (fun _ _ _=>.bool)⟩
  case h_11=>exact ⟨_,h.get,key _ _ (fun w=>by simp [binOp,Op.intCmp]) (fun _ _ _=>.bool)⟩
  case h_12=>
   have ⟨n,hn,h⟩:=h;refine ⟨_,h,key _ (.int k n) (fun w=>?_) (fun _ _ _=>.int)⟩;cases op<;>first|exact False.elim hn|(simp [a0Z] at hn;simp [binOp,Op.intBits,hn];done)
def ad9:∀{cs:List C} {k:LI->Prop},b1N cs k->∃ul:LI,cs=ul.map (fun a=>C.t (.atm (.int .i64 a)))/\k ul
 |[],k,h=>⟨[],rfl,h⟩
 |c::cs,k,h=>by
  unfold b1N at h;split at h
  ·rename_i heq;cases heq
  ·rename_i a cs' heq;injection heq with h1 h2;subst h1;subst h2;obtain ⟨ul,rfl,hk⟩:=ad9 h;exact ⟨a::ul,rfl,hk⟩
  ·exact h.elim
def a9H {w:World} {ι:Io} {M:Ms} {cs:List C} {ul:LI} {v:Value} (h:RS w ι M (.agg cs) v) (e:cs=ul.map (fun a=>C.t (.atm (.int .i64 a)))):v=.agg (ul.map (Value.int .i64)).toArray:=by
 subst e;cases h with
 |agg vs hl hr=>
  congr 2
  refine List.ext_getElem (by simpa using hl) fun i h1 h2=>?_
  have:=hr i _ (lbf (by simpa using h2));simp only [List.getElem_map] at this ⊢;rw [lbl,lbf h1] at this;exact (RS.c this).inv_atm
def b2V (hτ:G7 P τ) {op:BinOp} {t yt:TypeId} {x y:Operand} (ho:o.op=.binOp op t x y yt) {K:S->Prop} (h:bC3 P τ op t (ev x) (ev y) K):∃s,K s/\QOp P o ev H s []:=by
 unfold bC3 at h;split at h
 ·rename_i k a k' b hx hy;exact b2g ho hx hy h
 ·rename_i p q hx hy;split at h
  ·rename_i ht;obtain ⟨u,hu,_,rfl⟩:=(hτ.td _ _ ht).und;split at h
   ·refine ⟨_,h.get,A6 fun a w ι M he hh=>⟨_,a71 ho (v:=.bool (p == q)) ?_ ?_ ?_,.bool⟩⟩
    ·simp [(he.to hx).inv_atm]
    ·simp [(he.to hx).inv_atm]
    ·rw [(he.to hx).inv_atm,(he.to hy).inv_atm];exact run_eql_bool w t p q hu
   ·refine ⟨_,h.get,A6 fun a w ι M he hh=>⟨_,a71 ho (v:=.bool (!(p == q))) ?_ ?_ ?_,.bool⟩⟩
    ·simp [(he.to hx).inv_atm]
    ·simp [(he.to hx).inv_atm]
    ·rw [(he.to hx).inv_atm,(he.to hy).inv_atm];simp [binOp,run_equal_bool w t p q hu]
   ·exact h.elim
  ·exact h.elim
 ·rename_i cx s hx hy;split at h
  ·rename_i e _ _ _ _ ht;have hu:=R0 hτ ht;have key:∀(k:Bool->Prop),aX9 cx k->∃r,k r/\∀(a:Act) (w:World) (ι:Io) (M:Ms),a0J w ι M ev a->∃A n c,a.eval x=.slice A n c/\A.isNone=r:=by
    intro k hk;unfold aX9 at hk;split at hk
    ·refine ⟨true,hk,fun a w ι M he=>?_⟩;have hr:=(he.to hx).inv_t;generalize a.eval x=v at *;cases hr with
     |sl f hrow hcap hmax hk hn hA hc hr=>exact ⟨_,_,_,rfl,by rw [(hn rfl).2.1];rfl⟩
    ·refine ⟨true,hk,fun a w ι M he=>?_⟩;have hr:=(he.to hx).inv_t;generalize a.eval x=v at *;cases hr with
     |sl f hrow hcap hmax hk hn hA hc hr hx=>exact ⟨_,_,_,rfl,by rw [(hx.1 rfl).2];rfl⟩
    ·refine ⟨false,hk,fun a w ι M he=>?_⟩;have hr:=(he.to hx).inv_t;generalize a.eval x=v at *;cases hr with
     |@sl _ _ _ _ _ _ A f hrow hcap hmax hk hn hA hc hr hx=>
      refine ⟨_,_,_,rfl,?_⟩;cases A with
      |none=>exact absurd rfl (hx.2 rfl)
      |some a=>rfl
    ·rename_i rows _ _ _;refine ⟨false,hk.2,fun a w ι M he=>?_⟩;have hr:=(he.to hx).inv_t;generalize a.eval x=v at *;cases hr with
     |sl f hrow hcap hmax hk' hn hA hc hr=>exact ⟨_,_,_,rfl,by rw [hA (by intro e;subst e;simp at hk)];rfl⟩
    ·refine ⟨false,hk.2,fun a w ι M he=>?_⟩;have hr:=(he.to hx).inv_c;generalize a.eval x=v at *;cases hr with
     |own h' q1 q2 q3 q4 q5=>exact ⟨_,_,_,rfl,by rw [q2 hk.1];rfl⟩
     |nil h'=>have:=hk.1;omega
    ·exact hk.elim
   have hnil:∀(a:Act) (w:World) (ι:Io) (M:Ms),a0J w ι M ev a->∃c,a.eval y=.slice none 0 c:=fun a w ι M he=>by
    have hr:=(he.to hy).inv_t;generalize a.eval y=v at *;cases hr with
    |sl f hrow hcap hmax hk hn hA hc hr=>obtain ⟨_,rfl,_⟩:=hn rfl;exact ⟨_,rfl⟩
   split at h
   ·have ⟨r,h,hr⟩:=key _ h;refine ⟨_,h,A6 fun a w ι M he hh=>?_⟩;obtain ⟨A,n,c,e1,rfl⟩:=hr a w ι M he;have ⟨c',e2⟩:=hnil a w ι M he;exact ⟨.bool A.isNone,a71 ho (by simp [e1]) (by simp [e1]) (by rw [e1,e2];exact Lib.run_eql_slice_nil w t e A n c 0 c' hu),.bool⟩
   ·have ⟨r,h,hr⟩:=key _ h;refine ⟨_,h,A6 fun a w ι M he hh=>?_⟩;obtain ⟨A,n,c,e1,rfl⟩:=hr a w ι M he;have ⟨c',e2⟩:=hnil a w ι M he;exact ⟨.bool (!A.isNone),a71 ho (by simp [e1]) (by simp [e1]) (by rw [e1,e2];exact run_neq_slice_nil_any w t e A n c 0 c' hu),.bool⟩
   ·exact h.elim
  ·exact h.elim
 ·rename_i cs ds hx hy;unfold bR5 at h;have ⟨ul,e1,h⟩:=ad9 h;have ⟨bs,e2,h⟩:=ad9 h;have ⟨⟨⟨hg,hE⟩,hl⟩,h⟩:=h;split at h
  ·refine ⟨_,h.get,A6 fun a w ι M he hh=>⟨.bool (ul == bs),?_,.bool⟩⟩;rw [execOp,ho];simp only [a9H (he.to hx) e1,a9H (he.to hy) e2];simp [run_eqGuard_agg _ _ _ _ _ _ _ hg,run_eql_struct,hE ul bs w rfl hl]
  ·refine ⟨_,h.get,A6 fun a w ι M he hh=>⟨.bool (!(ul == bs)),?_,.bool⟩⟩;rw [execOp,ho];simp only [a9H (he.to hx) e1,a9H (he.to hy) e2];simp [run_eqGuard_agg _ _ _ _ _ _ _ hg,run_neq_struct,hE ul bs w rfl hl]
  ·exact h.elim
 ·exact h.elim
def b6m {op:UnOp} {t:TypeId} {x:Operand} (ho:o.op=.unOp op t x) {K:S->Prop} (h:aun op (ev x) K):∃s,K s/\QOp P o ev H s []:=by
 unfold aun at h;split at h
 ·rename_i k n hx;have ⟨m,hm,h⟩:=h;exact ⟨_,h,A6 fun a w ι M he hh=>⟨.int k m,by simp [execOp,ho,(he.to hx).inv_atm,Op.unary,Op.intArith];rw [hm];simp,.int⟩⟩
 ·rename_i b hx;exact ⟨_,h,A6 fun a w ι M he hh=>⟨.bool (!b),by simp [execOp,ho,(he.to hx).inv_atm,Op.unary],.bool⟩⟩
 ·exact h.elim
def b3M {x:Operand} (ho:o.op=.nilCheck x) {K:S->Prop} (h:b3b (ev x) K):∃s,K s/\QOp P o ev H s []:=by
 unfold b3b at h;split at h
 ·rename_i id r o' hx;exact ⟨_,h,A6 fun a w ι M he hh=>by
   have hr:=he.to hx;generalize hv:a.eval x=v at hr;cases hr with
   |c hr=>cases hr with
    |ptr hi=>exact ⟨_,by simp [execOp,ho,hv],.c (.ptr hi)⟩⟩
 ·rename_i cs hx;exact ⟨_,h,A6 fun a w ι M he hh=>by
   have hr:=he.to hx;generalize hv:a.eval x=v at hr;cases hr with
   |c hr=>cases hr with
    |t hr=>cases hr with
     |ptr f hc hr=>exact ⟨_,by simp [execOp,ho,hv],.c (.t (.ptr f hc hr))⟩⟩
 ·exact h.elim
def b1c (hτ:G7 P τ) {src dst:TypeId} {x:Operand} (ho:o.op=.convert src dst x) {K:S->Prop} (h:b8Y τ src dst (ev x) K):∃s,K s/\QOp P o ev H s []:=by
 unfold b8Y at h;split at h
 ·rename_i k0 n d k _ _ _ _ hx hs hd;have ⟨m,hm,h⟩:=h;have ⟨u,hu,_⟩:=(hτ.td _ _ hs).und;obtain ⟨u',hu',_,rfl⟩:=(hτ.td _ _ hd).und;exact ⟨_,h,A6 fun a w ι M he hh=>⟨.int k m,by
   rw [hm];simp [execOp,ho,(he.to hx).inv_atm,convert,run_underlying hu,run_underlying hu',Conv.intToInt],.int⟩⟩
 ·exact h.elim
def aq6 {x:Operand} {i:Nat} (ho:o.op=.extract x i) {ss:List S} (hx:ev x=.tup ss) {s:S} (hs:ss[i]? =some s):QOp P o ev H s []:=
 A6 fun a w ι M he hh=>by
  generalize hv:a.eval x=v;have hr:=he.to hx;rw [hv] at hr;cases hr with
  |tup vs hl hr=>
   have hlt:i<vs.length:=by rw [hl];exact (lbe.1 hs).1
   have:=hr i s hs;rw [lbl,lbf hlt] at this;exact ⟨vs[i],by simp [execOp,ho,hv,Instr.extract,hlt],this⟩
def b2S (hτ:G7 P τ) {c:Call} {t:TypeId} {ts:List TypeId} {x:Operand} {xs:List Operand} (ho:o.op=.call c) (hc:c.callee=.builtin .len) (hts:c.argTypes.toList=t::ts) (hxs:c.args.toList=x::xs) {K:S->Prop}
 (h:bB8 τ t (ev x) K):∃s,K s/\QOp P o ev H s []:=by
 have ⟨callee,args,argTypes⟩:=c;simp only at hc hts hxs;subst hc;obtain rfl:argTypes=(t::ts).toArray:=by rw [← hts]
 obtain rfl:args=(x::xs).toArray:=by rw [← hxs]
 unfold bB8 at h;split at h
 ·rename_i e _ _ _ _ ht;have hu:=R0 hτ ht;split at h
  ·rename_i sz k rows hx;refine ⟨_,h,A6 fun a w ι M he hh=>⟨.int .i64 rows.length,?_,.int⟩⟩;have hr:=(he.to hx).inv_t;generalize hv:a.eval x=v at *;cases hr;simp [execOp,ho,resolve,invoke,builtin,Builtin.len_,hv,run_underlying hu,goInt]
  ·rename_i id lo len app hx;refine ⟨_,h,A6 fun a w ι M he hh=>⟨.int .i64 len,?_,.int⟩⟩;have hr:=(he.to hx).inv_c;generalize hv:a.eval x=v at *;cases hr<;>simp [execOp,ho,resolve,invoke,builtin,Builtin.len_,hv,run_underlying hu,goInt]
  ·exact h.elim
 ·rename_i n e _ _ _ _ ht;have hu:=b06 hτ ht;refine ⟨_,h,A6 fun a w ι M he hh=>⟨.int .i64 n,?_,.int⟩⟩;simp [execOp,ho,resolve,invoke,builtin,Builtin.len_,run_underlying hu,goInt]
 ·exact h.elim
def aA2 {c:Call} (mx:Bool) (ho:o.op=.call c) (hc:c.callee=.builtin (cond mx .max .min)) {K:S->Prop}
 (h:bm9 mx (c.args.toList.map ev) K):∃s,K s/\QOp P o ev H s []:=by
 have ⟨callee,args,argTypes⟩:=c;simp only at hc h;subst hc;unfold bm9 at h;split at h
 ·rename_i k p k' q hx;have ⟨args⟩:=args;rcases args with _|⟨x,_|⟨y,_|⟨z,r⟩⟩⟩<;>simp at hx
  have ⟨hx,hy⟩:=hx;refine ⟨_,h,A6 fun a w ι M he hh=>⟨.int k (cond mx (if q > p then q else p) (if q<p then q else p)),?_,.int⟩⟩;cases mx<;>simp [execOp,ho,resolve,invoke,builtin,Builtin.min_,Builtin.max_,Builtin.min2,Builtin.max2,(he.to hx).inv_atm,(he.to hy).inv_atm]
 ·exact h.elim
def b5W {l:List S} {cs:List C} (h:b8n l=some cs):l=cs.map S.c:=by
 induction l generalizing cs with
 |nil=>simp [b8n] at h;subst h;rfl
 |cons s l ih=>cases s<;>simp [b8n] at h
               split at h
               ·rename_i xs hxs;injection h with h;subst h;rw [ih hxs];rfl
               ·cases h
def aa2 {l:List C} {ts:List T} (h:b3f l=some ts):l=ts.map C.t:=by
 induction l generalizing ts with
 |nil=>simp [b3f] at h;subst h;rfl
 |cons s l ih=>cases s<;>simp [b3f] at h
               split at h
               ·rename_i xs hxs;injection h with h;subst h;rw [ih hxs];rfl
               ·cases h
def b2N {l:List (List C)} {ts:List (List T)} (h:b0B l=some ts):l=toC ts:=by
 induction l generalizing ts with
 |nil=>simp [b0B] at h;subst h;rfl
 |cons s l ih=>simp only [b0B] at h
               split at h
               ·rename_i a b ha hb;injection h with h;subst h;rw [ih hb,aa2 ha];rfl
               ·cases h
def ak3 {fn:Fn} {first caps:Array Operand} (ho:o.op=.makeFunc fn first caps) (hf:first.toList=[]) {cs:List C} (hc:caps.toList.map ev=cs.map S.c):QOp P o ev H (.c (.fn fn cs)) []:=
 A6 fun a w ι M he hh=>by
  obtain rfl:first=#[]:=by simpa using hf
  refine ⟨.func fn #[] (caps.toList.map a.eval).toArray,by simp [execOp,ho,Instr.makeFunc];apply Array.ext';simp,.c (.fn _ ?_ fun j c hj=>?_)⟩
  ·rw [lbr];simpa using congrArg List.length hc
  ·have h1:(caps.toList.map ev)[j]? =some (.c c):=by rw [hc,lba,hj];rfl
   rw [lba] at h1;cases hx:caps.toList[j]? with
   |none=>rw [hx] at h1;cases h1
   |some x=>
    rw [hx] at h1;injection h1 with h1;rw [lbl,lba,hx];exact (he.to h1).inv_c
def ad8 {fn:Fn} {first caps:Array Operand} (ho:o.op=.makeFunc fn first caps) (hf:first.toList=[]) {ts:List T} (hc:caps.toList.map ev=(ts.map C.t).map S.c):QOp P o ev H (.c (.t (.fn fn ts))) []:=
 A6 fun a w ι M he hh=>by
  obtain rfl:first=#[]:=by simpa using hf
  refine ⟨.func fn #[] (caps.toList.map a.eval).toArray,by simp [execOp,ho,Instr.makeFunc];apply Array.ext';simp,.c (.t (.fn _ ?_ fun j c hj=>?_))⟩
  ·rw [lbr];simpa using congrArg List.length hc
  ·have h1:(caps.toList.map ev)[j]? =some (.c (.t c)):=by rw [hc,lba,lba,hj];rfl
   rw [lba] at h1;cases hx:caps.toList[j]? with
   |none=>rw [hx] at h1;cases h1
   |some x=>
    rw [hx] at h1;injection h1 with h1;rw [lbl,lba,hx];exact (he.to h1).inv_t
end
end Go.Proofs.YtbcdidimaioapaaGreat
