/- Abstract values (trees, own blocks) and how they stand for values in a world. No program is in sight. -/
import Derived.WalkKit
import Derived.WalkSpells
import Derived.Lib.Hide
import Derived.Laws.OwnMore
import Derived.Deep.Draws
namespace Go.Proofs.Ythjgbjakpbfnoaa
open Go.RowKit
set_option linter.unusedVariables false

/-- what is known of a slice that nobody writes to: nothing, that its capacity is its length, or that it is nil -/
inductive SK where
  | any | full | nil
/-- data that nobody writes to any more -/
inductive T where
  | atm (v : Value)
  | sl (size : Nat) (k : SK) (rows : List (List T))
  | ptr (cells : List T)
  | fn (f : Fn) (caps : List T)
/-- one cell: data, or a pointer or a slice into a block of the call's own -/
inductive C where
  | t (x : T)
  | ptr (id row off : Nat)
  | own (id lo len : Nat) (app : Bool)
  | fn (f : Fn) (caps : List C)
/-- a slot: unknown, one cell, a struct or an array, a tuple -/
inductive S where
  | junk
  | c (x : C)
  | agg (cs : List C)
  | tup (ss : List S)
/-- may be written, is written no more, is gone -/
inductive BM where
  | live | froz | dead
structure Blk where
  mode : BM
  elem : TypeId
  size : Nat
  rows : List (List C)
  box : Bool
/-- where a block lies: not made yet (a nil slice), or the block b -/
inductive Loc where
  | nil
  | blk (b cap size : Nat)
abbrev Hp := List Blk
abbrev Io := Nat → Option Loc
abbrev Ms := Nat → Prop

def at2 {α : Type} (rows : List (List α)) (i j : Nat) : Option α := (rows[i]?).bind (·[j]?)

/-- the value reads as the tree, in blocks outside M -/
inductive RT (w : World) (M : Ms) : T → Value → Prop
  | atm {v : Value} (h : v.oneCell' = true) : RT w M (.atm v) v
  | sl {size : Nat} {k : SK} {rows : List (List T)} {b off cap : Nat} {A : Option Addr} (f : Nat → Nat → Value)
      (hrow : ∀ r ∈ rows, r.length = size) (hcap : rows.length ≤ cap) (hmax : cap ≤ maxLen) (hk : k = .full → cap = rows.length)
      (hn : k = .nil → rows = [] ∧ A = none ∧ cap = 0) (hA : rows ≠ [] → A = some ⟨b, off, none⟩)
      (hc : ∀ i j c, at2 rows i j = some c → w.cell? ⟨b, off + (i * size + j), none⟩ = some (f i j) ∧ ¬ M b)
      (hr : ∀ i j c, at2 rows i j = some c → RT w M c (f i j)) : RT w M (.sl size k rows) (.slice A rows.length cap)
  | ptr {cells : List T} {b off : Nat} (f : Nat → Value)
      (hc : ∀ j c, cells[j]? = some c → w.cell? ⟨b, off + j, none⟩ = some (f j) ∧ ¬ M b)
      (hr : ∀ j c, cells[j]? = some c → RT w M c (f j)) : RT w M (.ptr cells) (.pointer (some ⟨b, off, none⟩))
  | fn {f : Fn} {caps : List T} (vs : List Value) (hl : vs.length = caps.length)
      (hr : ∀ j c, caps[j]? = some c → RT w M c (vs.getD j undef)) : RT w M (.fn f caps) (.func f #[] vs.toArray)

inductive RC (w : World) (ι : Io) (M : Ms) : C → Value → Prop
  | t {x : T} {v : Value} (h : RT w M x v) : RC w ι M (.t x) v
  | ptr {id r o b cap size : Nat} (h : ι id = some (.blk b cap size)) : RC w ι M (.ptr id r o) (.pointer (some ⟨b, r * size + o, none⟩))
  | own {id lo len : Nat} {app : Bool} {b cap size : Nat} {A : Option Addr} {cap' : Nat} (h : ι id = some (.blk b cap size)) (h1 : lo + len ≤ cap)
      (h2 : 0 < len → A = some ⟨b, lo * size, none⟩) (h3 : len ≤ cap') (h4 : cap' ≤ maxLen)
      (h5 : app = true → lo = 0 ∧ A = some ⟨b, 0, none⟩ ∧ cap' = cap) : RC w ι M (.own id lo len app) (.slice A len cap')
  | nil {id : Nat} {app : Bool} {A : Option Addr} (h : ι id = some .nil) : RC w ι M (.own id 0 0 app) (.slice A 0 0)
  | fn {f : Fn} {caps : List C} (vs : List Value) (hl : vs.length = caps.length)
      (hr : ∀ j c, caps[j]? = some c → RC w ι M c (vs.getD j undef)) : RC w ι M (.fn f caps) (.func f #[] vs.toArray)

inductive RS (w : World) (ι : Io) (M : Ms) : S → Value → Prop
  | junk {v : Value} : RS w ι M .junk v
  | c {x : C} {v : Value} (h : RC w ι M x v) : RS w ι M (.c x) v
  | agg {cs : List C} (vs : List Value) (hl : vs.length = cs.length)
      (hr : ∀ j c, cs[j]? = some c → RC w ι M c (vs.getD j undef)) : RS w ι M (.agg cs) (.agg vs.toArray)
  | tup {ss : List S} (vs : List Value) (hl : vs.length = ss.length)
      (hr : ∀ j s, ss[j]? = some s → RS w ι M s (vs.getD j undef)) : RS w ι M (.tup ss) (.tuple vs.toArray)

theorem RT.one {w : World} {M : Ms} {x : T} {v : Value} (h : RT w M x v) : v.oneCell' = true := by
  cases h <;> first | assumption | rfl
theorem RC.one {w : World} {ι : Io} {M : Ms} {x : C} {v : Value} (h : RC w ι M x v) : v.oneCell' = true := by
  cases h <;> first | exact RT.one ‹_› | rfl

/-- the block lies where the place says, and holds what is known -/
def BlkRel (w : World) (ι : Io) (M : Ms) (k : Blk) : Loc → Prop
  | .nil => k.rows = []
  | .blk b cap size => k.size = size ∧ 0 < size ∧ k.rows.length ≤ cap ∧ cap ≤ maxLen ∧ (∀ r ∈ k.rows, r.length = size) ∧
      ∃ cur : Array Value, w.heap[b]? = some (.cells cur k.elem (0, 0)) ∧ cur.size = cap * size ∧
        ∀ i j c, at2 k.rows i j = some c → ∃ u, cur[i * size + j]? = some u ∧ RC w ι M c u

structure HeapRel (w : World) (ι : Io) (M : Ms) (H : Hp) : Prop where
  blk : ∀ (id : Nat) (k : Blk), H[id]? = some k → k.mode ≠ .dead → ∀ l, ι id = some l → BlkRel w ι M k l
  liv : ∀ (id : Nat) (k : Blk), H[id]? = some k → k.mode = .live → ∀ b cap size, ι id = some (.blk b cap size) → M b
  fro : ∀ (id : Nat) (k : Blk), H[id]? = some k → k.mode = .froz → ∀ b cap size, ι id = some (.blk b cap size) → ¬ M b
  inj : ∀ (id id' : Nat) (k k' : Blk), H[id]? = some k → H[id']? = some k' → k.mode = .live → k'.mode = .live →
    ∀ b cap size cap' size', ι id = some (.blk b cap size) → ι id' = some (.blk b cap' size') → id = id'

/-- b is a block of one's own that may be written -/
def Live (ι : Io) (H : Hp) (b : Nat) : Prop := ∃ id k cap size, H[id]? = some k ∧ k.mode = .live ∧ ι id = some (.blk b cap size)
def MB (w : World) (M : Ms) : Prop := ∀ b, M b → b < w.heap.size
def Fresh (ι : Io) (n : Nat) : Prop := ∀ id, n ≤ id → ι id = none

structure Step (w : World) (ι : Io) (M : Ms) (H : Hp) (w' : World) (ι' : Io) (M' : Ms) (H' : Hp) : Prop where
  os : w'.os = w.os
  tape : w'.tape = w.tape
  output : w'.output = w.output
  size : w.heap.size ≤ w'.heap.size
  keep : ∀ b, b < w.heap.size → ¬ Live ι H b → w'.heap[b]? = w.heap[b]?
  same : ∀ id, id < H.length → ι' id = ι id
  mnew : ∀ b, M' b → M b ∨ w.heap.size ≤ b
  mold : ∀ b, M b → M' b ∨ Live ι H b
  live : ∀ b, Live ι' H' b → Live ι H b ∨ w.heap.size ≤ b
  len : H.length ≤ H'.length

theorem block_lt {w : World} {b : Nat} {o : Obj} (h : w.heap[b]? = some o) : b < w.heap.size := (Array.getElem?_eq_some_iff.1 h).1
theorem cell_lt {w : World} {a : Addr} {u : Value} (h : w.cell? a = some u) : a.block < w.heap.size := World.block_lt_of_cell? w a h

/-- trees stay as they are while no block outside M is written -/
theorem RT.keep {w w' : World} {M M' : Ms} (hk : ∀ b, b < w.heap.size → ¬ M b → w'.heap[b]? = w.heap[b]?) (hm : ∀ b, M' b → M b ∨ w.heap.size ≤ b)
    {x : T} {v : Value} (h : RT w M x v) : RT w' M' x v := by
  induction h with
  | atm h => exact .atm h
  | sl f hrow hcap hmax hk1 hn hA hc hr ih =>
    refine .sl f hrow hcap hmax hk1 hn hA (fun i j c hc' => ?_) ih
    obtain ⟨h1, h2⟩ := hc i j c hc'
    have hlt := cell_lt h1
    refine ⟨(World.cell?_of_block (hk _ hlt h2)).trans h1, fun hM => ?_⟩
    rcases hm _ hM with h3 | h3
    · exact h2 h3
    · exact absurd h3 (by simpa using hlt)
  | ptr f hc hr ih =>
    refine .ptr f (fun j c hc' => ?_) ih
    obtain ⟨h1, h2⟩ := hc j c hc'
    have hlt := cell_lt h1
    refine ⟨(World.cell?_of_block (hk _ hlt h2)).trans h1, fun hM => ?_⟩
    rcases hm _ hM with h3 | h3
    · exact h2 h3
    · exact absurd h3 (by simpa using hlt)
  | fn vs hl hr ih => exact .fn vs hl ih

theorem RC.keep {w w' : World} {ι ι' : Io} {M M' : Ms} (hk : ∀ b, b < w.heap.size → ¬ M b → w'.heap[b]? = w.heap[b]?) (hm : ∀ b, M' b → M b ∨ w.heap.size ≤ b)
    (hi : ∀ id l, ι id = some l → ι' id = some l) {x : C} {v : Value} (h : RC w ι M x v) : RC w' ι' M' x v := by
  induction h with
  | t h => exact .t (h.keep hk hm)
  | ptr h => exact .ptr (hi _ _ h)
  | own h h1 h2 h3 h4 h5 => exact .own (hi _ _ h) h1 h2 h3 h4 h5
  | nil h => exact .nil (hi _ _ h)
  | fn vs hl hr ih => exact .fn vs hl ih

theorem RS.keep {w w' : World} {ι ι' : Io} {M M' : Ms} (hk : ∀ b, b < w.heap.size → ¬ M b → w'.heap[b]? = w.heap[b]?) (hm : ∀ b, M' b → M b ∨ w.heap.size ≤ b)
    (hi : ∀ id l, ι id = some l → ι' id = some l) {x : S} {v : Value} (h : RS w ι M x v) : RS w' ι' M' x v := by
  induction h with
  | junk => exact .junk
  | c h => exact .c (h.keep hk hm hi)
  | agg vs hl hr => exact .agg vs hl fun j c hc => (hr j c hc).keep hk hm hi
  | tup vs hl hr ih => exact .tup vs hl ih

theorem Live.inM {w : World} {ι : Io} {M : Ms} {H : Hp} (h : HeapRel w ι M H) {b : Nat} (hl : Live ι H b) : M b := by
  obtain ⟨id, k, cap, size, h1, h2, h3⟩ := hl
  exact h.liv id k h1 h2 b cap size h3

theorem Step.refl (w : World) (ι : Io) (M : Ms) (H : Hp) : Step w ι M H w ι M H :=
  ⟨rfl, rfl, rfl, Nat.le_refl _, fun _ _ _ => rfl, fun _ _ => rfl, fun _ h => .inl h, fun _ h => .inl h, fun _ h => .inl h, Nat.le_refl _⟩

theorem Step.trans {w w1 w2 : World} {ι ι1 ι2 : Io} {M M1 M2 : Ms} {H H1 H2 : Hp} (hb : MB w M) (a : Step w ι M H w1 ι1 M1 H1) (c : Step w1 ι1 M1 H1 w2 ι2 M2 H2) :
    Step w ι M H w2 ι2 M2 H2 where
  os := c.os.trans a.os
  tape := c.tape.trans a.tape
  output := c.output.trans a.output
  size := Nat.le_trans a.size c.size
  keep := fun k hk hl => (c.keep k (Nat.lt_of_lt_of_le hk a.size) fun h => by rcases a.live k h with h | h; exact hl h; omega).trans (a.keep k hk hl)
  same := fun id hid => (c.same id (Nat.lt_of_lt_of_le hid a.len)).trans (a.same id hid)
  mnew := fun k h => by
    rcases c.mnew k h with h | h
    · exact a.mnew k h
    · exact .inr (Nat.le_trans a.size h)
  mold := fun k h => by
    rcases a.mold k h with h1 | h1
    · rcases c.mold k h1 with h2 | h2
      · exact .inl h2
      · rcases a.live k h2 with h3 | h3
        · exact .inr h3
        · have := hb k h; omega
    · exact .inr h1
  live := fun k h => by
    rcases c.live k h with h | h
    · exact a.live k h
    · exact .inr (Nat.le_trans a.size h)
  len := Nat.le_trans a.len c.len

/-- nothing that was there has turned -/
structure Ext (w w' : World) : Prop where
  os : w'.os = w.os
  tape : w'.tape = w.tape
  output : w'.output = w.output
  size : w.heap.size ≤ w'.heap.size
  keep : ∀ b, b < w.heap.size → w'.heap[b]? = w.heap[b]?
theorem Ext.refl (w : World) : Ext w w := ⟨rfl, rfl, rfl, Nat.le_refl _, fun _ _ => rfl⟩
theorem Ext.trans {a b c : World} (h : Ext a b) (k : Ext b c) : Ext a c :=
  ⟨k.os.trans h.os, k.tape.trans h.tape, k.output.trans h.output, Nat.le_trans h.size k.size, fun i hi => (k.keep i (Nat.lt_of_lt_of_le hi h.size)).trans (h.keep i hi)⟩

/-- new places for the ids n, .., n + m - 1 -/
def addIo (ι : Io) (n m : Nat) (new : Nat → Loc) : Io := fun id => if n ≤ id ∧ id < n + m then some (new (id - n)) else ι id
def addMs (M : Ms) (m : Nat) (new : Nat → Loc) : Ms := fun b => M b ∨ ∃ k, k < m ∧ ∃ cap size, new k = .blk b cap size

/-- what a quiet operation leaves: a result, and new blocks of its own -/
def QPost (w : World) (ι : Io) (M : Ms) (n : Nat) (s : S) (B : List Blk) (v : Value) (w' : World) : Prop :=
  ∃ new : Nat → Loc, RS w' (addIo ι n B.length new) (addMs M B.length new) s v ∧ Ext w w' ∧
    (∀ k blk, B[k]? = some blk → blk.mode = .live ∧ BlkRel w' (addIo ι n B.length new) (addMs M B.length new) blk (new k)) ∧
    (∀ k b cap size, k < B.length → new k = .blk b cap size → w.heap.size ≤ b ∧ b < w'.heap.size) ∧
    (∀ k k' b cap size cap' size', k < B.length → k' < B.length → new k = .blk b cap size → new k' = .blk b cap' size' → k = k')
/-- what any operation leaves -/
def GPost (w : World) (ι : Io) (M : Ms) (H : Hp) (s : S) (H' : Hp) (v : Value) (w' : World) : Prop :=
  ∃ (ι' : Io) (M' : Ms), RS w' ι' M' s v ∧ HeapRel w' ι' M' H' ∧ MB w' M' ∧ Fresh ι' H'.length ∧ Step w ι M H w' ι' M' H'

theorem addIo_ext {ι : Io} {n m : Nat} {new : Nat → Loc} (hf : ∀ k, k < m → ι (n + k) = none) {id : Nat} {l : Loc} (h : ι id = some l) : addIo ι n m new id = some l := by
  unfold addIo
  split
  · rename_i hc
    have := hf (id - n) (by omega)
    rw [show n + (id - n) = id by omega, h] at this
    cases this
  · exact h

theorem QPost.gpost {w : World} {ι : Io} {M : Ms} {H : Hp} {s : S} {B : List Blk} {v : Value} {w' : World} (hH : HeapRel w ι M H) (hM : MB w M) (hF : Fresh ι H.length)
    (h : QPost w ι M H.length s B v w') : GPost w ι M H s (H ++ B) v w' := by
  obtain ⟨new, h1, h2, h3, h4, h5⟩ := h
  have hnone : ∀ k, k < B.length → ι (H.length + k) = none := fun k _ => hF _ (by omega)
  have hold : ∀ id, id < H.length → addIo ι H.length B.length new id = ι id := fun id hid => by
    unfold addIo; rw [if_neg (by omega)]
  have hnew : ∀ k, k < B.length → addIo ι H.length B.length new (H.length + k) = some (new k) := fun k hk => by
    unfold addIo; rw [if_pos (by omega)]; congr 2; omega
  have hdist : ∀ id b cap size, ι id = some (.blk b cap size) → ∀ k, H[id]? = some k → k.mode ≠ .dead → b < w.heap.size := fun id b cap size hi k hk hd => by
    have := hH.blk id k hk hd _ hi
    obtain ⟨_, _, _, _, _, cur, hc, _⟩ := this
    exact block_lt hc
  refine ⟨_, _, h1, ⟨?_, ?_, ?_, ?_⟩, ?_, ?_, ?_⟩
  · intro id k hk hd l hl
    by_cases hid : id < H.length
    · rw [List.getElem?_append_left hid] at hk
      rw [hold id hid] at hl
      have hb := hH.blk id k hk hd l hl
      cases l with
      | nil => exact hb
      | blk b cap size =>
        obtain ⟨q1, q2, q3, q4, q5, cur, q6, q7, q8⟩ := hb
        refine ⟨q1, q2, q3, q4, q5, cur, (h2.keep b (block_lt q6)).trans q6, q7, fun i j c hc => ?_⟩
        obtain ⟨u, hu, hr⟩ := q8 i j c hc
        refine ⟨u, hu, hr.keep (fun b hb _ => h2.keep b hb) (fun b hb => ?_) (fun id l => addIo_ext hnone)⟩
        rcases hb with hb | ⟨k, hk, cap, size, he⟩
        · exact .inl hb
        · exact .inr (h4 k b cap size hk he).1
    · rw [List.getElem?_append_right (by omega)] at hk
      have hlt := (List.getElem?_eq_some_iff.1 hk).1
      have e : addIo ι H.length B.length new id = some (new (id - H.length)) := by
        unfold addIo; rw [if_pos (by omega)]
      rw [e] at hl
      injection hl with hl
      subst hl
      exact (h3 _ _ hk).2
  · intro id k hk hl b cap size hi
    by_cases hid : id < H.length
    · rw [List.getElem?_append_left hid] at hk
      rw [hold id hid] at hi
      exact .inl (hH.liv id k hk hl b cap size hi)
    · rw [List.getElem?_append_right (by omega)] at hk
      have hlt := (List.getElem?_eq_some_iff.1 hk).1
      have e : addIo ι H.length B.length new id = some (new (id - H.length)) := by
        unfold addIo; rw [if_pos (by omega)]
      rw [e] at hi
      injection hi with hi
      exact .inr ⟨_, hlt, cap, size, hi⟩
  · intro id k hk hl b cap size hi
    by_cases hid : id < H.length
    · rw [List.getElem?_append_left hid] at hk
      rw [hold id hid] at hi
      have hb := hdist _ _ _ _ hi k hk (by rw [hl]; intro h; cases h)
      rintro (hM' | ⟨k', hk', cap', size', he⟩)
      · exact hH.fro id k hk hl b cap size hi hM'
      · have := (h4 _ _ _ _ hk' he).1
        omega
    · rw [List.getElem?_append_right (by omega)] at hk
      have := (h3 _ _ hk).1
      rw [hl] at this
      cases this
  · intro id id' k k' hk hk' hl hl' b cap size cap' size' hi hi'
    by_cases hid : id < H.length <;> by_cases hid' : id' < H.length
    · rw [List.getElem?_append_left hid] at hk
      rw [List.getElem?_append_left hid'] at hk'
      rw [hold _ hid] at hi
      rw [hold _ hid'] at hi'
      exact hH.inj id id' k k' hk hk' hl hl' b cap size cap' size' hi hi'
    · rw [List.getElem?_append_left hid] at hk
      rw [hold _ hid] at hi
      have := hdist _ _ _ _ hi k hk (by rw [hl]; intro h; cases h)
      rw [List.getElem?_append_right (by omega)] at hk'
      have hlt := (List.getElem?_eq_some_iff.1 hk').1
      have e : addIo ι H.length B.length new id' = some (new (id' - H.length)) := by
        unfold addIo; rw [if_pos (by omega)]
      rw [e] at hi'
      injection hi' with hi'
      have := (h4 _ _ _ _ hlt hi').1
      omega
    · rw [List.getElem?_append_left hid'] at hk'
      rw [hold _ hid'] at hi'
      have := hdist _ _ _ _ hi' k' hk' (by rw [hl']; intro h; cases h)
      rw [List.getElem?_append_right (by omega)] at hk
      have hlt := (List.getElem?_eq_some_iff.1 hk).1
      have e : addIo ι H.length B.length new id = some (new (id - H.length)) := by
        unfold addIo; rw [if_pos (by omega)]
      rw [e] at hi
      injection hi with hi
      have := (h4 _ _ _ _ hlt hi).1
      omega
    · rw [List.getElem?_append_right (by omega)] at hk hk'
      have hlt := (List.getElem?_eq_some_iff.1 hk).1
      have hlt' := (List.getElem?_eq_some_iff.1 hk').1
      have e : addIo ι H.length B.length new id = some (new (id - H.length)) := by
        unfold addIo; rw [if_pos (by omega)]
      have e' : addIo ι H.length B.length new id' = some (new (id' - H.length)) := by
        unfold addIo; rw [if_pos (by omega)]
      rw [e] at hi
      rw [e'] at hi'
      injection hi with hi
      injection hi' with hi'
      have := h5 _ _ _ _ _ _ _ hlt hlt' hi hi'
      omega
  · intro b hb
    rcases hb with hb | ⟨k, hk, cap, size, he⟩
    · exact Nat.lt_of_lt_of_le (hM b hb) h2.size
    · exact (h4 k b cap size hk he).2
  · intro id hid
    rw [List.length_append] at hid
    unfold addIo
    rw [if_neg (by omega)]
    exact hF id (by omega)
  · refine ⟨h2.os, h2.tape, h2.output, h2.size, fun b hb _ => h2.keep b hb, fun id hid => hold id hid, ?_, fun b hb => .inl (.inl hb), ?_, by simp⟩
    · intro b hb
      rcases hb with hb | ⟨k, hk, cap, size, he⟩
      · exact .inl hb
      · exact .inr (h4 k b cap size hk he).1
    · rintro b ⟨id, k, cap, size, hk, hl, hi⟩
      by_cases hid : id < H.length
      · rw [List.getElem?_append_left hid] at hk
        rw [hold _ hid] at hi
        exact .inl ⟨id, k, cap, size, hk, hl, hi⟩
      · rw [List.getElem?_append_right (by omega)] at hk
        have hlt := (List.getElem?_eq_some_iff.1 hk).1
        have e : addIo ι H.length B.length new id = some (new (id - H.length)) := by
          unfold addIo; rw [if_pos (by omega)]
        rw [e] at hi
        injection hi with hi
        exact .inr (h4 _ _ _ _ hlt hi).1

/-- the function has a text that a call enters -/
def Enters (P : Program) (g : FuncId) : Prop := ∃ fn, P.funcs[g]? = some fn ∧ fn.body.isSome = true ∧ fn.name ≠ "runtime.NumGoroutine"
/-- a call, at abstract arguments over a heap of blocks: quiet, or any -/
def QCall (P : Program) (g : FuncId) (args : List S) (H : Hp) (s : S) (B : List Blk) : Prop :=
  Enters P g ∧ ∀ (w : World) (ι : Io) (M : Ms) (vals : List Value), vals.length = args.length → (∀ j s, args[j]? = some s → RS w ι M s (vals.getD j undef)) → HeapRel w ι M H → MB w M →
    (∀ k, k < B.length → ι (H.length + k) = none) → Calls P g vals.toArray w fun e w' => ∃ v, e = .returned v ∧ QPost w ι M H.length s B v w'
def ACall (P : Program) (g : FuncId) (args : List S) (H : Hp) (s : S) (H' : Hp) : Prop :=
  Enters P g ∧ ∀ (w : World) (ι : Io) (M : Ms) (vals : List Value), vals.length = args.length → (∀ j s, args[j]? = some s → RS w ι M s (vals.getD j undef)) → HeapRel w ι M H → MB w M →
    Fresh ι H.length → Calls P g vals.toArray w fun e w' => ∃ v, e = .returned v ∧ GPost w ι M H s H' v w'
end Go.Proofs.Ythjgbjakpbfnoaa
