/- The abstract machine: what an operation and a code do to abstract values, as a proposition that reduces by computation. No program is in sight. -/
import Derived.Test.YthjgbjakpbfnoaaAbs1
namespace Go.Proofs.Ythjgbjakpbfnoaa
open Go.RowKit
set_option linter.unusedVariables false

/-- the kinds of types that the machine knows -/
inductive TK where
  | bas
  | bool
  | int (k : IntKind)
  | slice (e : TypeId)
  | arr (n : Nat) (e : TypeId)
  | struct (fs : List (Nat × Nat × Bool))
structure TD where
  k : TK
  agg : Bool
  size : Nat
  bytes : Nat
  zero : List Value
abbrev Tab := Nat → Option TD
abbrev Env := List S

/-- a constant as a cell -/
def constC (v : Value) : C :=
  match v with
  | .slice none 0 0 => .t (.sl 0 .nil [])
  | v => .t (.atm v)
def constS (v : Value) : S :=
  match v with
  | .agg cs => cond (cs.toList.all (·.oneCell')) (.agg (cs.toList.map constC)) .junk
  | .tuple _ => .junk
  | .slice none 0 0 => .c (.t (.sl 0 .nil []))
  | v => .c (.t (.atm v))
def evalS (env : Env) : Operand → S
  | .tmp t => env.getD t .junk
  | .const v => constS v
  | .global _ => .junk
  | .func f => .c (.t (.fn (.func f) []))

section
variable {α β : Type}
def takeK : Nat → List α → (List α → Prop) → Prop
  | 0, _, k => k []
  | _ + 1, [], _ => False
  | n + 1, x :: l, k => takeK n l fun r => k (x :: r)
def dropK : Nat → List α → (List α → Prop) → Prop
  | 0, l, k => k l
  | _ + 1, [], _ => False
  | n + 1, _ :: l, k => dropK n l k
def getK : Nat → List α → (α → Prop) → Prop
  | _, [], _ => False
  | 0, x :: _, k => k x
  | n + 1, _ :: l, k => getK n l k
def setK : Nat → α → List α → (List α → Prop) → Prop
  | _, _, [], k => k []
  | 0, v, _ :: l, k => k (v :: l)
  | n + 1, v, x :: l, k => setK n v l fun r => k (x :: r)
/-- writes a list over another one from a place on -/
def overK : Nat → List α → List α → (List α → Prop) → Prop
  | _, [], l, k => k l
  | _, _ :: _, [], _ => False
  | 0, x :: xs, _ :: l, k => overK 0 xs l fun r => k (x :: r)
  | n + 1, x :: xs, y :: l, k => overK n (x :: xs) l fun r => k (y :: r)
def mapK (f : α → β) : List α → (List β → Prop) → Prop
  | [], k => k []
  | x :: l, k => mapK f l fun r => k (f x :: r)
def appK : List α → List α → (List α → Prop) → Prop
  | [], l, k => k l
  | x :: r, l, k => appK r l fun q => k (x :: q)
def lenK : List α → Nat → (Nat → Prop) → Prop
  | [], n, k => k n
  | _ :: l, n, k => lenK l (n + 1) k
end

def allT : List C → Option (List T)
  | [] => some []
  | .t x :: r => match allT r with
    | some xs => some (x :: xs)
    | none => none
  | _ :: _ => none
def allTT : List (List C) → Option (List (List T))
  | [] => some []
  | x :: r => match allT x, allTT r with
    | some a, some b => some (a :: b)
    | _, _ => none

def intS (k : IntKind) (n : Int) : S := .c (.t (.atm (.int k n)))
def boolS (b : Bool) : S := .c (.t (.atm (.bool b)))

def forceS (s : S) (k : S → Prop) : Prop :=
  match s with
  | .junk => k .junk
  | .c x => k (.c x)
  | .agg cs => k (.agg cs)
  | .tup ss => k (.tup ss)

/-- a truth value is parted into its two cases -/
structure BoolB (b : Bool) (k : S → Prop) : Prop where
  yes : b = true → k (boolS true)
  no : b = false → k (boolS false)
structure DecB (p : Prop) [Decidable p] (k : S → Prop) : Prop where
  yes : p → k (boolS true)
  no : ¬ p → k (boolS false)
def boolF (s : S) (k : S → Prop) : Prop :=
  match s with
  | .junk => k .junk
  | .c x => match x with
    | .t y => match y with
      | .atm v => match v with
        | .bool b => BoolB b k
        | v => k (.c (.t (.atm v)))
      | y => k (.c (.t y))
    | x => k (.c x)
  | .agg cs => k (.agg cs)
  | .tup ss => k (.tup ss)

def cellsK (s : S) (k : List C → Prop) : Prop :=
  match s with
  | .c x => k [x]
  | .agg cs => k cs
  | _ => False

/-- n is the result of an arithmetic operation -/
def IsWrap (k : IntKind) (x n : Int) : Prop := n = k.wrap x

def loadRow (d : TD) (row : List C) (o : Nat) (K : S → Prop) : Prop :=
  dropK o row fun r => cond d.agg (takeK d.size r fun cs => K (.agg cs)) (getK 0 r fun c => K (.c c))
def loadRowT (d : TD) (row : List T) (K : S → Prop) : Prop :=
  cond d.agg (takeK d.size row fun cs => mapK C.t cs fun cs => K (.agg cs)) (getK 0 row fun c => K (.c (.t c)))

/-- the row of a block, where it is known by computation -/
def rowK (b : Blk) (r : Nat) (k : List C → Prop) : Prop :=
  match b.box with
  | true => match b.rows, r with
    | [row], 0 => k row
    | _, _ => False
  | false => ∃ row, b.rows[r]? = some row ∧ k row

def readable (b : Blk) (k : Prop) : Prop := match b.mode with | .dead => False | _ => k
def writable (b : Blk) (k : Prop) : Prop := match b.mode with | .live => k | _ => False

def aload (τ : Tab) (ev : Operand → S) (H : Hp) (t : TypeId) (x : Operand) (K : S → Prop) : Prop :=
  match τ t with
  | none => False
  | some d => match ev x with
    | .c (.ptr id r o) => getK id H fun b => readable b (rowK b r fun row => loadRow d row o K)
    | .c (.t (.ptr cells)) => loadRowT d cells K
    | _ => False

def setRows (b : Blk) (rows : List (List C)) : Blk := ⟨b.mode, b.elem, b.size, rows, b.box⟩

def astore (τ : Tab) (ev : Operand → S) (H : Hp) (t : TypeId) (x v : Operand) (K : Hp → Prop) : Prop :=
  match τ t with
  | none => False
  | some d => match ev x with
    | .c (.ptr id r o) => getK id H fun b => writable b <| cellsK (ev v) fun cs => cond (Nat.beq cs.length d.size)
        (rowK b r fun row => overK o cs row fun row' =>
          match b.box with
          | true => setK id (setRows b [row']) H K
          | false => setK id (setRows b (b.rows.set r row')) H K) False
    | _ => False

def fieldOff (τ : Tab) (s : TypeId) (f : Nat) (k : Nat → Prop) : Prop :=
  match τ s with
  | some ⟨.struct fs, _, _, _, _⟩ => match fs[f]? with
    | some (off, size, _) => cond (Nat.beq size 0) False (k off)
    | none => False
  | _ => False

def afieldAddr (τ : Tab) (ev : Operand → S) (s : TypeId) (x : Operand) (f : Nat) (K : S → Prop) : Prop :=
  fieldOff τ s f fun off => match ev x with
    | .c (.ptr id r o) => K (.c (.ptr id r (o + off)))
    | .c (.t (.ptr cells)) => dropK off cells fun cs => K (.c (.t (.ptr cs)))
    | _ => False

def sizeK (τ : Tab) (e : TypeId) (k : Nat → Prop) : Prop := match τ e with | some d => k d.size | none => False

def aindexAddr (τ : Tab) (ev : Operand → S) (H : Hp) (t : TypeId) (x i : Operand) (K : S → Prop) : Prop :=
  match ev i with
  | .c (.t (.atm (.int _ n))) => match τ t with
    | some ⟨.slice e, _, _, _, _⟩ => match ev x with
      | .c (.t (.sl size k rows)) => sizeK τ e fun s => cond (Nat.beq s size) (∃ row, 0 ≤ n ∧ rows[n.toNat]? = some row ∧ K (.c (.t (.ptr row)))) False
      | .c (.own id lo len app) => sizeK τ e fun s => getK id H fun b => readable b (cond (Nat.beq s b.size) ((0 ≤ n ∧ n < (len : Int)) ∧ K (.c (.ptr id (lo + n.toNat) 0))) False)
      | _ => False
    | some ⟨.arr m e, _, _, _, _⟩ => sizeK τ e fun s => match ev x with
      | .c (.ptr id r o) => (0 ≤ n ∧ n < (m : Int)) ∧ K (.c (.ptr id r (o + n.toNat * s)))
      | .c (.t (.ptr cells)) => (0 ≤ n ∧ n < (m : Int)) ∧ dropK (n.toNat * s) cells fun cs => K (.c (.t (.ptr cs)))
      | _ => False
    | _ => False
  | _ => False

/-- an int operand, where there is one -/
def optInt (ev : Operand → S) (x : Option Operand) (dflt : Int) (k : Int → Prop) : Prop :=
  match x with
  | none => k dflt
  | some x => match ev x with
    | .c (.t (.atm (.int _ n))) => k n
    | _ => False

def sliceKind (k : SK) (hi max : Option Operand) : SK :=
  match k, hi, max with
  | .full, none, none => .full
  | _, _, _ => .any

def aslice (τ : Tab) (ev : Operand → S) (H : Hp) (t : TypeId) (x : Operand) (lo hi max : Option Operand) (K : S → Prop) : Prop :=
  match τ t, max with
  | some ⟨.slice e, _, _, _, _⟩, none => match ev x with
    | .c (.t (.sl size k rows)) => optInt ev lo 0 fun l => optInt ev hi rows.length fun h => sizeK τ e fun s =>
        cond (Nat.beq s size) ((0 ≤ l ∧ l ≤ h ∧ h ≤ rows.length) ∧ K (.c (.t (.sl size (sliceKind k hi max) ((rows.take h.toNat).drop l.toNat))))) False
    | .c (.own id l0 len app) => optInt ev lo 0 fun l => optInt ev hi len fun h =>
        sizeK τ e fun s => getK id H fun b => readable b <| cond (Nat.beq s b.size) (((0 ≤ l ∧ l ≤ h ∧ h ≤ (len : Int)) ∧ K (.c (.own id (l0 + l.toNat) (h - l).toNat (app && lo.isNone))))) False
    | _ => False
  | _, _ => False

/-- the result of an operation on bits -/
def IsBits (op : BinOp) (k : IntKind) (a b n : Int) : Prop :=
  match op with
  | .and => n = k.wrap (BitVec.ofInt k.bits a &&& BitVec.ofInt k.bits b).toNat
  | .or => n = k.wrap (BitVec.ofInt k.bits a ||| BitVec.ofInt k.bits b).toNat
  | .xor => n = k.wrap (BitVec.ofInt k.bits a ^^^ BitVec.ofInt k.bits b).toNat
  | .andNot => n = k.wrap (BitVec.ofInt k.bits a &&& ~~~ BitVec.ofInt k.bits b).toNat
  | _ => False

def aint (op : BinOp) (k k' : IntKind) (a b : Int) (K : S → Prop) : Prop :=
  match op with
  | .shl => 0 ≤ b ∧ ∃ n, IsWrap k (a * 2 ^ min b.toNat k.bits) n ∧ K (intS k n)
  | .shr => 0 ≤ b ∧ K (intS k (a.fdiv (2 ^ min b.toNat k.bits)))
  | op => cond (decide (k = k')) (match op with
    | .add => ∃ n, IsWrap k (a + b) n ∧ K (intS k n)
    | .sub => ∃ n, IsWrap k (a - b) n ∧ K (intS k n)
    | .mul => ∃ n, IsWrap k (a * b) n ∧ K (intS k n)
    | .quo => b ≠ 0 ∧ ∃ n, IsWrap k (a.tdiv b) n ∧ K (intS k n)
    | .rem => b ≠ 0 ∧ K (intS k (a.tmod b))
    | .eql => DecB (a = b) K
    | .neq => DecB (a ≠ b) K
    | .lss => DecB (a < b) K
    | .leq => DecB (a ≤ b) K
    | .gtr => DecB (a > b) K
    | .geq => DecB (a ≥ b) K
    | op => ∃ n, IsBits op k a b n ∧ K (intS k n)) False

/-- a slice against nil -/
def isNilK (x : C) (k : Bool → Prop) : Prop :=
  match x with
  | .t (.sl _ .nil _) => k true
  | .t (.sl _ _ rows) => 0 < rows.length ∧ k false
  | .own _ _ len _ => 0 < len ∧ k false
  | _ => False

def abin (τ : Tab) (op : BinOp) (t : TypeId) (x y : S) (K : S → Prop) : Prop :=
  match x, y with
  | .c (.t (.atm (.int k a))), .c (.t (.atm (.int k' b))) => aint op k k' a b K
  | .c (.t (.atm (.bool a))), .c (.t (.atm (.bool b))) => match τ t with
    | some ⟨.bool, _, _, _, _⟩ => match op with
      | .eql => BoolB (a == b) K
      | .neq => BoolB (!(a == b)) K
      | _ => False
    | _ => False
  | .c x, .c (.t (.sl _ .nil [])) => match τ t with
    | some ⟨.slice _, _, _, _, _⟩ => match op with
      | .eql => isNilK x fun b => K (boolS b)
      | .neq => isNilK x fun b => K (boolS (!b))
      | _ => False
    | _ => False
  | _, _ => False

def aun (op : UnOp) (x : S) (K : S → Prop) : Prop :=
  match op, x with
  | .neg, .c (.t (.atm (.int k a))) => ∃ n, IsWrap k (0 - a) n ∧ K (intS k n)
  | .not, .c (.t (.atm (.bool b))) => K (boolS (!b))
  | _, _ => False

def aconv (τ : Tab) (src dst : TypeId) (x : S) (K : S → Prop) : Prop :=
  match x, τ src, τ dst with
  | .c (.t (.atm (.int _ a))), some _, some ⟨.int k, _, _, _, _⟩ => ∃ n, IsWrap k a n ∧ K (intS k n)
  | _, _, _ => False

def newBlk (e : TypeId) (size : Nat) (rows : List (List C)) (box : Bool) : Blk := ⟨.live, e, size, rows, box⟩

def amake (τ : Tab) (ev : Operand → S) (n : Nat) (t : TypeId) (l c : Operand) (K : S → List Blk → Prop) : Prop :=
  match ev l, ev c, τ t with
  | .c (.t (.atm (.int _ a))), .c (.t (.atm (.int _ b))), some ⟨.slice e, _, _, _, _⟩ => match τ e with
    | some d => cond (Nat.beq d.size 0) False ((0 ≤ a ∧ a ≤ b ∧ b * (d.bytes + 1) ≤ 140737488355328) ∧
        mapK constC d.zero fun z => K (.c (.own n 0 a.toNat true)) [newBlk e d.size (List.replicate a.toNat z) false])
    | none => False
  | _, _, _ => False

def fieldPl (fs : List (Nat × Nat × Bool)) (i : Nat) (cs : List C) (k : Nat → Prop) : Prop :=
  match fs[i]? with
  | some (off, size, _) => cond (Nat.beq cs.length size && Nat.blt 0 size) (k off) False
  | none => False
def fillS (fs : List (Nat × Nat × Bool)) (cells : List C) : List (Nat × S) → (List C → Prop) → Prop
  | [], k => k cells
  | (i, s) :: rest, k => cellsK s fun cs => fieldPl fs i cs fun off => overK off cs cells fun cells' => fillS fs cells' rest k
def fillA (size : Nat) (cells : List C) : List (Nat × S) → (List C → Prop) → Prop
  | [], k => k cells
  | (i, s) :: rest, k => cellsK s fun cs => cond (Nat.beq cs.length size && Nat.blt 0 size) (overK (i * size) cs cells fun cells' => fillA size cells' rest k) False

def abuild (τ : Tab) (ev : Operand → S) (t : TypeId) (parts : List (Nat × Operand)) (K : S → Prop) : Prop :=
  match τ t with
  | some ⟨.struct fs, _, _, _, z⟩ => mapK constC z fun z => fillS fs z (parts.map fun p => (p.1, ev p.2)) fun cs => K (.agg cs)
  | some ⟨.arr _ e, _, _, _, z⟩ => sizeK τ e fun s => mapK constC z fun z => fillA s z (parts.map fun p => (p.1, ev p.2)) fun cs => K (.agg cs)
  | _ => False

/-- the rows of a slice literal -/
def fillR (size : Nat) (rows : List (List C)) : List (Nat × S) → (List (List C) → Prop) → Prop
  | [], k => k rows
  | (i, s) :: rest, k => cellsK s fun cs => cond (Nat.beq cs.length size && Nat.blt i rows.length) (setK i cs rows fun rows' => fillR size rows' rest k) False

def abuildSlice (τ : Tab) (ev : Operand → S) (n : Nat) (t : TypeId) (len : Nat) (parts : List (Nat × Operand)) (K : S → List Blk → Prop) : Prop :=
  match τ t with
  | some ⟨.slice e, _, _, _, _⟩ => match τ e with
    | some d => cond (Nat.beq d.size 0 || Nat.ble 16777216 (len * d.size)) False (mapK constC d.zero fun z => fillR d.size (List.replicate len z) (parts.map fun p => (p.1, ev p.2)) fun rows =>
        match allTT rows with
        | some rs => K (.c (.t (.sl d.size .full rs))) []
        | none => K (.c (.own n 0 len true)) [newBlk e d.size rows false])
    | none => False
  | _ => False

def abox (ev : Operand → S) (n : Nat) (t : TypeId) (x : Operand) (K : S → List Blk → Prop) : Prop :=
  cellsK (ev x) fun cs => match cs with
    | [] => False
    | c :: r => K (.c (.ptr n 0 0)) [newBlk t (c :: r).length [c :: r] true]

def aalloc (τ : Tab) (n : Nat) (t : TypeId) (K : S → List Blk → Prop) : Prop :=
  match τ t with
  | some d => mapK constC d.zero fun z => cond (Nat.beq z.length 0) False (K (.c (.ptr n 0 0)) [newBlk t z.length [z] true])
  | none => False

def alen (τ : Tab) (t : TypeId) (x : S) (K : S → Prop) : Prop :=
  match τ t with
  | some ⟨.slice _, _, _, _, _⟩ => match x with
    | .c (.t (.sl _ _ rows)) => K (intS .i64 rows.length)
    | .c (.own _ _ len _) => K (intS .i64 len)
    | _ => False
  | some ⟨.arr n _, _, _, _, _⟩ => K (intS .i64 n)
  | _ => False

def toC (rows : List (List T)) : List (List C) := rows.map (·.map C.t)

/-- the rows that an append adds -/
def srcK (size : Nat) (H : Hp) (x : S) (k : List (List C) → Prop) : Prop :=
  match x with
  | .c (.t (.sl s _ rows)) => (rows.length = 0 ∨ s = size) ∧ k (toC rows)
  | .c (.own id lo len _) => getK id H fun b => readable b (cond (Nat.beq b.size size) (lo + len ≤ b.rows.length ∧ k ((b.rows.drop lo).take len)) False)
  | _ => False

def aappend (τ : Tab) (ev : Operand → S) (H : Hp) (n : Nat) (t : TypeId) (s x : Operand) (Kq : S → List Blk → Prop) (Kg : S → Hp → Prop) : Prop :=
  match τ t with
  | some ⟨.slice e, _, _, _, _⟩ => match τ e with
    | some d => cond (Nat.beq d.size 0) False (srcK d.size H (ev x) fun xr =>
        match ev s with
        | .c (.t (.sl _ .nil _)) => xr.length * (d.bytes + 1) ≤ 140737488355328 ∧ Kq (.c (.own n 0 xr.length true)) [newBlk e d.size xr false]
        | .c (.t (.sl sz .full rows)) => ((rows.length = 0 ∨ (0 < xr.length ∧ sz = d.size)) ∧ (rows.length + xr.length) * (d.bytes + 1) ≤ 140737488355328) ∧
            Kq (.c (.own n 0 (rows.length + xr.length) true)) [newBlk e d.size (toC rows ++ xr) false]
        | .c (.own id _ len true) => getK id H fun b => writable b (cond (Nat.beq b.size d.size && Nat.beq b.elem e) ((len ≤ b.rows.length ∧ (len + xr.length) * (d.bytes + 1) ≤ 140737488355328) ∧
            setK id ⟨.dead, e, d.size, [], false⟩ H fun H1 => appK H1 [newBlk e d.size (b.rows.take len ++ xr) false] fun H' => Kg (.c (.own n 0 (len + xr.length) true)) H') False)
        | _ => False)
    | none => False
  | _ => False

def allC : List S → Option (List C)
  | [] => some []
  | .c x :: r => match allC r with
    | some xs => some (x :: xs)
    | none => none
  | _ :: _ => none

def amin (max : Bool) : List S → (S → Prop) → Prop
  | [.c (.t (.atm (.int k a))), .c (.t (.atm (.int _ b)))], K => K (intS k (cond max (if b > a then b else a) (if b < a then b else a)))
  | _, _ => False

def acall (P : Program) (g : FuncId) (args : List S) (H : Hp) (Kq : S → List Blk → Prop) (Kg : S → Hp → Prop) : Prop :=
  (∃ r B, QCall P g args H r B ∧ boolF r fun r => Kq r B) ∨ (∃ r H', ACall P g args H r H' ∧ boolF r fun r => Kg r H')

def aop (P : Program) (τ : Tab) (ev : Operand → S) (H : Hp) (op : Op) (Kq : S → List Blk → Prop) (Kg : S → Hp → Prop) : Prop :=
  match op with
  | .move x | .assign x => forceS (ev x) fun s => Kq s []
  | .pick c a b => match ev c with
    | .c (.t (.atm (.bool t))) => cond t (forceS (ev a) fun s => Kq s []) (forceS (ev b) fun s => Kq s [])
    | _ => False
  | .load t x => aload τ ev H t x fun s => boolF s fun s => Kq s []
  | .store t x v => astore τ ev H t x v fun H' => Kg .junk H'
  | .fieldAddr s x f => afieldAddr τ ev s x f fun s => Kq s []
  | .indexAddr t x i => aindexAddr τ ev H t x i fun s => Kq s []
  | .slice t x lo hi max => aslice τ ev H t x lo hi max fun s => Kq s []
  | .binOp op t x y _ => abin τ op t (ev x) (ev y) fun s => Kq s []
  | .unOp op _ x => aun op (ev x) fun s => Kq s []
  | .convert src dst x => aconv τ src dst (ev x) fun s => Kq s []
  | .makeSlice t l c => lenK H 0 fun n => amake τ ev n t l c Kq
  | .build t parts => abuild τ ev t parts.toList fun s => Kq s []
  | .buildSlice t n parts => lenK H 0 fun m => abuildSlice τ ev m t n parts.toList Kq
  | .box t x => lenK H 0 fun n => abox ev n t x Kq
  | .alloc t => lenK H 0 fun n => aalloc τ n t Kq
  | .extract x i => match ev x with
    | .tup ss => getK i ss fun s => boolF s fun s => Kq s []
    | _ => False
  | .makeFunc fn first caps => match first.toList, allC (caps.toList.map ev) with
    | [], some cs => match allT cs with
      | some ts => Kq (.c (.t (.fn fn ts))) []
      | none => Kq (.c (.fn fn cs)) []
    | _, _ => False
  | .call c => match c.callee with
    | .builtin .len => match c.argTypes.toList, c.args.toList with
      | t :: _, x :: _ => alen τ t (ev x) fun s => Kq s []
      | _, _ => False
    | .builtin .append => match c.argTypes.toList, c.args.toList with
      | [t, t'], [s, x] => cond (Nat.beq t t') (lenK H 0 fun n => aappend τ ev H n t s x Kq Kg) False
      | _, _ => False
    | .builtin .min => amin false (c.args.toList.map ev) fun s => Kq s []
    | .builtin .max => amin true (c.args.toList.map ev) fun s => Kq s []
    | .value f => match ev f with
      | .c (.t (.fn (.func g) caps)) => acall P g (c.args.toList.map ev ++ caps.map fun x => .c (.t x)) H Kq Kg
      | .c (.fn (.func g) caps) => acall P g (c.args.toList.map ev ++ caps.map .c) H Kq Kg
      | _ => False
    | _ => False
  | _ => False
end Go.Proofs.Ythjgbjakpbfnoaa
