/- Plain data of the program (package api) as Lean structures, and what it means that a value reads as one in a world. No function of the program occurs here. -/
import Derived.WalkKit
import Derived.WalkSpells
import Derived.WalkLawsBesides
import Derived.Lib.Hide
import Derived.Laws.OwnMore
import Derived.Deep.AppendLies
import Derived.Deep.Draws
namespace Go.Proofs.Ythjgbjakpbfnoaa
open Go.RowKit

structure Place where
  kind : Int
  hh : Int
  mat : Int
structure Move where
  day : Int
  src : Int
  dst : Int
  scale : Int
  reading : Int
  all : Bool
structure Cert where
  scale : Int
  since : Int
  till : Int
  grams : Int
  permille : Int
  drift : Int
structure Recall where
  scale : Int
  since : Int
structure Purity where
  move : Int
  mat : Int
  least : Int
  most : Int
structure Ev where
  mats : Int
  hhs : Int
  scs : Int
  places : List Place
  moves : List Move
  certs : List Cert
  recalls : List Recall
  purities : List Purity

abbrev vi (n : Int) : Value := .int .i64 n
def Place.cells (p : Place) : List Value := [vi p.kind, vi p.hh, vi p.mat]
def Move.cells (m : Move) : List Value := [vi m.day, vi m.src, vi m.dst, vi m.scale, vi m.reading, .bool m.all]
def Cert.cells (c : Cert) : List Value := [vi c.scale, vi c.since, vi c.till, vi c.grams, vi c.permille, vi c.drift]
def Recall.cells (r : Recall) : List Value := [vi r.scale, vi r.since]
def Purity.cells (p : Purity) : List Value := [vi p.move, vi p.mat, vi p.least, vi p.most]

/-- The slice value of address A and length n reads as the list xs, whose elements have k cells each (f). -/
def Rd {α : Type} (k : Nat) (f : α → List Value) (w : World) (A : Option Addr) (n : Nat) (xs : List α) : Prop :=
  n = xs.length ∧ (0 < n → ∃ b off, A = some ⟨b, off, none⟩ ∧ ∀ i x, xs[i]? = some x → ∀ j u, (f x)[j]? = some u → w.cell? ⟨b, off + (i * k + j), none⟩ = some u)

theorem lt_of_cell {w : World} {b o : Nat} {u : Value} (h : w.cell? ⟨b, o, none⟩ = some u) : b < w.heap.size := World.block_lt_of_cell? w _ h

section
variable {α : Type} {k : Nat} {f : α → List Value} {w w' : World} {A : Option Addr} {n : Nat} {xs : List α}
theorem Rd.nil (A : Option Addr) : Rd k f w A 0 ([] : List α) := ⟨rfl, fun h => absurd h (by omega)⟩
theorem Rd.len (h : Rd k f w A n xs) : n = xs.length := h.1
theorem Rd.keep (h : Rd k f w A n xs) (hb : Below w.heap.size w w') : Rd k f w' A n xs :=
  ⟨h.1, fun hn => by
    obtain ⟨b, off, e, hc⟩ := h.2 hn
    refine ⟨b, off, e, fun i x hx j u hu => ?_⟩
    have hcc := hc i x hx j u hu
    exact (hb.cell (p := ⟨b, _, none⟩) (lt_of_cell hcc)).trans hcc⟩
/-- the cells of element i, behind the world's growth -/
theorem Rd.at_ (h : Rd k f w A xs.length xs) (hf : ∀ x, ∃ u, (f x)[0]? = some u) {i : Nat} (hi : i < xs.length) (hb : Below w.heap.size w w') :
    ∃ b off x, A = some ⟨b, off, none⟩ ∧ b < w.heap.size ∧ xs[i]? = some x ∧ ∀ j u, (f x)[j]? = some u → w'.cell? ⟨b, off + (i * k + j), none⟩ = some u := by
  obtain ⟨b, off, e, hc0⟩ := h.2 (by omega)
  obtain ⟨u0, hu0⟩ := hf xs[i]
  have hl : b < w.heap.size := lt_of_cell (hc0 i _ (List.getElem?_eq_getElem hi) 0 u0 hu0)
  obtain ⟨b', off', e', hc⟩ := (h.keep hb).2 (by omega)
  obtain ⟨rfl, rfl⟩ : b' = b ∧ off' = off := by
    rw [e] at e'
    simp at e'
    omega
  exact ⟨b', off', xs[i], e, hl, List.getElem?_eq_getElem hi, hc i _ (List.getElem?_eq_getElem hi)⟩
end

theorem Rd.place {w w' : World} {A : Option Addr} {xs : List Place} (h : Rd 3 Place.cells w A xs.length xs) {i : Nat} (hi : i < xs.length) (hb : Below w.heap.size w w') :
    ∃ b off x, A = some ⟨b, off, none⟩ ∧ b < w.heap.size ∧ xs[i]? = some x ∧ w'.cell? ⟨b, off + i * 3, none⟩ = some (vi x.kind) ∧ w'.cell? ⟨b, off + i * 3 + 1, none⟩ = some (vi x.hh) ∧ w'.cell? ⟨b, off + i * 3 + 2, none⟩ = some (vi x.mat) := by
  obtain ⟨b, off, x, e, hl, hx, hc⟩ := h.at_ (fun _ => ⟨_, rfl⟩) hi hb
  exact ⟨b, off, x, e, hl, hx, hc 0 _ rfl, hc 1 _ rfl, hc 2 _ rfl⟩
theorem Rd.move {w w' : World} {A : Option Addr} {xs : List Move} (h : Rd 6 Move.cells w A xs.length xs) {i : Nat} (hi : i < xs.length) (hb : Below w.heap.size w w') :
    ∃ b off x, A = some ⟨b, off, none⟩ ∧ b < w.heap.size ∧ xs[i]? = some x ∧ w'.cell? ⟨b, off + i * 6, none⟩ = some (vi x.day) ∧ w'.cell? ⟨b, off + i * 6 + 1, none⟩ = some (vi x.src) ∧ w'.cell? ⟨b, off + i * 6 + 2, none⟩ = some (vi x.dst) ∧
      w'.cell? ⟨b, off + i * 6 + 3, none⟩ = some (vi x.scale) ∧ w'.cell? ⟨b, off + i * 6 + 4, none⟩ = some (vi x.reading) ∧ w'.cell? ⟨b, off + i * 6 + 5, none⟩ = some (.bool x.all) := by
  obtain ⟨b, off, x, e, hl, hx, hc⟩ := h.at_ (fun _ => ⟨_, rfl⟩) hi hb
  exact ⟨b, off, x, e, hl, hx, hc 0 _ rfl, hc 1 _ rfl, hc 2 _ rfl, hc 3 _ rfl, hc 4 _ rfl, hc 5 _ rfl⟩
theorem Rd.cert {w w' : World} {A : Option Addr} {xs : List Cert} (h : Rd 6 Cert.cells w A xs.length xs) {i : Nat} (hi : i < xs.length) (hb : Below w.heap.size w w') :
    ∃ b off x, A = some ⟨b, off, none⟩ ∧ b < w.heap.size ∧ xs[i]? = some x ∧ w'.cell? ⟨b, off + i * 6, none⟩ = some (vi x.scale) ∧ w'.cell? ⟨b, off + i * 6 + 1, none⟩ = some (vi x.since) ∧ w'.cell? ⟨b, off + i * 6 + 2, none⟩ = some (vi x.till) ∧
      w'.cell? ⟨b, off + i * 6 + 3, none⟩ = some (vi x.grams) ∧ w'.cell? ⟨b, off + i * 6 + 4, none⟩ = some (vi x.permille) ∧ w'.cell? ⟨b, off + i * 6 + 5, none⟩ = some (vi x.drift) := by
  obtain ⟨b, off, x, e, hl, hx, hc⟩ := h.at_ (fun _ => ⟨_, rfl⟩) hi hb
  exact ⟨b, off, x, e, hl, hx, hc 0 _ rfl, hc 1 _ rfl, hc 2 _ rfl, hc 3 _ rfl, hc 4 _ rfl, hc 5 _ rfl⟩
theorem Rd.recall {w w' : World} {A : Option Addr} {xs : List Recall} (h : Rd 2 Recall.cells w A xs.length xs) {i : Nat} (hi : i < xs.length) (hb : Below w.heap.size w w') :
    ∃ b off x, A = some ⟨b, off, none⟩ ∧ b < w.heap.size ∧ xs[i]? = some x ∧ w'.cell? ⟨b, off + i * 2, none⟩ = some (vi x.scale) ∧ w'.cell? ⟨b, off + i * 2 + 1, none⟩ = some (vi x.since) := by
  obtain ⟨b, off, x, e, hl, hx, hc⟩ := h.at_ (fun _ => ⟨_, rfl⟩) hi hb
  exact ⟨b, off, x, e, hl, hx, hc 0 _ rfl, hc 1 _ rfl⟩
theorem Rd.purity {w w' : World} {A : Option Addr} {xs : List Purity} (h : Rd 4 Purity.cells w A xs.length xs) {i : Nat} (hi : i < xs.length) (hb : Below w.heap.size w w') :
    ∃ b off x, A = some ⟨b, off, none⟩ ∧ b < w.heap.size ∧ xs[i]? = some x ∧ w'.cell? ⟨b, off + i * 4, none⟩ = some (vi x.move) ∧ w'.cell? ⟨b, off + i * 4 + 1, none⟩ = some (vi x.mat) ∧ w'.cell? ⟨b, off + i * 4 + 2, none⟩ = some (vi x.least) ∧ w'.cell? ⟨b, off + i * 4 + 3, none⟩ = some (vi x.most) := by
  obtain ⟨b, off, x, e, hl, hx, hc⟩ := h.at_ (fun _ => ⟨_, rfl⟩) hi hb
  exact ⟨b, off, x, e, hl, hx, hc 0 _ rfl, hc 1 _ rfl, hc 2 _ rfl, hc 3 _ rfl⟩
/-- ints: one cell each -/
abbrev Ri (w : World) (A : Option Addr) (n : Nat) (xs : List Int) : Prop := Rd 1 (fun x : Int => [vi x]) w A n xs
theorem Rd.int {w w' : World} {A : Option Addr} {xs : List Int} (h : Ri w A xs.length xs) {i : Nat} (hi : i < xs.length) (hb : Below w.heap.size w w') :
    ∃ b off, ∃ x : Int, A = some ⟨b, off, none⟩ ∧ b < w.heap.size ∧ xs[i]? = some x ∧ w'.cell? ⟨b, off + i, none⟩ = some (vi x) := by
  obtain ⟨b, off, x, e, hl, hx, hc⟩ := h.at_ (fun _ => ⟨_, rfl⟩) hi hb
  exact ⟨b, off, x, e, hl, hx, by have := hc 0 _ rfl; simpa using this⟩
abbrev Rb (w : World) (A : Option Addr) (n : Nat) (xs : List Bool) : Prop := Rd 1 (fun x : Bool => [.bool x]) w A n xs
theorem Rd.bool {w w' : World} {A : Option Addr} {xs : List Bool} (h : Rb w A xs.length xs) {i : Nat} (hi : i < xs.length) (hb : Below w.heap.size w w') :
    ∃ b off, ∃ x : Bool, A = some ⟨b, off, none⟩ ∧ b < w.heap.size ∧ xs[i]? = some x ∧ w'.cell? ⟨b, off + i, none⟩ = some (.bool x) := by
  obtain ⟨b, off, x, e, hl, hx, hc⟩ := h.at_ (fun _ => ⟨_, rfl⟩) hi hb
  exact ⟨b, off, x, e, hl, hx, by have := hc 0 _ rfl; simpa using this⟩

/-- The parts of a value of evidence read as e. -/
structure EvR (w : World) (m h s : Int) (A1 : Option Addr) (n1 : Nat) (A2 : Option Addr) (n2 : Nat) (A3 : Option Addr) (n3 : Nat) (A4 : Option Addr) (n4 : Nat) (A5 : Option Addr) (n5 : Nat) (e : Ev) : Prop where
  em : m = e.mats
  eh : h = e.hhs
  es : s = e.scs
  r1 : Rd 3 Place.cells w A1 n1 e.places
  r2 : Rd 6 Move.cells w A2 n2 e.moves
  r3 : Rd 6 Cert.cells w A3 n3 e.certs
  r4 : Rd 2 Recall.cells w A4 n4 e.recalls
  r5 : Rd 4 Purity.cells w A5 n5 e.purities
section
variable {w w' : World} {m h s : Int} {A1 A2 A3 A4 A5 : Option Addr} {n1 n2 n3 n4 n5 : Nat} {e : Ev}
theorem EvR.keep (hr : EvR w m h s A1 n1 A2 n2 A3 n3 A4 n4 A5 n5 e) (hb : Below w.heap.size w w') : EvR w' m h s A1 n1 A2 n2 A3 n3 A4 n4 A5 n5 e :=
  ⟨hr.em, hr.eh, hr.es, hr.r1.keep hb, hr.r2.keep hb, hr.r3.keep hb, hr.r4.keep hb, hr.r5.keep hb⟩
end

/-- A box that the call laid first: its cells, and what lay before. -/
theorem below_box {w wr : World} {cs : Array Value} {t : TypeId} (hb : Below (w.heap.size + 1) (w.alloc (.cells cs t)) wr) (i : Nat) : wr.cell? ⟨w.heap.size, i, none⟩ = cs[i]? := by
  rw [hb.cell (p := ⟨w.heap.size, i, none⟩) (Nat.lt_succ_self _), cell_of_row _ _ i cs t (0, 0) (heap_alloc_new w _)]
theorem below_old {w wr : World} {o : Obj} (hb : Below (w.heap.size + 1) (w.alloc o) wr) : Below w.heap.size w wr :=
  ((Below.refl _ _).alloc (Nat.le_refl _) o).trans (hb.mono (Nat.le_succ _))
theorem below_old_lt {w wr : World} {o : Obj} (hb : Below (w.heap.size + 1) (w.alloc o) wr) : w.heap.size < wr.heap.size := by
  have := hb.size
  simp at this
  omega
theorem size_a (w : World) (o : Obj) : (w.alloc o).heap.size = w.heap.size + 1 := by simp
theorem heap_a2 (w : World) (o o2 : Obj) : ((w.alloc o).alloc o2).heap[w.heap.size + 1]? = some o2 := by
  have := heap_alloc_new (w.alloc o) o2
  rwa [size_a] at this
theorem below_a1 (w : World) (o : Obj) : Below w.heap.size w (w.alloc o) := (Below.refl _ _).alloc (Nat.le_refl _) o
theorem below_a2 (w : World) (o o2 : Obj) : Below w.heap.size w ((w.alloc o).alloc o2) := (below_a1 w o).alloc (by simp) o2
theorem below_a3 (w : World) (o o2 o3 : Obj) : Below w.heap.size w (((w.alloc o).alloc o2).alloc o3) := (below_a2 w o o2).alloc (by simp; omega) o3
/-- a later box, in a world written out -/
theorem below_cells {W wr : World} {B g : Nat} {cs : Array Value} {t : TypeId} {fr : Nat × Nat} (hb : Below B W wr) (hg : g < B) (h : W.heap[g]? = some (.cells cs t fr)) (i : Nat) : wr.cell? ⟨g, i, none⟩ = cs[i]? := by
  rw [hb.cell (p := ⟨g, i, none⟩) hg, cell_of_row _ _ i cs t fr h]
theorem box_start (w : World) (o : Obj) : Below (w.heap.size + 1) (w.alloc o) (w.alloc o) := Below.refl _ _

theorem own_below {w w' : World} {base : Nat} {e : TypeId} {size : Nat} {v : Value} {n : Nat} {xs : List Value} (h : w.ownsRow base e size v n xs) (hb : Below w.heap.size w w') : w'.ownsRow base e size v n xs := by
  refine ⟨h.1, ?_⟩
  rcases h.2 with hn | ⟨g, cap, cur, rfl, hb0, hgg, rest⟩
  · exact .inl hn
  · exact .inr ⟨g, cap, cur, rfl, hb0, (hb.block g (Array.getElem?_eq_some_iff.1 hgg).1).trans hgg, rest⟩
theorem length_flat {α : Type} {k : Nat} {f : α → List Value} (hk : ∀ x, (f x).length = k) (xs : List α) : (xs.flatMap f).length = xs.length * k := by
  induction xs with
  | nil => simp
  | cons x r ih => simp [ih, hk, Nat.succ_mul]; omega
theorem flat_at {α : Type} {k : Nat} {f : α → List Value} (hk : ∀ x, (f x).length = k) (xs : List α) : ∀ (i : Nat) (x : α), xs[i]? = some x → ∀ (j : Nat) (u : Value), (f x)[j]? = some u → (xs.flatMap f)[i * k + j]? = some u := by
  induction xs with
  | nil => intro i x h; simp at h
  | cons y r ih =>
    intro i x h j u hu
    rw [List.flatMap_cons]
    cases i with
    | zero =>
      simp at h
      subst h
      have hj : j < (f y).length := (List.getElem?_eq_some_iff.1 hu).1
      rw [List.getElem?_append_left (by simpa using hj)]
      simpa using hu
    | succ i =>
      simp at h
      have := ih i x h j u hu
      rw [List.getElem?_append_right (by rw [hk, Nat.succ_mul]; omega), hk, show (i + 1) * k + j - k = i * k + j from by rw [Nat.succ_mul]; omega]
      exact this
/-- what the call owns, it can read -/
theorem Rd.of_own {α : Type} {k : Nat} {f : α → List Value} {w : World} {base : Nat} {t : TypeId} {v : Value} {n : Nat} {xs : List α} (hk : ∀ x, (f x).length = k) (hn : n = xs.length) (h : w.ownsRow base t k v n (xs.flatMap f)) :
    ∃ A c, v = .slice A n c ∧ Rd k f w A n xs := by
  rcases h.2 with ⟨rfl, rfl⟩ | ⟨g, cap, cur, rfl, hb0, hgg, hnc, _, hsz, htake⟩
  · exact ⟨none, 0, rfl, hn, fun h0 => absurd h0 (by omega)⟩
  · refine ⟨_, _, rfl, hn, fun _ => ⟨g, 0, rfl, fun i x hx j u hu => ?_⟩⟩
    have hf := flat_at hk xs i x hx j u hu
    have := h.cells (g := g) rfl _ u hf
    rw [show (⟨g, 0, none⟩ : Addr).add (i * k + j) = ⟨g, 0 + (i * k + j), none⟩ from by unfold Addr.add; split <;> simp_all] at this
    exact this
def Ints (xs : List Int) : List Value := xs.flatMap (fun x : Int => [vi x])
theorem Ints_snoc (xs : List Int) (n : Int) : Ints (xs ++ [n]) = Ints xs ++ [vi n] := by simp [Ints]
theorem Ints_length (xs : List Int) : (Ints xs).length = xs.length := by have := length_flat (f := fun x : Int => [vi x]) (k := 1) (fun _ => rfl) xs; unfold Ints; omega
/-- the call returns a slice that reads as these numbers; old memory is as it was -/
def RetInts (w : World) (xs : List Int) (r : Ending) (w' : World) : Prop := ∃ A n c, r = .returned (.slice A n c) ∧ Ri w' A n xs ∧ (∀ ad, A = some ad → w.heap.size ≤ ad.block) ∧ Below w.heap.size w w'
theorem RetInts.of_own {w w' : World} {base : Nat} {t : TypeId} {v : Value} {n : Nat} {xs : List Int} (hn : n = xs.length) (h : w'.ownsRow base t 1 v n (Ints xs)) (hb : Below w.heap.size w w') (hB : w.heap.size ≤ base) : RetInts w xs (.returned v) w' := by
  obtain ⟨A, c, rfl, hr⟩ := Rd.of_own (f := fun x : Int => [vi x]) (fun _ => rfl) hn h
  exact ⟨A, n, c, rfl, hr, (fun ad e => by subst e; exact Nat.le_trans hB (h.lt ad.block rfl).1), hb⟩
theorem RetInts.nil {w w' : World} {c : Nat} (hb : Below w.heap.size w w') : RetInts w [] (.returned (.slice none 0 c)) w' := ⟨none, 0, c, rfl, Rd.nil none, (fun _ e => by cases e), hb⟩
theorem RetInts.mono {w w1 w' : World} {xs : List Int} {r : Ending} (h : RetInts w1 xs r w') (hb : Below w.heap.size w w1) : RetInts w xs r w' := by
  obtain ⟨A, n, c, e, hr, hf, hb1⟩ := h
  exact ⟨A, n, c, e, hr, fun ad ha => Nat.le_trans hb.size (hf ad ha), hb.trans (hb1.mono hb.size)⟩

theorem all_snoc_false {α : Type} {xs : List α} {p : α → Bool} {k : Nat} {x : α} (hx : xs[k]? = some x) (h : p x = false) : xs.all p = false := by
  rw [List.all_eq_false]
  exact ⟨x, List.mem_of_getElem? hx, by simp [h]⟩
theorem all_of_lt {α : Type} {xs : List α} {p : α → Bool} (h : ∀ j x, j < xs.length → xs[j]? = some x → p x = true) : xs.all p = true := by
  rw [List.all_eq_true]
  intro x hx
  obtain ⟨j, hj, e⟩ := List.getElem_of_mem hx
  exact h j x hj (by rw [List.getElem?_eq_getElem hj, e])
/-- what held before k, and at k, holds before k + 1 -/
def Upto {α : Type} (xs : List α) (p : α → Bool) (k : Nat) : Prop := ∀ j x, j < k → xs[j]? = some x → p x = true
theorem Upto.zero {α : Type} (xs : List α) (p : α → Bool) : Upto xs p 0 := fun _ _ h => absurd h (by omega)
theorem Upto.next {α : Type} {xs : List α} {p : α → Bool} {k : Nat} {x : α} (h : Upto xs p k) (hx : xs[k]? = some x) (hp : p x = true) : Upto xs p (k + 1) := by
  intro j y hj hy
  by_cases e : j = k
  · subst e
    rw [hx] at hy
    injection hy with hy
    exact hy ▸ hp
  · exact h j y (by omega) hy
theorem Upto.all {α : Type} {xs : List α} {p : α → Bool} {k : Nat} (h : Upto xs p k) (hk : xs.length ≤ k) : xs.all p = true :=
  all_of_lt fun j x hj hx => h j x (by omega) hx
theorem ret_bool {a b : Bool} (h : a = b) : Ending.returned (.bool a) = .returned (.bool b) := by rw [h]
theorem ret_int {a b : Int} (h : a = b) : Ending.returned (.int .i64 a) = .returned (.int .i64 b) := by rw [h]

end Go.Proofs.Ythjgbjakpbfnoaa
