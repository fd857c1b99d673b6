/- Chapter 14 in plain Lean: what flow.Check and its kin compute. No program in sight. -/
import Derived.Test.YthjgbjakpbfnoaaBase
namespace Go.Proofs.Ythjgbjakpbfnoaa

def idx (a b : Int) : Bool := decide (0 ≤ a) && decide (a < b)
def btw (n lo hi : Int) : Bool := decide (lo ≤ n) && decide (n ≤ hi)
theorem btw_idx (a b : Int) : btw a 0 (b - 1) = idx a b := by
  unfold btw idx
  have : decide (a ≤ b - 1) = decide (a < b) := by simp; omega
  rw [this]
theorem idx_iff {a b : Int} : idx a b = true ↔ 0 ≤ a ∧ a < b := by simp [idx]
theorem idx_false {a b : Int} : idx a b = false ↔ a < 0 ∨ b ≤ a := by
  rw [← Bool.not_eq_true, idx_iff]; omega
theorem btw_iff {a b c : Int} : btw a b c = true ↔ b ≤ a ∧ a ≤ c := by simp [btw]
theorem btw_false {a b c : Int} : btw a b c = false ↔ a < b ∨ c < a := by
  rw [← Bool.not_eq_true, btw_iff]; omega

def fullB (e : Ev) : Bool :=
  decide (6 < e.mats) || decide (100 < e.hhs) || decide (30 < e.scs) || decide (100 < e.places.length) || decide (200 < e.moves.length) ||
    decide (100 < e.certs.length) || decide (30 < e.recalls.length) || decide (200 < e.purities.length)
def placeOk (e : Ev) (p : Place) : Bool :=
  idx p.kind 7 && (if p.kind = 0 then idx p.hh e.hhs && idx p.mat e.mats else decide (p.hh = -1) && decide (p.mat = -1))
/-- the kind of a place (of none: -1) -/
def kindAt (e : Ev) (i : Int) : Int := ((e.places[i.toNat]?).map (·.kind)).getD (-1)
def moveOk (e : Ev) (m : Move) : Bool :=
  idx m.src e.places.length && idx m.dst e.places.length && decide (m.src ≠ m.dst) && decide (kindAt e m.src ≠ 5) && decide (kindAt e m.src ≠ 6) &&
    !(decide (kindAt e m.src = 0) && m.all) && decide (kindAt e m.dst ≠ 0) && (if m.scale = -1 then decide (m.reading = 0) else idx m.scale e.scs && btw m.reading 0 1099511627776)
def certOk (e : Ev) (c : Cert) : Bool :=
  decide (0 ≤ c.since) && decide (c.since ≤ c.till) && decide (c.till ≤ 100000) && idx c.scale e.scs && btw c.grams 0 1099511627776 && btw c.permille 0 1000 && btw c.drift 0 10000000
def recallOk (e : Ev) (r : Recall) : Bool := idx r.scale e.scs && btw r.since 0 100000
def purityOk (e : Ev) (p : Purity) : Bool :=
  idx p.move e.moves.length && idx p.mat e.mats && decide (0 ≤ p.least) && decide (p.least ≤ p.most) && decide (p.most ≤ 1000)
def saidOk (e : Ev) : Bool := e.certs.all (certOk e) && e.recalls.all (recallOk e) && e.purities.all (purityOk e)
/-- the error of the moves, the day of the one before being 'last' -/
def movesErr (e : Ev) : Int → List Move → Int
  | _, [] => 0
  | last, m :: r => if m.day < last ∨ 100000 < m.day then 17 else if moveOk e m then movesErr e m.day r else 1
def check (e : Ev) : Int :=
  if fullB e then 6 else if e.mats < 1 ∨ e.hhs < 0 ∨ e.scs < 0 ∨ e.places.all (placeOk e) = false then 1
  else if movesErr e 0 e.moves ≠ 0 then movesErr e 0 e.moves else if saidOk e then 0 else 1

theorem kindAt_of {e : Ev} {i : Nat} {p : Place} (h : e.places[i]? = some p) : kindAt e (i : Int) = p.kind := by
  simp [kindAt, h]
theorem movesErr_vals (e : Ev) (l : List Move) : ∀ last, movesErr e last l = 0 ∨ movesErr e last l = 1 ∨ movesErr e last l = 17 := by
  induction l with
  | nil => intro last; simp [movesErr]
  | cons m r ih =>
    intro last
    unfold movesErr
    split
    · simp
    · split
      · exact ih _
      · simp

theorem movesErr_zero {e : Ev} {l : List Move} : ∀ {last : Int}, movesErr e last l = 0 → ∀ m ∈ l, moveOk e m = true := by
  induction l with
  | nil => intro last _ m hm; cases hm
  | cons m r ih =>
    intro last h x hx
    unfold movesErr at h
    split at h
    · simp at h
    · split at h
      · rename_i hmk
        rcases List.mem_cons.1 hx with rfl | hx
        · exact hmk
        · exact ih h x hx
      · simp at h
theorem check_zero {e : Ev} (h : check e = 0) : fullB e = false ∧ 1 ≤ e.mats ∧ 0 ≤ e.hhs ∧ 0 ≤ e.scs ∧ e.places.all (placeOk e) = true ∧ movesErr e 0 e.moves = 0 ∧ saidOk e = true := by
  unfold check at h
  by_cases h1 : fullB e = true
  · rw [if_pos h1] at h; simp at h
  rw [if_neg h1] at h
  by_cases h2 : e.mats < 1 ∨ e.hhs < 0 ∨ e.scs < 0 ∨ e.places.all (placeOk e) = false
  · rw [if_pos h2] at h; simp at h
  rw [if_neg h2] at h
  by_cases h3 : movesErr e 0 e.moves ≠ 0
  · rw [if_pos h3] at h; exact absurd h h3
  rw [if_neg h3] at h
  by_cases h4 : saidOk e = true
  · refine ⟨by simpa using h1, by omega, by omega, by omega, ?_, by simpa using h3, h4⟩
    rw [← Bool.not_eq_false]
    exact fun hq => h2 (.inr (.inr (.inr hq)))
  · rw [if_neg h4] at h; simp at h
theorem check_move {e : Ev} (h : check e = 0) {m : Move} (hm : m ∈ e.moves) : moveOk e m = true := movesErr_zero (check_zero h).2.2.2.2.2.1 m hm
theorem moveOk_src {e : Ev} {m : Move} (h : moveOk e m = true) : 0 ≤ m.src ∧ m.src < e.places.length := by
  simp [moveOk] at h
  exact idx_iff.1 h.1.1.1.1.1.1.1
theorem moveOk_dst {e : Ev} {m : Move} (h : moveOk e m = true) : 0 ≤ m.dst ∧ m.dst < e.places.length := by
  simp [moveOk] at h
  exact idx_iff.1 h.1.1.1.1.1.1.2

/-- the numbers (from k on) of those elements of a list that are of some sort -/
def pickFrom {α : Type} (p : Nat → α → Bool) : Nat → List α → List Int
  | _, [] => []
  | k, m :: r => if p k m then (k : Int) :: pickFrom p (k + 1) r else pickFrom p (k + 1) r
/-- of the first k elements -/
def pickTo {α : Type} (p : Nat → α → Bool) (l : List α) (k : Nat) : List Int := pickFrom p 0 (l.take k)
theorem pickFrom_append {α : Type} (p : Nat → α → Bool) (a b : List α) : ∀ k, pickFrom p k (a ++ b) = pickFrom p k a ++ pickFrom p (k + a.length) b := by
  induction a with
  | nil => intro k; simp [pickFrom]
  | cons m r ih =>
    intro k
    simp only [List.cons_append, pickFrom, ih, List.length_cons]
    rw [show k + 1 + r.length = k + (r.length + 1) from by omega]
    split <;> simp
theorem pickTo_zero {α : Type} (p : Nat → α → Bool) (l : List α) : pickTo p l 0 = [] := by simp [pickTo, pickFrom]
theorem pickTo_succ {α : Type} (p : Nat → α → Bool) {l : List α} {k : Nat} {x : α} (h : l[k]? = some x) : pickTo p l (k + 1) = pickTo p l k ++ (if p k x then [(k : Int)] else []) := by
  obtain ⟨hk, hx⟩ := List.getElem?_eq_some_iff.1 h
  unfold pickTo
  rw [List.take_succ_eq_append_getElem hk, pickFrom_append, hx]
  have : (l.take k).length = k := by simp; omega
  rw [this]
  simp only [pickFrom, Nat.zero_add]
theorem pickTo_yes {α : Type} (p : Nat → α → Bool) {l : List α} {k : Nat} {x : α} (h : l[k]? = some x) (hp : p k x = true) : pickTo p l (k + 1) = pickTo p l k ++ [(k : Int)] := by
  rw [pickTo_succ p h, if_pos hp]
theorem pickTo_no {α : Type} (p : Nat → α → Bool) {l : List α} {k : Nat} {x : α} (h : l[k]? = some x) (hp : p k x = false) : pickTo p l (k + 1) = pickTo p l k := by
  rw [pickTo_succ p h, if_neg (by simp [hp])]; simp
theorem pickTo_all {α : Type} (p : Nat → α → Bool) {l : List α} {k : Nat} (h : l.length ≤ k) : pickTo p l k = pickFrom p 0 l := by
  unfold pickTo; rw [List.take_of_length_le h]
theorem pickFrom_congr {α : Type} {p q : Nat → α → Bool} (l : List α) (N : Nat) (h : ∀ k m, k < N → p k m = q k m) : ∀ k, k + l.length ≤ N → pickFrom p k l = pickFrom q k l := by
  induction l with
  | nil => intro k _; rfl
  | cons m r ih =>
    intro k hk
    simp only [List.length_cons] at hk
    simp only [pickFrom, h k m (by omega), ih (k + 1) (by omega)]
theorem length_pickFrom {α : Type} (p : Nat → α → Bool) (l : List α) : ∀ k, (pickFrom p k l).length ≤ l.length := by
  induction l with
  | nil => intro k; simp [pickFrom]
  | cons m r ih =>
    intro k
    have := ih (k + 1)
    simp only [pickFrom]
    split <;> simp <;> omega
theorem length_pickTo {α : Type} (p : Nat → α → Bool) (l : List α) (k : Nat) : (pickTo p l k).length ≤ k := by
  have := length_pickFrom p (l.take k) 0
  have h2 : (l.take k).length ≤ k := List.length_take_le _ _
  unfold pickTo
  omega

def source (e : Ev) (place : Int) : Bool := decide (check e = 0) && idx place e.places.length && decide (kindAt e place = 0)
def liftIs (e : Ev) (hh mat lo hi : Int) (m : Move) : Bool :=
  match e.places[m.src.toNat]? with
  | some p => decide (p.kind = 0) && decide (p.hh = hh) && (decide (mat = -1) || decide (p.mat = mat)) && btw m.day lo hi
  | none => false
def lifts (e : Ev) (hh mat lo hi : Int) : List Int := if check e = 0 then pickFrom (fun _ m => liftIs e hh mat lo hi m) 0 e.moves else []
def into (e : Ev) (place upto : Int) : List Int := if check e = 0 then pickFrom (fun k m => decide ((k : Int) < upto) && decide (m.dst = place)) 0 e.moves else []
def outOf (e : Ev) (place upto : Int) : List Int := if check e = 0 then pickFrom (fun k m => decide ((k : Int) < upto) && decide (m.src = place)) 0 e.moves else []
def few (e : Ev) : Bool := decide (e.places.length ≤ 110) && decide (e.moves.length ≤ 210) && decide (e.certs.length ≤ 110) && decide (e.recalls.length ≤ 40) && decide (e.purities.length ≤ 210)

end Go.Proofs.Ythjgbjakpbfnoaa
