/- More on picked numbers, in plain Lean. -/
import Derived.Test.YthjgbjakpbfnoaaSized
namespace Go.Proofs.Ythjgbjakpbfnoaa

theorem pickFrom_none {α : Type} (p : Nat → α → Bool) (l : List α) : ∀ k, (∀ j m, k ≤ j → p j m = false) → pickFrom p k l = [] := by
  induction l with
  | nil => intro k _; rfl
  | cons m r ih =>
    intro k h
    simp only [pickFrom, h k m (Nat.le_refl _)]
    exact ih (k + 1) (fun j m' hj => h j m' (by omega))
theorem pickTo_rest {α : Type} (p : Nat → α → Bool) (l : List α) {k : Nat} (h : ∀ j m, k ≤ j → p j m = false) : pickTo p l k = pickFrom p 0 l := by
  by_cases hk : k ≤ l.length
  · unfold pickTo
    conv => rhs; rw [← List.take_append_drop k l, pickFrom_append]
    have hl : (l.take k).length = k := by simp; omega
    rw [hl, pickFrom_none p (l.drop k) (0 + k) (by simpa using h)]
    simp
  · exact pickTo_all p (by omega)
/-- equal so far -/
def SameTo (xs ys : List Int) (k : Nat) : Prop := xs.take k = ys.take k
theorem SameTo.zero (xs ys : List Int) : SameTo xs ys 0 := by simp [SameTo]
theorem SameTo.next {xs ys : List Int} {k : Nat} {x : Int} (h : SameTo xs ys k) (hx : xs[k]? = some x) (hy : ys[k]? = some x) : SameTo xs ys (k + 1) := by
  unfold SameTo at *
  rw [List.take_add_one, List.take_add_one, h, hx, hy]
theorem SameTo.all {xs ys : List Int} {k : Nat} (h : SameTo xs ys k) (h1 : xs.length ≤ k) (h2 : ys.length ≤ k) : xs = ys := by
  unfold SameTo at h
  rwa [List.take_of_length_le h1, List.take_of_length_le h2] at h
theorem liftIs_of {e : Ev} {m : Move} {i : Nat} {p : Place} (hp : e.places[i]? = some p) (hs : m.src = (i : Int)) (hh mat lo hi : Int) :
    liftIs e hh mat lo hi m = (decide (p.kind = 0) && decide (p.hh = hh) && (decide (mat = -1) || decide (p.mat = mat)) && btw m.day lo hi) := by
  unfold liftIs
  rw [hs, Int.toNat_natCast, hp]

end Go.Proofs.Ythjgbjakpbfnoaa
