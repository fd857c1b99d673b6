/- Picked numbers ascend; which ones they are. Plain Lean. -/
import Derived.Test.YthjgbjakpbfnoaaPlain14b
namespace Go.Proofs.Ythjgbjakpbfnoaa

theorem mem_pickFrom {α : Type} {p : Nat → α → Bool} {l : List α} : ∀ {k : Nat} {x : Int}, x ∈ pickFrom p k l ↔ ∃ i m, l[i]? = some m ∧ p (k + i) m = true ∧ x = ((k + i : Nat) : Int) := by
  induction l with
  | nil => intro k x; simp [pickFrom]
  | cons a r ih =>
    intro k x
    have step : x ∈ pickFrom p (k + 1) r ↔ ∃ i m, (a :: r)[i + 1]? = some m ∧ p (k + (i + 1)) m = true ∧ x = ((k + (i + 1) : Nat) : Int) := by
      rw [ih]
      constructor
      · rintro ⟨i, m, h1, h2, h3⟩
        exact ⟨i, m, by simpa using h1, by rw [show k + (i + 1) = k + 1 + i from by omega]; exact h2, by rw [h3]; omega⟩
      · rintro ⟨i, m, h1, h2, h3⟩
        exact ⟨i, m, by simpa using h1, by rw [show k + 1 + i = k + (i + 1) from by omega]; exact h2, by rw [h3]; omega⟩
    unfold pickFrom
    by_cases hp : p k a = true
    · rw [if_pos hp, List.mem_cons, step]
      constructor
      · rintro (rfl | ⟨i, m, h⟩)
        · exact ⟨0, a, rfl, hp, rfl⟩
        · exact ⟨i + 1, m, h⟩
      · rintro ⟨i, m, h1, h2, h3⟩
        cases i with
        | zero => left; simpa using h3
        | succ i => right; exact ⟨i, m, h1, h2, h3⟩
    · rw [if_neg hp, step]
      constructor
      · rintro ⟨i, m, h⟩
        exact ⟨i + 1, m, h⟩
      · rintro ⟨i, m, h1, h2, h3⟩
        cases i with
        | zero => simp at h1; subst h1; exact absurd h2 hp
        | succ i => exact ⟨i, m, h1, h2, h3⟩
theorem pickFrom_sorted {α : Type} (p : Nat → α → Bool) (l : List α) : ∀ k, (pickFrom p k l).Pairwise (· < ·) := by
  induction l with
  | nil => intro k; simp [pickFrom]
  | cons a r ih =>
    intro k
    unfold pickFrom
    split
    · rw [List.pairwise_cons]
      refine ⟨fun x hx => ?_, ih (k + 1)⟩
      obtain ⟨i, m, _, _, rfl⟩ := mem_pickFrom.1 hx
      omega
    · exact ih (k + 1)
/-- strictly ascending, from 0 to n - 1 -/
def Asc (l : List Int) (n : Int) : Prop := (∀ (i : Nat) (x : Int), l[i]? = some x → 0 ≤ x ∧ x < n) ∧ ∀ (i : Nat) (x y : Int), l[i]? = some x → l[i + 1]? = some y → x < y
theorem Asc.of_sorted {l : List Int} {n : Int} (h1 : l.Pairwise (· < ·)) (h2 : ∀ x ∈ l, 0 ≤ x ∧ x < n) : Asc l n := by
  refine ⟨fun i x hx => h2 x (List.mem_of_getElem? hx), fun i x y hx hy => ?_⟩
  obtain ⟨hi, rfl⟩ := List.getElem?_eq_some_iff.1 hx
  obtain ⟨hj, rfl⟩ := List.getElem?_eq_some_iff.1 hy
  exact List.pairwise_iff_getElem.1 h1 i (i + 1) hi hj (by omega)
theorem pickFrom_asc {α : Type} (p : Nat → α → Bool) (l : List α) : Asc (pickFrom p 0 l) l.length := by
  refine Asc.of_sorted (pickFrom_sorted p l 0) (fun x hx => ?_)
  obtain ⟨i, m, hm, _, rfl⟩ := mem_pickFrom.1 hx
  have := (List.getElem?_eq_some_iff.1 hm).1
  omega
theorem asc_nil (n : Int) : Asc [] n := ⟨fun i x h => by simp at h, fun i x y h => by simp at h⟩
theorem into_asc (e : Ev) (pl up : Int) : Asc (into e pl up) e.moves.length := by
  unfold into; split
  · exact pickFrom_asc _ _
  · exact asc_nil _
theorem outOf_asc (e : Ev) (pl up : Int) : Asc (outOf e pl up) e.moves.length := by
  unfold outOf; split
  · exact pickFrom_asc _ _
  · exact asc_nil _
theorem lifts_asc (e : Ev) (hh mat lo hi : Int) : Asc (lifts e hh mat lo hi) e.moves.length := by
  unfold lifts; split
  · exact pickFrom_asc _ _
  · exact asc_nil _
end Go.Proofs.Ythjgbjakpbfnoaa
