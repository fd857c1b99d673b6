/- FlowOnce in plain Lean: the counts. -/
import Derived.Test.YthjgbjakpbfnoaaPlain14c
namespace Go.Proofs.Ythjgbjakpbfnoaa
set_option linter.unusedSimpArgs false
set_option linter.unusedVariables false

theorem into_mem {e : Ev} (h0 : check e = 0) {pl up x : Int} : x ∈ into e pl up ↔ ∃ (j : Nat) (m : Move), e.moves[j]? = some m ∧ (j : Int) < up ∧ m.dst = pl ∧ x = (j : Int) := by
  unfold into
  rw [if_pos h0, mem_pickFrom]
  constructor
  · rintro ⟨i, m, h1, h2, h3⟩
    simp at h2
    exact ⟨i, m, h1, h2.1, h2.2, by simpa using h3⟩
  · rintro ⟨i, m, h1, h2, h3, h4⟩
    exact ⟨i, m, h1, by simp [h2, h3], by simpa using h4⟩
theorem outOf_mem {e : Ev} (h0 : check e = 0) {pl up x : Int} : x ∈ outOf e pl up ↔ ∃ (j : Nat) (m : Move), e.moves[j]? = some m ∧ (j : Int) < up ∧ m.src = pl ∧ x = (j : Int) := by
  unfold outOf
  rw [if_pos h0, mem_pickFrom]
  constructor
  · rintro ⟨i, m, h1, h2, h3⟩
    simp at h2
    exact ⟨i, m, h1, h2.1, h2.2, by simpa using h3⟩
  · rintro ⟨i, m, h1, h2, h3, h4⟩
    exact ⟨i, m, h1, by simp [h2, h3], by simpa using h4⟩
theorem moveOk_dstKind {e : Ev} {m : Move} (h : moveOk e m = true) : kindAt e m.dst ≠ 0 := by
  simp [moveOk] at h; exact h.1.2
theorem moveOk_srcKind {e : Ev} {m : Move} (h : moveOk e m = true) : kindAt e m.src ≠ 5 ∧ kindAt e m.src ≠ 6 := by
  simp [moveOk] at h; exact ⟨h.1.1.1.1.2, h.1.1.1.2⟩
theorem into_bin {e : Ev} (h0 : check e = 0) {pl up : Int} (hk : kindAt e pl = 0) : into e pl up = [] := by
  rw [List.eq_nil_iff_forall_not_mem]
  intro x hx
  obtain ⟨j, m, hm, _, hd, _⟩ := (into_mem h0).1 hx
  exact moveOk_dstKind (check_move h0 (List.mem_of_getElem? hm)) (by rw [hd]; exact hk)
theorem outOf_end {e : Ev} (h0 : check e = 0) {pl up : Int} (hk : kindAt e pl = 5 ∨ kindAt e pl = 6) : outOf e pl up = [] := by
  rw [List.eq_nil_iff_forall_not_mem]
  intro x hx
  obtain ⟨j, m, hm, _, hd, _⟩ := (outOf_mem h0).1 hx
  have := moveOk_srcKind (check_move h0 (List.mem_of_getElem? hm))
  rw [hd] at this
  rcases hk with h | h
  · exact this.1 h
  · exact this.2 h
theorem into_neg {e : Ev} (h0 : check e = 0) {pl up : Int} (hp : pl < 0 ∨ (e.places.length : Int) ≤ pl) : into e pl up = [] := by
  rw [List.eq_nil_iff_forall_not_mem]
  intro x hx
  obtain ⟨j, m, hm, _, hd, _⟩ := (into_mem h0).1 hx
  have := moveOk_dst (check_move h0 (List.mem_of_getElem? hm))
  omega
theorem outOf_neg {e : Ev} (h0 : check e = 0) {pl up : Int} (hp : pl < 0 ∨ (e.places.length : Int) ≤ pl) : outOf e pl up = [] := by
  rw [List.eq_nil_iff_forall_not_mem]
  intro x hx
  obtain ⟨j, m, hm, _, hd, _⟩ := (outOf_mem h0).1 hx
  have := moveOk_src (check_move h0 (List.mem_of_getElem? hm))
  omega

/-- the count of each move: 1 if it is before 'up' and its place d is below p, or it is among S -/
def Cnt (l : List Move) (d : Move → Int) (up : Int) (p : Nat) (S : List Int) (L : List Int) : Prop :=
  L.length = l.length ∧ ∀ (j : Nat) (m : Move), l[j]? = some m → L[j]? = some (if (j : Int) ∈ S ∨ ((j : Int) < up ∧ d m < (p : Int)) then 1 else 0)
theorem Cnt.zero {l : List Move} {d : Move → Int} {up : Int} (hd : ∀ m ∈ l, 0 ≤ d m) : Cnt l d up 0 [] (List.replicate l.length 0) := by
  refine ⟨by simp, fun j m hm => ?_⟩
  have hl := (List.getElem?_eq_some_iff.1 hm).1
  have := hd m (List.mem_of_getElem? hm)
  rw [if_neg (by simp; omega)]
  simp [List.getElem?_replicate, hl]
/-- one more of the picked ones is counted -/
theorem Cnt.step {l : List Move} {d : Move → Int} {up : Int} {p : Nat} {a L : List Int} {i j : Nat} {m : Move} (h : Cnt l d up p (a.take i) L) (hs : a.Pairwise (· < ·)) (hx : a[i]? = some (j : Int)) (hm : l[j]? = some m) (hdm : d m = (p : Int)) :
    L[j]? = some 0 ∧ Cnt l d up p (a.take (i + 1)) (L.set j 1) := by
  obtain ⟨hi, hxi⟩ := List.getElem?_eq_some_iff.1 hx
  have hnot : (j : Int) ∉ a.take i := by
    intro hmem
    obtain ⟨k, hk, e⟩ := List.getElem_of_mem hmem
    have hk' : k < i := by simp at hk; omega
    rw [List.getElem_take] at e
    have := List.pairwise_iff_getElem.1 hs k i (by omega) hi hk'
    omega
  refine ⟨?_, by simpa using h.1, fun j' m' hm' => ?_⟩
  · rw [h.2 j m hm, if_neg]
    rintro (h1 | ⟨_, h2⟩)
    · exact hnot h1
    · omega
  · have hmem : (j' : Int) ∈ a.take (i + 1) ↔ (j' : Int) ∈ a.take i ∨ j' = j := by
      rw [List.take_succ_eq_append_getElem hi, List.mem_append, hxi, List.mem_singleton]
      constructor
      · rintro (h1 | h1)
        · exact .inl h1
        · exact .inr (by omega)
      · rintro (h1 | h1)
        · exact .inl h1
        · exact .inr (by omega)
    by_cases hj : j' = j
    · subst hj
      rw [List.getElem?_set_self (by rw [h.1]; exact (List.getElem?_eq_some_iff.1 hm').1), if_pos (.inl (hmem.2 (.inr rfl)))]
    · rw [List.getElem?_set_ne (by omega), h.2 j' m' hm']
      have : (j' : Int) ∈ a.take (i + 1) ↔ (j' : Int) ∈ a.take i := by rw [hmem]; simp [hj]
      simp only [this]
/-- all of them are counted: on to the next place -/
theorem Cnt.next {l : List Move} {d : Move → Int} {up : Int} {p : Nat} {a L : List Int} (h : Cnt l d up p a L) (ha : ∀ (j : Nat) (m : Move), l[j]? = some m → ((j : Int) ∈ a ↔ (j : Int) < up ∧ d m = (p : Int))) : Cnt l d up (p + 1) [] L := by
  refine ⟨h.1, fun j m hm => ?_⟩
  rw [h.2 j m hm]
  have hj := ha j m hm
  have hiff : ((j : Int) ∈ a ∨ ((j : Int) < up ∧ d m < (p : Int))) ↔ ((j : Int) ∈ ([] : List Int) ∨ ((j : Int) < up ∧ d m < ((p + 1 : Nat) : Int))) := by
    rw [hj]
    constructor
    · rintro (h1 | h1)
      · exact .inr ⟨h1.1, by omega⟩
      · exact .inr ⟨h1.1, by omega⟩
    · rintro (h1 | h1)
      · cases h1
      · by_cases h2 : d m = (p : Int)
        · exact .inl ⟨h1.1, h2⟩
        · exact .inr ⟨h1.1, by omega⟩
  by_cases h : (j : Int) ∈ a ∨ ((j : Int) < up ∧ d m < (p : Int))
  · rw [if_pos h, if_pos (hiff.1 h)]
  · rw [if_neg h, if_neg (fun h' => h (hiff.2 h'))]
theorem Cnt.last {l : List Move} {d : Move → Int} {up : Int} {p : Nat} {L : List Int} (h : Cnt l d up p [] L) (hd : ∀ m ∈ l, d m < (p : Int)) {j : Nat} {m : Move} (hm : l[j]? = some m) : L[j]? = some (if (j : Int) < up then 1 else 0) := by
  rw [h.2 j m hm]
  have := hd m (List.mem_of_getElem? hm)
  congr 1
  by_cases h1 : (j : Int) < up
  · rw [if_pos (.inr ⟨h1, this⟩), if_pos h1]
  · rw [if_neg (by simp; omega), if_neg h1]
theorem into_cnt {e : Ev} (h0 : check e = 0) {up : Int} (p : Nat) : ∀ (j : Nat) (m : Move), e.moves[j]? = some m → ((j : Int) ∈ into e p up ↔ (j : Int) < up ∧ m.dst = (p : Int)) := by
  intro j m hm
  rw [into_mem h0]
  constructor
  · rintro ⟨j', m', h1, h2, h3, h4⟩
    obtain rfl : j' = j := by omega
    rw [hm] at h1
    injection h1 with h1
    subst h1
    exact ⟨h2, h3⟩
  · rintro ⟨h1, h2⟩
    exact ⟨j, m, hm, h1, h2, rfl⟩
theorem outOf_cnt {e : Ev} (h0 : check e = 0) {up : Int} (p : Nat) : ∀ (j : Nat) (m : Move), e.moves[j]? = some m → ((j : Int) ∈ outOf e p up ↔ (j : Int) < up ∧ m.src = (p : Int)) := by
  intro j m hm
  rw [outOf_mem h0]
  constructor
  · rintro ⟨j', m', h1, h2, h3, h4⟩
    obtain rfl : j' = j := by omega
    rw [hm] at h1
    injection h1 with h1
    subst h1
    exact ⟨h2, h3⟩
  · rintro ⟨h1, h2⟩
    exact ⟨j, m, hm, h1, h2, rfl⟩
theorem into_sorted (e : Ev) (pl up : Int) : (into e pl up).Pairwise (· < ·) := by
  unfold into; split
  · exact pickFrom_sorted _ _ _
  · simp
theorem outOf_sorted (e : Ev) (pl up : Int) : (outOf e pl up).Pairwise (· < ·) := by
  unfold outOf; split
  · exact pickFrom_sorted _ _ _
  · simp
theorem Ints_set (L : List Int) (j : Nat) (x : Int) : Ints (L.set j x) = (Ints L).set j (vi x) := by
  have h : ∀ l : List Int, Ints l = l.map vi := by intro l; induction l <;> simp_all [Ints]
  rw [h, h, List.map_set]
theorem Ints_at (L : List Int) (j : Nat) : (Ints L)[j]? = (L[j]?).map vi := by
  have h : ∀ l : List Int, Ints l = l.map vi := by intro l; induction l <;> simp_all [Ints]
  rw [h, List.getElem?_map]
theorem Ints_replicate (n : Nat) : Ints (List.replicate n 0) = List.replicate n (vi 0) := by
  have h : ∀ l : List Int, Ints l = l.map vi := by intro l; induction l <;> simp_all [Ints]
  rw [h, List.map_replicate]
end Go.Proofs.Ythjgbjakpbfnoaa
