/- FlowLess in plain Lean: right evidence stays right with less said, fewer moves, more room. -/
import Derived.Test.YthjgbjakpbfnoaaPlain14e
namespace Go.Proofs.Ythjgbjakpbfnoaa
set_option linter.unusedSimpArgs false
set_option linter.unusedVariables false

theorem moveOk_mono {e e' : Ev} (hp : e'.places = e.places) (hs : e.scs ≤ e'.scs) {m : Move} (h : moveOk e m = true) : moveOk e' m = true := by
  have hk : ∀ i, kindAt e' i = kindAt e i := fun i => by unfold kindAt; rw [hp]
  unfold moveOk at h ⊢
  rw [hp, hk, hk]
  simp only [Bool.and_eq_true] at h ⊢
  refine ⟨h.1, ?_⟩
  have h2 := h.2
  split at h2
  · rw [if_pos (by assumption)]; exact h2
  · rw [if_neg (by assumption)]
    simp only [Bool.and_eq_true, idx_iff] at h2 ⊢
    exact ⟨⟨h2.1.1, by omega⟩, h2.2⟩
theorem movesErr_mono {e e' : Ev} (hm : ∀ m, moveOk e m = true → moveOk e' m = true) : ∀ (l : List Move) (n : Nat) (last : Int), movesErr e last l = 0 → movesErr e' last (l.take n) = 0
  | [], n, last, _ => by simp [movesErr]
  | m :: r, 0, last, _ => by simp [movesErr]
  | m :: r, n + 1, last, h => by
    unfold movesErr at h
    split at h
    · simp at h
    · rename_i hd
      split at h
      · rename_i hk
        rw [List.take_succ_cons]
        unfold movesErr
        rw [if_neg hd, if_pos (hm m hk)]
        exact movesErr_mono hm r n m.day h
      · simp at h
theorem check_mono {e e' : Ev} {n : Nat} (h : check e = 0) (hp : e'.places = e.places) (h1 : e.mats ≤ e'.mats) (h2 : e'.mats ≤ 6) (h3 : e.hhs ≤ e'.hhs) (h4 : e'.hhs ≤ 100) (h5 : e.scs ≤ e'.scs) (h6 : e'.scs ≤ 30)
    (hm : e'.moves = e.moves.take n) (hc : e'.certs = e.certs ∨ e'.certs = []) (hr : e'.recalls = e.recalls ∨ e'.recalls = [])
    (hq : ∀ q ∈ e'.purities, q ∈ e.purities ∧ q.move < e'.moves.length) (hl : e'.purities.length ≤ e.purities.length) : check e' = 0 := by
  obtain ⟨a1, a2, a3, a4, a5, a6, a7⟩ := check_zero h
  have b1 : fullB e' = false := by
    have e1 : e'.certs.length ≤ e.certs.length := by rcases hc with hc | hc <;> rw [hc] <;> simp
    have e2 : e'.recalls.length ≤ e.recalls.length := by rcases hr with hr | hr <;> rw [hr] <;> simp
    have e3 : e'.moves.length ≤ e.moves.length := by rw [hm]; simp; omega
    have e4 : e'.places.length = e.places.length := by rw [hp]
    simp [fullB] at a1 ⊢
    omega
  have b2 : e'.places.all (placeOk e') = true := by
    rw [hp, List.all_eq_true]
    intro p hpm
    have := List.all_eq_true.1 a5 p hpm
    unfold placeOk at this ⊢
    simp only [Bool.and_eq_true] at this ⊢
    refine ⟨this.1, ?_⟩
    have h2 := this.2
    split at h2
    · rw [if_pos (by assumption)]
      simp only [Bool.and_eq_true, idx_iff] at h2 ⊢
      omega
    · rw [if_neg (by assumption)]; exact h2
  have b3 : movesErr e' 0 e'.moves = 0 := by
    rw [hm]; exact movesErr_mono (fun m => moveOk_mono hp h5) _ _ _ a6
  have b4 : saidOk e' = true := by
    simp only [saidOk, Bool.and_eq_true, List.all_eq_true] at a7 ⊢
    obtain ⟨⟨c1, c2⟩, c3⟩ := a7
    refine ⟨⟨fun c hcm => ?_, fun r hrm => ?_⟩, fun q hqm => ?_⟩
    · have : c ∈ e.certs := by
        rcases hc with hc | hc <;> rw [hc] at hcm
        · exact hcm
        · cases hcm
      have := c1 c this
      simp only [certOk, Bool.and_eq_true, decide_eq_true_eq, idx_iff] at this ⊢
      refine ⟨⟨⟨⟨this.1.1.1.1, this.1.1.1.2.1, by omega⟩, this.1.1.2⟩, this.1.2⟩, this.2⟩
    · have : r ∈ e.recalls := by
        rcases hr with hr | hr <;> rw [hr] at hrm
        · exact hrm
        · cases hrm
      have := c2 r this
      simp only [recallOk, Bool.and_eq_true, idx_iff] at this ⊢
      exact ⟨⟨this.1.1, by omega⟩, this.2⟩
    · obtain ⟨d1, d2⟩ := hq q hqm
      have := c3 q d1
      simp only [purityOk, Bool.and_eq_true, decide_eq_true_eq, idx_iff] at this ⊢
      omega
  unfold check
  rw [if_neg (by simp [b1]), if_neg, if_neg (by simp [b3]), if_pos b4]
  rintro (h | h | h | h)
  · omega
  · omega
  · omega
  · rw [b2] at h; cases h

theorem pickFrom_nil {α : Type} {p : Nat → α → Bool} : ∀ (l : List α) (k : Nat), (∀ i m, k ≤ i → p i m = false) → pickFrom p k l = []
  | [], k, _ => rfl
  | m :: r, k, h => by
    rw [pickFrom, h k m (Nat.le_refl _)]
    simp only [Bool.false_eq_true, if_false]
    exact pickFrom_nil r (k + 1) fun i m hi => h i m (by omega)
theorem pickFrom_take {α : Type} {p : Nat → α → Bool} {l : List α} {n : Nat} (hn : n ≤ l.length) (h : ∀ i m, n ≤ i → p i m = false) : pickFrom p 0 (l.take n) = pickFrom p 0 l := by
  have := pickFrom_append p (l.take n) (l.drop n) 0
  rw [List.take_append_drop] at this
  rw [this, pickFrom_nil (l.drop n) _ (fun i m hi => h i m (by simp at hi; omega)), List.append_nil]
theorem into_less {e e' : Ev} {n : Nat} (h : check e = 0) (h' : check e' = 0) (hm : e'.moves = e.moves.take n) (hn : n ≤ e.moves.length) (p : Int) : into e' p n = into e p n := by
  unfold into
  rw [if_pos h, if_pos h', hm]
  exact pickFrom_take hn fun i m hi => by simp; omega
theorem outOf_less {e e' : Ev} {n : Nat} (h : check e = 0) (h' : check e' = 0) (hm : e'.moves = e.moves.take n) (hn : n ≤ e.moves.length) (p : Int) : outOf e' p e.moves.length = outOf e p n := by
  unfold outOf
  rw [if_pos h, if_pos h', hm, ← pickFrom_take hn (p := fun k m => decide ((k : Int) < n) && decide (m.src = p)) (fun i m hi => by simp; omega)]
  refine pickFrom_congr _ n (fun k m hk => ?_) 0 (by simp; omega)
  have e1 : decide ((k : Int) < e.moves.length) = true := by simp; omega
  have e2 : decide ((k : Int) < n) = true := by simp; omega
  rw [e1, e2]
end Go.Proofs.Ythjgbjakpbfnoaa
