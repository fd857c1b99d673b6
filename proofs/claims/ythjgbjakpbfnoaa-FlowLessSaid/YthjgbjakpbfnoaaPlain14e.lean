/- FlowLifts in plain Lean: the counts, the cut of a period. -/
import Derived.Test.YthjgbjakpbfnoaaPlain14d
namespace Go.Proofs.Ythjgbjakpbfnoaa
set_option linter.unusedSimpArgs false
set_option linter.unusedVariables false

def hhAt (e : Ev) (i : Int) : Int := ((e.places[i.toNat]?).map (·.hh)).getD (-1)
def matAt (e : Ev) (i : Int) : Int := ((e.places[i.toNat]?).map (·.mat)).getD (-1)
theorem hhAt_of {e : Ev} {i : Nat} {p : Place} (h : e.places[i]? = some p) : hhAt e (i : Int) = p.hh := by simp [hhAt, h]
theorem matAt_of {e : Ev} {i : Nat} {p : Place} (h : e.places[i]? = some p) : matAt e (i : Int) = p.mat := by simp [matAt, h]
theorem place_at {e : Ev} (h0 : check e = 0) {m : Move} (hm : m ∈ e.moves) : ∃ (i : Nat) (p : Place), m.src = (i : Int) ∧ e.places[i]? = some p ∧ placeOk e p = true := by
  obtain ⟨h1, h2⟩ := moveOk_src (check_move h0 hm)
  obtain ⟨i, hi⟩ := Int.eq_ofNat_of_zero_le h1
  have hlt : i < e.places.length := by omega
  refine ⟨i, e.places[i], hi, List.getElem?_eq_getElem hlt, ?_⟩
  have := (check_zero h0).2.2.2.2.1
  rw [List.all_eq_true] at this
  exact this _ (List.getElem_mem hlt)
theorem bin_at {e : Ev} (h0 : check e = 0) {m : Move} (hm : m ∈ e.moves) (hk : kindAt e m.src = 0) : (0 ≤ hhAt e m.src ∧ hhAt e m.src < e.hhs) ∧ (0 ≤ matAt e m.src ∧ matAt e m.src < e.mats) := by
  obtain ⟨i, p, hs, hp, hok⟩ := place_at h0 hm
  rw [hs] at hk ⊢
  rw [hhAt_of hp, matAt_of hp]
  rw [kindAt_of hp] at hk
  simp [placeOk, hk] at hok
  exact ⟨idx_iff.1 hok.2.1, idx_iff.1 hok.2.2⟩
theorem liftIs_at {e : Ev} (h0 : check e = 0) {m : Move} (hm : m ∈ e.moves) (hh mat lo hi : Int) :
    liftIs e hh mat lo hi m = (decide (kindAt e m.src = 0) && decide (hhAt e m.src = hh) && (decide (mat = -1) || decide (matAt e m.src = mat)) && btw m.day lo hi) := by
  obtain ⟨i, p, hs, hp, -⟩ := place_at h0 hm
  rw [liftIs_of hp hs, hs, kindAt_of hp, hhAt_of hp, matAt_of hp]
theorem movesErr_days {e : Ev} {l : List Move} : ∀ {last : Int}, movesErr e last l = 0 → l.Pairwise (fun a b => a.day ≤ b.day) ∧ ∀ m ∈ l, last ≤ m.day ∧ m.day ≤ 100000 := by
  induction l with
  | nil => intro last _; simp
  | cons m r ih =>
    intro last h
    unfold movesErr at h
    split at h
    · simp at h
    · rename_i hd
      split at h
      · obtain ⟨h1, h2⟩ := ih h
        refine ⟨List.pairwise_cons.2 ⟨fun x hx => (h2 x hx).1, h1⟩, fun x hx => ?_⟩
        rcases List.mem_cons.1 hx with rfl | hx
        · omega
        · have := h2 x hx; omega
      · simp at h
theorem check_day {e : Ev} (h0 : check e = 0) {m : Move} (hm : m ∈ e.moves) : 0 ≤ m.day ∧ m.day ≤ 100000 := (movesErr_days (check_zero h0).2.2.2.2.2.1).2 m hm
theorem pickFrom_cut {A B C : Move → Bool} {c : Int} (h1 : ∀ m : Move, m.day ≤ c → A m = B m ∧ C m = false) (h2 : ∀ m : Move, c < m.day → A m = C m ∧ B m = false) :
    ∀ (l : List Move) (k : Nat), l.Pairwise (fun a b => a.day ≤ b.day) → pickFrom (fun _ m => A m) k l = pickFrom (fun _ m => B m) k l ++ pickFrom (fun _ m => C m) k l := by
  intro l
  induction l with
  | nil => intro k _; simp [pickFrom]
  | cons m r ih =>
    intro k hp
    obtain ⟨hm, hr⟩ := List.pairwise_cons.1 hp
    have hi := ih (k + 1) hr
    by_cases hd : m.day ≤ c
    · obtain ⟨e1, e2⟩ := h1 m hd
      simp only [pickFrom, e1, e2, hi]
      split <;> simp
    · obtain ⟨e1, e2⟩ := h2 m (by omega)
      have hn : pickFrom (fun _ m => B m) (k + 1) r = [] := by
        rw [List.eq_nil_iff_forall_not_mem]
        intro x hx
        obtain ⟨i, y, hy, hb, -⟩ := mem_pickFrom.1 hx
        have hdy := hm y (List.mem_of_getElem? hy)
        have := (h2 y (by omega)).2
        simp_all
      simp only [pickFrom, e1, e2, hi, hn]
      split <;> simp
theorem lifts_cut {e : Ev} (h0 : check e = 0) {hh mat lo c hi : Int} (h1 : lo ≤ c) (h2 : c < hi) : lifts e hh mat lo hi = lifts e hh mat lo c ++ lifts e hh mat (c + 1) hi := by
  unfold lifts
  rw [if_pos h0, if_pos h0, if_pos h0]
  refine pickFrom_cut (c := c) ?_ ?_ _ _ (movesErr_days (check_zero h0).2.2.2.2.2.1).1
  · intro m hd
    unfold liftIs
    cases e.places[m.src.toNat]? with
    | none => simp
    | some p => simp only; constructor
                · have : btw m.day lo hi = btw m.day lo c := by rw [Bool.eq_iff_iff, btw_iff, btw_iff]; omega
                  rw [this]
                · have : btw m.day (c + 1) hi = false := by rw [btw_false]; omega
                  rw [this]; simp
  · intro m hd
    unfold liftIs
    cases e.places[m.src.toNat]? with
    | none => simp
    | some p => simp only; constructor
                · have : btw m.day lo hi = btw m.day (c + 1) hi := by rw [Bool.eq_iff_iff, btw_iff, btw_iff]; omega
                  rw [this]
                · have : btw m.day lo c = false := by rw [btw_false]; omega
                  rw [this]; simp
theorem lifts_mem {e : Ev} (h0 : check e = 0) {hh mat lo hi x : Int} : x ∈ lifts e hh mat lo hi ↔ ∃ (j : Nat) (m : Move), e.moves[j]? = some m ∧ liftIs e hh mat lo hi m = true ∧ x = (j : Int) := by
  unfold lifts
  rw [if_pos h0, mem_pickFrom]
  constructor
  · rintro ⟨i, m, h1, h2, h3⟩
    exact ⟨i, m, h1, h2, by simpa using h3⟩
  · rintro ⟨i, m, h1, h2, h3⟩
    exact ⟨i, m, h1, h2, by simpa using h3⟩

/-! counts -/
theorem length_pick_count {α : Type} (q : α → Bool) (l : List α) : ∀ k, (pickFrom (fun _ m => q m) k l).length = l.countP q := by
  induction l with
  | nil => intro k; simp [pickFrom]
  | cons m r ih =>
    intro k
    simp only [pickFrom, List.countP_cons]
    split <;> simp [ih]
theorem countP_split {α : Type} {l : List α} {P A B : α → Bool} (h : ∀ m ∈ l, P m = (A m || B m) ∧ ¬ (A m = true ∧ B m = true)) : l.countP P = l.countP A + l.countP B := by
  induction l with
  | nil => simp
  | cons m r ih =>
    have h1 := h m (by simp)
    have h2 := ih fun x hx => h x (by simp [hx])
    simp only [List.countP_cons, h2, h1.1]
    cases ha : A m <;> cases hb : B m <;> simp_all <;> omega
theorem countP_same {α : Type} {l : List α} {P A : α → Bool} (h : ∀ m ∈ l, P m = A m) : l.countP P = l.countP A := by
  induction l with
  | nil => simp
  | cons m r ih => simp [List.countP_cons, h m (by simp), ih fun x hx => h x (by simp [hx])]
theorem countP_none {α : Type} {l : List α} {P : α → Bool} (h : ∀ m ∈ l, P m = false) : l.countP P = 0 := by
  rw [countP_same h]; simp

def isBin (e : Ev) (m : Move) : Bool := decide (kindAt e m.src = 0)
def cTot (e : Ev) : Nat := e.moves.countP (isBin e)
def cAll (e : Ev) (h : Int) : Nat := e.moves.countP fun m => isBin e m && decide (hhAt e m.src < h)
def cSome (e : Ev) (h t : Int) : Nat := e.moves.countP fun m => isBin e m && (decide (hhAt e m.src < h) || decide (hhAt e m.src = h) && decide (matAt e m.src < t))
def cBin (e : Ev) (p : Int) : Nat := e.moves.countP fun m => isBin e m && decide (m.src < p)
section
variable {e : Ev} (h0 : check e = 0)
include h0
theorem length_lifts_count (hh mat lo hi : Int) : (lifts e hh mat lo hi).length = e.moves.countP (liftIs e hh mat lo hi) := by
  unfold lifts
  rw [if_pos h0]
  exact length_pick_count _ _ _
theorem length_outOf_count (p : Int) : (outOf e p e.moves.length).length = e.moves.countP fun m => decide (m.src = p) := by
  unfold outOf
  rw [if_pos h0, ← length_pick_count _ _ 0]
  congr 1
  exact pickFrom_congr e.moves e.moves.length (fun k m hk => by simp [hk]) 0 (by omega)
theorem cAll_zero : cAll e 0 = 0 := countP_none fun m hm => by
  by_cases hk : kindAt e m.src = 0
  · have := bin_at h0 hm hk; simp; intro _; omega
  · simp [isBin, hk]
theorem cSome_zero : cSome e 0 0 = 0 := countP_none fun m hm => by
  by_cases hk : kindAt e m.src = 0
  · have := bin_at h0 hm hk
    rw [Bool.eq_false_iff]; simp; intro _; omega
  · simp [isBin, hk]
theorem cBin_zero : cBin e 0 = 0 := countP_none fun m hm => by
  have := moveOk_src (check_move h0 hm)
  simp; intro _; omega
theorem cAll_all : cAll e e.hhs = cTot e := countP_same fun m hm => by
  by_cases hk : kindAt e m.src = 0
  · have := bin_at h0 hm hk; simp [isBin, hk]; omega
  · simp [isBin, hk]
theorem cSome_all : cSome e e.hhs 0 = cTot e := countP_same fun m hm => by
  by_cases hk : kindAt e m.src = 0
  · have := bin_at h0 hm hk; simp [isBin, hk]; omega
  · simp [isBin, hk]
theorem cBin_all : cBin e e.places.length = cTot e := countP_same fun m hm => by
  have := moveOk_src (check_move h0 hm)
  simp; intro _; omega
theorem cAll_step (h : Int) : cAll e (h + 1) = cAll e h + (lifts e h (-1) 0 100000).length := by
  rw [length_lifts_count h0]
  refine countP_split fun m hm => ?_
  have hd := check_day h0 hm
  have hb : btw m.day 0 100000 = true := btw_iff.2 hd
  rw [liftIs_at h0 hm, hb]
  by_cases hk : kindAt e m.src = 0
  · simp [isBin, hk]
    constructor
    · rw [Bool.eq_iff_iff]; simp; omega
    · omega
  · simp [isBin, hk]
theorem cSome_step (h : Int) {t : Int} (ht : 0 ≤ t) : cSome e h (t + 1) = cSome e h t + (lifts e h t 0 100000).length := by
  rw [length_lifts_count h0]
  refine countP_split fun m hm => ?_
  have hd := check_day h0 hm
  have hb : btw m.day 0 100000 = true := btw_iff.2 hd
  have hne : ¬ t = -1 := by omega
  rw [liftIs_at h0 hm, hb]
  by_cases hk : kindAt e m.src = 0
  · simp [isBin, hk, hne]
    constructor
    · rw [Bool.eq_iff_iff]; simp; omega
    · omega
  · simp [isBin, hk]
theorem cSome_row (h : Int) : cSome e h e.mats = cSome e (h + 1) 0 := countP_same fun m hm => by
  by_cases hk : kindAt e m.src = 0
  · have := bin_at h0 hm hk
    rw [Bool.eq_iff_iff]; simp [isBin, hk]; omega
  · simp [isBin, hk]
theorem cBin_yes {p : Nat} (hs : source e p = true) : cBin e (p + 1) = cBin e p + (outOf e p e.moves.length).length := by
  rw [length_outOf_count h0]
  simp [source] at hs
  refine countP_split fun m hm => ?_
  constructor
  · rw [Bool.eq_iff_iff]; simp [isBin]
    constructor
    · rintro ⟨h1, h2⟩
      by_cases h3 : m.src = (p : Int)
      · exact .inr h3
      · exact .inl ⟨h1, by omega⟩
    · rintro (⟨h1, h2⟩ | h1)
      · exact ⟨h1, by omega⟩
      · exact ⟨by rw [h1]; exact hs.2, by omega⟩
  · simp; intro _ _; omega
theorem cBin_no {p : Nat} (hp : p < e.places.length) (hs : source e p = false) : cBin e (p + 1) = cBin e p := by
  have hk : ¬ kindAt e (p : Int) = 0 := by
    intro hk
    have : source e p = true := by simp [source, h0, hk, idx_iff]; omega
    rw [this] at hs; cases hs
  refine countP_same fun m hm => ?_
  rw [Bool.eq_iff_iff]; simp [isBin]
  intro h1
  constructor
  · intro h2
    by_cases h3 : m.src = (p : Int)
    · rw [h3] at h1; exact absurd h1 hk
    · omega
  · omega
end
theorem cAll_le (e : Ev) (h : Int) : cAll e h ≤ e.moves.length := List.countP_le_length
theorem cSome_le (e : Ev) (h t : Int) : cSome e h t ≤ e.moves.length := List.countP_le_length
theorem cBin_le (e : Ev) (h : Int) : cBin e h ≤ e.moves.length := List.countP_le_length
end Go.Proofs.Ythjgbjakpbfnoaa
