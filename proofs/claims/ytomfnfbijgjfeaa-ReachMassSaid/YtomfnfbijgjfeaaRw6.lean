/- ReachMass: at every input the law returns true, and its arguments read as before. Conditions: none. -/
import Derived.Deep.DeepMust
import Derived.BigQuiet
import Derived.Deep.Light
import Derived.ProofKit
import Derived.OpenShut
import Derived.Deep.Slices
import Derived.Deep.Fields
import Derived.Test.YtomfnfbijgjfeaaRows
import Derived.Test.YtomfnfbijgjfeaaRw5
/- Chapter 15 in plain Lean: other readings, first moves. No program is in sight. -/
namespace Go.Proofs.Ytomfnfbijgjfeaa
set_option linter.unusedVariables false
set_option linter.unusedSimpArgs false

/-- the first error is that of the move k -/
theorem movesE_first {e : Ev} {G : List (List Rat)} {c : Int} (hc : c ≠ 0) : ∀ {ms : List Move} {i k : Nat} {x : Move}, ms[k]? = some x → (∀ j y, j < k → ms[j]? = some y → stepAt e G (i + j) y = 0) → stepAt e G (i + k) x = c → movesE e G i ms = c
  | [], i, k, x, hx, _, _ => by simp at hx
  | y :: r, i, 0, x, hx, _, h => by
    simp at hx
    subst hx
    rw [movesE_cons]
    rw [Nat.add_zero] at h
    rw [h, if_pos hc]
  | y :: r, i, k + 1, x, hx, h0, h => by
    rw [movesE_cons, if_neg (by have := h0 0 y (by omega) rfl; rw [Nat.add_zero] at this; simpa using this)]
    refine movesE_first hc (k := k) (x := x) (by simpa using hx) (fun j z hj hz => ?_) ?_
    · have := h0 (j + 1) z (by omega) (by simpa using hz)
      rwa [show i + 1 + j = i + (j + 1) by omega]
    · rwa [show i + 1 + k = i + (k + 1) by omega]
/-- evidence with another reading of a move -/
def readE (e : Ev) (k : Nat) (x : Move) (r : Int) : Ev := { e with moves := e.moves.set k { x with reading := r } }
theorem readE_get {e : Ev} {k : Nat} {x : Move} {r : Int} (hx : e.moves[k]? = some x) (j : Nat) : (readE e k x r).moves[j]? = if j = k then some { x with reading := r } else e.moves[j]? := by
  have hk := (List.getElem?_eq_some_iff.1 hx).1
  unfold readE
  simp only
  by_cases h : j = k
  · subst h; rw [if_pos rfl, List.getElem?_set_self hk]
  · rw [if_neg h, List.getElem?_set_ne (fun h' => h h'.symm)]
theorem stk_read {e : Ev} {k : Nat} {x : Move} {r : Int} {G : List (List Rat)} (hx : e.moves[k]? = some x) (j : Nat) : stk (readE e k x r) G j = stk e G j :=
  stk_congr j (fun i _ => by
    rw [readE_get hx]
    by_cases h : i = k
    · subst h; rw [if_pos rfl, hx]; rfl
    · rw [if_neg h]) (fun _ _ => rfl)
theorem hist_read {e : Ev} {k : Nat} {x : Move} {r : Int} {hh : List (List Fr)} {G : List (List Rat)} (hx : e.moves[k]? = some x) (hG : hh = hz G) (h : histCheck e hh = 0) (h1 : check (readE e k x r) = 0) :
    histCheck (readE e k x r) hh = if weighedB (readE e k x r) { x with reading := r } (sumR (G.getD k [])) then 0 else 24 := by
  obtain ⟨q1, q2, q3⟩ := histCheck_zero h
  have e1 := histCheck_ok (hh := hh) h1
  have e2 : shapedB (readE e k x r) hh = shapedB e hh := by unfold shapedB readE; simp
  rw [e2, q2, if_pos rfl, hG, unhz] at e1
  rw [hG, unhz, histE_zero] at q3
  rw [hG, e1]
  have same : ∀ j y, j ≠ k → (readE e k x r).moves[j]? = some y → stepAt (readE e k x r) G j y = 0 := fun j y hj hy => by
    rw [readE_get hx, if_neg hj] at hy
    have h2 := q3 j y hy
    unfold stepAt at *
    rw [stk_read hx]
    exact h2
  have hk := q3 k x hx
  unfold stepAt at hk
  rw [stepE_zero] at hk
  obtain ⟨w1, w2, w3, w4⟩ := hk
  have gk : (readE e k x r).moves[k]? = some { x with reading := r } := by rw [readE_get hx, if_pos rfl]
  cases hw : weighedB (readE e k x r) { x with reading := r } (sumR (G.getD k [])) with
  | true =>
    rw [if_pos rfl]
    rw [histE_zero]
    intro j y hy
    by_cases hj : j = k
    · subst hj
      rw [gk] at hy
      injection hy with hy
      subst hy
      unfold stepAt
      rw [stepE_zero, stk_read hx]
      exact ⟨w1, w2, hw, w4⟩
    · exact same j y hj hy
  | false =>
    rw [if_neg (by simp)]
    unfold histE
    refine movesE_first (by decide) (i := 0) gk (fun j y hj hy => by rw [Nat.zero_add]; exact same j y (by omega) hy) ?_
    rw [Nat.zero_add]
    unfold stepAt stepE
    rw [stk_read hx]
    have t2 : takenE (readE e k x r) (stk e G k) { x with reading := r } (G.getD k []) = 0 := w2
    rw [if_neg (by rw [List.any_eq_true]; rintro ⟨v, hv, hn⟩; exact w1 v hv (by simpa using hn)), t2, hw]
    rfl
/-- evidence about the first moves -/
def cutE (e : Ev) (n : Nat) : Ev := { e with moves := e.moves.take n, purities := e.purities.filter fun q => decide (q.move < (n : Int)) }
theorem stk_cut {e : Ev} {n : Nat} {G : List (List Rat)} {k : Nat} (hk : k ≤ n) : stk (cutE e n) (G.take n) k = stk e G k :=
  stk_congr k (fun j hj => by show ((e.moves.take n)[j]?).map _ = _; rw [List.getElem?_take, if_pos (by omega)]) (fun j hj => by
    funext m
    unfold hAt
    rw [List.getD_eq_getElem?_getD (l := G.take n), List.getElem?_take, if_pos (by omega), ← List.getD_eq_getElem?_getD])
theorem hist_cut {e : Ev} {n : Nat} {G : List (List Rat)} (h : histCheck e (hz G) = 0) (h1 : check (cutE e n) = 0) : histCheck (cutE e n) (hz (G.take n)) = 0 := by
  obtain ⟨q1, q2, q3⟩ := histCheck_zero h
  rw [unhz, histE_zero] at q3
  have hs : Shape e G := by
    obtain ⟨G', h2, h3⟩ := shaped_rats q2
    have : G = G' := by rw [← unhz G, h2, unhz]
    rw [this]; exact h3
  have hs2 : Shape (cutE e n) (G.take n) := ⟨by simp [cutE, hs.len], fun l hl => hs.wid l (List.mem_of_mem_take hl)⟩
  rw [histCheck_ok h1, shape_ok hs2, if_pos rfl, unhz, histE_zero]
  intro k x hx
  have hkn : k < n := by
    have := (List.getElem?_eq_some_iff.1 hx).1
    simp [cutE] at this; omega
  have hx2 : e.moves[k]? = some x := by
    have : (e.moves.take n)[k]? = some x := hx
    rwa [List.getElem?_take, if_pos hkn] at this
  have hk := q3 k x hx2
  unfold stepAt at *
  rw [stk_cut (by omega)]
  have hg : (G.take n).getD k [] = G.getD k [] := by
    rw [List.getD_eq_getElem?_getD, List.getElem?_take, if_pos hkn, ← List.getD_eq_getElem?_getD]
  rw [hg]
  rw [stepE_zero] at hk ⊢
  obtain ⟨w1, w2, w3, w4⟩ := hk
  refine ⟨w1, w2, w3, ?_⟩
  unfold pureB at *
  rw [List.all_eq_true] at w4 ⊢
  exact fun p hp => w4 p (List.mem_filter.1 hp).1
end Go.Proofs.Ytomfnfbijgjfeaa
/- Chapter 15 in plain Lean: mixtures of histories; what is conserved. No program is in sight. -/
namespace Go.Proofs.Ytomfnfbijgjfeaa
set_option linter.unusedVariables false
set_option linter.unusedSimpArgs false

/-- sums of the first numbers -/
def sumN (f : Nat → Rat) : Nat → Rat
  | 0 => ((0 : Int) : Rat)
  | n + 1 => sumN f n + f n
theorem zero_eq : ((0 : Int) : Rat) = 0 := rfl
theorem sumR_get (l : List Rat) : ∀ n, n ≤ l.length → sumR (l.take n) = sumN (fun m => l.getD m 0) n
  | 0, _ => rfl
  | n + 1, h => by
    have hg : l[n]? = some (l.getD n 0) := by rw [List.getD_eq_getElem?_getD, List.getElem?_eq_getElem (by omega)]; rfl
    rw [List.take_add_one, hg]
    show sumR (l.take n ++ [l.getD n 0]) = _
    rw [sumR_snoc, sumR_get l n (by omega)]; rfl
theorem sumR_all (l : List Rat) : sumR l = sumN (fun m => l.getD m 0) l.length := by
  have := sumR_get l l.length (Nat.le_refl _)
  rwa [List.take_of_length_le (Nat.le_refl _)] at this
theorem sumN_mix (a b : Nat → Rat) (t : Rat) : ∀ n, sumN (fun m => a m + t * (b m - a m)) n = sumN a n + t * (sumN b n - sumN a n)
  | 0 => by simp only [sumN, zero_eq]; grind
  | n + 1 => by simp only [sumN]; rw [sumN_mix a b t n]; grind
theorem sumN_congr {f g : Nat → Rat} : ∀ {n : Nat}, (∀ m, m < n → f m = g m) → sumN f n = sumN g n
  | 0, _ => rfl
  | n + 1, h => by simp only [sumN]; rw [sumN_congr fun m hm => h m (by omega), h n (by omega)]
/-- a sum in which one place gives what another one gets -/
theorem sumN_add (f : Nat → Rat) (v : Rat) (d : Nat) : ∀ n, sumN (fun p => if p = d then f p + v else f p) n = sumN f n + (if d < n then v else 0)
  | 0 => by simp only [sumN, zero_eq]; rw [if_neg (by omega)]; grind
  | n + 1 => by
    simp only [sumN]
    rw [sumN_add f v d n]
    rcases Nat.lt_trichotomy d n with h | h | h
    · rw [if_pos h, if_neg (by omega), if_pos (by omega)]; grind
    · subst h; rw [if_neg (by omega), if_pos rfl, if_pos (by omega)]; grind
    · rw [if_neg (by omega), if_neg (by omega), if_neg (by omega)]; grind
theorem sumN_move (f : Nat → Rat) (v : Rat) {s d n : Nat} (hs : s < n) (hd : d < n) (hsd : s ≠ d) : sumN (fun p => if p = s then f p - v else if p = d then f p + v else f p) n = sumN f n := by
  have e : ∀ m, m < n → (if m = s then f m - v else if m = d then f m + v else f m) = (if m = s then (if m = d then f m + v else f m) + -v else (if m = d then f m + v else f m)) := fun m _ => by
    by_cases h : m = s
    · subst h; rw [if_pos rfl, if_pos rfl, if_neg hsd]; grind
    · rw [if_neg h, if_neg h]
  rw [sumN_congr e, sumN_add (fun p => if p = d then f p + v else f p) (-v) s n, sumN_add f v d n, if_pos hs, if_pos hd]
  grind
/-- of each material all that has left the bins is at the other places -/
theorem stk_sum {e : Ev} (h0 : check e = 0) (G : List (List Rat)) (m : Nat) : ∀ k, sumN (fun p => stk e G k p m) e.places.length = 0
  | 0 => by
    have : ∀ n, sumN (fun p => stk e G 0 p m) n = 0 := fun n => by
      induction n with
      | zero => rfl
      | succ n ih => simp only [sumN]; rw [ih]; simp only [stk, zero_eq]; grind
    exact this _
  | k + 1 => by
    cases hx : e.moves[k]? with
    | none =>
      have : stk e G (k + 1) = stk e G k := by conv => lhs; unfold stk
                                               rw [hx]
      rw [this]; exact stk_sum h0 G m k
    | some x =>
      have hm := check_move h0 (List.mem_of_getElem? hx)
      have ms := moveOk_src hm
      have md := moveOk_dst hm
      have hne : x.src ≠ x.dst := by unfold moveOk at hm; simp only [Bool.and_eq_true, decide_eq_true_eq] at hm; exact hm.1.1.1.1.1.2
      have : stk e G (k + 1) = carryF x (hAt G k) (stk e G k) := by conv => lhs; unfold stk
                                                                    rw [hx]
      rw [this, ← stk_sum h0 G m k]
      rw [← sumN_move (fun p => stk e G k p m) (hAt G k m) (s := x.src.toNat) (d := x.dst.toNat) (n := e.places.length) (by omega) (by omega) (by omega)]
      refine sumN_congr fun p _ => ?_
      unfold carryF
      have c1 : (x.src = (p : Int)) ↔ p = x.src.toNat := by omega
      have c2 : (x.dst = (p : Int)) ↔ p = x.dst.toNat := by omega
      simp only [c1, c2]
end Go.Proofs.Ytomfnfbijgjfeaa
/- Chapter 15 in plain Lean: mixtures of two histories. No program is in sight. -/
namespace Go.Proofs.Ytomfnfbijgjfeaa
set_option linter.unusedVariables false
set_option linter.unusedSimpArgs false

def mixL (a b : List Rat) (t : Rat) : List Rat := (List.range a.length).map fun m => a.getD m 0 + t * (b.getD m 0 - a.getD m 0)
def mixG (A B : List (List Rat)) (t : Rat) : List (List Rat) := (List.range A.length).map fun i => mixL (A.getD i []) (B.getD i []) t
theorem mixL_get {a b : List Rat} {t : Rat} (h : b.length = a.length) (m : Nat) : (mixL a b t).getD m 0 = a.getD m 0 + t * (b.getD m 0 - a.getD m 0) := by
  unfold mixL
  rw [List.getD_eq_getElem?_getD, List.getElem?_map]
  by_cases hm : m < a.length
  · rw [List.getElem?_range hm]; rfl
  · rw [List.getElem?_eq_none (by simp; omega)]
    rw [List.getD_eq_getElem?_getD (l := a), List.getD_eq_getElem?_getD (l := b), List.getElem?_eq_none (l := a) (by omega), List.getElem?_eq_none (l := b) (by omega)]
    simp only [Option.map_none, Option.getD_none]
    grind
theorem mixG_get {A B : List (List Rat)} {t : Rat} {i : Nat} (h : i < A.length) : (mixG A B t).getD i [] = mixL (A.getD i []) (B.getD i []) t := by
  unfold mixG
  rw [List.getD_eq_getElem?_getD, List.getElem?_map, List.getElem?_range h]; rfl
theorem sumR_mix {a b : List Rat} {t : Rat} (h : b.length = a.length) : sumR (mixL a b t) = sumR a + t * (sumR b - sumR a) := by
  have hl : (mixL a b t).length = a.length := by simp [mixL]
  rw [sumR_all, sumR_all a, sumR_all b, hl, h, ← sumN_mix]
  exact sumN_congr fun m _ => mixL_get h m
/-- the stocks are mixed as the histories are -/
theorem stk_mix {e : Ev} {A B : List (List Rat)} {t : Rat} (hA : Shape e A) (hB : Shape e B) : ∀ k p m, stk e (mixG A B t) k p m = stk e A k p m + t * (stk e B k p m - stk e A k p m)
  | 0, p, m => by simp only [stk, zero_eq]; grind
  | k + 1, p, m => by
    have ih := stk_mix hA hB (t := t) k p m
    unfold stk
    cases hx : e.moves[k]? with
    | none => exact ih
    | some x =>
      have hk : k < e.moves.length := (List.getElem?_eq_some_iff.1 hx).1
      have hl : (B.getD k []).length = (A.getD k []).length := by
        have h1 : A[k]? = some (A[k]'(by rw [hA.len]; exact hk)) := List.getElem?_eq_getElem _
        have h2 : B[k]? = some (B[k]'(by rw [hB.len]; exact hk)) := List.getElem?_eq_getElem _
        rw [List.getD_eq_getElem?_getD, List.getD_eq_getElem?_getD, h1, h2]
        have := hA.wid _ (List.mem_of_getElem? h1)
        have := hB.wid _ (List.mem_of_getElem? h2)
        simp only [Option.getD_some]
        omega
      have hv : hAt (mixG A B t) k m = hAt A k m + t * (hAt B k m - hAt A k m) := by
        unfold hAt
        rw [mixG_get (by rw [hA.len]; exact hk), mixL_get hl]
      simp only
      unfold carryF
      rw [ih, hv]
      split
      · grind
      · split
        · grind
        · rfl
end Go.Proofs.Ytomfnfbijgjfeaa
/- Chapter 15 in plain Lean: a mixture of two histories that the evidence allows is one that it allows. No program is in sight. -/
namespace Go.Proofs.Ytomfnfbijgjfeaa
set_option linter.unusedVariables false
set_option linter.unusedSimpArgs false

theorem mix_le {a b c d t : Rat} (h1 : a ≤ c) (h2 : b ≤ d) (t0 : 0 ≤ t) (t1 : t ≤ 1) : a + t * (b - a) ≤ c + t * (d - c) := by
  have h3 : 0 ≤ (1 - t) * (c - a) := Rat.mul_nonneg (by grind) (by grind)
  have h4 : 0 ≤ t * (d - b) := Rat.mul_nonneg t0 (by grind)
  grind
theorem mix_same {a b t : Rat} (h : a = b) : a + t * (b - a) = a := by subst h; grind
theorem inB_mix {iv : Option (Rat × Rat)} {a b t : Rat} (ha : inB iv a = true) (hb : inB iv b = true) (t0 : 0 ≤ t) (t1 : t ≤ 1) : inB iv (a + t * (b - a)) = true := by
  cases iv with
  | none => rfl
  | some p =>
    obtain ⟨lo, hi⟩ := p
    simp only [inB, Bool.and_eq_true, decide_eq_true_eq] at *
    have h1 := mix_le (a := lo) (b := lo) (c := a) (d := b) ha.1 hb.1 t0 t1
    have h2 := mix_le (a := a) (b := b) (c := hi) (d := hi) ha.2 hb.2 t0 t1
    rw [mix_same rfl] at h1 h2
    exact ⟨h1, h2⟩
theorem weighed_mix {e : Ev} {x : Move} {a b t : Rat} (ha : weighedB e x a = true) (hb : weighedB e x b = true) (t0 : 0 ≤ t) (t1 : t ≤ 1) : weighedB e x (a + t * (b - a)) = true := by
  unfold weighedB at *
  by_cases h : x.scale = -1
  · rw [if_pos h]
  · rw [if_neg h] at *; exact inB_mix ha hb t0 t1
theorem pure_mix {ps : List Purity} {i : Nat} {a b : List Rat} {s u t : Rat} (hl : b.length = a.length) (ha : pureB ps i a s = true) (hb : pureB ps i b u = true) (t0 : 0 ≤ t) (t1 : t ≤ 1) : pureB ps i (mixL a b t) (s + t * (u - s)) = true := by
  unfold pureB at *
  rw [List.all_eq_true] at *
  intro p hp
  have h1 := ha p hp
  have h2 := hb p hp
  by_cases hm : p.move = (i : Int)
  · simp only [hm, ne_eq, not_true_eq_false, decide_false, Bool.false_or] at *
    unfold pureOne at *
    simp only [Bool.and_eq_true, decide_eq_true_eq] at *
    rw [mixL_get hl]
    have q1 := mix_le h1.1 h2.1 t0 t1
    have q2 := mix_le h1.2 h2.2 t0 t1
    constructor <;> grind
  · simp [hm]
theorem mixL_at {a b : List Rat} {t : Rat} {m : Nat} {v : Rat} (h : (mixL a b t)[m]? = some v) : m < a.length ∧ v = a.getD m 0 + t * (b.getD m 0 - a.getD m 0) := by
  unfold mixL at h
  rw [List.getElem?_map] at h
  by_cases hm : m < a.length
  · rw [List.getElem?_range hm] at h
    injection h with h
    exact ⟨hm, h.symm⟩
  · rw [List.getElem?_eq_none (by simp; omega)] at h; cases h
theorem getD_some {l : List Rat} {m : Nat} (h : m < l.length) : l[m]? = some (l.getD m 0) := by rw [List.getD_eq_getElem?_getD, List.getElem?_eq_getElem h]; rfl
theorem takenF_mix {f g : Nat → Rat} {all : Bool} {a b : List Rat} {t : Rat} (hl : b.length = a.length) (ha : takenF f all a 0 false = 0) (hb : takenF g all b 0 false = 0) (t0 : 0 ≤ t) (t1 : t ≤ 1) :
    takenF (fun m => f m + t * (g m - f m)) all (mixL a b t) 0 false = 0 := by
  rw [takenF_zero] at *
  obtain ⟨a1, a2⟩ := ha
  obtain ⟨b1, b2⟩ := hb
  refine ⟨fun m v hv => ?_, fun hall => ⟨rfl, fun m v hv => ?_⟩⟩
  · obtain ⟨hm, rfl⟩ := mixL_at hv
    have h1 := a1 m _ (getD_some hm)
    have h2 := b1 m _ (getD_some (by omega))
    have := mix_le (a := a.getD m 0) (b := b.getD m 0) (c := f (0 + m)) (d := g (0 + m)) (by grind) (by grind) t0 t1
    grind
  · obtain ⟨hm, rfl⟩ := mixL_at hv
    have h1 := (a2 hall).2 m _ (getD_some hm)
    have h2 := (b2 hall).2 m _ (getD_some (by omega))
    have := mix_le (a := f (0 + m)) (b := g (0 + m)) (c := a.getD m 0) (d := b.getD m 0) (by grind) (by grind) t0 t1
    grind
theorem hist_mix {e : Ev} {A B : List (List Rat)} {t : Rat} (hA : histCheck e (hz A) = 0) (hB : histCheck e (hz B) = 0) (sA : Shape e A) (sB : Shape e B) (t0 : 0 ≤ t) (t1 : t ≤ 1) : histCheck e (hz (mixG A B t)) = 0 := by
  obtain ⟨q1, _, q3⟩ := histCheck_zero hA
  obtain ⟨_, _, r3⟩ := histCheck_zero hB
  rw [unhz, histE_zero] at q3 r3
  have sM : Shape e (mixG A B t) := ⟨by simp [mixG, sA.len], fun l hl => by
    unfold mixG at hl
    obtain ⟨i, hi, rfl⟩ := List.mem_map.1 hl
    have hi := List.mem_range.1 hi
    have : A[i]? = some (A[i]'hi) := List.getElem?_eq_getElem hi
    rw [List.getD_eq_getElem?_getD, this]
    have := sA.wid _ (List.mem_of_getElem? this)
    simpa [mixL] using this⟩
  rw [histCheck_ok q1, shape_ok sM, if_pos rfl, unhz, histE_zero]
  intro k x hx
  have hk : k < e.moves.length := (List.getElem?_eq_some_iff.1 hx).1
  have ha := q3 k x hx
  have hb := r3 k x hx
  have hl : (B.getD k []).length = (A.getD k []).length := by
    have h1 : A[k]? = some (A[k]'(by rw [sA.len]; exact hk)) := List.getElem?_eq_getElem _
    have h2 : B[k]? = some (B[k]'(by rw [sB.len]; exact hk)) := List.getElem?_eq_getElem _
    rw [List.getD_eq_getElem?_getD, List.getD_eq_getElem?_getD, h1, h2]
    have := sA.wid _ (List.mem_of_getElem? h1)
    have := sB.wid _ (List.mem_of_getElem? h2)
    simp only [Option.getD_some]
    omega
  unfold stepAt at *
  rw [mixG_get (by rw [sA.len]; exact hk)]
  rw [stepE_zero] at *
  obtain ⟨a1, a2, a3, a4⟩ := ha
  obtain ⟨b1, b2, b3, b4⟩ := hb
  refine ⟨fun v hv => ?_, ?_, ?_, ?_⟩
  · obtain ⟨m, hm⟩ := List.mem_iff_getElem?.1 hv
    obtain ⟨hml, rfl⟩ := mixL_at hm
    have h1 := a1 _ (List.mem_of_getElem? (getD_some hml))
    have h2 := b1 _ (List.mem_of_getElem? (getD_some (l := B.getD k []) (m := m) (by omega)))
    have := mix_le (a := 0) (b := 0) (c := (A.getD k []).getD m 0) (d := (B.getD k []).getD m 0) (by grind) (by grind) t0 t1
    grind
  · unfold takenE at *
    by_cases hkd : kindAt e x.src = 0
    · rw [if_pos hkd]
    · rw [if_neg hkd] at *
      have : stk e (mixG A B t) k x.src.toNat = fun m => stk e A k x.src.toNat m + t * (stk e B k x.src.toNat m - stk e A k x.src.toNat m) := by
        funext m; exact stk_mix sA sB k _ m
      rw [this]
      exact takenF_mix hl a2 b2 t0 t1
  · rw [sumR_mix hl]; exact weighed_mix a3 b3 t0 t1
  · rw [sumR_mix hl]; exact pure_mix hl a4 b4 t0 t1
end Go.Proofs.Ytomfnfbijgjfeaa
/- Chapter 15 in plain Lean: no place but a bin has less than nothing; at a buyer there is never less later on. No program is in sight. -/
namespace Go.Proofs.Ytomfnfbijgjfeaa
set_option linter.unusedVariables false
set_option linter.unusedSimpArgs false

theorem stk_succ {e : Ev} {G : List (List Rat)} {k : Nat} {x : Move} (hx : e.moves[k]? = some x) : stk e G (k + 1) = carryF x (hAt G k) (stk e G k) := by
  conv => lhs; unfold stk
  rw [hx]
theorem stk_end {e : Ev} {G : List (List Rat)} {k : Nat} (hx : e.moves[k]? = none) : stk e G (k + 1) = stk e G k := by
  conv => lhs; unfold stk
  rw [hx]
theorem hAt_pos {e : Ev} {G : List (List Rat)} (h : histE e G = 0) (sG : Shape e G) (k m : Nat) (hk : k < e.moves.length) : 0 ≤ hAt G k m := by
  obtain ⟨x, hx⟩ : ∃ x, e.moves[k]? = some x := ⟨_, List.getElem?_eq_getElem hk⟩
  have := histE_zero.1 h k x hx
  unfold stepAt at this
  rw [stepE_zero] at this
  unfold hAt
  by_cases hm : m < (G.getD k []).length
  · have := this.pos _ (List.mem_of_getElem? (getD_some hm))
    grind
  · rw [List.getD_eq_getElem?_getD, List.getElem?_eq_none (by omega)]; exact Rat.le_refl
theorem stk_sign {e : Ev} {G : List (List Rat)} (h0 : check e = 0) (h : histE e G = 0) (sG : Shape e G) : ∀ (k p m : Nat), (kindAt e p ≠ 0 → 0 ≤ stk e G k p m) ∧ (kindAt e p = 0 → stk e G k p m ≤ 0)
  | 0, p, m => ⟨fun _ => Rat.le_refl, fun _ => Rat.le_refl⟩
  | k + 1, p, m => by
    have ih := stk_sign h0 h sG k p m
    cases hx : e.moves[k]? with
    | none => rw [stk_end hx]; exact ih
    | some x =>
      have hk : k < e.moves.length := (List.getElem?_eq_some_iff.1 hx).1
      have hm := check_move h0 (List.mem_of_getElem? hx)
      have hp := hAt_pos h sG k m hk
      have st := histE_zero.1 h k x hx
      unfold stepAt at st
      rw [stepE_zero] at st
      rw [stk_succ hx]
      unfold carryF
      by_cases c1 : x.src = (p : Int)
      · rw [if_pos c1]
        refine ⟨fun hkd => ?_, fun hkd => by have := ih.2 hkd; grind⟩
        have ht := st.tak
        unfold takenE at ht
        rw [c1, if_neg hkd, takenF_zero] at ht
        have hi := ih.1 hkd
        unfold hAt at *
        by_cases hml : m < (G.getD k []).length
        · have := ht.1 m _ (getD_some hml)
          rw [Nat.zero_add, show ((p : Int)).toNat = p by omega] at this
          grind
        · have e0 : (G.getD k []).getD m 0 = 0 := by rw [List.getD_eq_getElem?_getD, List.getElem?_eq_none (by omega)]; rfl
          rw [e0]; grind
      · rw [if_neg c1]
        by_cases c2 : x.dst = (p : Int)
        · rw [if_pos c2]
          have hd := moveOk_dstKind hm
          rw [c2] at hd
          exact ⟨fun hkd => by have := ih.1 hkd; grind, fun hkd => absurd hkd hd⟩
        · rw [if_neg c2]; exact ih
end Go.Proofs.Ytomfnfbijgjfeaa
/- Chapter 15 in plain Lean: at a buyer there is never less later on; after a move with All nothing is left; masses of mixtures. No program is in sight. -/
namespace Go.Proofs.Ytomfnfbijgjfeaa
set_option linter.unusedVariables false
set_option linter.unusedSimpArgs false

theorem moveOk_sink {e : Ev} {x : Move} (h : moveOk e x = true) : kindAt e x.src ≠ 5 ∧ kindAt e x.src ≠ 6 := by
  unfold moveOk at h
  simp only [Bool.and_eq_true, decide_eq_true_eq] at h
  exact ⟨h.1.1.1.1.2, h.1.1.1.2⟩
theorem moveOk_all {e : Ev} {x : Move} (h : moveOk e x = true) (ha : x.all = true) : kindAt e x.src ≠ 0 := by
  unfold moveOk at h
  simp only [Bool.and_eq_true, decide_eq_true_eq] at h
  have := h.1.1.2
  rw [ha] at this
  simpa using this
theorem stk_sink {e : Ev} {G : List (List Rat)} (h0 : check e = 0) (h : histE e G = 0) (sG : Shape e G) {p : Nat} (hp : kindAt e p = 5 ∨ kindAt e p = 6) (m k : Nat) : ∀ j, stk e G k p m ≤ stk e G (k + j) p m
  | 0 => Rat.le_refl
  | j + 1 => by
    refine Rat.le_trans (stk_sink h0 h sG hp m k j) ?_
    rw [show k + (j + 1) = k + j + 1 by omega]
    cases hx : e.moves[k + j]? with
    | none => rw [stk_end hx]; exact Rat.le_refl
    | some x =>
      have hk : k + j < e.moves.length := (List.getElem?_eq_some_iff.1 hx).1
      have hm := moveOk_sink (check_move h0 (List.mem_of_getElem? hx))
      have hz := hAt_pos h sG (k + j) m hk
      rw [stk_succ hx]
      unfold carryF
      by_cases c1 : x.src = (p : Int)
      · rw [c1] at hm
        rcases hp with hp | hp
        · exact absurd hp hm.1
        · exact absurd hp hm.2
      · rw [if_neg c1]
        split
        · grind
        · exact Rat.le_refl
theorem stk_allZ {e : Ev} {G : List (List Rat)} (h0 : check e = 0) (h : histE e G = 0) (sG : Shape e G) {i m : Nat} {x : Move} (hx : e.moves[i]? = some x) (ha : x.all = true) (hm : m < e.mats.toNat) : stk e G (i + 1) x.src.toNat m = 0 := by
  have hi : i < e.moves.length := (List.getElem?_eq_some_iff.1 hx).1
  have hmo := check_move h0 (List.mem_of_getElem? hx)
  have hs := moveOk_src hmo
  have st := histE_zero.1 h i x hx
  unfold stepAt at st
  rw [stepE_zero] at st
  have ht := st.tak
  unfold takenE at ht
  rw [if_neg (moveOk_all hmo ha), takenF_zero] at ht
  have hl : m < (G.getD i []).length := by
    have h1 : G[i]? = some (G[i]'(by rw [sG.len]; exact hi)) := List.getElem?_eq_getElem _
    rw [List.getD_eq_getElem?_getD, h1]
    have := sG.wid _ (List.mem_of_getElem? h1)
    simp only [Option.getD_some]
    omega
  have t1 := ht.1 m _ (getD_some hl)
  have t2 := (ht.2 ha).2 m _ (getD_some hl)
  rw [Nat.zero_add] at t1 t2
  rw [stk_succ hx]
  unfold carryF
  rw [if_pos (by omega)]
  unfold hAt
  grind
theorem hz_getD (G : List (List Rat)) (i : Nat) : (hz G).getD i [] = (G.getD i []).map fz := by
  unfold hz
  rw [List.getD_eq_getElem?_getD, List.getD_eq_getElem?_getD, List.getElem?_map]
  cases G[i]? <;> rfl
theorem mixG_getD {e : Ev} {A B : List (List Rat)} {t : Rat} (sA : Shape e A) (sB : Shape e B) (i : Nat) : (mixG A B t).getD i [] = mixL (A.getD i []) (B.getD i []) t ∧ (B.getD i []).length = (A.getD i []).length := by
  by_cases h : i < A.length
  · refine ⟨mixG_get h, ?_⟩
    have h1 : A[i]? = some (A[i]'h) := List.getElem?_eq_getElem _
    have h2 : B[i]? = some (B[i]'(by rw [sB.len, ← sA.len]; exact h)) := List.getElem?_eq_getElem _
    rw [List.getD_eq_getElem?_getD, List.getD_eq_getElem?_getD, h1, h2]
    have := sA.wid _ (List.mem_of_getElem? h1)
    have := sB.wid _ (List.mem_of_getElem? h2)
    simp only [Option.getD_some]
    omega
  · have hl : B.length = A.length := by rw [sB.len, sA.len]
    rw [List.getD_eq_getElem?_getD, List.getD_eq_getElem?_getD, List.getD_eq_getElem?_getD, List.getElem?_eq_none (l := mixG A B t) (by simp [mixG]; omega), List.getElem?_eq_none (l := A) (by omega), List.getElem?_eq_none (l := B) (by omega)]
    exact ⟨rfl, rfl⟩
theorem mix_shape {e : Ev} {A B : List (List Rat)} {t : Rat} (sA : Shape e A) : Shape e (mixG A B t) := ⟨by simp [mixG, sA.len], fun l hl => by
    unfold mixG at hl
    obtain ⟨i, hi, rfl⟩ := List.mem_map.1 hl
    have hi := List.mem_range.1 hi
    have : A[i]? = some (A[i]'hi) := List.getElem?_eq_getElem hi
    rw [List.getD_eq_getElem?_getD, this]
    have := sA.wid _ (List.mem_of_getElem? this)
    simpa [mixL] using this⟩
end Go.Proofs.Ytomfnfbijgjfeaa
/- Chapters 15 and 24 in plain Lean: what has a mass carries something of the one lift that has one. No program is in sight. -/
namespace Go.Proofs.Ytomfnfbijgjfeaa
set_option linter.unusedVariables false
set_option linter.unusedSimpArgs false

def heavyL (l : List Rat) : Bool := l.any fun v => decide (0 < v)
/-- no lift but the move m has a mass, and no blocked move -/
def OneLift (e : Ev) (G : List (List Rat)) (bl : List Bool) (m : Nat) : Prop :=
  ∀ i x, e.moves[i]? = some x → heavyL (G.getD i []) = true → bl.getD i true = false ∧ (i = m ∨ kindAt e x.src ≠ 0)
theorem heavy_getD {l : List Rat} {m : Nat} (h : 0 < l.getD m 0) : heavyL l = true := by
  by_cases hm : m < l.length
  · exact List.any_eq_true.2 ⟨_, List.mem_of_getElem? (getD_some hm), decide_eq_true h⟩
  · rw [List.getD_eq_getElem?_getD, List.getElem?_eq_none (by omega)] at h; exact absurd h (by decide)
theorem heavy_some {l : List Rat} (h : heavyL l = true) : ∃ m, m < l.length ∧ 0 < l.getD m 0 := by
  obtain ⟨v, hv, h0⟩ := List.any_eq_true.1 h
  obtain ⟨m, hm, rfl⟩ := List.getElem_of_mem hv
  refine ⟨m, hm, ?_⟩
  rw [List.getD_eq_getElem?_getD, List.getElem?_eq_getElem hm]
  exact of_decide_eq_true h0
/-- what a heavy move takes lies at the place that it leaves -/
theorem heavy_src {e : Ev} {G : List (List Rat)} (h : histE e G = 0) {i : Nat} {x : Move} (hx : e.moves[i]? = some x) (hk : kindAt e x.src ≠ 0) (hv : heavyL (G.getD i []) = true) : ∃ m, m < (G.getD i []).length ∧ 0 < stk e G i x.src.toNat m := by
  have st := histE_zero.1 h i x hx
  unfold stepAt at st
  rw [stepE_zero] at st
  have ht := st.tak
  unfold takenE at ht
  rw [if_neg hk, takenF_zero] at ht
  obtain ⟨m, hm, h0⟩ := heavy_some hv
  have := ht.1 m _ (getD_some hm)
  rw [Nat.zero_add] at this
  exact ⟨m, hm, by grind⟩
/-- nothing is at places that are no bins -/
def Bare (e : Ev) (G : List (List Rat)) (k : Nat) : Prop := ∀ p m : Nat, kindAt e p ≠ 0 → stk e G k p m = 0
theorem light_hAt {e : Ev} {G : List (List Rat)} (h : histE e G = 0) (sG : Shape e G) {k : Nat} (hk : k < e.moves.length) (hv : heavyL (G.getD k []) = false) (m : Nat) : hAt G k m = 0 := by
  have h1 := hAt_pos h sG k m hk
  by_cases h2 : 0 < hAt G k m
  · have : heavyL (G.getD k []) = true := heavy_getD h2
    rw [this] at hv; cases hv
  · grind
theorem stk_light {e : Ev} {G : List (List Rat)} (h : histE e G = 0) (sG : Shape e G) {k : Nat} (hk : k < e.moves.length) (hv : heavyL (G.getD k []) = false) (p m : Nat) : stk e G (k + 1) p m = stk e G k p m := by
  obtain ⟨x, hx⟩ : ∃ x, e.moves[k]? = some x := ⟨_, List.getElem?_eq_getElem hk⟩
  rw [stk_succ hx]
  unfold carryF
  rw [light_hAt h sG hk hv]
  split
  · grind
  · split
    · grind
    · rfl
theorem bare_succ {e : Ev} {G : List (List Rat)} {bl : List Bool} {m : Nat} (h : histE e G = 0) (sG : Shape e G) (ho : OneLift e G bl m) {k : Nat} (hk : k < e.moves.length) (hb : Bare e G k) (hm : k ≠ m ∨ bl.getD k true = true) : heavyL (G.getD k []) = false ∧ Bare e G (k + 1) := by
  have hv : heavyL (G.getD k []) = false := by
    rw [← Bool.not_eq_true]
    intro hv
    obtain ⟨x, hx⟩ : ∃ x, e.moves[k]? = some x := ⟨_, List.getElem?_eq_getElem hk⟩
    obtain ⟨h1, h2⟩ := ho k x hx hv
    rcases hm with hm | hm
    · rcases h2 with h2 | h2
      · exact hm h2
      · obtain ⟨j, _, hj⟩ := heavy_src h hx h2 hv
        rcases Int.lt_or_le x.src 0 with hs | hs
        · unfold kindAt at h2
          have st : stk e G k x.src.toNat j = 0 ∨ True := .inr trivial
          by_cases hz : kindAt e ((x.src.toNat : Nat) : Int) ≠ 0
          · rw [hb _ _ hz] at hj; exact absurd hj (by decide)
          · have e0 : ((x.src.toNat : Nat) : Int).toNat = x.src.toNat := by omega
            unfold kindAt at hz
            rw [e0] at hz
            exact hz h2
        · have : stk e G k x.src.toNat j = 0 := hb _ _ (by rw [show ((x.src.toNat : Nat) : Int) = x.src by omega]; exact h2)
          rw [this] at hj; exact absurd hj (by decide)
    · rw [h1] at hm; cases hm
  exact ⟨hv, fun p j hp => by rw [stk_light h sG hk hv]; exact hb p j hp⟩
theorem bare_to {e : Ev} {G : List (List Rat)} {bl : List Bool} {m : Nat} (h : histE e G = 0) (sG : Shape e G) (ho : OneLift e G bl m) : ∀ k, k ≤ m → k ≤ e.moves.length → Bare e G k
  | 0, _, _ => fun _ _ _ => rfl
  | k + 1, h1, h2 => (bare_succ h sG ho (by omega) (bare_to h sG ho k (by omega) (by omega)) (.inl (by omega))).2
theorem bare_all {e : Ev} {G : List (List Rat)} {bl : List Bool} {m : Nat} (h : histE e G = 0) (sG : Shape e G) (ho : OneLift e G bl m) (hbm : bl.getD m true = true) : ∀ k, k ≤ e.moves.length → Bare e G k
  | 0, _ => fun _ _ _ => rfl
  | k + 1, h2 => by
    refine (bare_succ h sG ho (by omega) (bare_all h sG ho hbm k (by omega)) ?_).2
    by_cases hk : k = m
    · subst hk; exact .inr hbm
    · exact .inl hk
theorem flow_true {bl : List Bool} {i : Nat} {x : Move} {a : List Bool} {p : Nat} (hp : a.getD p false = true) (h : ¬ (p = x.src.toNat ∧ x.all = true)) : (flowStep bl i x a).getD p false = true := by
  have hpl : p < a.length := by
    rcases Nat.lt_or_ge p a.length with h | h
    · exact h
    · rw [List.getD_eq_getElem?_getD, List.getElem?_eq_none h] at hp; cases hp
  have hset : ∀ q, (a.set q true).getD p false = true := fun q => by
    rw [List.getD_eq_getElem?_getD, List.getElem?_set]
    by_cases hq : q = p
    · subst hq; simp [hpl]
    · rw [if_neg hq, ← List.getD_eq_getElem?_getD]; exact hp
  have hfix : (cond (bl.getD i true) a (a.set x.dst.toNat true)).getD p false = true := by
    cases bl.getD i true
    · exact hset _
    · exact hp
  unfold flowStep
  cases a.getD x.src.toNat false with
  | false => exact hp
  | true =>
    cases hal : x.all with
    | false => exact hfix
    | true =>
      have hne : x.src.toNat ≠ p := fun hq => h ⟨hq.symm, hal⟩
      show ((cond (bl.getD i true) a (a.set x.dst.toNat true)).set x.src.toNat false).getD p false = true
      rw [List.getD_eq_getElem?_getD, List.getElem?_set, if_neg hne, ← List.getD_eq_getElem?_getD]
      exact hfix
theorem flow_dst {bl : List Bool} {i : Nat} {x : Move} {a : List Bool} (hs : a.getD x.src.toNat false = true) (hb : bl.getD i true = false) (hd : x.dst.toNat < a.length) (hne : x.src.toNat ≠ x.dst.toNat) : (flowStep bl i x a).getD x.dst.toNat false = true := by
  have h1 : (a.set x.dst.toNat true).getD x.dst.toNat false = true := by rw [List.getD_eq_getElem?_getD, List.getElem?_set, if_pos rfl, if_pos hd]; rfl
  unfold flowStep
  rw [hs, hb]
  cases x.all with
  | false => exact h1
  | true =>
    show ((a.set x.dst.toNat true).set x.src.toNat false).getD x.dst.toNat false = true
    rw [List.getD_eq_getElem?_getD, List.getElem?_set, if_neg hne, ← List.getD_eq_getElem?_getD]
    exact h1
/-- where something is, something of the lift can be -/
def Reached (e : Ev) (G : List (List Rat)) (bl : List Bool) (m d k : Nat) : Prop :=
  ∀ p j : Nat, j < e.mats.toNat → kindAt e p ≠ 0 → stk e G (m + 1 + k) p j ≠ 0 → (atTo e bl m d k).getD p false = true
theorem reached {e : Ev} {G : List (List Rat)} {bl : List Bool} {m : Nat} {xm : Move} (h0 : check e = 0) (h : histE e G = 0) (sG : Shape e G) (ho : OneLift e G bl m) (hxm : e.moves[m]? = some xm) (hbin : kindAt e xm.src = 0) :
    ∀ k, m + 1 + k ≤ e.moves.length → Reached e G bl m xm.dst.toNat k
  | 0, hk => by
    intro p j hj hp hs
    have hb := bare_to h sG ho m (Nat.le_refl _) (by omega)
    have hmo := check_move h0 (List.mem_of_getElem? hxm)
    have md := moveOk_dst hmo
    rw [Nat.add_zero, stk_succ hxm] at hs
    unfold carryF at hs
    by_cases c1 : xm.src = (p : Int)
    · rw [← c1] at hp; exact absurd hbin hp
    · rw [if_neg c1] at hs
      by_cases c2 : xm.dst = (p : Int)
      · have : xm.dst.toNat = p := by omega
        show ((List.replicate e.places.length false).set xm.dst.toNat true).getD p false = true
        rw [this, List.getD_eq_getElem?_getD, List.getElem?_set, if_pos rfl, if_pos (by simp; omega)]; rfl
      · rw [if_neg c2] at hs; exact absurd (hb p j hp) hs
  | k + 1, hk => by
    intro p j hj hp hs
    have ih := reached h0 h sG ho hxm hbin k (by omega)
    obtain ⟨x, hx⟩ : ∃ x, e.moves[m + 1 + k]? = some x := ⟨_, List.getElem?_eq_getElem (by omega)⟩
    have hmo := check_move h0 (List.mem_of_getElem? hx)
    have ms := moveOk_src hmo
    have md := moveOk_dst hmo
    have hne : x.src ≠ x.dst := by unfold moveOk at hmo; simp only [Bool.and_eq_true, decide_eq_true_eq] at hmo; exact hmo.1.1.1.1.1.2
    rw [atTo_succ hx]
    rw [show m + 1 + (k + 1) = m + 1 + k + 1 by omega] at hs
    by_cases ha : p = x.src.toNat ∧ x.all = true
    · have := stk_allZ h0 h sG hx ha.2 (m := j) hj
      rw [← ha.1] at this
      exact absurd this hs
    by_cases hst : stk e G (m + 1 + k) p j = 0
    · -- something came
      have hv : heavyL (G.getD (m + 1 + k) []) = true := by
        rw [← Bool.not_eq_false]
        intro hv
        rw [stk_light h sG (by omega) hv] at hs
        exact hs hst
      have c : x.dst = (p : Int) ∨ x.src = (p : Int) := by
        rw [stk_succ hx] at hs
        unfold carryF at hs
        by_cases c1 : x.src = (p : Int)
        · exact .inr c1
        · by_cases c2 : x.dst = (p : Int)
          · exact .inl c2
          · rw [if_neg c1, if_neg c2] at hs; exact absurd hst hs
      obtain ⟨q1, q2⟩ := ho _ x hx hv
      have hk2 : kindAt e x.src ≠ 0 := by
        rcases q2 with q2 | q2
        · omega
        · exact q2
      obtain ⟨j2, hj2, h3⟩ := heavy_src h hx hk2 hv
      have hj2 : j2 < e.mats.toNat := by
        have h1 : G[m + 1 + k]? = some (G[m + 1 + k]'(by rw [sG.len]; omega)) := List.getElem?_eq_getElem _
        rw [List.getD_eq_getElem?_getD, h1] at hj2
        have := sG.wid _ (List.mem_of_getElem? h1)
        simp only [Option.getD_some] at hj2
        omega
      have hsrc := ih x.src.toNat j2 hj2 (by rw [show ((x.src.toNat : Nat) : Int) = x.src by omega]; exact hk2) (by grind)
      rcases c with c | c
      · have : p = x.dst.toNat := by omega
        rw [this]
        exact flow_dst hsrc q1 (by rw [atTo_len]; omega) (by omega)
      · have : p = x.src.toNat := by omega
        rw [this] at ha ⊢
        exact flow_true hsrc ha
    · exact flow_true (ih p j hj hp hst) ha
theorem mass_moves {e : Ev} {G : List (List Rat)} {bl : List Bool} {m : Nat} {xm : Move} (h0 : check e = 0) (h : histE e G = 0) (sG : Shape e G) (ho : OneLift e G bl m) (hxm : e.moves[m]? = some xm) (hbin : kindAt e xm.src = 0)
    {i : Nat} {x : Move} (hx : e.moves[i]? = some x) (hi : i ≠ m) (hv : heavyL (G.getD i []) = true) : carB e bl m xm.dst.toNat i x = true := by
  have hil : i < e.moves.length := (List.getElem?_eq_some_iff.1 hx).1
  have hmi : m < i := by
    rcases Nat.lt_or_ge m i with h1 | h1
    · exact h1
    · have := (bare_succ h sG ho hil (bare_to h sG ho i h1 (by omega)) (.inl hi)).1
      rw [this] at hv; cases hv
  have hmo := check_move h0 (List.mem_of_getElem? hx)
  have ms := moveOk_src hmo
  obtain ⟨q1, q2⟩ := ho _ x hx hv
  have hk2 : kindAt e x.src ≠ 0 := by
    rcases q2 with q2 | q2
    · omega
    · exact q2
  obtain ⟨j2, hj2, h3⟩ := heavy_src h hx hk2 hv
  have hj2 : j2 < e.mats.toNat := by
    have h1 : G[i]? = some (G[i]'(by rw [sG.len]; omega)) := List.getElem?_eq_getElem _
    rw [List.getD_eq_getElem?_getD, h1] at hj2
    have := sG.wid _ (List.mem_of_getElem? h1)
    simp only [Option.getD_some] at hj2
    omega
  have hr := reached h0 h sG ho hxm hbin (i - (m + 1)) (by omega) x.src.toNat j2 hj2 (by rw [show ((x.src.toNat : Nat) : Int) = x.src by omega]; exact hk2) (by rw [show m + 1 + (i - (m + 1)) = i by omega]; grind)
  unfold carB
  rw [hr, q1]
  simp [hmi]
theorem mass_places {e : Ev} {G : List (List Rat)} {bl : List Bool} {m : Nat} {xm : Move} (h0 : check e = 0) (h : histE e G = 0) (sG : Shape e G) (ho : OneLift e G bl m) (hxm : e.moves[m]? = some xm) (hbin : kindAt e xm.src = 0)
    {p j : Nat} (hj : j < e.mats.toNat) (hp : kindAt e p ≠ 0) (hs : 0 < stk e G e.moves.length p j) : (atTo e bl m xm.dst.toNat (e.moves.length - (m + 1))).getD p false = true := by
  have hm : m < e.moves.length := (List.getElem?_eq_some_iff.1 hxm).1
  exact reached h0 h sG ho hxm hbin (e.moves.length - (m + 1)) (by omega) p j hj hp (by rw [show m + 1 + (e.moves.length - (m + 1)) = e.moves.length by omega]; grind)
theorem any_mem {l : List Int} {n : Int} (h : n ∈ l) : (l.any fun x => decide (x = n)) = true := List.any_eq_true.2 ⟨n, h, decide_eq_true rfl⟩
theorem light_all {e : Ev} {G : List (List Rat)} {bl : List Bool} {m : Nat} (h : histE e G = 0) (sG : Shape e G) (ho : OneLift e G bl m) (hbm : bl.getD m true = true) {i : Nat} (hi : i < e.moves.length) : heavyL (G.getD i []) = false := by
  refine (bare_succ h sG ho hi (bare_all h sG ho hbm i (by omega)) ?_).1
  by_cases hk : i = m
  · subst hk; exact .inr hbm
  · exact .inl hk
end Go.Proofs.Ytomfnfbijgjfeaa
/- ReachMass: its walk. -/
namespace Go.Proofs.Ytomfnfbijgjfeaa
open Go.RowKit
set_option linter.unusedVariables false
set_option linter.unusedSimpArgs false
set_option maxRecDepth 100000

theorem fine_iff24 {e : Ev} {n : Int} (h : fineB e n = true) : e.Sized ∧ check e = 0 ∧ (e.moves.length : Int) ≤ n := by
  unfold fineB at h
  simp only [Bool.and_eq_true, decide_eq_true_eq] at h
  exact ⟨few_sized h.1.1, h.2, h.1.2⟩
def lightF (f : Fr) : Bool := decide (f.p.dl.length ≤ 6) && decide (f.q.dl.length ≤ 6)
def lightH (hh : List (List Fr)) : Bool := hh.all fun l => l.all lightF
theorem light_small {hh : List (List Fr)} (h : lightH hh = true) : ∀ l ∈ hh, ∀ f ∈ l, f.p.dl.length ≤ 200 ∧ f.q.dl.length ≤ 200 := fun l hl f hf => by
  have := List.all_eq_true.1 (List.all_eq_true.1 h l hl) f hf
  unfold lightF at this
  simp only [Bool.and_eq_true, decide_eq_true_eq] at this
  omega
theorem rs_hist_bound {w : World} {ι : Io} {M : Ms} {hh : List (List Fr)} {v : Value} (h : RS w ι M (histS hh) v) : ∀ l ∈ hh, l.length ≤ 9223372036854775807 := by
  intro l hl
  obtain ⟨i, hi, rfl⟩ := List.getElem_of_mem hl
  cases h with
  | c h => cases h with
    | t h => cases h with
      | sl f hrow hcap hmax hk hn hA hc hr hx =>
        have := hr i 0 (fracsT hh[i]) (at2_some (row := fracsRow hh[i]) (by rw [List.getElem?_map, List.getElem?_eq_getElem hi]; rfl) rfl)
        cases hz : f i 0 with
        | slice A n c =>
          rw [hz] at this
          cases this with
          | sl f2 hrow2 hcap2 hmax2 hk2 hn2 hA2 hc2 hr2 hx2 =>
            unfold maxLen at hmax2
            simp at hcap2
            omega
        | _ => rw [hz] at this; cases this
theorem a_light24 (hh : List (List Fr)) (h1 : hh.length ≤ 1000000) (h2 : ∀ l ∈ hh, l.length ≤ 9223372036854775807) : ACall Try.prog 32 [histS hh] [] (boolS (lightH hh)) [] := by
  have m1 : (hh.map fracsRow).length = hh.length := by simp
  (refine acall_of tab_ok Try.func32 rfl (by decide) ?_; (conv => whnf); repeat (first | (refine LitB.data ?_; conv => whnf) | (refine BoxB.data ?_; conv => whnf)))
  (repeat' (first | ((refine DecB.mk (fun h => ?_) (fun h => ?_)) <;> first | (exfalso; omega) | (conv => whnf)) | ((refine BoolB.mk (fun h => ?_) (fun h => ?_)) <;> first | (exact absurd h (by decide)) | (conv => whnf)) | (refine ⟨_, wrap_ok (by omega) (by omega), ?_⟩; conv => whnf) | (refine and_idx (by omega) (by omega) ?_; conv => whnf) | (refine reg_ok (by decide +kernel) ?_; conv => whnf) | (refine bar_ok (by decide +kernel) (by decide +kernel) ?_; conv => whnf) | (refine late_ok rfl rfl ?_; conv => whnf) | (refine src_ok rfl ?_; conv => whnf) | (refine LitB.data ?_; conv => whnf) | (refine BoxB.own ?_; conv => whnf)))
  refine awp_for tab_ok (fun k => ([histS hh, S.junk, S.junk, intS .i64 k, S.junk, S.junk, S.junk, S.junk, S.junk, S.junk, S.junk, S.junk, S.junk, S.junk, S.junk, S.junk, S.junk, S.junk, S.junk, S.junk, S.junk, S.junk, S.junk, S.junk, S.junk, S.junk, S.junk, S.junk, S.junk, S.junk, S.junk, S.junk, S.junk, S.junk, S.junk, S.junk, S.junk, S.junk, S.junk, S.junk, S.junk, S.junk, S.junk, S.junk], [])) hh.length (fun k => (hh.take k).all (fun l => l.all lightF) = true) [] rfl
    ⟨rfl, rfl, trivial, ⟨rfl, rfl, trivial⟩⟩ ?_
  intro k hk hI
  by_cases hlt : k < hh.length
  · obtain ⟨l, hl⟩ : ∃ l, hh[k]? = some l := ⟨_, List.getElem?_eq_getElem hlt⟩
    have b2 := h2 l (List.mem_of_getElem? hl)
    have m3 : (l.map frRow).length = l.length := by simp
    conv => whnf
    (repeat' (first | ((refine DecB.mk (fun h => ?_) (fun h => ?_)) <;> first | (exfalso; omega) | (conv => whnf)) | ((refine BoolB.mk (fun h => ?_) (fun h => ?_)) <;> first | (exact absurd h (by decide)) | (conv => whnf)) | (refine ⟨_, wrap_ok (by omega) (by omega), ?_⟩; conv => whnf) | (refine and_idx (by omega) (by omega) ?_; conv => whnf) | (refine reg_ok (by decide +kernel) ?_; conv => whnf) | (refine bar_ok (by decide +kernel) (by decide +kernel) ?_; conv => whnf) | (refine late_ok rfl rfl ?_; conv => whnf) | (refine src_ok rfl ?_; conv => whnf) | (refine LitB.data ?_; conv => whnf) | (refine BoxB.own ?_; conv => whnf)))
    all_goals try (exfalso; omega)
    refine awp_for tab_ok (fun j => ([histS hh, S.junk, S.junk, intS .i64 k, intS .i64 j, S.junk, S.junk, S.junk, S.junk, S.junk, S.junk, S.junk, S.junk, S.junk, S.junk, S.junk, S.junk, S.junk, S.junk, S.junk, S.junk, S.junk, S.junk, S.junk, S.junk, S.junk, S.junk, S.junk, S.junk, S.junk, S.junk, S.junk, S.junk, S.junk, S.junk, S.junk, S.junk, S.junk, S.junk, S.junk, S.junk, S.junk, S.junk, S.junk], [])) l.length (fun j => (l.take j).all lightF = true) [] rfl
      ⟨rfl, rfl, trivial, ⟨rfl, rfl, rfl, trivial⟩⟩ ?_
    intro j hj hJ
    by_cases hjt : j < l.length
    · obtain ⟨f, hf⟩ : ∃ f, l[j]? = some f := ⟨_, List.getElem?_eq_getElem hjt⟩
      have m4 : (f.p.dl.map intRow).length = f.p.dl.length := by simp
      have m5 : (f.q.dl.map intRow).length = f.q.dl.length := by simp
      by_cases hff : f.p.dl.length ≤ 6 ∧ f.q.dl.length ≤ 6
      · have e1 : lightF f = true := by unfold lightF; simp [hff.1, hff.2]
        conv => whnf
        (repeat' (first | ((refine DecB.mk (fun h => ?_) (fun h => ?_)) <;> first | (exfalso; omega) | (conv => whnf)) | ((refine BoolB.mk (fun h => ?_) (fun h => ?_)) <;> first | (exact absurd h (by decide)) | (conv => whnf)) | (refine ⟨_, wrap_ok (by omega) (by omega), ?_⟩; conv => whnf) | (refine and_idx (by omega) (by omega) ?_; conv => whnf) | (refine reg_ok (by decide +kernel) ?_; conv => whnf) | (refine bar_ok (by decide +kernel) (by decide +kernel) ?_; conv => whnf) | (refine late_ok rfl rfl ?_; conv => whnf) | (refine src_ok rfl ?_; conv => whnf) | (refine ex_row hl ?_; conv => whnf) | (refine ex_row hf ?_; conv => whnf) | (refine LitB.data ?_; conv => whnf) | (refine BoxB.own ?_; conv => whnf)))
        all_goals first
          | (exfalso; omega)
          | exact ⟨hjt, by rw [all_take_succ hf, hJ, e1]; rfl, [], rfl, rfl, trivial, ⟨rfl, rfl, rfl, trivial⟩⟩
      · have e1 : lightF f = false := by unfold lightF; simp; omega
        have e2 : lightH hh = false := by unfold lightH; exact all_of_get hl (all_of_get hf e1)
        rw [e2]
        conv => whnf
        (repeat' (first | ((refine DecB.mk (fun h => ?_) (fun h => ?_)) <;> first | (exfalso; omega) | (conv => whnf)) | ((refine BoolB.mk (fun h => ?_) (fun h => ?_)) <;> first | (exact absurd h (by decide)) | (conv => whnf)) | (refine ⟨_, wrap_ok (by omega) (by omega), ?_⟩; conv => whnf) | (refine and_idx (by omega) (by omega) ?_; conv => whnf) | (refine reg_ok (by decide +kernel) ?_; conv => whnf) | (refine bar_ok (by decide +kernel) (by decide +kernel) ?_; conv => whnf) | (refine late_ok rfl rfl ?_; conv => whnf) | (refine src_ok rfl ?_; conv => whnf) | (refine ex_row hl ?_; conv => whnf) | (refine ex_row hf ?_; conv => whnf) | (refine LitB.data ?_; conv => whnf) | (refine BoxB.own ?_; conv => whnf)))
        all_goals first
          | (exfalso; omega)
          | exact fin_bool rfl
    · have hje : j = l.length := by omega
      subst hje
      have hJ2 := all_take_full hJ
      conv => whnf
      (repeat' (first | ((refine DecB.mk (fun h => ?_) (fun h => ?_)) <;> first | (exfalso; omega) | (conv => whnf)) | ((refine BoolB.mk (fun h => ?_) (fun h => ?_)) <;> first | (exact absurd h (by decide)) | (conv => whnf)) | (refine ⟨_, wrap_ok (by omega) (by omega), ?_⟩; conv => whnf) | (refine and_idx (by omega) (by omega) ?_; conv => whnf) | (refine reg_ok (by decide +kernel) ?_; conv => whnf) | (refine bar_ok (by decide +kernel) (by decide +kernel) ?_; conv => whnf) | (refine late_ok rfl rfl ?_; conv => whnf) | (refine src_ok rfl ?_; conv => whnf) | (refine ex_row hl ?_; conv => whnf) | (refine LitB.data ?_; conv => whnf) | (refine BoxB.own ?_; conv => whnf)))
      all_goals first
        | (exfalso; omega)
        | exact ⟨hlt, by rw [all_take_succ hl, hI, hJ2]; rfl, [], rfl, rfl, trivial, ⟨rfl, rfl, trivial⟩⟩
  · have hke : k = hh.length := by omega
    subst hke
    have hI2 := all_take_full hI
    conv => whnf
    (repeat' (first | ((refine DecB.mk (fun h => ?_) (fun h => ?_)) <;> first | (exfalso; omega) | (conv => whnf)) | ((refine BoolB.mk (fun h => ?_) (fun h => ?_)) <;> first | (exact absurd h (by decide)) | (conv => whnf)) | (refine ⟨_, wrap_ok (by omega) (by omega), ?_⟩; conv => whnf) | (refine and_idx (by omega) (by omega) ?_; conv => whnf) | (refine reg_ok (by decide +kernel) ?_; conv => whnf) | (refine bar_ok (by decide +kernel) (by decide +kernel) ?_; conv => whnf) | (refine late_ok rfl rfl ?_; conv => whnf) | (refine src_ok rfl ?_; conv => whnf) | (refine LitB.data ?_; conv => whnf) | (refine BoxB.own ?_; conv => whnf)))
    all_goals first
      | (exfalso; omega)
      | exact fin_bool hI2.symm
theorem a_shaped2 (e : Ev) (hh : List (List Fr)) (hmat : e.mats ≤ 6) (l1 : hh.length ≤ 1000000) (hs3 : ∀ l ∈ hh, ∀ f ∈ l, f.p.dl.length ≤ 200000 ∧ f.q.dl.length ≤ 200000) (hm : e.moves.length ≤ 1000000) : ACall Try.prog 66 [evS e, histS hh] [] (boolS (shapedB e hh)) [] := by
  have m1 : (hh.map fracsRow).length = hh.length := by simp
  have m2 : (e.moves.map Move.row).length = e.moves.length := by simp
  let P : List Fr → Bool := fun l => decide ((l.length : Int) = e.mats) && l.all rightF
  have hP : shapedB e hh = (decide (hh.length = e.moves.length) && hh.all P) := rfl
  by_cases hlen : hh.length = e.moves.length
  · (refine acall_of tab_ok Try.func66 rfl (by decide) ?_; (conv => whnf); repeat (first | (refine LitB.data ?_; conv => whnf) | (refine BoxB.data ?_; conv => whnf)))
    (repeat' (first | ((refine DecB.mk (fun h => ?_) (fun h => ?_)) <;> first | (exfalso; omega) | (conv => whnf)) | ((refine BoolB.mk (fun h => ?_) (fun h => ?_)) <;> first | (exact absurd h (by decide)) | (conv => whnf)) | (refine ⟨_, wrap_ok (by omega) (by omega), ?_⟩; conv => whnf) | (refine and_idx (by omega) (by omega) ?_; conv => whnf) | (refine reg_ok (by decide +kernel) ?_; conv => whnf) | (refine bar_ok (by decide +kernel) (by decide +kernel) ?_; conv => whnf) | (refine late_ok rfl rfl ?_; conv => whnf) | (refine src_ok rfl ?_; conv => whnf) | (refine LitB.data ?_; conv => whnf) | (refine BoxB.own ?_; conv => whnf)))
    refine awp_for tab_ok (fun k => ([S.junk, S.junk, S.c (C.t (evP e)), S.junk, S.junk, S.junk, S.junk, S.junk, S.junk, S.junk, S.junk, S.junk, S.junk, S.junk, S.junk, histS hh, intS .i64 hh.length, intS .i64 k, S.junk, S.junk, S.junk, S.junk, S.junk, S.junk, S.junk, S.junk, S.junk, S.junk, S.junk, S.junk, S.junk, S.junk, S.junk, S.junk, S.junk, S.junk, S.junk], [])) hh.length (fun k => (hh.take k).all P = true) [] rfl
      ⟨rfl, rfl, trivial, ⟨rfl, ent_t rfl, ent_i (by simp), rfl, trivial⟩⟩ ?_
    intro k hk hI
    by_cases hlt : k < hh.length
    · obtain ⟨l, hl⟩ : ∃ l, hh[k]? = some l := ⟨_, List.getElem?_eq_getElem hlt⟩
      have hmem := List.mem_of_getElem? hl
      have m3 : (l.map frRow).length = l.length := by simp
      have hall : (hh.take (k + 1)).all P = P l := by rw [all_take_succ hl, hI, Bool.true_and]
      conv => whnf
      (repeat' (first | ((refine DecB.mk (fun h => ?_) (fun h => ?_)) <;> first | (exfalso; omega) | (conv => whnf)) | ((refine BoolB.mk (fun h => ?_) (fun h => ?_)) <;> first | (exact absurd h (by decide)) | (conv => whnf)) | (refine ⟨_, wrap_ok (by omega) (by omega), ?_⟩; conv => whnf) | (refine and_idx (by omega) (by omega) ?_; conv => whnf) | (refine reg_ok (by decide +kernel) ?_; conv => whnf) | (refine bar_ok (by decide +kernel) (by decide +kernel) ?_; conv => whnf) | (refine late_ok rfl rfl ?_; conv => whnf) | (refine src_ok rfl ?_; conv => whnf) | (refine ex_row hl ?_; conv => whnf) | (refine LitB.data ?_; conv => whnf) | (refine BoxB.own ?_; conv => whnf)))
      · have hd : ¬ (l.length : Int) = e.mats := by omega
        refine fin_bool ?_
        rw [hP, all_of_get hl (by simp [P, hd])]; simp
      · have hd : (l.length : Int) = e.mats := by omega
        refine awp_for tab_ok (fun j => ([S.junk, S.junk, S.c (C.t (evP e)), S.junk, S.junk, S.junk, S.junk, S.junk, S.junk, S.junk, S.junk, S.junk, S.junk, S.junk, S.junk, histS hh, intS .i64 hh.length, intS .i64 k, S.junk, S.junk, S.junk, S.junk, S.junk, S.junk, S.junk, S.junk, fracsS l, intS .i64 l.length, intS .i64 j, S.junk, S.junk, S.junk, S.junk, S.junk, S.junk, S.junk, S.junk], [])) l.length (fun j => (l.take j).all rightF = true) [] rfl
          ⟨rfl, rfl, trivial, ⟨rfl, rfl, rfl, rfl, ent_t rfl, ent_i (by simp), rfl, trivial⟩⟩ ?_
        intro j hj hJ
        by_cases hjt : j < l.length
        · obtain ⟨f, hf⟩ : ∃ f, l[j]? = some f := ⟨_, List.getElem?_eq_getElem hjt⟩
          have l3 := hs3 l hmem f (List.mem_of_getElem? hf)
          have r := a_fRight f l3.1 l3.2
          conv => whnf
          (repeat' (first | ((refine DecB.mk (fun h => ?_) (fun h => ?_)) <;> first | (exfalso; omega) | (conv => whnf)) | ((refine BoolB.mk (fun h => ?_) (fun h => ?_)) <;> first | (exact absurd h (by decide)) | (conv => whnf)) | (refine ⟨_, wrap_ok (by omega) (by omega), ?_⟩; conv => whnf) | (refine and_idx (by omega) (by omega) ?_; conv => whnf) | (refine reg_ok (by decide +kernel) ?_; conv => whnf) | (refine bar_ok (by decide +kernel) (by decide +kernel) ?_; conv => whnf) | (refine late_ok rfl rfl ?_; conv => whnf) | (refine src_ok rfl ?_; conv => whnf) | (refine .inl ⟨_, _, qcall_pure (r) rfl rfl, ?_⟩; conv => whnf) | (refine ex_row hf ?_; conv => whnf) | (refine LitB.data ?_; conv => whnf) | (refine BoxB.own ?_; conv => whnf)))
          all_goals first
            | (exfalso; omega)
            | (have hr : rightF f = true := by assumption
               exact ⟨hjt, by rw [all_take_succ hf, hJ, hr]; rfl, [], rfl, rfl, trivial, ⟨rfl, rfl, rfl, rfl, rfl, rfl, rfl, trivial⟩⟩)
            | (have hr : rightF f = false := by assumption
               refine fin_bool ?_
               rw [hP, all_of_get hl (by simp only [P]; rw [all_of_get hf hr, Bool.and_false]), Bool.and_false])
        · have hje : j = l.length := by omega
          subst hje
          conv => whnf
          (repeat' (first | ((refine DecB.mk (fun h => ?_) (fun h => ?_)) <;> first | (exfalso; omega) | (conv => whnf)) | ((refine BoolB.mk (fun h => ?_) (fun h => ?_)) <;> first | (exact absurd h (by decide)) | (conv => whnf)) | (refine ⟨_, wrap_ok (by omega) (by omega), ?_⟩; conv => whnf) | (refine and_idx (by omega) (by omega) ?_; conv => whnf) | (refine reg_ok (by decide +kernel) ?_; conv => whnf) | (refine bar_ok (by decide +kernel) (by decide +kernel) ?_; conv => whnf) | (refine late_ok rfl rfl ?_; conv => whnf) | (refine src_ok rfl ?_; conv => whnf) | (refine LitB.data ?_; conv => whnf) | (refine BoxB.own ?_; conv => whnf)))
          all_goals first
            | (exfalso; omega)
            | exact ⟨hlt, by rw [hall]; simp only [P]; rw [all_take_full hJ]; simp [hd], [], rfl, rfl, trivial, ⟨rfl, rfl, rfl, rfl, trivial⟩⟩
    · have hke : k = hh.length := by omega
      subst hke
      conv => whnf
      (repeat' (first | ((refine DecB.mk (fun h => ?_) (fun h => ?_)) <;> first | (exfalso; omega) | (conv => whnf)) | ((refine BoolB.mk (fun h => ?_) (fun h => ?_)) <;> first | (exact absurd h (by decide)) | (conv => whnf)) | (refine ⟨_, wrap_ok (by omega) (by omega), ?_⟩; conv => whnf) | (refine and_idx (by omega) (by omega) ?_; conv => whnf) | (refine reg_ok (by decide +kernel) ?_; conv => whnf) | (refine bar_ok (by decide +kernel) (by decide +kernel) ?_; conv => whnf) | (refine late_ok rfl rfl ?_; conv => whnf) | (refine src_ok rfl ?_; conv => whnf) | (refine LitB.data ?_; conv => whnf) | (refine BoxB.own ?_; conv => whnf)))
      all_goals first
        | (exfalso; omega)
        | (refine fin_bool ?_; rw [hP, all_take_full hI]; simp [hlen])
  · (refine acall_of tab_ok Try.func66 rfl (by decide) ?_; (conv => whnf); repeat (first | (refine LitB.data ?_; conv => whnf) | (refine BoxB.data ?_; conv => whnf)))
    (repeat' (first | ((refine DecB.mk (fun h => ?_) (fun h => ?_)) <;> first | (exfalso; omega) | (conv => whnf)) | ((refine BoolB.mk (fun h => ?_) (fun h => ?_)) <;> first | (exact absurd h (by decide)) | (conv => whnf)) | (refine ⟨_, wrap_ok (by omega) (by omega), ?_⟩; conv => whnf) | (refine and_idx (by omega) (by omega) ?_; conv => whnf) | (refine reg_ok (by decide +kernel) ?_; conv => whnf) | (refine bar_ok (by decide +kernel) (by decide +kernel) ?_; conv => whnf) | (refine late_ok rfl rfl ?_; conv => whnf) | (refine src_ok rfl ?_; conv => whnf) | (refine LitB.data ?_; conv => whnf) | (refine BoxB.own ?_; conv => whnf)))
    all_goals first
      | (exfalso; omega)
      | (refine fin_bool ?_; rw [hP]; simp [hlen])
theorem a_hCheckD (e : Ev) (hh : List (List Fr)) (hs : e.Sized) (h0 : check e = 0) (l1 : hh.length ≤ 1000000) (l3 : ∀ l ∈ hh, ∀ f ∈ l, f.p.dl.length ≤ 200 ∧ f.q.dl.length ≤ 200) : ACall Try.prog 29 [evS e, histS hh] [] (intS .i64 (histCheck e hh)) [] := by
  obtain ⟨b1, b2, b3, b4⟩ := check_bounds h0
  cases hsb : shapedB e hh with
  | true =>
    refine a_hCheck e hh hs ⟨l1, fun l hl => ?_, l3⟩
    unfold shapedB at hsb
    simp only [Bool.and_eq_true, decide_eq_true_eq, List.all_eq_true] at hsb
    have := (hsb.2 l hl).1
    omega
  | false =>
    have ck := a_Check e hs
    have sh := a_shaped2 e hh b2 l1 (fun l hl f hf => by have := l3 l hl f hf; omega) (by omega)
    have e1 : histCheck e hh = 2 := by unfold histCheck; rw [if_neg (by omega), if_neg (by simp [hsb])]
    rw [hsb] at sh
    rw [e1]
    (refine acall_of tab_ok Try.func29 rfl (by decide) ?_; (conv => whnf); repeat (first | (refine LitB.data ?_; conv => whnf) | (refine BoxB.data ?_; conv => whnf)))
    (repeat' (first | ((refine DecB.mk (fun h => ?_) (fun h => ?_)) <;> first | (exfalso; omega) | (conv => whnf)) | ((refine BoolB.mk (fun h => ?_) (fun h => ?_)) <;> first | (exact absurd h (by decide)) | (conv => whnf)) | (refine ⟨_, wrap_ok (by omega) (by omega), ?_⟩; conv => whnf) | (refine and_idx (by omega) (by omega) ?_; conv => whnf) | (refine reg_ok (by decide +kernel) ?_; conv => whnf) | (refine bar_ok (by decide +kernel) (by decide +kernel) ?_; conv => whnf) | (refine late_ok rfl rfl ?_; conv => whnf) | (refine src_ok rfl ?_; conv => whnf) | (refine .inl ⟨_, _, qcall_pure (ck) rfl rfl, ?_⟩; conv => whnf) | (refine .inl ⟨_, _, qcall_pure (sh) rfl rfl, ?_⟩; conv => whnf) | (refine LitB.data ?_; conv => whnf) | (refine BoxB.own ?_; conv => whnf)))
    all_goals first
      | (exfalso; omega)
      | (exfalso; simp_all; done)
      | exact fin_int rfl
theorem sgR_pos {x : Rat} : sgR x > 0 ↔ 0 < x := by unfold sgR; split <;> (try split) <;> simp_all <;> grind
theorem a_heavy24 (l : List Rat) (hB : ∀ x ∈ l, rl x ≤ 60000) (hl : l.length ≤ 1000000) : ACall Try.prog 33 [fracsS (l.map fz)] [] (boolS (heavyL l)) [] := by
  have m1 : ((l.map fz).map frRow).length = l.length := by simp
  (refine acall_of tab_ok Try.func33 rfl (by decide) ?_; (conv => whnf); repeat (first | (refine LitB.data ?_; conv => whnf) | (refine BoxB.data ?_; conv => whnf)))
  (repeat' (first | ((refine DecB.mk (fun h => ?_) (fun h => ?_)) <;> first | (exfalso; omega) | (conv => whnf)) | ((refine BoolB.mk (fun h => ?_) (fun h => ?_)) <;> first | (exact absurd h (by decide)) | (conv => whnf)) | (refine ⟨_, wrap_ok (by omega) (by omega), ?_⟩; conv => whnf) | (refine and_idx (by omega) (by omega) ?_; conv => whnf) | (refine reg_ok (by decide +kernel) ?_; conv => whnf) | (refine bar_ok (by decide +kernel) (by decide +kernel) ?_; conv => whnf) | (refine late_ok rfl rfl ?_; conv => whnf) | (refine src_ok rfl ?_; conv => whnf) | (refine LitB.data ?_; conv => whnf) | (refine BoxB.own ?_; conv => whnf)))
  refine awp_for tab_ok (fun k => ([fracsS (l.map fz), S.junk, S.junk, intS .i64 k, S.junk, S.junk, S.junk, S.junk, S.junk, S.junk, S.junk, S.junk, S.junk, S.junk, S.junk, S.junk], [])) l.length (fun k => (l.take k).any (fun v => decide (0 < v)) = false) [] rfl
    ⟨rfl, rfl, trivial, ⟨rfl, rfl, trivial⟩⟩ ?_
  intro k hk hI
  by_cases hlt : k < l.length
  · obtain ⟨x, hx⟩ : ∃ x, l[k]? = some x := ⟨_, List.getElem?_eq_getElem hlt⟩
    have bx := hB x (List.mem_of_getElem? hx)
    have sg := z_fSign x (by omega)
    have sp := sgR_pos (x := x)
    conv => whnf
    (repeat' (first | ((refine DecB.mk (fun h => ?_) (fun h => ?_)) <;> first | (exfalso; omega) | (conv => whnf)) | ((refine BoolB.mk (fun h => ?_) (fun h => ?_)) <;> first | (exact absurd h (by decide)) | (conv => whnf)) | (refine ⟨_, wrap_ok (by omega) (by omega), ?_⟩; conv => whnf) | (refine and_idx (by omega) (by omega) ?_; conv => whnf) | (refine reg_ok (by decide +kernel) ?_; conv => whnf) | (refine bar_ok (by decide +kernel) (by decide +kernel) ?_; conv => whnf) | (refine late_ok rfl rfl ?_; conv => whnf) | (refine src_ok rfl ?_; conv => whnf) | (refine .inl ⟨_, _, qcall_pure (sg) rfl rfl, ?_⟩; conv => whnf) | (refine ex_row (zero_get l hx) ?_; conv => whnf) | (refine LitB.data ?_; conv => whnf) | (refine BoxB.own ?_; conv => whnf)))
    all_goals first
      | (exfalso; omega)
      | (have h0 : sgR x > 0 := by omega
         refine fin_bool ?_; unfold heavyL; rw [any_of_get hx (by simpa using sp.1 h0)])
      | (have h0 : ¬ sgR x > 0 := by omega
         exact ⟨hlt, by rw [any_take_succ hx, hI]; simpa using fun h => h0 (sp.2 h), [], rfl, rfl, trivial, ⟨rfl, rfl, trivial⟩⟩)
  · rw [List.take_of_length_le (by omega)] at hI
    conv => whnf
    (repeat' (first | ((refine DecB.mk (fun h => ?_) (fun h => ?_)) <;> first | (exfalso; omega) | (conv => whnf)) | ((refine BoolB.mk (fun h => ?_) (fun h => ?_)) <;> first | (exact absurd h (by decide)) | (conv => whnf)) | (refine ⟨_, wrap_ok (by omega) (by omega), ?_⟩; conv => whnf) | (refine and_idx (by omega) (by omega) ?_; conv => whnf) | (refine reg_ok (by decide +kernel) ?_; conv => whnf) | (refine bar_ok (by decide +kernel) (by decide +kernel) ?_; conv => whnf) | (refine late_ok rfl rfl ?_; conv => whnf) | (refine src_ok rfl ?_; conv => whnf) | (refine LitB.data ?_; conv => whnf) | (refine BoxB.own ?_; conv => whnf)))
    all_goals first
      | (exfalso; omega)
      | exact fin_bool hI.symm
theorem mass_has {e : Ev} {G : List (List Rat)} {bl : List Bool} {m : Nat} {xm : Move} (h0 : check e = 0) (h : histE e G = 0) (sG : Shape e G) (hbl : bl.length = e.moves.length) (ho : OneLift e G bl m) (hxm : e.moves[m]? = some xm) (hbin : kindAt e xm.src = 0)
    {i : Nat} {x : Move} (hx : e.moves[i]? = some x) (hi : i ≠ m) (hv : heavyL (G.getD i []) = true) : ((loads e m bl).1.any fun x => decide (x = (i : Int))) = true := by
  have hil : i < e.moves.length := (List.getElem?_eq_some_iff.1 hx).1
  have hml : m < e.moves.length := (List.getElem?_eq_some_iff.1 hxm).1
  cases hbm : bl.getD m true with
  | true => rw [light_all h sG ho hbm hil] at hv; cases hv
  | false =>
    have hc := mass_moves h0 h sG ho hxm hbin hx hi hv
    unfold loads
    rw [if_pos ⟨fits_iff.2 (by omega), by simpa using hbm⟩]
    simp only [Int.toNat_natCast, hxm]
    refine any_mem ?_
    unfold loadsMoves
    exact mem_pickFrom.2 ⟨i, x, hx, by rw [Nat.zero_add]; exact hc, by simp⟩
theorem mass_at {e : Ev} {G : List (List Rat)} {bl : List Bool} {m : Nat} {xm : Move} (h0 : check e = 0) (h : histE e G = 0) (sG : Shape e G) (hbl : bl.length = e.moves.length) (ho : OneLift e G bl m) (hxm : e.moves[m]? = some xm) (hbin : kindAt e xm.src = 0)
    {p : Nat} (hp : p < e.places.length) (hk : kindAt e p ≠ 0) (hv : heavyL ((List.range e.mats.toNat).map (stk e G e.moves.length p)) = true) : ((loads e m bl).2.any fun x => decide (x = (p : Int))) = true := by
  have hml : m < e.moves.length := (List.getElem?_eq_some_iff.1 hxm).1
  obtain ⟨j, hj, hs⟩ := heavy_some hv
  have hj : j < e.mats.toNat := by simpa using hj
  have hs : 0 < stk e G e.moves.length p j := by
    rw [List.getD_eq_getElem?_getD, List.getElem?_map, List.getElem?_range hj] at hs
    exact hs
  cases hbm : bl.getD m true with
  | true =>
    have := bare_all h sG ho hbm e.moves.length (Nat.le_refl _) p j hk
    rw [this] at hs; exact absurd hs (by decide)
  | false =>
    have hc := mass_places h0 h sG ho hxm hbin hj hk hs
    unfold loads
    rw [if_pos ⟨fits_iff.2 (by omega), by simpa using hbm⟩]
    simp only [Int.toNat_natCast, hxm]
    refine any_mem ?_
    unfold loadsPlaces
    have hl : p < (atTo e bl m xm.dst.toNat (e.moves.length - (m + 1))).length := by rw [atTo_len]; exact hp
    refine mem_pickFrom.2 ⟨p, true, ?_, rfl, by simp⟩
    rw [List.getD_eq_getElem?_getD, List.getElem?_eq_getElem hl] at hc
    rw [List.getElem?_eq_getElem hl]
    exact congrArg some hc
theorem rowF_rats (w : Nat) (g : Nat → Rat) : rowF w g = ((List.range w).map g).map fz := by unfold rowF; rw [List.map_map]; rfl
set_option maxHeartbeats 4000000 in
theorem a_ReachMass (e : Ev) (hh : List (List Fr)) (m : Int) (bl : List Bool) (hlen : ∀ l ∈ hh, l.length ≤ 9223372036854775807) :
    ACall Try.prog 8 [evS e, histS hh, intS .i64 m, boolsS bl] [] (boolS true) [] := by
  have f0 := a_fine24 e 12
  have l1 : (e.places.map Place.row).length = e.places.length := by simp
  have l2 : (e.moves.map Move.row).length = e.moves.length := by simp
  have l3 : (bl.map boolRow).length = bl.length := by simp
  have l4 : (hh.map fracsRow).length = hh.length := by simp
  cases hf : fineB e 12 with
  | false =>
    rw [hf] at f0
    (refine acall_of tab_ok Try.func8 rfl (by decide) ?_; (conv => whnf); repeat (first | (refine LitB.data ?_; conv => whnf) | (refine BoxB.data ?_; conv => whnf)))
    (repeat' (first | ((refine DecB.mk (fun h => ?_) (fun h => ?_)) <;> first | (exfalso; omega) | (conv => whnf)) | ((refine BoolB.mk (fun h => ?_) (fun h => ?_)) <;> first | (exact absurd h (by decide)) | (conv => whnf)) | (refine ⟨_, wrap_ok (by omega) (by omega), ?_⟩; conv => whnf) | (refine and_idx (by omega) (by omega) ?_; conv => whnf) | (refine reg_ok (by decide +kernel) ?_; conv => whnf) | (refine bar_ok (by decide +kernel) (by decide +kernel) ?_; conv => whnf) | (refine late_ok rfl rfl ?_; conv => whnf) | (refine src_ok rfl ?_; conv => whnf) | (refine .inl ⟨_, _, qcall_pure (a_sane24) rfl rfl, ?_⟩; conv => whnf) | (refine .inl ⟨_, _, qcall_pure (f0) rfl rfl, ?_⟩; conv => whnf) | (refine LitB.data ?_; conv => whnf) | (refine BoxB.own ?_; conv => whnf)))
    all_goals first
      | (exfalso; simp_all; done)
      | exact fin_bool rfl
  | true =>
  rw [hf] at f0
  obtain ⟨hs, h0, hn⟩ := fine_iff24 hf
  by_cases hc : ¬ (0 ≤ m ∧ m < e.moves.length ∧ bl.length = e.moves.length ∧ hh.length = e.moves.length)
  · (refine acall_of tab_ok Try.func8 rfl (by decide) ?_; (conv => whnf); repeat (first | (refine LitB.data ?_; conv => whnf) | (refine BoxB.data ?_; conv => whnf)))
    (repeat' (first | ((refine DecB.mk (fun h => ?_) (fun h => ?_)) <;> first | (exfalso; omega) | (conv => whnf)) | ((refine BoolB.mk (fun h => ?_) (fun h => ?_)) <;> first | (exact absurd h (by decide)) | (conv => whnf)) | (refine ⟨_, wrap_ok (by omega) (by omega), ?_⟩; conv => whnf) | (refine and_idx (by omega) (by omega) ?_; conv => whnf) | (refine reg_ok (by decide +kernel) ?_; conv => whnf) | (refine bar_ok (by decide +kernel) (by decide +kernel) ?_; conv => whnf) | (refine late_ok rfl rfl ?_; conv => whnf) | (refine src_ok rfl ?_; conv => whnf) | (refine .inl ⟨_, _, qcall_pure (a_sane24) rfl rfl, ?_⟩; conv => whnf) | (refine .inl ⟨_, _, qcall_pure (f0) rfl rfl, ?_⟩; conv => whnf) | (refine LitB.data ?_; conv => whnf) | (refine BoxB.own ?_; conv => whnf)))
    all_goals first
      | (exfalso; omega)
      | (exfalso; simp_all; done)
      | exact fin_bool rfl
  obtain ⟨c1, c2, c3, c4⟩ := Decidable.not_not.1 hc
  clear hc
  have li := a_light24 hh (by omega) hlen
  cases hli : lightH hh with
  | false =>
    rw [hli] at li
    (refine acall_of tab_ok Try.func8 rfl (by decide) ?_; (conv => whnf); repeat (first | (refine LitB.data ?_; conv => whnf) | (refine BoxB.data ?_; conv => whnf)))
    (repeat' (first | ((refine DecB.mk (fun h => ?_) (fun h => ?_)) <;> first | (exfalso; omega) | (conv => whnf)) | ((refine BoolB.mk (fun h => ?_) (fun h => ?_)) <;> first | (exact absurd h (by decide)) | (conv => whnf)) | (refine ⟨_, wrap_ok (by omega) (by omega), ?_⟩; conv => whnf) | (refine and_idx (by omega) (by omega) ?_; conv => whnf) | (refine reg_ok (by decide +kernel) ?_; conv => whnf) | (refine bar_ok (by decide +kernel) (by decide +kernel) ?_; conv => whnf) | (refine late_ok rfl rfl ?_; conv => whnf) | (refine src_ok rfl ?_; conv => whnf) | (refine .inl ⟨_, _, qcall_pure (a_sane24) rfl rfl, ?_⟩; conv => whnf) | (refine .inl ⟨_, _, qcall_pure (f0) rfl rfl, ?_⟩; conv => whnf) | (refine .inl ⟨_, _, qcall_pure (li) rfl rfl, ?_⟩; conv => whnf) | (refine LitB.data ?_; conv => whnf) | (refine BoxB.own ?_; conv => whnf)))
    all_goals first
      | (exfalso; omega)
      | (exfalso; simp_all; done)
      | exact fin_bool rfl
  | true =>
  rw [hli] at li
  have hsm := light_small hli
  have ck := a_hCheckD e hh hs h0 (by omega) hsm
  by_cases hck : histCheck e hh ≠ 0
  · (refine acall_of tab_ok Try.func8 rfl (by decide) ?_; (conv => whnf); repeat (first | (refine LitB.data ?_; conv => whnf) | (refine BoxB.data ?_; conv => whnf)))
    (repeat' (first | ((refine DecB.mk (fun h => ?_) (fun h => ?_)) <;> first | (exfalso; omega) | (conv => whnf)) | ((refine BoolB.mk (fun h => ?_) (fun h => ?_)) <;> first | (exact absurd h (by decide)) | (conv => whnf)) | (refine ⟨_, wrap_ok (by omega) (by omega), ?_⟩; conv => whnf) | (refine and_idx (by omega) (by omega) ?_; conv => whnf) | (refine reg_ok (by decide +kernel) ?_; conv => whnf) | (refine bar_ok (by decide +kernel) (by decide +kernel) ?_; conv => whnf) | (refine late_ok rfl rfl ?_; conv => whnf) | (refine src_ok rfl ?_; conv => whnf) | (refine .inl ⟨_, _, qcall_pure (a_sane24) rfl rfl, ?_⟩; conv => whnf) | (refine .inl ⟨_, _, qcall_pure (f0) rfl rfl, ?_⟩; conv => whnf) | (refine .inl ⟨_, _, qcall_pure (li) rfl rfl, ?_⟩; conv => whnf) | (refine .inl ⟨_, _, qcall_pure (ck) rfl rfl, ?_⟩; conv => whnf) | (refine LitB.data ?_; conv => whnf) | (refine BoxB.own ?_; conv => whnf)))
    all_goals first
      | (exfalso; omega)
      | (exfalso; simp_all; done)
      | exact fin_bool rfl
  have hck : histCheck e hh = 0 := by omega
  rw [hck] at ck
  obtain ⟨-, h7, h8⟩ := histCheck_zero hck
  obtain ⟨G, rfl, hG⟩ := shaped_rats h7
  rw [unhz] at h8
  obtain ⟨b1, b2, b3, b4⟩ := check_bounds h0
  have hS : SmallH 200 (hz G) := ⟨by omega, fun l hl => by
    obtain ⟨L, hL, rfl⟩ := List.mem_map.1 hl
    have := hG.wid L hL
    rw [List.length_map]; omega, hsm⟩
  have hB := small_rats hS
  have gl : (hz G).length = e.moves.length := by omega
  obtain ⟨q, rfl⟩ := Int.eq_ofNat_of_zero_le c1
  have hq : q < e.moves.length := by omega
  obtain ⟨xm, hxm⟩ : ∃ x, e.moves[q]? = some x := ⟨_, List.getElem?_eq_getElem hq⟩
  have hmo := check_move h0 (List.mem_of_getElem? hxm)
  have msm := moveOk_src hmo
  obtain ⟨sm, hsm2⟩ : ∃ s : Nat, xm.src = s := ⟨xm.src.toNat, by omega⟩
  obtain ⟨plm, hplm⟩ : ∃ p, e.places[sm]? = some p := ⟨_, List.getElem?_eq_getElem (by omega)⟩
  have hkm : kindAt e xm.src = plm.kind := by rw [hsm2]; exact kindAt_of hplm
  have la := a_LoadsAll e hs h0 q bl
  obtain ⟨kA, kB⟩ := loads_len hs (m := (q : Int)) (bl := bl)
  (refine acall_of tab_ok Try.func8 rfl (by decide) ?_; (conv => whnf); repeat (first | (refine LitB.data ?_; conv => whnf) | (refine BoxB.data ?_; conv => whnf)))
  (repeat' (first | ((refine DecB.mk (fun h => ?_) (fun h => ?_)) <;> first | (exfalso; omega) | (conv => whnf)) | ((refine BoolB.mk (fun h => ?_) (fun h => ?_)) <;> first | (exact absurd h (by decide)) | (conv => whnf)) | (refine ⟨_, wrap_ok (by omega) (by omega), ?_⟩; conv => whnf) | (refine and_idx (by omega) (by omega) ?_; conv => whnf) | (refine reg_ok (by decide +kernel) ?_; conv => whnf) | (refine bar_ok (by decide +kernel) (by decide +kernel) ?_; conv => whnf) | (refine late_ok rfl rfl ?_; conv => whnf) | (refine src_ok rfl ?_; conv => whnf) | (refine .inl ⟨_, _, qcall_pure (a_sane24) rfl rfl, ?_⟩; conv => whnf) | (refine .inl ⟨_, _, qcall_pure (f0) rfl rfl, ?_⟩; conv => whnf) | (refine .inl ⟨_, _, qcall_pure (li) rfl rfl, ?_⟩; conv => whnf) | (refine .inl ⟨_, _, qcall_pure (ck) rfl rfl, ?_⟩; conv => whnf) | (refine LitB.data ?_; conv => whnf) | (refine BoxB.own ?_; conv => whnf)))
  all_goals first
    | (exfalso; omega)
    | (exfalso; simp_all; done)
    | skip
  refine awp_for tab_ok (fun k => ([S.junk, histS (hz G), intS .i64 q, boolsS bl, S.c (C.t (evP e)), S.junk, S.junk, S.junk, S.junk, boolS true, intS .i64 k, S.junk, S.junk, S.junk, S.junk, S.junk, S.junk, S.junk, S.junk, S.junk, S.junk, S.junk, S.junk, S.junk, S.junk, S.junk, S.junk, S.junk, S.junk, S.junk, S.junk, S.junk, S.junk, S.junk, S.junk, S.junk, S.junk, S.junk, S.junk, S.junk, S.junk, S.junk, S.junk, S.junk, S.junk, S.junk, S.junk, S.junk, S.junk, S.junk, S.junk, S.junk, S.junk, S.junk, S.junk, S.junk, S.junk, S.junk, S.junk, S.junk, S.junk, S.junk, S.junk, S.junk, S.junk, S.junk, S.junk, S.junk, S.junk, S.junk, S.junk, S.junk, S.junk, S.junk, S.junk, S.junk, S.junk, S.junk, S.junk, S.junk, S.junk, S.junk, S.junk, S.junk, S.junk, S.junk, S.junk, S.junk, S.junk, S.junk, S.junk, S.junk, S.junk, S.junk, S.junk, S.junk, S.junk, S.junk, S.junk, S.junk, S.junk, S.junk, S.junk, S.junk, S.junk, S.junk, S.junk, S.junk, S.junk, S.junk, S.junk, S.junk, S.junk, S.junk, S.junk, S.junk, S.junk, S.junk, S.junk, S.junk, S.junk, S.junk, S.junk, S.junk, S.junk, S.junk, S.junk, S.junk, S.junk, S.junk, S.junk, S.junk, S.junk, S.junk, S.junk, S.junk, S.junk, S.junk, S.junk, S.junk, S.junk, S.junk, S.junk, S.junk, S.junk, S.junk, S.junk, S.junk, S.junk, S.junk, S.junk, S.junk, S.junk, S.junk, S.junk, S.junk, S.junk, S.junk, S.junk, S.junk, S.junk, S.junk, S.junk, S.junk, S.junk, S.junk, S.junk, S.junk], [])) e.moves.length (fun k => ∀ i x, i < k → e.moves[i]? = some x → heavyL (G.getD i []) = true → bl.getD i true = false ∧ (i = q ∨ kindAt e x.src ≠ 0)) [] (fun i x h => absurd h (by omega))
    ⟨rfl, rfl, trivial, ⟨rfl, rfl, rfl, rfl, rfl, rfl, trivial⟩⟩ ?_
  intro k hk hI
  by_cases hlt : k < e.moves.length
  · obtain ⟨x, hx⟩ : ∃ x, e.moves[k]? = some x := ⟨_, List.getElem?_eq_getElem hlt⟩
    obtain ⟨l, hl⟩ : ∃ l, G[k]? = some l := ⟨_, List.getElem?_eq_getElem (by rw [hG.len]; exact hlt)⟩
    obtain ⟨b, hb⟩ : ∃ b, bl[k]? = some b := ⟨_, List.getElem?_eq_getElem (by omega)⟩
    have hbd : bl.getD k true = b := by rw [List.getD_eq_getElem?_getD, hb]; rfl
    have hgd : G.getD k [] = l := by rw [List.getD_eq_getElem?_getD, hl]; rfl
    have ms := moveOk_src (check_move h0 (List.mem_of_getElem? hx))
    obtain ⟨s, hsn⟩ : ∃ s : Nat, x.src = s := ⟨x.src.toNat, by omega⟩
    obtain ⟨pl, hpl⟩ : ∃ p, e.places[s]? = some p := ⟨_, List.getElem?_eq_getElem (by omega)⟩
    have hkd : kindAt e x.src = pl.kind := by rw [hsn]; exact kindAt_of hpl
    have he := a_heavy24 l (fun v hv => by have := hB l (List.mem_of_getElem? hl) v hv; omega) (by have := hG.wid l (List.mem_of_getElem? hl); omega)
    have nxt : (heavyL l = true → b = false ∧ (k = q ∨ pl.kind ≠ 0)) → ∀ i y, i < k + 1 → e.moves[i]? = some y → heavyL (G.getD i []) = true → bl.getD i true = false ∧ (i = q ∨ kindAt e y.src ≠ 0) := fun h i y hi hy hv => by
      rcases Nat.lt_or_ge i k with h1 | h1
      · exact hI i y h1 hy hv
      · obtain rfl : i = k := by omega
        rw [hx] at hy; injection hy with hy; subst hy
        rw [hgd] at hv
        rw [hbd, hkd]; exact h hv
    clear hI
    cases hhv : heavyL l with
    | false =>
      rw [hhv] at he
      conv => whnf
      (repeat' (first | ((refine DecB.mk (fun h => ?_) (fun h => ?_)) <;> first | (exfalso; omega) | (conv => whnf)) | ((refine BoolB.mk (fun h => ?_) (fun h => ?_)) <;> first | (exact absurd h (by decide)) | (conv => whnf)) | (refine ⟨_, wrap_ok (by omega) (by omega), ?_⟩; conv => whnf) | (refine and_idx (by omega) (by omega) ?_; conv => whnf) | (refine reg_ok (by decide +kernel) ?_; conv => whnf) | (refine bar_ok (by decide +kernel) (by decide +kernel) ?_; conv => whnf) | (refine late_ok rfl rfl ?_; conv => whnf) | (refine src_ok rfl ?_; conv => whnf) | (refine .inl ⟨_, _, qcall_pure (he) rfl rfl, ?_⟩; conv => whnf) | (refine ex_row (hz_get hl) ?_; conv => whnf) | (refine LitB.data ?_; conv => whnf) | (refine BoxB.own ?_; conv => whnf)))
      all_goals first
        | (exfalso; omega)
        | (exfalso; simp_all; done)
        | exact ⟨hlt, nxt (fun h => by rw [hhv] at h; cases h), [], rfl, rfl, trivial, ⟨rfl, rfl, rfl, rfl, rfl, rfl, trivial⟩⟩
    | true =>
      rw [hhv] at he
      cases b with
      | true =>
        conv => whnf
        (repeat' (first | ((refine DecB.mk (fun h => ?_) (fun h => ?_)) <;> first | (exfalso; omega) | (conv => whnf)) | ((refine BoolB.mk (fun h => ?_) (fun h => ?_)) <;> first | (exact absurd h (by decide)) | (conv => whnf)) | (refine ⟨_, wrap_ok (by omega) (by omega), ?_⟩; conv => whnf) | (refine and_idx (by omega) (by omega) ?_; conv => whnf) | (refine reg_ok (by decide +kernel) ?_; conv => whnf) | (refine bar_ok (by decide +kernel) (by decide +kernel) ?_; conv => whnf) | (refine late_ok rfl rfl ?_; conv => whnf) | (refine src_ok rfl ?_; conv => whnf) | (refine .inl ⟨_, _, qcall_pure (he) rfl rfl, ?_⟩; conv => whnf) | (refine ex_row (hz_get hl) ?_; conv => whnf) | (refine ex_row hb ?_; conv => whnf) | (refine ex_row hx ?_; conv => whnf) | (refine ex_rowE hsn hpl ?_; conv => whnf) | (refine LitB.data ?_; conv => whnf) | (refine BoxB.own ?_; conv => whnf)))
        all_goals first
          | (exfalso; omega)
          | exact fin_bool rfl
          | (exfalso; simp_all; done)
      | false =>
        conv => whnf
        (repeat' (first | ((refine DecB.mk (fun h => ?_) (fun h => ?_)) <;> first | (exfalso; omega) | (conv => whnf)) | ((refine BoolB.mk (fun h => ?_) (fun h => ?_)) <;> first | (exact absurd h (by decide)) | (conv => whnf)) | (refine ⟨_, wrap_ok (by omega) (by omega), ?_⟩; conv => whnf) | (refine and_idx (by omega) (by omega) ?_; conv => whnf) | (refine reg_ok (by decide +kernel) ?_; conv => whnf) | (refine bar_ok (by decide +kernel) (by decide +kernel) ?_; conv => whnf) | (refine late_ok rfl rfl ?_; conv => whnf) | (refine src_ok rfl ?_; conv => whnf) | (refine .inl ⟨_, _, qcall_pure (he) rfl rfl, ?_⟩; conv => whnf) | (refine ex_row (hz_get hl) ?_; conv => whnf) | (refine ex_row hb ?_; conv => whnf) | (refine ex_row hx ?_; conv => whnf) | (refine ex_rowE hsn hpl ?_; conv => whnf) | (refine LitB.data ?_; conv => whnf) | (refine BoxB.own ?_; conv => whnf)))
        all_goals first
          | (exfalso; omega)
          | exact fin_bool rfl
          | exact ⟨hlt, nxt (fun _ => ⟨rfl, by omega⟩), [], rfl, rfl, trivial, ⟨rfl, rfl, rfl, rfl, rfl, rfl, trivial⟩⟩
          | (exfalso; simp_all; done)
  have ho : OneLift e G bl q := fun i x hx hv => hI i x (by have := (List.getElem?_eq_some_iff.1 hx).1; omega) hx hv
  clear hI
  conv => whnf
  (repeat' (first | ((refine DecB.mk (fun h => ?_) (fun h => ?_)) <;> first | (exfalso; omega) | (conv => whnf)) | ((refine BoolB.mk (fun h => ?_) (fun h => ?_)) <;> first | (exact absurd h (by decide)) | (conv => whnf)) | (refine ⟨_, wrap_ok (by omega) (by omega), ?_⟩; conv => whnf) | (refine and_idx (by omega) (by omega) ?_; conv => whnf) | (refine reg_ok (by decide +kernel) ?_; conv => whnf) | (refine bar_ok (by decide +kernel) (by decide +kernel) ?_; conv => whnf) | (refine late_ok rfl rfl ?_; conv => whnf) | (refine src_ok rfl ?_; conv => whnf) | (refine .inl ⟨_, _, qcall_pure (la) rfl rfl, ?_⟩; conv => whnf) | (refine .inl ⟨_, _, qcall_pure (6) rfl rfl, ?_⟩; conv => whnf) | (refine ex_row hxm ?_; conv => whnf) | (refine ex_rowE hsm2 hplm ?_; conv => whnf) | (refine bar_late [6] (by decide +kernel) (by decide +kernel) ?_; conv => whnf) | (refine LitB.data ?_; conv => whnf) | (refine BoxB.own ?_; conv => whnf)))
  all_goals first
    | (exfalso; omega)
    | exact fin_bool rfl
    | skip
  clear hlt hk
  have hbin : kindAt e xm.src = 0 := by rw [hkm]; omega
  refine awp_for tab_ok (fun k => ([S.junk, histS (hz G), intS .i64 q, S.junk, S.c (C.t (evP e)), S.junk, S.junk, S.junk, S.junk, boolS true, S.junk, intsS (loads e q bl).1, intsS (loads e q bl).2, intS .i64 k, S.junk, S.junk, S.junk, S.junk, S.junk, S.junk, S.junk, S.junk, S.junk, S.junk, S.junk, S.junk, S.junk, S.junk, S.junk, S.junk, S.junk, S.junk, S.junk, S.junk, S.junk, S.junk, S.junk, S.junk, S.junk, S.junk, S.junk, S.junk, S.junk, S.junk, S.junk, S.junk, S.junk, S.junk, S.junk, S.junk, S.junk, S.junk, S.junk, S.junk, S.junk, S.junk, S.junk, S.junk, S.junk, S.junk, S.junk, S.junk, S.junk, S.junk, S.junk, S.junk, S.junk, S.junk, S.junk, S.junk, S.junk, S.junk, S.junk, S.junk, S.junk, S.junk, S.junk, S.junk, S.junk, S.junk, S.junk, S.junk, S.junk, S.junk, S.junk, S.junk, S.junk, S.junk, S.junk, S.junk, S.junk, S.junk, S.junk, S.junk, S.junk, S.junk, S.junk, S.junk, S.junk, S.junk, S.junk, S.junk, S.junk, S.junk, S.junk, S.junk, S.junk, S.junk, S.junk, S.junk, S.junk, S.junk, S.junk, S.junk, S.junk, S.junk, S.junk, S.junk, S.junk, S.junk, S.junk, S.junk, S.junk, S.junk, S.junk, S.junk, S.junk, S.junk, S.junk, S.junk, S.junk, S.junk, S.junk, S.junk, S.junk, S.junk, S.junk, S.junk, S.junk, S.junk, S.junk, S.junk, S.junk, S.junk, S.junk, S.junk, S.junk, S.junk, S.junk, S.junk, S.junk, S.junk, S.junk, S.junk, S.junk, S.junk, S.junk, S.junk, S.junk, S.junk, S.junk, S.junk, S.junk, S.junk, S.junk, S.junk, S.junk, S.junk], [])) e.moves.length (fun _ => True) [] trivial
    ⟨rfl, rfl, trivial, ⟨rfl, rfl, rfl, rfl, rfl, rfl, rfl, trivial⟩⟩ ?_
  intro k hk _
  by_cases hlt : k < e.moves.length
  · obtain ⟨x, hx⟩ : ∃ x, e.moves[k]? = some x := ⟨_, List.getElem?_eq_getElem hlt⟩
    obtain ⟨l, hl⟩ : ∃ l, G[k]? = some l := ⟨_, List.getElem?_eq_getElem (by rw [hG.len]; exact hlt)⟩
    have hgd : G.getD k [] = l := by rw [List.getD_eq_getElem?_getD, hl]; rfl
    have he := a_heavy24 l (fun v hv => by have := hB l (List.mem_of_getElem? hl) v hv; omega) (by have := hG.wid l (List.mem_of_getElem? hl); omega)
    have ch := a_Has24 (loads e q bl).1 (k : Int) kA
    by_cases hkq : k = q
    · conv => whnf
      (repeat' (first | ((refine DecB.mk (fun h => ?_) (fun h => ?_)) <;> first | (exfalso; omega) | (conv => whnf)) | ((refine BoolB.mk (fun h => ?_) (fun h => ?_)) <;> first | (exact absurd h (by decide)) | (conv => whnf)) | (refine ⟨_, wrap_ok (by omega) (by omega), ?_⟩; conv => whnf) | (refine and_idx (by omega) (by omega) ?_; conv => whnf) | (refine reg_ok (by decide +kernel) ?_; conv => whnf) | (refine bar_ok (by decide +kernel) (by decide +kernel) ?_; conv => whnf) | (refine late_ok rfl rfl ?_; conv => whnf) | (refine src_ok rfl ?_; conv => whnf) | (refine .inl ⟨_, _, qcall_pure (he) rfl rfl, ?_⟩; conv => whnf) | (refine .inl ⟨_, _, qcall_pure (ch) rfl rfl, ?_⟩; conv => whnf) | (refine ex_row (hz_get hl) ?_; conv => whnf) | (refine LitB.data ?_; conv => whnf) | (refine BoxB.own ?_; conv => whnf)))
      all_goals first
        | (exfalso; omega)
        | exact ⟨hlt, trivial, [], rfl, rfl, trivial, ⟨rfl, rfl, rfl, rfl, rfl, rfl, rfl, trivial⟩⟩
    · cases hhv : heavyL l with
      | false =>
        rw [hhv] at he
        conv => whnf
        (repeat' (first | ((refine DecB.mk (fun h => ?_) (fun h => ?_)) <;> first | (exfalso; omega) | (conv => whnf)) | ((refine BoolB.mk (fun h => ?_) (fun h => ?_)) <;> first | (exact absurd h (by decide)) | (conv => whnf)) | (refine ⟨_, wrap_ok (by omega) (by omega), ?_⟩; conv => whnf) | (refine and_idx (by omega) (by omega) ?_; conv => whnf) | (refine reg_ok (by decide +kernel) ?_; conv => whnf) | (refine bar_ok (by decide +kernel) (by decide +kernel) ?_; conv => whnf) | (refine late_ok rfl rfl ?_; conv => whnf) | (refine src_ok rfl ?_; conv => whnf) | (refine .inl ⟨_, _, qcall_pure (he) rfl rfl, ?_⟩; conv => whnf) | (refine .inl ⟨_, _, qcall_pure (ch) rfl rfl, ?_⟩; conv => whnf) | (refine ex_row (hz_get hl) ?_; conv => whnf) | (refine LitB.data ?_; conv => whnf) | (refine BoxB.own ?_; conv => whnf)))
        all_goals first
          | (exfalso; omega)
          | (exfalso; simp_all; done)
          | exact ⟨hlt, trivial, [], rfl, rfl, trivial, ⟨rfl, rfl, rfl, rfl, rfl, rfl, rfl, trivial⟩⟩
      | true =>
        rw [mass_has h0 h8 hG c3 ho hxm hbin hx hkq (by rw [hgd]; exact hhv)] at ch
        rw [hhv] at he
        conv => whnf
        (repeat' (first | ((refine DecB.mk (fun h => ?_) (fun h => ?_)) <;> first | (exfalso; omega) | (conv => whnf)) | ((refine BoolB.mk (fun h => ?_) (fun h => ?_)) <;> first | (exact absurd h (by decide)) | (conv => whnf)) | (refine ⟨_, wrap_ok (by omega) (by omega), ?_⟩; conv => whnf) | (refine and_idx (by omega) (by omega) ?_; conv => whnf) | (refine reg_ok (by decide +kernel) ?_; conv => whnf) | (refine bar_ok (by decide +kernel) (by decide +kernel) ?_; conv => whnf) | (refine late_ok rfl rfl ?_; conv => whnf) | (refine src_ok rfl ?_; conv => whnf) | (refine .inl ⟨_, _, qcall_pure (he) rfl rfl, ?_⟩; conv => whnf) | (refine .inl ⟨_, _, qcall_pure (ch) rfl rfl, ?_⟩; conv => whnf) | (refine ex_row (hz_get hl) ?_; conv => whnf) | (refine LitB.data ?_; conv => whnf) | (refine BoxB.own ?_; conv => whnf)))
        all_goals first
          | (exfalso; omega)
          | exact ⟨hlt, trivial, [], rfl, rfl, trivial, ⟨rfl, rfl, rfl, rfl, rfl, rfl, rfl, trivial⟩⟩
          | (exfalso; simp_all; done)
  conv => whnf
  (repeat' (first | ((refine DecB.mk (fun h => ?_) (fun h => ?_)) <;> first | (exfalso; omega) | (conv => whnf)) | ((refine BoolB.mk (fun h => ?_) (fun h => ?_)) <;> first | (exact absurd h (by decide)) | (conv => whnf)) | (refine ⟨_, wrap_ok (by omega) (by omega), ?_⟩; conv => whnf) | (refine and_idx (by omega) (by omega) ?_; conv => whnf) | (refine reg_ok (by decide +kernel) ?_; conv => whnf) | (refine bar_ok (by decide +kernel) (by decide +kernel) ?_; conv => whnf) | (refine late_ok rfl rfl ?_; conv => whnf) | (refine src_ok rfl ?_; conv => whnf) | (refine LitB.data ?_; conv => whnf) | (refine BoxB.own ?_; conv => whnf)))
  all_goals try (exfalso; omega)
  clear hlt hk
  refine awp_for tab_ok (fun p => ([S.junk, histS (hz G), S.junk, S.junk, S.c (C.t (evP e)), S.junk, S.junk, S.junk, S.junk, boolS true, S.junk, S.junk, intsS (loads e q bl).2, S.junk, intS .i64 p, S.junk, S.junk, S.junk, S.junk, S.junk, S.junk, S.junk, S.junk, S.junk, S.junk, S.junk, S.junk, S.junk, S.junk, S.junk, S.junk, S.junk, S.junk, S.junk, S.junk, S.junk, S.junk, S.junk, S.junk, S.junk, S.junk, S.junk, S.junk, S.junk, S.junk, S.junk, S.junk, S.junk, S.junk, S.junk, S.junk, S.junk, S.junk, S.junk, S.junk, S.junk, S.junk, S.junk, S.junk, S.junk, S.junk, S.junk, S.junk, S.junk, S.junk, S.junk, S.junk, S.junk, S.junk, S.junk, S.junk, S.junk, S.junk, S.junk, S.junk, S.junk, S.junk, S.junk, S.junk, S.junk, S.junk, S.junk, S.junk, S.junk, S.junk, S.junk, S.junk, S.junk, S.junk, S.junk, S.junk, S.junk, S.junk, S.junk, S.junk, S.junk, S.junk, S.junk, S.junk, S.junk, S.junk, S.junk, S.junk, S.junk, S.junk, S.junk, S.junk, S.junk, S.junk, S.junk, S.junk, S.junk, S.junk, S.junk, S.junk, S.junk, S.junk, S.junk, S.junk, S.junk, S.junk, S.junk, S.junk, S.junk, S.junk, S.junk, S.junk, S.junk, S.junk, S.junk, S.junk, S.junk, S.junk, S.junk, S.junk, S.junk, S.junk, S.junk, S.junk, S.junk, S.junk, S.junk, S.junk, S.junk, S.junk, S.junk, S.junk, S.junk, S.junk, S.junk, S.junk, S.junk, S.junk, S.junk, S.junk, S.junk, S.junk, S.junk, S.junk, S.junk, S.junk, S.junk, S.junk, S.junk, S.junk, S.junk, S.junk, S.junk], [])) e.places.length (fun _ => True) [] trivial
    ⟨rfl, rfl, trivial, ⟨rfl, rfl, rfl, rfl, rfl, trivial⟩⟩ ?_
  intro p hp _
  by_cases hlt : p < e.places.length
  · obtain ⟨pl, hpl⟩ : ∃ x, e.places[p]? = some x := ⟨_, List.getElem?_eq_getElem hlt⟩
    have hkd : kindAt e (p : Int) = pl.kind := kindAt_of hpl
    have st := a_hStock e (hz G) p e.moves.length hs hS
    have e5 : stockL e (hz G) p e.moves.length = ((List.range e.mats.toNat).map (stk e G e.moves.length p)).map fz := by
      unfold stockL
      rw [if_pos ⟨h0, h7, by omega, by omega, by omega, by omega⟩, unz_hz, rowF_rats]
      simp only [Int.toNat_natCast]
    rw [e5] at st
    have hr : ∀ v ∈ (List.range e.mats.toNat).map (stk e G e.moves.length p), rl v ≤ 60000 := fun v hv => by
      obtain ⟨j, _, rfl⟩ := List.mem_map.1 hv
      have := rl_stk (e := e) hB (by decide) e.moves.length p j
      have h2 := Nat.mul_le_mul_right (200 + 1) (show e.moves.length ≤ 200 by omega)
      omega
    have he := a_heavy24 _ hr (by simp; omega)
    have ch := a_Has24 (loads e q bl).2 (p : Int) kB
    rw [← l2] at st
    by_cases hkp : pl.kind = 0
    · conv => whnf
      (repeat' (first | ((refine DecB.mk (fun h => ?_) (fun h => ?_)) <;> first | (exfalso; omega) | (conv => whnf)) | ((refine BoolB.mk (fun h => ?_) (fun h => ?_)) <;> first | (exact absurd h (by decide)) | (conv => whnf)) | (refine ⟨_, wrap_ok (by omega) (by omega), ?_⟩; conv => whnf) | (refine and_idx (by omega) (by omega) ?_; conv => whnf) | (refine reg_ok (by decide +kernel) ?_; conv => whnf) | (refine bar_ok (by decide +kernel) (by decide +kernel) ?_; conv => whnf) | (refine late_ok rfl rfl ?_; conv => whnf) | (refine src_ok rfl ?_; conv => whnf) | (refine .inl ⟨_, _, qcall_pure (st) rfl rfl, ?_⟩; conv => whnf) | (refine .inl ⟨_, _, qcall_pure (he) rfl rfl, ?_⟩; conv => whnf) | (refine .inl ⟨_, _, qcall_pure (ch) rfl rfl, ?_⟩; conv => whnf) | (refine ex_row hpl ?_; conv => whnf) | (refine LitB.data ?_; conv => whnf) | (refine BoxB.own ?_; conv => whnf)))
      all_goals first
        | (exfalso; omega)
        | exact ⟨hlt, trivial, [], rfl, rfl, trivial, ⟨rfl, rfl, rfl, rfl, rfl, trivial⟩⟩
    · cases hhv : heavyL ((List.range e.mats.toNat).map (stk e G e.moves.length p)) with
      | false =>
        rw [← l2] at hhv
        rw [← l2] at he
        rw [hhv] at he
        conv => whnf
        (repeat' (first | ((refine DecB.mk (fun h => ?_) (fun h => ?_)) <;> first | (exfalso; omega) | (conv => whnf)) | ((refine BoolB.mk (fun h => ?_) (fun h => ?_)) <;> first | (exact absurd h (by decide)) | (conv => whnf)) | (refine ⟨_, wrap_ok (by omega) (by omega), ?_⟩; conv => whnf) | (refine and_idx (by omega) (by omega) ?_; conv => whnf) | (refine reg_ok (by decide +kernel) ?_; conv => whnf) | (refine bar_ok (by decide +kernel) (by decide +kernel) ?_; conv => whnf) | (refine late_ok rfl rfl ?_; conv => whnf) | (refine src_ok rfl ?_; conv => whnf) | (refine .inl ⟨_, _, qcall_pure (st) rfl rfl, ?_⟩; conv => whnf) | (refine .inl ⟨_, _, qcall_pure (he) rfl rfl, ?_⟩; conv => whnf) | (refine .inl ⟨_, _, qcall_pure (ch) rfl rfl, ?_⟩; conv => whnf) | (refine ex_row hpl ?_; conv => whnf) | (refine LitB.data ?_; conv => whnf) | (refine BoxB.own ?_; conv => whnf)))
        all_goals first
          | (exfalso; omega)
          | (exfalso; simp_all; done)
          | exact ⟨hlt, trivial, [], rfl, rfl, trivial, ⟨rfl, rfl, rfl, rfl, rfl, trivial⟩⟩
      | true =>
        rw [mass_at h0 h8 hG c3 ho hxm hbin hlt (by rw [hkd]; exact hkp) hhv] at ch
        rw [← l2] at hhv
        rw [← l2] at he
        rw [hhv] at he
        conv => whnf
        (repeat' (first | ((refine DecB.mk (fun h => ?_) (fun h => ?_)) <;> first | (exfalso; omega) | (conv => whnf)) | ((refine BoolB.mk (fun h => ?_) (fun h => ?_)) <;> first | (exact absurd h (by decide)) | (conv => whnf)) | (refine ⟨_, wrap_ok (by omega) (by omega), ?_⟩; conv => whnf) | (refine and_idx (by omega) (by omega) ?_; conv => whnf) | (refine reg_ok (by decide +kernel) ?_; conv => whnf) | (refine bar_ok (by decide +kernel) (by decide +kernel) ?_; conv => whnf) | (refine late_ok rfl rfl ?_; conv => whnf) | (refine src_ok rfl ?_; conv => whnf) | (refine .inl ⟨_, _, qcall_pure (st) rfl rfl, ?_⟩; conv => whnf) | (refine .inl ⟨_, _, qcall_pure (he) rfl rfl, ?_⟩; conv => whnf) | (refine .inl ⟨_, _, qcall_pure (ch) rfl rfl, ?_⟩; conv => whnf) | (refine ex_row hpl ?_; conv => whnf) | (refine LitB.data ?_; conv => whnf) | (refine BoxB.own ?_; conv => whnf)))
        all_goals first
          | (exfalso; omega)
          | exact ⟨hlt, trivial, [], rfl, rfl, trivial, ⟨rfl, rfl, rfl, rfl, rfl, trivial⟩⟩
          | (exfalso; simp_all; done)
  · conv => whnf
    (repeat' (first | ((refine DecB.mk (fun h => ?_) (fun h => ?_)) <;> first | (exfalso; omega) | (conv => whnf)) | ((refine BoolB.mk (fun h => ?_) (fun h => ?_)) <;> first | (exact absurd h (by decide)) | (conv => whnf)) | (refine ⟨_, wrap_ok (by omega) (by omega), ?_⟩; conv => whnf) | (refine and_idx (by omega) (by omega) ?_; conv => whnf) | (refine reg_ok (by decide +kernel) ?_; conv => whnf) | (refine bar_ok (by decide +kernel) (by decide +kernel) ?_; conv => whnf) | (refine late_ok rfl rfl ?_; conv => whnf) | (refine src_ok rfl ?_; conv => whnf) | (refine LitB.data ?_; conv => whnf) | (refine BoxB.own ?_; conv => whnf)))
    all_goals first
      | (exfalso; omega)
      | exact fin_bool rfl
end Go.Proofs.Ytomfnfbijgjfeaa
/- Laws on appending to a slice that the call itself made, in the form that my walks use. Over any program. -/
namespace Go.Proofs.Ytomfnfbijgjfeaa
open Go.RowKit

/-- what an append leaves of older worlds -/
def Later (base : Nat) (w w' : World) : Prop := w.heap.size ≤ w'.heap.size ∧ ∀ (w0 : World) (B : Nat), Below B w0 w → B ≤ base → Below B w0 w'
theorem Later.below {base B : Nat} {w w' w0 : World} (h : Later base w w') (hb : Below B w0 w) (hB : B ≤ base) : Below B w0 w' := h.2 w0 B hb hB
theorem Later.size {base : Nat} {w w' : World} (h : Later base w w') : w.heap.size ≤ w'.heap.size := h.1

/-- 'append(s, x)': one element, s of the call's own -/
theorem wpList_app1 {P : Program} {w : World} {ops : Array Oper} {rest : List Oper} {o : Oper} {a : Act} {Q : Exit → Act → World → Prop} (hgd : o.guard = none) (s x : Operand) (t e : TypeId)
    (ho : o.op = .call { callee := .builtin .append, args := #[s, x], argTypes := #[t, t] })
    {z : Value} {size bytes : Nat} (ht : P.underlying t = some (.slice e)) (hinfo : (P.info? e).map (fun i => (i.zero, i.size, i.bytes)) = some (some z, size, bytes)) (hzs : z.cells.size = size) (hsz : 0 < size) (hby : bytes ≤ 1000)
    {base : Nat} {v : Value} {n : Nat} {xs : List Value} (hown : w.ownsRow base e size v n xs) (hs : a.eval s = v)
    {us : Array Value} (hus : us.size = size) (h1 : ∀ u ∈ us.toList, u.oneCell' = true) (hx : a.eval x = .slice (some ⟨w.heap.size, 0, none⟩) 1 1) (hbase : base ≤ w.heap.size) (hn : n ≤ 100000000)
    (h : ∀ v' w', w'.ownsRow base e size v' (n + 1) (xs ++ us.toList) → Later base w w' → v' ≠ .slice none 0 0 → wpList P ops Q rest (a.put o.dst v') w') :
    wpList P ops Q (o :: rest) a (w.alloc (.cells us e)) := by
  obtain ⟨i0, hi, hz0, hz1, hz2⟩ := info_parts hinfo
  refine wpList_append_own _ hgd s x t ho base e i0 z size bytes ht hi hz0 hz1 hz2 hzs hsz v n xs hs (hown.alloc _) ⟨w.heap.size, 0, none⟩ 1 1 us.toList hx ?_ ?_ h1 ?_ ?_ ?_ ?_
  · simp [hus]
  · intro j u hj
    have hadd : (⟨w.heap.size, 0, none⟩ : Addr).add j = ⟨w.heap.size, j, none⟩ := by unfold Addr.add; split <;> simp_all
    rw [hadd, cell_of_row _ _ j us e (0, 0) (heap_alloc_new w _)]
    simpa using hj
  · unfold maxLen; omega
  · have : (n + 1) * bytes ≤ 100000001 * 1000 := Nat.mul_le_mul (by omega) hby
    omega
  · simp; omega
  · intro v' w' hown' hgrow hne
    refine h v' w' hown' ⟨?_, ?_⟩ (fun e => by simp [e] at hne)
    · have := hgrow.size; simp at this; omega
    · intro w0 B hb hB
      refine (hb.alloc (by omega) _).grown hgrow (by simp; omega) ?_
      intro k hk
      have := hown.lt k hk
      omega

theorem quiet_left {P : Program} {f : FuncId} {args : Array Value} {w : World} {n : Nat} {v : Value}
    (h : Calls P f args (w.drewN n) fun e w' => e = .returned v ∧ w.drewN n = w') : Calls P f args (w.drewN n) fun e w'' => e = .returned v ∧ ∃ m, w'' = w.drewN m :=
  h.mono fun _ _ ⟨he, hm⟩ => ⟨he, n, hm.symm⟩
theorem quiet_add_left {P : Program} {f : FuncId} {args : Array Value} {w : World} {a n : Nat} {v : Value}
    (h : Calls P f args (w.drewN (a + n)) fun e w' => e = .returned v ∧ w.drewN (a + n) = w') : Calls P f args (w.drewN (a + n)) fun e w'' => e = .returned v ∧ ∃ m, w'' = w.drewN (a + m) :=
  h.mono fun _ _ ⟨he, hm⟩ => ⟨he, n, hm.symm⟩
theorem below_drewN {B : Nat} {a w : World} (h : Below B a w) (n : Nat) : Below B a (w.drewN n) := ⟨h.os, h.tape, h.output, h.size, h.block⟩

end Go.Proofs.Ytomfnfbijgjfeaa
/- More words on memory: boxes of evidence; an append whose value is written out. -/
namespace Go.Proofs.Ytomfnfbijgjfeaa
open Go.RowKit

/-- 'append(s, x)': one element, s of the call's own; the new slice written out -/
theorem wpList_app1s {P : Program} {w : World} {ops : Array Oper} {rest : List Oper} {o : Oper} {a : Act} {Q : Exit → Act → World → Prop} (hgd : o.guard = none) (s x : Operand) (t e : TypeId)
    (ho : o.op = .call { callee := .builtin .append, args := #[s, x], argTypes := #[t, t] })
    {z : Value} {size bytes : Nat} (ht : P.underlying t = some (.slice e)) (hinfo : (P.info? e).map (fun i => (i.zero, i.size, i.bytes)) = some (some z, size, bytes)) (hzs : z.cells.size = size) (hsz : 0 < size) (hby : bytes ≤ 1000)
    {base : Nat} {v : Value} {n : Nat} {xs : List Value} (hown : w.ownsRow base e size v n xs) (hs : a.eval s = v)
    {us : Array Value} (hus : us.size = size) (h1 : ∀ u ∈ us.toList, u.oneCell' = true) {b0 : Nat} (hx : a.eval x = .slice (some ⟨b0, 0, none⟩) 1 1) (hb0 : b0 = w.heap.size) (hbase : base ≤ w.heap.size) (hn : n ≤ 100000000)
    (h : ∀ g cap w', w'.ownsRow base e size (.slice (some ⟨g, 0, none⟩) (n + 1) cap) (n + 1) (xs ++ us.toList) → (∀ b, b < w.heap.size → some b ≠ v.ownBlock → w'.heap[b]? = w.heap[b]?) → Later base w w' → base ≤ g → g < w'.heap.size → wpList P ops Q rest (a.put o.dst (.slice (some ⟨g, 0, none⟩) (n + 1) cap)) w') :
    wpList P ops Q (o :: rest) a (w.alloc (.cells us e)) := by
  subst hb0
  obtain ⟨i0, hi, hz0, hz1, hz2⟩ := info_parts hinfo
  refine wpList_append_own _ hgd s x t ho base e i0 z size bytes ht hi hz0 hz1 hz2 hzs hsz v n xs hs (hown.alloc _) ⟨w.heap.size, 0, none⟩ 1 1 us.toList hx ?_ ?_ h1 ?_ ?_ ?_ ?_
  · simp [hus]
  · intro j u hj
    have hadd : (⟨w.heap.size, 0, none⟩ : Addr).add j = ⟨w.heap.size, j, none⟩ := by unfold Addr.add; split <;> simp_all
    rw [hadd, cell_of_row _ _ j us e (0, 0) (heap_alloc_new w _)]
    simpa using hj
  · unfold maxLen; omega
  · have : (n + 1) * bytes ≤ 100000001 * 1000 := Nat.mul_le_mul (by omega) hby
    omega
  · simp; omega
  · intro v' w' hown' hgrow hne
    obtain ⟨g, cap, hv, hb, hlt⟩ := hown'.form (by omega)
    subst hv
    refine h g cap w' hown' ?_ ⟨?_, ?_⟩ hb hlt
    · intro b hlb hne2
      exact (hgrow.block b (by simp; omega) hne2).trans (Below.heap_alloc w _ b hlb)
    · have := hgrow.size; simp at this; omega
    · intro w0 B hb0 hB
      refine (hb0.alloc (by omega) _).grown hgrow (by simp; omega) ?_
      intro k hk
      have := hown.lt k hk
      omega

/-- Block b holds evidence of these parts. -/
structure EvBox (w : World) (b : Nat) (m h s : Int) (A1 : Option Addr) (n1 c1 : Nat) (A2 : Option Addr) (n2 c2 : Nat) (A3 : Option Addr) (n3 c3 : Nat) (A4 : Option Addr) (n4 c4 : Nat) (A5 : Option Addr) (n5 c5 : Nat) : Prop where
  b0 : w.cell? ⟨b, 0, none⟩ = some (vi m)
  b1 : w.cell? ⟨b, 1, none⟩ = some (vi h)
  b2 : w.cell? ⟨b, 2, none⟩ = some (vi s)
  b3 : w.cell? ⟨b, 3, none⟩ = some (.slice A1 n1 c1)
  b4 : w.cell? ⟨b, 4, none⟩ = some (.slice A2 n2 c2)
  b5 : w.cell? ⟨b, 5, none⟩ = some (.slice A3 n3 c3)
  b6 : w.cell? ⟨b, 6, none⟩ = some (.slice A4 n4 c4)
  b7 : w.cell? ⟨b, 7, none⟩ = some (.slice A5 n5 c5)
section
variable {w w' : World} {b : Nat} {m h s : Int} {A1 A2 A3 A4 A5 : Option Addr} {n1 n2 n3 n4 n5 c1 c2 c3 c4 c5 : Nat}
theorem EvBox.lt (h0 : EvBox w b m h s A1 n1 c1 A2 n2 c2 A3 n3 c3 A4 n4 c4 A5 n5 c5) : b < w.heap.size := lt_of_cell h0.b0
theorem EvBox.keep {B : Nat} (h0 : EvBox w b m h s A1 n1 c1 A2 n2 c2 A3 n3 c3 A4 n4 c4 A5 n5 c5) (hb : Below B w w') (hB : b < B) : EvBox w' b m h s A1 n1 c1 A2 n2 c2 A3 n3 c3 A4 n4 c4 A5 n5 c5 :=
  ⟨(hb.cell (p := ⟨b, 0, none⟩) hB).trans h0.b0, (hb.cell (p := ⟨b, 1, none⟩) hB).trans h0.b1, (hb.cell (p := ⟨b, 2, none⟩) hB).trans h0.b2, (hb.cell (p := ⟨b, 3, none⟩) hB).trans h0.b3,
   (hb.cell (p := ⟨b, 4, none⟩) hB).trans h0.b4, (hb.cell (p := ⟨b, 5, none⟩) hB).trans h0.b5, (hb.cell (p := ⟨b, 6, none⟩) hB).trans h0.b6, (hb.cell (p := ⟨b, 7, none⟩) hB).trans h0.b7⟩
theorem EvBox.later (h0 : EvBox w b m h s A1 n1 c1 A2 n2 c2 A3 n3 c3 A4 n4 c4 A5 n5 c5) (hb : Below w.heap.size w w') : EvBox w' b m h s A1 n1 c1 A2 n2 c2 A3 n3 c3 A4 n4 c4 A5 n5 c5 := h0.keep hb h0.lt
theorem EvBox.new (w : World) (m h s : Int) (A1 : Option Addr) (n1 c1 : Nat) (A2 : Option Addr) (n2 c2 : Nat) (A3 : Option Addr) (n3 c3 : Nat) (A4 : Option Addr) (n4 c4 : Nat) (A5 : Option Addr) (n5 c5 : Nat) (t : TypeId) :
    EvBox (w.alloc (.cells #[.int .i64 m, .int .i64 h, .int .i64 s, .slice A1 n1 c1, .slice A2 n2 c2, .slice A3 n3 c3, .slice A4 n4 c4, .slice A5 n5 c5] t)) w.heap.size m h s A1 n1 c1 A2 n2 c2 A3 n3 c3 A4 n4 c4 A5 n5 c5 := by
  have hc := fun i => cell_of_row (w.alloc (.cells #[.int .i64 m, .int .i64 h, .int .i64 s, .slice A1 n1 c1, .slice A2 n2 c2, .slice A3 n3 c3, .slice A4 n4 c4, .slice A5 n5 c5] t)) w.heap.size i _ t (0, 0) (heap_alloc_new w _)
  exact ⟨hc 0, hc 1, hc 2, hc 3, hc 4, hc 5, hc 6, hc 7⟩
end
/-- a block known whole reads as a list -/
theorem Rd.of_block {α : Type} {k : Nat} {f : α → List Value} {w : World} {g : Nat} {cs : Array Value} {t : TypeId} {xs : List α} {n : Nat} (hk : ∀ x, (f x).length = k) (h : w.heap[g]? = some (.cells cs t (0, 0))) (hn : n = xs.length) (hcs : cs.toList = xs.flatMap f) :
    Rd k f w (some ⟨g, 0, none⟩) n xs := by
  refine ⟨hn, fun _ => ⟨g, 0, rfl, fun i x hx j u hu => ?_⟩⟩
  rw [cell_of_row w g _ cs t (0, 0) h]
  have := flat_at hk xs i x hx j u hu
  rw [← hcs] at this
  simpa using this
theorem own_of_block {w : World} {base g : Nat} {cs : Array Value} {t : TypeId} {size n : Nat} (hb : base ≤ g) (h : w.heap[g]? = some (.cells cs t (0, 0))) (hcs : cs.size = n * size) (hn : n ≤ maxLen) :
    w.ownsRow base t size (.slice (some ⟨g, 0, none⟩) n n) n cs.toList :=
  ⟨by simp [hcs], .inr ⟨g, n, cs, rfl, hb, h, Nat.le_refl _, hn, hcs, by rw [List.take_of_length_le (by simp [hcs])]⟩⟩
theorem heap_a3 (w : World) (o o2 o3 : Obj) : (((w.alloc o).alloc o2).alloc o3).heap[w.heap.size + 2]? = some o3 := by
  have := heap_alloc_new ((w.alloc o).alloc o2) o3
  rwa [size_a, size_a] at this
theorem heap_a1 (w : World) (o : Obj) : (w.alloc o).heap[w.heap.size]? = some o := heap_alloc_new w o
theorem heap_later (w : World) (o : Obj) {g : Nat} {x : Obj} (h : w.heap[g]? = some x) : (w.alloc o).heap[g]? = some x :=
  (Below.heap_alloc w o g (Array.getElem?_eq_some_iff.1 h).1).trans h

theorem blk_lt {w : World} {g : Nat} {o : Obj} (h : w.heap[g]? = some o) : g < w.heap.size := (Array.getElem?_eq_some_iff.1 h).1
theorem blk_cell {w : World} {g : Nat} {cs : Array Value} {t : TypeId} (h : w.heap[g]? = some (.cells cs t (0, 0))) (i : Nat) : w.cell? ⟨g, i, none⟩ = cs[i]? := cell_of_row w g i cs t (0, 0) h
theorem blk_frozen {w : World} {g : Nat} {cs : Array Value} {t : TypeId} (h : w.heap[g]? = some (.cells cs t (0, 0))) (i : Nat) : w.frozen? ⟨g, i, none⟩ = false := by simp [World.frozen?, h]
theorem blk_set {w : World} {g : Nat} {cs : Array Value} {t : TypeId} (h : w.heap[g]? = some (.cells cs t (0, 0))) (i : Nat) (u : Value) : (w.setCell ⟨g, i, none⟩ u).heap[g]? = some (.cells (cs.setIfInBounds i u) t (0, 0)) := by
  simp [World.setCell, Array.getElem?_modify, h]
theorem blk_far {w : World} {g b i : Nat} {o : Obj} (h : w.heap[g]? = some o) (hne : g ≠ b) (u : Value) : (w.setCell ⟨b, i, none⟩ u).heap[g]? = some o := (Below.heap_setCell w ⟨b, i, none⟩ u g hne).trans h
theorem blk_later {w w' : World} {g : Nat} {o : Obj} (h : w.heap[g]? = some o) (hb : Below w.heap.size w w') : w'.heap[g]? = some o := (hb.block g (blk_lt h)).trans h
theorem size_set (w : World) (p : Addr) (u : Value) : (w.setCell p u).heap.size = w.heap.size := by simp [World.setCell]
theorem own_set {w : World} {base : Nat} {e : TypeId} {size : Nat} {v : Value} {n b i : Nat} {xs : List Value} (h : w.ownsRow base e size v n xs) (hne : v.ownBlock ≠ some b) (u : Value) : (w.setCell ⟨b, i, none⟩ u).ownsRow base e size v n xs := by
  refine ⟨h.1, ?_⟩
  rcases h.2 with hn | ⟨g, cap, cur, rfl, hb0, hgg, rest⟩
  · exact .inl hn
  · exact .inr ⟨g, cap, cur, rfl, hb0, blk_far hgg (by simpa [Value.ownBlock] using hne) u, rest⟩
theorem own_ne {w : World} {base : Nat} {e t : TypeId} {size : Nat} {v : Value} {n b : Nat} {xs : List Value} {cs : Array Value} (h : w.ownsRow base e size v n xs) (hb : w.heap[b]? = some (.cells cs t (0, 0))) (hne : e ≠ t) : v.ownBlock ≠ some b := by
  rcases h.2 with ⟨rfl, _⟩ | ⟨g, cap, cur, rfl, hb0, hgg, rest⟩
  · simp [Value.ownBlock]
  · intro e1
    simp [Value.ownBlock] at e1
    subst e1
    rw [hgg] at hb
    injection hb with hb
    injection hb with _ hb
    exact hne hb
theorem EvBox.of_blk {w : World} {b : Nat} {m h s : Int} {A1 A2 A3 A4 A5 : Option Addr} {n1 n2 n3 n4 n5 c1 c2 c3 c4 c5 : Nat} {t : TypeId} (hb : w.heap[b]? = some (.cells #[.int .i64 m, .int .i64 h, .int .i64 s, .slice A1 n1 c1, .slice A2 n2 c2, .slice A3 n3 c3, .slice A4 n4 c4, .slice A5 n5 c5] t (0, 0))) :
    EvBox w b m h s A1 n1 c1 A2 n2 c2 A3 n3 c3 A4 n4 c4 A5 n5 c5 :=
  ⟨blk_cell hb 0, blk_cell hb 1, blk_cell hb 2, blk_cell hb 3, blk_cell hb 4, blk_cell hb 5, blk_cell hb 6, blk_cell hb 7⟩

end Go.Proofs.Ytomfnfbijgjfeaa
/- From a walk to a row: every law of the seat is closed by these, over any program. And: arguments opened to cells. -/
namespace Go.Proofs.Ytomfnfbijgjfeaa
open Go.RowKit Go.ChangeShapes Go.WideShapes Go.Deep

section
variable {H : Type} {enc : TypeId × Value → H} {P : Program}
theorem trodAll_stays (hl : laidOutB P = true) {W W' : World} {sp : Nat → Bool} : ∀ {ts : List TypeId} {vs : List Value} {ds : List (DataW H)} {ps : List MemPlace}, (∀ t ∈ ts, P.readableRec t = true ∧ t < P.types.size) →
    DataW.TrodAll enc P W 0 (fun _ => true) true ts vs ds ps → (∀ p ∈ ps, W.sameAt W' p) → (∀ p ∈ ps, sp p.block = true) → DataW.TrodAll enc P W' 0 sp true ts vs ds ps := by
  intro ts
  induction ts with
  | nil =>
    intro vs ds ps _ h _ _
    obtain ⟨rfl, rfl, rfl⟩ := trodAll_nil h
    exact trodAll_mk0
  | cons t ts ih =>
    intro vs ds ps hr h hsame hs
    obtain ⟨v, vs', d, ds', p, q, rfl, rfl, rfl, h1, h2⟩ := trodAll_cons h
    obtain ⟨ht, hlt⟩ := hr t (by simp)
    exact trodAll_cons_mk (WideElems.Trod_stays hl ht hlt h1 (fun x hx => hsame x (by simp [hx])) (fun x hx => hs x (by simp [hx]))) (ih (fun t ht => hr t (by simp [ht])) h2 (fun x hx => hsame x (by simp [hx])) (fun x hx => hs x (by simp [hx])))

/-- A law's post: it returned true, and old memory is as it was. -/
theorem law_post {f : Func} {s : ChangeSpec} {fresh handsOn : Bool} {W W' : World} {args : Array Value} {ds gs : List (DataW H)} {before : List MemPlace} {tb : TypeId}
    (hW : DataW.Whole enc P f.params.toList s.vars false W args.toList ds gs before) (hl : laidOutB P = true) (hr : ∀ t ∈ f.params.toList, P.readableRec t = true ∧ t < P.types.size) (hv : s.vars = [])
    (hfn : s.fn H (ds ++ gs) = { results := [.lit (.bool true)], args := ds }) (hres : f.resultTypes = #[tb]) (hbool : P.underlying tb = some .bool) (hb : Below W.heap.size W W') :
    s.post enc P f false fresh handsOn false W args (.bool true) W' := by
  have hW' := hW
  obtain ⟨p, q, hA, hV, rfl, hfz, hnd⟩ := hW
  rw [hv] at hV
  obtain ⟨rfl, rfl⟩ := trodVars_none hV
  have hlt : ∀ x ∈ p, x.block < W.heap.size := fun x hx => by have := hW'.lt x (by simpa using hx); simpa using this
  refine ⟨ds, [], p ++ [], [], p, [], hW', ?_, ?_, ?_, hb.frame _, fun h => by cases h⟩
  · rw [hfn, hres]
    exact trodAll_mk1 (shut_bool hbool true)
  · rw [hfn]
    exact trodAll_stays hl hr hA (fun x hx => hb.same (hlt x hx)) (fun x hx => by simpa using hlt x hx)
  · rw [hv, hfn]
    exact rfl

/-- lists out of cells that can be read one by one -/
theorem Rd.of_each {α : Type} {k : Nat} {f : α → List Value} {w : World} {b off : Nat} : ∀ (n : Nat), (∀ i, i < n → ∃ x : α, ∀ j u, (f x)[j]? = some u → w.cell? ⟨b, off + (i * k + j), none⟩ = some u) → ∃ xs, Rd k f w (some ⟨b, off, none⟩) n xs := by
  intro n
  induction n with
  | zero => intro _; exact ⟨[], Rd.nil _⟩
  | succ n ih =>
    intro h
    obtain ⟨xs, hx⟩ := ih (fun i hi => h i (by omega))
    obtain ⟨x, hxn⟩ := h n (by omega)
    have hl := hx.len
    refine ⟨xs ++ [x], by simp [← hl], fun _ => ⟨b, off, rfl, fun i y hy j u hu => ?_⟩⟩
    by_cases hi : i < xs.length
    · rw [List.getElem?_append_left hi] at hy
      obtain ⟨b', off', e, hc⟩ := hx.2 (by omega)
      injection e with e
      injection e with e1 e2
      subst e1 e2
      exact hc i y hy j u hu
    · have hi2 : i = n := by
        have := (List.getElem?_eq_some_iff.1 hy).1
        simp at this
        omega
      subst hi2
      have hy2 : x = y := by
        rw [List.getElem?_append_right (by omega), ← hl] at hy
        simpa using hy
      subst hy2
      exact hxn j u hu

variable {w : World} {base : Nat} {spare : Nat → Bool} {held : Bool}
/-- a slice of structs whose fields are one cell each -/
theorem open_structs {α : Type} (f : α → List Value) {t e : TypeId} {fs : Array Field} {fuel : Nat} {v : Value} {x : DataW H × List MemPlace} (ht : P.underlying t = some (.slice e)) (he : P.underlying e = some (.struct fs))
    (hone : oneCellFields P fs = true) (hC : P.cellsOf e = fs.size) (hpos : 0 < fs.size)
    (hdec : ∀ vs : Nat → Value, (∀ j fld, fs[j]? = some fld → ∃ y n, DataW.trod enc P w base spare held n fld.type [vs j] = some y) → ∃ x : α, ∀ j u, (f x)[j]? = some u → vs j = u ∧ j < fs.size)
    (h : DataW.trod enc P w base spare held fuel t [v] = some x) : ∃ A n c xs, v = .slice A n c ∧ Rd fs.size f w A n xs ∧ n ≤ c ∧ c ≤ maxLen := by
  rcases open_slice ht h with ⟨h0, _⟩ | ⟨a, len, cap, m, n, D, Pl, hcs, hb, hl, hm, hmm, hx, hi⟩
  · injection h0 with h0
    exact ⟨none, 0, 0, [], h0, Rd.nil _, Nat.le_refl _, by unfold maxLen; omega⟩
  · injection hcs with hv
    by_cases hz : len = 0
    · subst hz
      exact ⟨some a, 0, cap, [], hv, Rd.nil _, hl, hm⟩
    have hlm : len ≤ m := by rw [hmm]; split <;> omega
    have key : ∀ i, i < m → ∀ j fld, fs[j]? = some fld → ∃ u y n, w.cell? (a.add (i * fs.size + j)) = some u ∧ DataW.trod enc P w base spare held n fld.type [u] = some y := by
      intro i him j fld hj
      obtain ⟨cs', hc, ht'⟩ := hi i him
      rw [hC] at hc
      obtain ⟨ys, n', hn', hy, hlen, hyl, hf⟩ := DataW.trod_struct he ht'
      obtain ⟨_, hcl, hat⟩ := World.cells?_some hc
      obtain ⟨ho, hk⟩ := hone_of hone j fld hj
      have hjl : j < fs.size := (Array.getElem?_eq_some_iff.1 hj).1
      have hcell := hat j hjl
      have hv : cs'[j]? = some (cs'[j]'(by omega)) := List.getElem?_eq_getElem (by omega)
      have h1 := hf j fld hj
      rw [ho, hk] at h1
      have hone' : (cs'.drop j).take 1 = [cs'[j]'(by omega)] := by
        rw [List.drop_eq_getElem_cons (by omega)]
        rfl
      rw [hone'] at h1
      have hys : ys[j]? = some (ys[j]'(by omega)) := List.getElem?_eq_getElem (by omega)
      exact ⟨_, _, _, by rw [← Go.Deep.add_add, hcell, hv], h1.trans hys⟩
    obtain ⟨f0, hf0⟩ : ∃ f0, fs[0]? = some f0 := ⟨_, Array.getElem?_eq_getElem hpos⟩
    obtain ⟨u0, _, _, hu0, _⟩ := key 0 (by omega) 0 f0 hf0
    have hspot : a.spot = none := by
      have := World.cell?_spot hu0
      simpa [Addr.add] using this
    obtain ⟨b, off, sp⟩ := a
    simp only at hspot
    subst hspot
    have hadd : ∀ k, (⟨b, off, none⟩ : Addr).add k = ⟨b, off + k, none⟩ := by
      intro k
      unfold Addr.add
      split
      · subst_vars; rfl
      · rfl
    obtain ⟨xs, hxs⟩ := Rd.of_each (k := fs.size) (f := f) (w := w) (b := b) (off := off) len (fun i hil => by
      have hsel : ∀ j, ∃ u, ∀ fld, fs[j]? = some fld → w.cell? ⟨b, off + (i * fs.size + j), none⟩ = some u ∧ ∃ y n, DataW.trod enc P w base spare held n fld.type [u] = some y := by
        intro j
        by_cases hj : j < fs.size
        · obtain ⟨u, y, n, hu, hy⟩ := key i (by omega) j fs[j] (Array.getElem?_eq_getElem hj)
          rw [hadd] at hu
          refine ⟨u, fun fld hfld => ?_⟩
          rw [Array.getElem?_eq_getElem hj] at hfld
          injection hfld with hfld
          subst hfld
          exact ⟨hu, y, n, hy⟩
        · exact ⟨.nilFunc, fun fld hfld => absurd (Array.getElem?_eq_some_iff.1 hfld).1 hj⟩
      let vs : Nat → Value := fun j => Classical.choose (hsel j)
      obtain ⟨x, hx⟩ := hdec vs (fun j fld hj => (Classical.choose_spec (hsel j) fld hj).2)
      refine ⟨x, fun j u hu => ?_⟩
      obtain ⟨hvu, hjl⟩ := hx j u hu
      rw [← hvu]
      exact (Classical.choose_spec (hsel j) fs[j] (Array.getElem?_eq_getElem hjl)).1)
    exact ⟨_, len, cap, xs, hv, hxs, hl, hm⟩
/-- a slice whose elements are one cell each -/
theorem open_ones {α : Type} (f : α → Value) {t e : TypeId} {fuel : Nat} {v : Value} {x : DataW H × List MemPlace} (ht : P.underlying t = some (.slice e)) (hC : P.cellsOf e = 1)
    (hdec : ∀ (u : Value) y n, DataW.trod enc P w base spare held n e [u] = some y → ∃ x : α, u = f x)
    (h : DataW.trod enc P w base spare held fuel t [v] = some x) : ∃ A n c xs, v = .slice A n c ∧ Rd 1 (fun x => [f x]) w A n xs ∧ n ≤ c ∧ c ≤ maxLen := by
  rcases open_slice ht h with ⟨h0, _⟩ | ⟨a, len, cap, m, n, D, Pl, hcs, hb, hl, hm, hmm, hx, hi⟩
  · injection h0 with h0
    exact ⟨none, 0, 0, [], h0, Rd.nil _, Nat.le_refl _, by unfold maxLen; omega⟩
  · injection hcs with hv
    by_cases hz : len = 0
    · subst hz
      exact ⟨some a, 0, cap, [], hv, Rd.nil _, hl, hm⟩
    have hlm : len ≤ m := by rw [hmm]; split <;> omega
    have key : ∀ i, i < m → ∃ x : α, w.cell? (a.add i) = some (f x) := by
      intro i him
      obtain ⟨cs', hc, ht'⟩ := hi i him
      rw [hC, Nat.mul_one] at hc
      obtain ⟨_, hcl, hat⟩ := World.cells?_some hc
      match cs', hcl with
      | [u], _ =>
        obtain ⟨x, rfl⟩ := hdec u _ _ ht'
        exact ⟨x, by have := hat 0 (by omega); rw [Go.Deep.add_add, Nat.add_zero] at this; simpa using this⟩
    obtain ⟨x0, hu0⟩ := key 0 (by omega)
    have hspot : a.spot = none := by
      have := World.cell?_spot hu0
      simpa [Addr.add] using this
    obtain ⟨b, off, sp⟩ := a
    simp only at hspot
    subst hspot
    have hadd : ∀ k, (⟨b, off, none⟩ : Addr).add k = ⟨b, off + k, none⟩ := by
      intro k
      unfold Addr.add
      split
      · subst_vars; rfl
      · rfl
    obtain ⟨xs, hxs⟩ := Rd.of_each (k := 1) (f := fun x => [f x]) (w := w) (b := b) (off := off) len (fun i hil => by
      obtain ⟨x, hx⟩ := key i (by omega)
      rw [hadd] at hx
      refine ⟨x, fun j u hu => ?_⟩
      match j, hu with
      | 0, hu => simp at hu; subst hu; simpa using hx)
    exact ⟨_, len, cap, xs, hv, hxs, hl, hm⟩
end
end Go.Proofs.Ytomfnfbijgjfeaa
/- An argument 'e api.Evidence' opened to its parts. -/
namespace Go.Proofs.Ytomfnfbijgjfeaa
open Go.RowKit Go.ChangeShapes Go.WideShapes Go.Deep

set_option maxRecDepth 100000
section
variable {H : Type} {enc : TypeId × Value → H} {w : World} {base : Nat} {spare : Nat → Bool} {held : Bool}
theorem dec_int {k : TypeId} (hk : Try.prog.underlying k = some (.int .i64)) {u : Value} (h : ∃ y n, DataW.trod enc Try.prog w base spare held n k [u] = some y) : ∃ a : Int, u = .int .i64 a := by
  obtain ⟨y, n, h⟩ := h
  obtain ⟨a, e, _, _⟩ := DataW.trod_int hk h
  injection e with e
  exact ⟨a, e⟩
theorem dec_bool {k : TypeId} (hk : Try.prog.underlying k = some .bool) {u : Value} (h : ∃ y n, DataW.trod enc Try.prog w base spare held n k [u] = some y) : ∃ a : Bool, u = .bool a := by
  obtain ⟨y, n, h⟩ := h
  obtain ⟨a, e, _⟩ := DataW.trod_bool hk h
  injection e with e
  exact ⟨a, e⟩

theorem open_ev {r : Reach} {b0 : Nat} {v : Value} {d : DataW H} {p : List MemPlace} (hv : Value.okWide Try.prog w r b0 28 v) (h : DataW.Trod enc Try.prog w base spare held 28 v d p) :
    ∃ m h s A1 n1 c1 A2 n2 c2 A3 n3 c3 A4 n4 c4 A5 n5 c5 e, v = .agg #[.int .i64 m, .int .i64 h, .int .i64 s, .slice A1 n1 c1, .slice A2 n2 c2, .slice A3 n3 c3, .slice A4 n4 c4, .slice A5 n5 c5] ∧ EvR w m h s A1 n1 A2 n2 A3 n3 A4 n4 A5 n5 e ∧ n1 ≤ c1 ∧ n2 ≤ c2 ∧ n3 ≤ c3 ∧ n4 ≤ c4 ∧ n5 ≤ c5 ∧ c1 ≤ maxLen ∧ c2 ≤ maxLen ∧ c3 ≤ maxLen ∧ c4 ≤ maxLen ∧ c5 ≤ maxLen := by
  obtain ⟨fs, hs, hone, hC, hty⟩ : ∃ fs : Array Field, Try.prog.underlying 28 = some (.struct fs) ∧ oneCellFields Try.prog fs = true ∧ Try.prog.cellsOf 28 = 8 ∧ fs.map (·.type) = #[3, 3, 3, 22, 23, 24, 25, 26] :=
    ⟨_, Try.underlying28, by kernel_rfl, by kernel_rfl, by kernel_rfl⟩
  obtain ⟨cs, rfl, hsz⟩ := okWide_struct hs hv
  obtain ⟨l⟩ := cs
  obtain ⟨fuel, hf⟩ := h
  obtain ⟨xs, n, _, hx, _, hlen, hg⟩ := DataW.trod_struct hs hf
  have hl8 : l.length = 8 := by simpa [hC] using hsz
  have hfs : fs.size = 8 := by have := congrArg Array.size hty; simpa using this
  have hfld : ∀ j, j < 8 → ∃ u y m, l[j]? = some u ∧ DataW.trod enc Try.prog w base spare held m ((#[3, 3, 3, 22, 23, 24, 25, 26] : Array TypeId).getD j 0) [u] = some y := by
    intro j hj
    have hjf : fs[j]? = some (fs[j]'(by omega)) := Array.getElem?_eq_getElem (by omega)
    obtain ⟨ho, hk⟩ := hone_of hone j _ hjf
    have h1 := hg j _ hjf
    rw [ho, hk] at h1
    have hone' : ((Value.agg ⟨l⟩).cells.toList.drop j).take 1 = [l[j]'(by omega)] := by
      show (l.drop j).take 1 = _
      rw [List.drop_eq_getElem_cons (by omega)]
      rfl
    rw [hone'] at h1
    have hxl : j < xs.length := by omega
    rw [List.getElem?_eq_getElem hxl] at h1
    have htj : (#[3, 3, 3, 22, 23, 24, 25, 26] : Array TypeId).getD j 0 = (fs[j]'(by omega)).type := by
      rw [← hty, Array.getD_eq_getD_getElem?, Array.getElem?_map, hjf]
      rfl
    rw [htj]
    exact ⟨_, _, n, List.getElem?_eq_getElem (by omega), h1⟩
  match l, hl8 with
  | [v0, v1, v2, v3, v4, v5, v6, v7], _ =>
    obtain ⟨u0, y0, m0, e0, t0⟩ := hfld 0 (by omega)
    obtain ⟨u1, y1, m1, e1, t1⟩ := hfld 1 (by omega)
    obtain ⟨u2, y2, m2, e2, t2⟩ := hfld 2 (by omega)
    obtain ⟨u3, y3, m3, e3, t3⟩ := hfld 3 (by omega)
    obtain ⟨u4, y4, m4, e4, t4⟩ := hfld 4 (by omega)
    obtain ⟨u5, y5, m5, e5, t5⟩ := hfld 5 (by omega)
    obtain ⟨u6, y6, m6, e6, t6⟩ := hfld 6 (by omega)
    obtain ⟨u7, y7, m7, e7, t7⟩ := hfld 7 (by omega)
    simp at e0 e1 e2 e3 e4 e5 e6 e7
    subst e0 e1 e2 e3 e4 e5 e6 e7
    obtain ⟨a0, rfl⟩ := dec_int Try.underlying3 ⟨_, _, t0⟩
    obtain ⟨a1, rfl⟩ := dec_int Try.underlying3 ⟨_, _, t1⟩
    obtain ⟨a2, rfl⟩ := dec_int Try.underlying3 ⟨_, _, t2⟩
    obtain ⟨A1, n1, c1, ps, rfl, r1, l1, g1⟩ := open_structs Place.cells Try.underlying22 Try.underlying80 (by kernel_rfl) (by kernel_rfl) (by decide)
      (fun vs hd => by
        obtain ⟨b0, h0⟩ := dec_int Try.underlying3 (hd 0 _ rfl)
        obtain ⟨b1, h1⟩ := dec_int Try.underlying3 (hd 1 _ rfl)
        obtain ⟨b2, h2⟩ := dec_int Try.underlying3 (hd 2 _ rfl)
        refine ⟨⟨b0, b1, b2⟩, fun j u hu => ?_⟩
        match j, hu with
        | 0, hu => exact ⟨h0.trans (by simpa [Place.cells] using hu), by decide⟩
        | 1, hu => exact ⟨h1.trans (by simpa [Place.cells] using hu), by decide⟩
        | 2, hu => exact ⟨h2.trans (by simpa [Place.cells] using hu), by decide⟩
        | n + 3, hu => simp [Place.cells] at hu) t3
    obtain ⟨A2, n2, c2, ms, rfl, r2, l2, g2⟩ := open_structs Move.cells Try.underlying23 Try.underlying55 (by kernel_rfl) (by kernel_rfl) (by decide)
      (fun vs hd => by
        obtain ⟨b0, h0⟩ := dec_int Try.underlying3 (hd 0 _ rfl)
        obtain ⟨b1, h1⟩ := dec_int Try.underlying3 (hd 1 _ rfl)
        obtain ⟨b2, h2⟩ := dec_int Try.underlying3 (hd 2 _ rfl)
        obtain ⟨b3, h3⟩ := dec_int Try.underlying3 (hd 3 _ rfl)
        obtain ⟨b4, h4⟩ := dec_int Try.underlying3 (hd 4 _ rfl)
        obtain ⟨b5, h5⟩ := dec_bool Try.underlying4 (hd 5 _ rfl)
        refine ⟨⟨b0, b1, b2, b3, b4, b5⟩, fun j u hu => ?_⟩
        match j, hu with
        | 0, hu => exact ⟨h0.trans (by simpa [Move.cells] using hu), by decide⟩
        | 1, hu => exact ⟨h1.trans (by simpa [Move.cells] using hu), by decide⟩
        | 2, hu => exact ⟨h2.trans (by simpa [Move.cells] using hu), by decide⟩
        | 3, hu => exact ⟨h3.trans (by simpa [Move.cells] using hu), by decide⟩
        | 4, hu => exact ⟨h4.trans (by simpa [Move.cells] using hu), by decide⟩
        | 5, hu => exact ⟨h5.trans (by simpa [Move.cells] using hu), by decide⟩
        | n + 6, hu => simp [Move.cells] at hu) t4
    obtain ⟨A3, n3, c3, cts, rfl, r3, l3, g3⟩ := open_structs Cert.cells Try.underlying24 Try.underlying132 (by kernel_rfl) (by kernel_rfl) (by decide)
      (fun vs hd => by
        obtain ⟨b0, h0⟩ := dec_int Try.underlying3 (hd 0 _ rfl)
        obtain ⟨b1, h1⟩ := dec_int Try.underlying3 (hd 1 _ rfl)
        obtain ⟨b2, h2⟩ := dec_int Try.underlying3 (hd 2 _ rfl)
        obtain ⟨b3, h3⟩ := dec_int Try.underlying3 (hd 3 _ rfl)
        obtain ⟨b4, h4⟩ := dec_int Try.underlying3 (hd 4 _ rfl)
        obtain ⟨b5, h5⟩ := dec_int Try.underlying3 (hd 5 _ rfl)
        refine ⟨⟨b0, b1, b2, b3, b4, b5⟩, fun j u hu => ?_⟩
        match j, hu with
        | 0, hu => exact ⟨h0.trans (by simpa [Cert.cells] using hu), by decide⟩
        | 1, hu => exact ⟨h1.trans (by simpa [Cert.cells] using hu), by decide⟩
        | 2, hu => exact ⟨h2.trans (by simpa [Cert.cells] using hu), by decide⟩
        | 3, hu => exact ⟨h3.trans (by simpa [Cert.cells] using hu), by decide⟩
        | 4, hu => exact ⟨h4.trans (by simpa [Cert.cells] using hu), by decide⟩
        | 5, hu => exact ⟨h5.trans (by simpa [Cert.cells] using hu), by decide⟩
        | n + 6, hu => simp [Cert.cells] at hu) t5
    obtain ⟨A4, n4, c4, rcs, rfl, r4, l4, g4⟩ := open_structs Recall.cells Try.underlying25 Try.underlying39 (by kernel_rfl) (by kernel_rfl) (by decide)
      (fun vs hd => by
        obtain ⟨b0, h0⟩ := dec_int Try.underlying3 (hd 0 _ rfl)
        obtain ⟨b1, h1⟩ := dec_int Try.underlying3 (hd 1 _ rfl)
        refine ⟨⟨b0, b1⟩, fun j u hu => ?_⟩
        match j, hu with
        | 0, hu => exact ⟨h0.trans (by simpa [Recall.cells] using hu), by decide⟩
        | 1, hu => exact ⟨h1.trans (by simpa [Recall.cells] using hu), by decide⟩
        | n + 2, hu => simp [Recall.cells] at hu) t6
    obtain ⟨A5, n5, c5, pus, rfl, r5, l5, g5⟩ := open_structs Purity.cells Try.underlying26 Try.underlying141 (by kernel_rfl) (by kernel_rfl) (by decide)
      (fun vs hd => by
        obtain ⟨b0, h0⟩ := dec_int Try.underlying3 (hd 0 _ rfl)
        obtain ⟨b1, h1⟩ := dec_int Try.underlying3 (hd 1 _ rfl)
        obtain ⟨b2, h2⟩ := dec_int Try.underlying3 (hd 2 _ rfl)
        obtain ⟨b3, h3⟩ := dec_int Try.underlying3 (hd 3 _ rfl)
        refine ⟨⟨b0, b1, b2, b3⟩, fun j u hu => ?_⟩
        match j, hu with
        | 0, hu => exact ⟨h0.trans (by simpa [Purity.cells] using hu), by decide⟩
        | 1, hu => exact ⟨h1.trans (by simpa [Purity.cells] using hu), by decide⟩
        | 2, hu => exact ⟨h2.trans (by simpa [Purity.cells] using hu), by decide⟩
        | 3, hu => exact ⟨h3.trans (by simpa [Purity.cells] using hu), by decide⟩
        | n + 4, hu => simp [Purity.cells] at hu) t7
    exact ⟨a0, a1, a2, A1, n1, c1, A2, n2, c2, A3, n3, c3, A4, n4, c4, A5, n5, c5, ⟨a0, a1, a2, ps, ms, cts, rcs, pus⟩, rfl, ⟨rfl, rfl, rfl, r1, r2, r3, r4, r5⟩, l1, l2, l3, l4, l5, g1, g2, g3, g4, g5⟩
end
theorem law_own : ownKnob Try.prog.godebug = none := by kernel_rfl
theorem law_laid : laidOutB Try.prog = true := by kernel_rfl
end Go.Proofs.Ytomfnfbijgjfeaa
/- From a call's contract to what a law's row asks for. -/
namespace Go.Proofs.Ytomfnfbijgjfeaa
open Go.RowKit
set_option linter.unusedVariables false
set_option linter.unusedSimpArgs false

/-- a list that is read from the outside -/
theorem rt_of_rd {α : Type} {k : Nat} {f : α → List Value} {row : α → List T} (hrow : ∀ x, row x = (f x).map T.atm) (hone : ∀ x, ∀ v ∈ f x, v.oneCell' = true) (hk : ∀ x, (f x).length = k)
    {w : World} {A : Option Addr} {n c : Nat} {xs : List α} (h : Rd k f w A n xs) (h1 : n ≤ c) (h2 : c ≤ maxLen) : RT w (fun _ => False) (.sl k .any (xs.map row)) (.slice A n c) := by
  obtain ⟨hn, hc⟩ := h
  have hlen : (xs.map row).length = n := by simp [hn]
  rw [← hlen]
  have hat : ∀ i j t, at2 (xs.map row) i j = some t → ∃ x v, xs[i]? = some x ∧ (f x)[j]? = some v ∧ t = .atm v := fun i j t ht => by
    obtain ⟨r, q1, q2⟩ := at2_inv ht
    rw [List.getElem?_map] at q1
    cases hx : xs[i]? with
    | none => rw [hx] at q1; cases q1
    | some x =>
      rw [hx] at q1
      injection q1 with q1
      subst q1
      rw [hrow, List.getElem?_map] at q2
      cases hv : (f x)[j]? with
      | none => rw [hv] at q2; cases q2
      | some v => rw [hv] at q2; injection q2 with q2; exact ⟨x, v, rfl, hv, q2.symm⟩
  rcases Nat.eq_zero_or_pos n with h0 | h0
  · have hx : xs = [] := List.eq_nil_of_length_eq_zero (by omega)
    subst hx
    exact .sl (b := 0) (off := 0) (fun _ _ => undef) (by simp) (by simp) h2 (by intro h; cases h) (by intro h; cases h) (by simp) (by simp [at2]) (by simp [at2])
  · obtain ⟨b, off, hA, hcell⟩ := hc h0
    refine .sl (b := b) (off := off) (fun i j => ((xs[i]?).bind fun x => (f x)[j]?).getD undef) ?_ (by omega) h2 (by intro h; cases h) (by intro h; cases h) (fun _ => hA) ?_ ?_
    · intro r hr
      obtain ⟨x, _, rfl⟩ := List.mem_map.1 hr
      rw [hrow, List.length_map, hk]
    · intro i j t ht
      obtain ⟨x, v, hx, hv, rfl⟩ := hat i j t ht
      exact ⟨by rw [hcell i x hx j v hv]; simp [hx, hv], fun h => h⟩
    · intro i j t ht
      obtain ⟨x, v, hx, hv, rfl⟩ := hat i j t ht
      have : ((xs[i]?).bind fun x => (f x)[j]?).getD undef = v := by simp [hx, hv]
      rw [this]
      exact .atm (hone x v (List.mem_of_getElem? hv))

theorem rs_ev {w : World} {m h s : Int} {A1 A2 A3 A4 A5 : Option Addr} {n1 n2 n3 n4 n5 c1 c2 c3 c4 c5 : Nat} {e : Ev} (hr : EvR w m h s A1 n1 A2 n2 A3 n3 A4 n4 A5 n5 e)
    (hb : n1 ≤ c1 ∧ n2 ≤ c2 ∧ n3 ≤ c3 ∧ n4 ≤ c4 ∧ n5 ≤ c5 ∧ c1 ≤ maxLen ∧ c2 ≤ maxLen ∧ c3 ≤ maxLen ∧ c4 ≤ maxLen ∧ c5 ≤ maxLen) :
    RS w (fun _ => none) (fun _ => False) (evS e) (.agg #[.int .i64 m, .int .i64 h, .int .i64 s, .slice A1 n1 c1, .slice A2 n2 c2, .slice A3 n3 c3, .slice A4 n4 c4, .slice A5 n5 c5]) := by
  obtain ⟨rfl, rfl, rfl, r1, r2, r3, r4, r5⟩ := hr
  obtain ⟨b1, b2, b3, b4, b5, d1, d2, d3, d4, d5⟩ := hb
  have t1 := rt_of_rd (k := 3) (f := Place.cells) (row := Place.row) (fun _ => rfl) (by intro x v hv; simp [Place.cells] at hv; rcases hv with rfl | rfl | rfl <;> rfl) (fun _ => rfl) r1 b1 d1
  have t2 := rt_of_rd (k := 6) (f := Move.cells) (row := Move.row) (fun _ => rfl) (by intro x v hv; simp [Move.cells] at hv; rcases hv with rfl | rfl | rfl | rfl | rfl | rfl <;> rfl) (fun _ => rfl) r2 b2 d2
  have t3 := rt_of_rd (k := 6) (f := Cert.cells) (row := Cert.row) (fun _ => rfl) (by intro x v hv; simp [Cert.cells] at hv; rcases hv with rfl | rfl | rfl | rfl | rfl | rfl <;> rfl) (fun _ => rfl) r3 b3 d3
  have t4 := rt_of_rd (k := 2) (f := Recall.cells) (row := Recall.row) (fun _ => rfl) (by intro x v hv; simp [Recall.cells] at hv; rcases hv with rfl | rfl <;> rfl) (fun _ => rfl) r4 b4 d4
  have t5 := rt_of_rd (k := 4) (f := Purity.cells) (row := Purity.row) (fun _ => rfl) (by intro x v hv; simp [Purity.cells] at hv; rcases hv with rfl | rfl | rfl | rfl <;> rfl) (fun _ => rfl) r5 b5 d5
  refine .agg [.int .i64 e.mats, .int .i64 e.hhs, .int .i64 e.scs, .slice A1 n1 c1, .slice A2 n2 c2, .slice A3 n3 c3, .slice A4 n4 c4, .slice A5 n5 c5] rfl fun j c hj => ?_
  match j, hj with
  | 0, hj => injection hj with hj; subst hj; exact .t (.atm rfl)
  | 1, hj => injection hj with hj; subst hj; exact .t (.atm rfl)
  | 2, hj => injection hj with hj; subst hj; exact .t (.atm rfl)
  | 3, hj => injection hj with hj; subst hj; exact .t t1
  | 4, hj => injection hj with hj; subst hj; exact .t t2
  | 5, hj => injection hj with hj; subst hj; exact .t t3
  | 6, hj => injection hj with hj; subst hj; exact .t t4
  | 7, hj => injection hj with hj; subst hj; exact .t t5
  | j + 8, hj => simp [evC] at hj

theorem wf_rangeU {n : Int} (h : (Lit.int .u8 n).wf = true) : 0 ≤ n ∧ n ≤ 255 := by
  simp only [Lit.wf, Bool.and_eq_true, decide_eq_true_eq] at h
  exact h
theorem rs_u8 {w : World} {n : Int} : RS w (fun _ => none) (fun _ => False) (intS .u8 n) (.int .u8 n) := RS.int
theorem rs_bool {w : World} {b : Bool} : RS w (fun _ => none) (fun _ => False) (boolS b) (.bool b) := RS.bool
theorem wf_range {n : Int} (h : (Lit.int .i64 n).wf = true) : -9223372036854775808 ≤ n ∧ n ≤ 9223372036854775807 := by
  simp only [Lit.wf, Bool.and_eq_true, decide_eq_true_eq] at h
  exact h
theorem rs_int {w : World} {n : Int} : RS w (fun _ => none) (fun _ => False) (intS .i64 n) (.int .i64 n) := RS.int

/-- arguments one by one -/
inductive RArgs (w : World) : List S → List Value → Prop
  | nil : RArgs w [] []
  | cons {s : S} {v : Value} {ss : List S} {vs : List Value} (h : RS w (fun _ => none) (fun _ => False) s v) (hs : RArgs w ss vs) : RArgs w (s :: ss) (v :: vs)
theorem RArgs.get {w : World} {ss : List S} {vs : List Value} (h : RArgs w ss vs) : vs.length = ss.length ∧ ∀ (j : Nat) (s : S), ss[j]? = some s → RS w (fun _ => none) (fun _ => False) s (vs.getD j undef) := by
  induction h with
  | nil => exact ⟨rfl, by simp⟩
  | cons h hs ih =>
    refine ⟨by simp [ih.1], fun j s hj => ?_⟩
    cases j with
    | zero => simp at hj; subst hj; exact h
    | succ j => simpa using ih.2 j s (by simpa using hj)

theorem law_of_acall {P : Program} {g : FuncId} {ss : List S} {b : Bool} (h : ACall P g ss [] (boolS b) []) {w : World} {vs : List Value} (ha : RArgs w ss vs) :
    Calls P g vs.toArray w fun e w' => e = .returned (.bool b) ∧ Below w.heap.size w w' := by
  obtain ⟨h1, h2⟩ := ha.get
  refine Calls.mono (h.2 w (fun _ => none) (fun _ => False) vs h1 h2 ⟨by simp, by simp, by simp, by simp, by simp⟩ (fun _ h => h.elim) (fun _ _ => rfl)) ?_
  rintro e w' ⟨v, rfl, ι', M', q1, q2, q3, q4, q5⟩
  rw [q1.inv_atm]
  exact ⟨rfl, q5.os, q5.tape, q5.output, q5.size, fun k hk => q5.keep k hk (by rintro ⟨id, k, _, _, hk, _⟩; simp at hk)⟩
end Go.Proofs.Ytomfnfbijgjfeaa
/- Arguments of type []bool and []int opened. -/
namespace Go.Proofs.Ytomfnfbijgjfeaa
open Go.RowKit Go.ChangeShapes Go.WideShapes Go.Deep
set_option maxRecDepth 100000

section
variable {H : Type} {enc : TypeId × Value → H} {w : World} {base : Nat} {spare : Nat → Bool} {held : Bool}
theorem open_bools {r : Reach} {b0 : Nat} {v : Value} {d : DataW H} {p : List MemPlace} (hv : Value.okWide Try.prog w r b0 77 v) (h : DataW.Trod enc Try.prog w base spare held 77 v d p) :
    ∃ A n c xs, v = .slice A n c ∧ Rd 1 (fun x => [Value.bool x]) w A n xs ∧ n ≤ c ∧ c ≤ maxLen := by
  obtain ⟨a, len, cap, rfl⟩ := okWide_slice Try.underlying77 hv
  obtain ⟨fuel, hf⟩ := h
  exact open_ones (f := Value.bool) Try.underlying77 (by kernel_rfl) (fun u y n hy => dec_bool Try.underlying4 ⟨y, n, hy⟩) hf
theorem open_ints {r : Reach} {b0 : Nat} {v : Value} {d : DataW H} {p : List MemPlace} (hv : Value.okWide Try.prog w r b0 47 v) (h : DataW.Trod enc Try.prog w base spare held 47 v d p) :
    ∃ A n c xs, v = .slice A n c ∧ Rd 1 (fun x => [Value.int .i64 x]) w A n xs ∧ n ≤ c ∧ c ≤ maxLen := by
  obtain ⟨a, len, cap, rfl⟩ := okWide_slice Try.underlying47 hv
  obtain ⟨fuel, hf⟩ := h
  exact open_ones (f := Value.int .i64) Try.underlying47 (by kernel_rfl) (fun u y n hy => dec_int Try.underlying3 ⟨y, n, hy⟩) hf
end
theorem rs_bools {w : World} {A : Option Addr} {n c : Nat} {xs : List Bool} (h : Rd 1 (fun x => [Value.bool x]) w A n xs) (h1 : n ≤ c) (h2 : c ≤ maxLen) : RS w (fun _ => none) (fun _ => False) (boolsS xs) (.slice A n c) :=
  .c (.t (rt_of_rd (k := 1) (f := fun x => [Value.bool x]) (row := boolRow) (fun _ => rfl) (by intro x v hv; simp at hv; subst hv; rfl) (fun _ => rfl) h h1 h2))
theorem rs_ints {w : World} {A : Option Addr} {n c : Nat} {xs : List Int} (h : Rd 1 (fun x => [Value.int .i64 x]) w A n xs) (h1 : n ≤ c) (h2 : c ≤ maxLen) : RS w (fun _ => none) (fun _ => False) (intsS xs) (.slice A n c) :=
  .c (.t (rt_of_rd (k := 1) (f := fun x => [Value.int .i64 x]) (row := intRow) (fun _ => rfl) (by intro x v hv; simp at hv; subst hv; rfl) (fun _ => rfl) h h1 h2))
end Go.Proofs.Ytomfnfbijgjfeaa
/- Arguments opened by the shape of their type: integers, truth values, structs and slices, however nested. -/
namespace Go.Proofs.Ytomfnfbijgjfeaa
open Go.RowKit Go.ChangeShapes Go.WideShapes Go.Deep
set_option linter.unusedVariables false

inductive Sh where
  | int (k : IntKind)
  | bool
  | sl (row : List Sh)
inductive Fit : Sh → T → Prop
  | int {k : IntKind} {n : Int} (h : (Lit.int k n).wf = true) : Fit (.int k) (.atm (.int k n))
  | bool {b : Bool} : Fit .bool (.atm (.bool b))
  | sl {row : List Sh} {rows : List (List T)} (hl : ∀ r ∈ rows, r.length = row.length) (h : ∀ r ∈ rows, ∀ (j : Nat) (s : Sh) (t : T), row[j]? = some s → r[j]? = some t → Fit s t) : Fit (.sl row) (.sl row.length .any rows)
inductive HasSh (P : Program) : TypeId → List Sh → Prop
  | int {t : TypeId} {k : IntKind} (h : P.underlying t = some (.int k)) : HasSh P t [.int k]
  | bool {t : TypeId} (h : P.underlying t = some .bool) : HasSh P t [.bool]
  | sl {t e : TypeId} {row : List Sh} (h : P.underlying t = some (.slice e)) (hc : P.cellsOf e = row.length) (hp : 0 < row.length) (he : HasSh P e row) : HasSh P t [.sl row]
  | struct {t : TypeId} {fs : Array Field} (parts : List (List Sh)) (h : P.underlying t = some (.struct fs)) (hl : parts.length = fs.size)
      (ho : ∀ (i : Nat) (f : Field) (p : List Sh), fs[i]? = some f → parts[i]? = some p → f.offset = (parts.take i).flatten.length ∧ P.cellsOf f.type = p.length)
      (hc : P.cellsOf t = parts.flatten.length)
      (he : ∀ (i : Nat) (f : Field) (p : List Sh), fs[i]? = some f → parts[i]? = some p → HasSh P f.type p) : HasSh P t parts.flatten

section
variable {H : Type} {enc : TypeId × Value → H} {P : Program} {w : World} {base : Nat} {spare : Nat → Bool} {held : Bool}
/-- cells that read as trees of these shapes -/
def OpenAs (w : World) (shs : List Sh) (cs : List Value) : Prop :=
  cs.length = shs.length ∧ ∃ ts : List T, ts.length = shs.length ∧ ∀ (j : Nat) (s : Sh), shs[j]? = some s → ∃ u t, cs[j]? = some u ∧ ts[j]? = some t ∧ RT w (fun _ => False) t u ∧ Fit s t
theorem flatten_at {α : Type} : ∀ (parts : List (List α)) (j : Nat) (x : α), parts.flatten[j]? = some x → ∃ i p k, parts[i]? = some p ∧ p[k]? = some x ∧ j = (parts.take i).flatten.length + k
  | [], j, x, h => by simp at h
  | p :: r, j, x, h => by
    rw [List.flatten_cons] at h
    by_cases hj : j < p.length
    · rw [List.getElem?_append_left hj] at h
      exact ⟨0, p, j, rfl, h, by simp⟩
    · rw [List.getElem?_append_right (by omega)] at h
      obtain ⟨i, q, k, h1, h2, h3⟩ := flatten_at r _ x h
      exact ⟨i + 1, q, k, by simpa using h1, h2, by rw [List.take_succ_cons, List.flatten_cons, List.length_append]; omega⟩
theorem lists_choose {α : Type} {p : Nat → α → Prop} : ∀ (n : Nat), (∀ i, i < n → ∃ x, p i x) → ∃ xs : List α, xs.length = n ∧ ∀ i x, xs[i]? = some x → p i x
  | 0, _ => ⟨[], rfl, by simp⟩
  | n + 1, h => by
    obtain ⟨xs, h1, h2⟩ := lists_choose n fun i hi => h i (by omega)
    obtain ⟨x, hx⟩ := h n (by omega)
    refine ⟨xs ++ [x], by simp [h1], fun i y hy => ?_⟩
    by_cases hi : i < xs.length
    · rw [List.getElem?_append_left hi] at hy; exact h2 i y hy
    · rw [List.getElem?_append_right (by omega)] at hy
      have : i = n := by
        have := (List.getElem?_eq_some_iff.1 hy).1
        simp at this; omega
      subst this
      rw [h1] at hy
      simp at hy
      subst hy
      exact hx
theorem open_sh {t : TypeId} {shs : List Sh} (h : HasSh P t shs) : ∀ (n : Nat) (cs : List Value) (x : DataW H × List MemPlace), DataW.trod enc P w base spare held n t cs = some x → OpenAs w shs cs := by
  induction h with
  | int h =>
    intro n cs x hx
    obtain ⟨a, rfl, _, hw⟩ := DataW.trod_int h hx
    exact ⟨rfl, [.atm (.int _ a)], rfl, fun j s hj => by
      match j, hj with
      | 0, hj => simp at hj; subst hj; exact ⟨_, _, rfl, rfl, .atm rfl, .int hw⟩⟩
  | bool h =>
    intro n cs x hx
    obtain ⟨a, rfl, _⟩ := DataW.trod_bool h hx
    exact ⟨rfl, [.atm (.bool a)], rfl, fun j s hj => by
      match j, hj with
      | 0, hj => simp at hj; subst hj; exact ⟨_, _, rfl, rfl, .atm rfl, .bool⟩⟩
  | @sl t e row h hc hp he ih =>
    intro n cs x hx
    have key : ∀ (rows : List (List T)) (u : Value), cs = [u] → RT w (fun _ => False) (.sl row.length .any rows) u → (∀ r ∈ rows, r.length = row.length) → (∀ r ∈ rows, ∀ (j : Nat) (s : Sh) (t : T), row[j]? = some s → r[j]? = some t → Fit s t) → OpenAs w [.sl row] cs := by
      rintro rows u rfl hu h1 h2
      exact ⟨rfl, [.sl row.length .any rows], rfl, fun j s hj => by
        match j, hj with
        | 0, hj => simp at hj; subst hj; exact ⟨_, _, rfl, rfl, hu, .sl h1 h2⟩⟩
    rcases open_slice h hx with ⟨h0, _⟩ | ⟨a, len, cap, m, n, D, Pl, hcs, hb, hl, hm, hmm, hx, hi⟩
    · exact key [] _ h0 (.sl (b := 0) (off := 0) (fun _ _ => undef) (by simp) (by simp) (by unfold maxLen; omega) (by intro h; cases h) (by intro h; cases h) (by simp) (by simp [at2]) (by simp [at2])) (by simp) (by simp)
    · by_cases hz : len = 0
      · subst hz
        exact key [] _ hcs (.sl (b := 0) (off := 0) (fun _ _ => undef) (by simp) (by simp) hm (by intro h; cases h) (by intro h; cases h) (by simp) (by simp [at2]) (by simp [at2])) (by simp) (by simp)
      have hlm : len ≤ m := by rw [hmm]; split <;> omega
      have each : ∀ i, i < len → ∃ cs' : List Value, (∀ j, j < row.length → w.cell? (a.add (i * row.length + j)) = cs'[j]?) ∧ OpenAs w row cs' := by
        intro i hil
        obtain ⟨cs', hc', ht'⟩ := hi i (by omega)
        rw [hc] at hc'
        obtain ⟨_, hcl, hat⟩ := World.cells?_some hc'
        exact ⟨cs', fun j hj => by rw [← Go.Deep.add_add]; exact hat j hj, ih n cs' _ ht'⟩
      obtain ⟨css, hcl, hcs2⟩ := lists_choose len each
      obtain ⟨rows, hrl, hrows⟩ := lists_choose (α := List T) (p := fun i ts => ts.length = row.length ∧ ∀ (j : Nat) (s : Sh), row[j]? = some s → ∃ u t, (css.getD i [])[j]? = some u ∧ ts[j]? = some t ∧ RT w (fun _ => False) t u ∧ Fit s t) len (fun i hi => by
        have hg : css[i]? = some (css[i]'(by omega)) := List.getElem?_eq_getElem (by omega)
        obtain ⟨_, _, ts, h1, h2⟩ := hcs2 i _ hg
        refine ⟨ts, h1, ?_⟩
        rw [List.getD_eq_getElem?_getD, hg]
        exact h2)
      have hcell : ∀ i j, i < len → j < row.length → w.cell? (a.add (i * row.length + j)) = some ((css.getD i []).getD j undef) := by
        intro i j hi hj
        have hg : css[i]? = some (css[i]'(by omega)) := List.getElem?_eq_getElem (by omega)
        obtain ⟨h1, h2, _⟩ := hcs2 i _ hg
        rw [h1 j hj]
        have hgd : css.getD i [] = css[i]'(by omega) := by rw [List.getD_eq_getElem?_getD, hg]; rfl
        rw [hgd, List.getD_eq_getElem?_getD, List.getElem?_eq_getElem (by omega)]; rfl
      have hspot : a.spot = none := by
        have := World.cell?_spot (hcell 0 0 (by omega) hp)
        simpa [Addr.add] using this
      obtain ⟨b, off, sp⟩ := a
      simp only at hspot
      subst hspot
      have hadd : ∀ k, (⟨b, off, none⟩ : Addr).add k = ⟨b, off + k, none⟩ := by
        intro k
        unfold Addr.add
        split
        · subst_vars; rfl
        · rfl
      have hat : ∀ i j c, at2 rows i j = some c → i < len ∧ j < row.length ∧ ∃ r s, rows[i]? = some r ∧ r[j]? = some c ∧ row[j]? = some s := by
        intro i j c hc
        obtain ⟨r, q1, q2⟩ := at2_inv hc
        have hil : i < len := by rw [← hrl]; exact (List.getElem?_eq_some_iff.1 q1).1
        have hjl : j < row.length := by rw [← (hrows i r q1).1]; exact (List.getElem?_eq_some_iff.1 q2).1
        exact ⟨hil, hjl, r, _, q1, q2, List.getElem?_eq_getElem hjl⟩
      refine key rows (.slice (some ⟨b, off, none⟩) len cap) hcs ?_ ?_ ?_
      · rw [← hrl]
        refine .sl (b := b) (off := off) (fun i j => (css.getD i []).getD j undef) ?_ (by omega) hm (by intro h; cases h) (by intro h; cases h) (fun _ => rfl) ?_ ?_
        · intro r hr
          obtain ⟨i, hi⟩ := List.mem_iff_getElem?.1 hr
          exact (hrows i r hi).1
        · intro i j c hc
          obtain ⟨hil, hjl, _⟩ := hat i j c hc
          have := hcell i j hil hjl
          rw [hadd] at this
          exact ⟨this, fun h => h⟩
        · intro i j c hc
          obtain ⟨hil, hjl, r, s, q1, q2, q3⟩ := hat i j c hc
          obtain ⟨u, t, h1, h2, h3, h4⟩ := (hrows i r q1).2 j s q3
          rw [q2] at h2
          injection h2 with h2
          subst h2
          rw [List.getD_eq_getElem?_getD (l := css.getD i []), h1]
          exact h3
      · intro r hr
        obtain ⟨i, hi⟩ := List.mem_iff_getElem?.1 hr
        exact (hrows i r hi).1
      · intro r hr j s t hs ht
        obtain ⟨i, hi⟩ := List.mem_iff_getElem?.1 hr
        obtain ⟨u, t', h1, h2, h3, h4⟩ := (hrows i r hi).2 j s hs
        rw [ht] at h2
        injection h2 with h2
        subst h2
        exact h4
  | @struct t fs parts h hl ho hc he ih =>
    intro n cs x hx
    obtain ⟨xs, n', hn', hy, hlen, hyl, hf⟩ := DataW.trod_struct h hx
    have hlen' : cs.length = parts.flatten.length := by rw [hlen, hc]
    have each : ∀ j, j < parts.flatten.length → ∃ t, ∀ s, parts.flatten[j]? = some s → ∃ u, cs[j]? = some u ∧ RT w (fun _ => False) t u ∧ Fit s t := by
      intro j hj
      obtain ⟨i, p, k, q1, q2, q3⟩ := flatten_at parts j _ (List.getElem?_eq_getElem hj)
      have hi : i < fs.size := by rw [← hl]; exact (List.getElem?_eq_some_iff.1 q1).1
      have hfi : fs[i]? = some fs[i] := Array.getElem?_eq_getElem hi
      obtain ⟨o1, o2⟩ := ho i _ p hfi q1
      have h1 := hf i _ hfi
      have hxi : xs[i]? = some (xs[i]'(by omega)) := List.getElem?_eq_getElem (by omega)
      obtain ⟨r1, ts, r2, r3⟩ := ih i _ p hfi q1 n' _ _ (h1.trans hxi)
      obtain ⟨u, t, e1, e2, e3, e4⟩ := r3 k _ q2
      refine ⟨t, fun s hs => ⟨u, ?_, e3, ?_⟩⟩
      · have hk : k < p.length := (List.getElem?_eq_some_iff.1 q2).1
        rw [List.getElem?_take, o2, if_pos hk, List.getElem?_drop, o1, ← q3] at e1
        exact e1
      · rw [List.getElem?_eq_getElem hj] at hs
        injection hs with hs
        rw [← hs]; exact e4
    obtain ⟨ts, t1, t2⟩ := lists_choose parts.flatten.length each
    refine ⟨hlen', ts, t1, fun j s hj => ?_⟩
    have hjl := (List.getElem?_eq_some_iff.1 hj).1
    have htj : ts[j]? = some (ts[j]'(by omega)) := List.getElem?_eq_getElem (by omega)
    obtain ⟨u, h1, h2, h3⟩ := t2 j _ htj s hj
    exact ⟨u, _, h1, htj, h2, h3⟩
end
theorem Fit.int_inv {k : IntKind} {t : T} (h : Fit (.int k) t) : ∃ n, t = .atm (.int k n) ∧ (Lit.int k n).wf = true := by cases h with | int h => exact ⟨_, rfl, h⟩
theorem Fit.bool_inv {t : T} (h : Fit .bool t) : ∃ b, t = .atm (.bool b) := by cases h with | bool => exact ⟨_, rfl⟩
/-- rows that are each the row of something -/
theorem rows_map {α : Type} {f : α → List T} {p : α → Prop} : ∀ {rows : List (List T)}, (∀ r ∈ rows, ∃ x, r = f x ∧ p x) → ∃ xs : List α, rows = xs.map f ∧ ∀ x ∈ xs, p x
  | [], _ => ⟨[], rfl, by simp⟩
  | r :: rs, h => by
    obtain ⟨x, rfl, hx⟩ := h r (by simp)
    obtain ⟨xs, rfl, hxs⟩ := rows_map (rows := rs) (f := f) (p := p) fun r hr => h r (List.mem_cons_of_mem _ hr)
    exact ⟨x :: xs, rfl, fun y hy => by rcases List.mem_cons.1 hy with rfl | hy; exact hx; exact hxs y hy⟩
theorem Fit.sl_inv {α : Type} (f : α → List T) (p : α → Prop) {row : List Sh} {t : T} (h : Fit (.sl row) t)
    (hrow : ∀ r : List T, r.length = row.length → (∀ (j : Nat) (s : Sh) (t : T), row[j]? = some s → r[j]? = some t → Fit s t) → ∃ x, r = f x ∧ p x) :
    ∃ xs : List α, t = .sl row.length .any (xs.map f) ∧ ∀ x ∈ xs, p x := by
  cases h with
  | sl hl h =>
    obtain ⟨xs, rfl, hx⟩ := rows_map (f := f) (p := p) (fun r hr => hrow r (hl r hr) (h r hr))
    exact ⟨xs, rfl, hx⟩
end Go.Proofs.Ytomfnfbijgjfeaa
/- history: Mass. -/
namespace Go.Proofs.Ytomfnfbijgjfeaa
open Go.RowKit
set_option linter.unusedVariables false
set_option linter.unusedSimpArgs false
set_option maxRecDepth 100000

structure Pick where
  mv : Int
  mat : Int
def Pick.row (p : Pick) : List T := [ti p.mv, ti p.mat]
abbrev picksT (l : List Pick) : T := .sl 2 .any (l.map Pick.row)
abbrev picksS (l : List Pick) : S := .c (.t (picksT l))
def pickVal (hh : List (List Fr)) (p : Pick) : Option Rat :=
  if 0 ≤ p.mv ∧ 0 ≤ p.mat then match (hh.getD p.mv.toNat [])[p.mat.toNat]? with
    | some f => if rightF f then some (fv f) else none
    | none => none
  else none
def massF (hh : List (List Fr)) : Rat → List Pick → Option Rat
  | a, [] => some a
  | a, p :: r => match pickVal hh p with
    | none => none
    | some v => massF hh (a + v) r
abbrev massL (o : Option Rat) : List S := match o with
  | some x => [frS (fz x), boolS true]
  | none => [frS zeroF, boolS false]
theorem rl_fv {f : Fr} {n : Nat} (h : rightF f = true) (l1 : f.p.dl.length ≤ n) (l2 : f.q.dl.length ≤ n) : rl (fv f) ≤ n := by
  have e := fz_fv h
  have h1 : (fz (fv f)).p.dl.length ≤ n := by rw [← e]; exact l1
  have h2 : (fz (fv f)).q.dl.length ≤ n := by rw [← e]; exact l2
  exact Nat.max_le.2 ⟨h1, h2⟩
end Go.Proofs.Ytomfnfbijgjfeaa
/- Arguments of the histories: lists of fractions, picks, fractions, recalls. -/
namespace Go.Proofs.Ytomfnfbijgjfeaa
open Go.RowKit Go.ChangeShapes Go.WideShapes Go.Deep
set_option linter.unusedVariables false
set_option linter.unusedSimpArgs false
set_option maxRecDepth 100000

abbrev shInt : Sh := .int .i64
abbrev shBig : List Sh := [shInt, .sl [shInt]]
abbrev shFrac : List Sh := [shInt, .sl [shInt], shInt, .sl [shInt]]
theorem has_int : HasSh Try.prog 3 [shInt] := .int Try.underlying3
theorem has_ints : HasSh Try.prog 47 [.sl [shInt]] := .sl Try.underlying47 (by kernel_rfl) (by decide) has_int
theorem has_struct2 {P : Program} {t : TypeId} {fs : Array Field} {p0 p1 : List Sh} (h : P.underlying t = some (.struct fs)) (hl : fs.size = 2)
    (h0 : ∃ f, fs[0]? = some f ∧ f.offset = 0 ∧ P.cellsOf f.type = p0.length ∧ HasSh P f.type p0) (h1 : ∃ f, fs[1]? = some f ∧ f.offset = p0.length ∧ P.cellsOf f.type = p1.length ∧ HasSh P f.type p1)
    (hc : P.cellsOf t = p0.length + p1.length) : HasSh P t (p0 ++ p1) := by
  obtain ⟨f0, a1, a2, a3, a4⟩ := h0
  obtain ⟨f1, b1, b2, b3, b4⟩ := h1
  have := HasSh.struct (P := P) (t := t) (fs := fs) [p0, p1] h (by simp [hl]) (fun i f p hf hp => by
    match i, hp with
    | 0, hp => simp at hp; subst hp; rw [a1] at hf; injection hf with hf; subst hf; exact ⟨by simp [a2], a3⟩
    | 1, hp => simp at hp; subst hp; rw [b1] at hf; injection hf with hf; subst hf; exact ⟨by simp [b2], b3⟩
    | n + 2, hp => simp at hp) (by simp [hc]) (fun i f p hf hp => by
    match i, hp with
    | 0, hp => simp at hp; subst hp; rw [a1] at hf; injection hf with hf; subst hf; exact a4
    | 1, hp => simp at hp; subst hp; rw [b1] at hf; injection hf with hf; subst hf; exact b4
    | n + 2, hp => simp at hp)
  simpa using this
theorem has_big : HasSh Try.prog 49 shBig :=
  has_struct2 (p0 := [shInt]) (p1 := [.sl [shInt]]) Try.underlying49 (by kernel_rfl) ⟨_, rfl, rfl, by kernel_rfl, has_int⟩ ⟨_, rfl, rfl, by kernel_rfl, has_ints⟩ (by kernel_rfl)
theorem has_frac : HasSh Try.prog 51 shFrac :=
  has_struct2 (p0 := shBig) (p1 := shBig) Try.underlying51 (by kernel_rfl) ⟨_, rfl, rfl, by kernel_rfl, has_big⟩ ⟨_, rfl, rfl, by kernel_rfl, has_big⟩ (by kernel_rfl)
theorem has_fracs : HasSh Try.prog 33 [.sl shFrac] := .sl Try.underlying33 (by kernel_rfl) (by decide) has_frac
theorem has_hist : HasSh Try.prog 72 [.sl [.sl shFrac]] := .sl Try.underlying72 (by kernel_rfl) (by decide) has_fracs
theorem has_recall : HasSh Try.prog 39 [shInt, shInt] :=
  has_struct2 (p0 := [shInt]) (p1 := [shInt]) Try.underlying39 (by kernel_rfl) ⟨_, rfl, rfl, by kernel_rfl, has_int⟩ ⟨_, rfl, rfl, by kernel_rfl, has_int⟩ (by kernel_rfl)
theorem fit_ints {t : T} (h : Fit (.sl [shInt]) t) : ∃ l : List Int, t = intsT l := by
  obtain ⟨xs, rfl, _⟩ := h.sl_inv intRow (fun _ => True) (fun r hl hr => by
    match r, hl with
    | [u], _ =>
      obtain ⟨n, rfl, _⟩ := (hr 0 _ _ rfl rfl).int_inv
      exact ⟨n, rfl, trivial⟩)
  exact ⟨xs, rfl⟩
theorem fit_fracrow {r : List T} (hl : r.length = 4) (hr : ∀ (j : Nat) (s : Sh) (t : T), shFrac[j]? = some s → r[j]? = some t → Fit s t) : ∃ f : Fr, r = frRow f := by
  match r, hl with
  | [a, b, c, d], _ =>
    obtain ⟨n, rfl, _⟩ := (hr 0 _ _ rfl rfl).int_inv
    obtain ⟨l, rfl⟩ := fit_ints (hr 1 _ _ rfl rfl)
    obtain ⟨m, rfl, _⟩ := (hr 2 _ _ rfl rfl).int_inv
    obtain ⟨k, rfl⟩ := fit_ints (hr 3 _ _ rfl rfl)
    exact ⟨⟨⟨n, l⟩, ⟨m, k⟩⟩, rfl⟩
theorem fit_fracs {t : T} (h : Fit (.sl shFrac) t) : ∃ l : List Fr, t = fracsT l := by
  obtain ⟨xs, rfl, _⟩ := h.sl_inv frRow (fun _ => True) (fun r hl hr => by
    obtain ⟨f, rfl⟩ := fit_fracrow hl hr
    exact ⟨f, rfl, trivial⟩)
  exact ⟨xs, rfl⟩
theorem fit_hist {t : T} (h : Fit (.sl [.sl shFrac]) t) : ∃ l : List (List Fr), t = histT l := by
  obtain ⟨xs, rfl, _⟩ := h.sl_inv fracsRow (fun _ => True) (fun r hl hr => by
    match r, hl with
    | [u], _ =>
      obtain ⟨l, rfl⟩ := fit_fracs (hr 0 _ _ rfl rfl)
      exact ⟨l, rfl, trivial⟩)
  exact ⟨xs, rfl⟩
theorem fit_picks {t : T} (h : Fit (.sl [shInt, shInt]) t) : ∃ l : List Pick, t = picksT l := by
  obtain ⟨xs, rfl, _⟩ := h.sl_inv Pick.row (fun _ => True) (fun r hl hr => by
    match r, hl with
    | [u, v], _ =>
      obtain ⟨n, rfl, _⟩ := (hr 0 _ _ rfl rfl).int_inv
      obtain ⟨m, rfl, _⟩ := (hr 1 _ _ rfl rfl).int_inv
      exact ⟨⟨n, m⟩, rfl, trivial⟩)
  exact ⟨xs, rfl⟩
section
variable {H : Type} {enc : TypeId × Value → H} {w : World} {base : Nat} {spare : Nat → Bool} {held : Bool}
theorem open_hist {v : Value} {d : DataW H} {p : List MemPlace} {r : Reach} {b0 : Nat} (hv : Value.okWide Try.prog w r b0 72 v) (h : DataW.Trod enc Try.prog w base spare held 72 v d p) : ∃ hh, RS w (fun _ => none) (fun _ => False) (histS hh) v := by
  obtain ⟨a, len, cap, rfl⟩ := okWide_slice Try.underlying72 hv
  obtain ⟨fuel, hf⟩ := h
  obtain ⟨_, ts, h1, h2⟩ := open_sh has_hist fuel _ _ hf
  obtain ⟨u, t, e1, e2, e3, e4⟩ := h2 0 _ rfl
  obtain ⟨hh, rfl⟩ := fit_hist e4
  injection e1 with e1
  subst e1
  exact ⟨hh, .c (.t e3)⟩
theorem rs_cells {shs : List Sh} {l : List Value} (h : OpenAs w shs l) : ∃ ts : List T, ts.length = shs.length ∧ (∀ (j : Nat) (s : Sh) (t : T), shs[j]? = some s → ts[j]? = some t → Fit s t) ∧ RS w (fun _ => none) (fun _ => False) (.agg (ts.map C.t)) (.agg ⟨l⟩) := by
  obtain ⟨h0, ts, h1, h2⟩ := h
  refine ⟨ts, h1, fun j s t hs ht => ?_, ?_⟩
  · obtain ⟨u, t', e1, e2, e3, e4⟩ := h2 j s hs
    rw [ht] at e2; injection e2 with e2; subst e2; exact e4
  · refine .agg l (by simp [h0, h1]) fun j c hc => ?_
    rw [List.getElem?_map] at hc
    obtain ⟨t, ht, rfl⟩ := Option.map_eq_some_iff.1 hc
    have hj : j < shs.length := by rw [← h1]; exact (List.getElem?_eq_some_iff.1 ht).1
    obtain ⟨u, t', e1, e2, e3, e4⟩ := h2 j _ (List.getElem?_eq_getElem hj)
    rw [ht] at e2; injection e2 with e2; subst e2
    rw [List.getD_eq_getElem?_getD, e1]
    exact .t e3
theorem open_recall {v : Value} {d : DataW H} {p : List MemPlace} {r : Reach} {b0 : Nat} (hv : Value.okWide Try.prog w r b0 39 v) (h : DataW.Trod enc Try.prog w base spare held 39 v d p) : ∃ x : Recall, RS w (fun _ => none) (fun _ => False) (.agg (x.row.map .t)) v := by
  obtain ⟨⟨l⟩, rfl, _⟩ := okWide_struct Try.underlying39 hv
  obtain ⟨fuel, hf⟩ := h
  obtain ⟨ts, h1, h2, h3⟩ := rs_cells (open_sh has_recall fuel _ _ hf)
  match ts, h1 with
  | [a, b], _ =>
    obtain ⟨n, rfl, _⟩ := (h2 0 _ _ rfl rfl).int_inv
    obtain ⟨m, rfl, _⟩ := (h2 1 _ _ rfl rfl).int_inv
    exact ⟨⟨n, m⟩, h3⟩
theorem open_frac {v : Value} {d : DataW H} {p : List MemPlace} {r : Reach} {b0 : Nat} (hv : Value.okWide Try.prog w r b0 51 v) (h : DataW.Trod enc Try.prog w base spare held 51 v d p) : ∃ f : Fr, RS w (fun _ => none) (fun _ => False) (.agg ((frRow f).map .t)) v := by
  obtain ⟨⟨l⟩, rfl, _⟩ := okWide_struct Try.underlying51 hv
  obtain ⟨fuel, hf⟩ := h
  obtain ⟨ts, h1, h2, h3⟩ := rs_cells (open_sh has_frac fuel _ _ hf)
  obtain ⟨f, rfl⟩ := fit_fracrow h1 h2
  exact ⟨f, h3⟩
end
end Go.Proofs.Ytomfnfbijgjfeaa
namespace Go.Proofs.Ytomfnfbijgjfeaa
open Go.RowKit Go.ChangeShapes Go.WideShapes Go.ChangeAt

set_option maxRecDepth 100000 in
theorem reachMass_lifted (os : Os) (started : os.Started) (H : Type) (enc : TypeId × Value → H) :
    ReturnsInHanded {} Try.checked os 8 .any (Rows.reachMassSpec.pre6 enc Try.prog Try.f8 Rows.reachMassRow.domain false) (Rows.reachMassSpec.post enc Try.prog Try.f8 false true false false) := by
  refine returnsInHanded_of_change (C := Try.checked) law_own started (by kernel_rfl) Try.func8
    (ChangeSpec.witness6 (enc := enc) (C := Try.checked) false ⟨#[], #[.agg #[.int .i64 0, .int .i64 0, .int .i64 0, .slice none 0 0, .slice none 0 0, .slice none 0 0, .slice none 0 0, .slice none 0 0], .slice none 0 0, .int .i64 0, .slice none 0 0], []⟩ 12 (by kernel_rfl) (by kernel_rfl) (by kernel_rfl) (by kernel_rfl)) ?_
  intro W base args ds gs before hval0 hW hcnd _
  have hval : ∀ (j : Nat) t v, Try.f8.params[j]? = some t → args[j]? = some v → Value.okWide Try.prog W .any base t v := hval0
  have hW' := hW
  obtain ⟨p, q, hA0, hV, rfl, hfz, hnd⟩ := hW
  have hA : DataW.TrodAll enc Try.prog W 0 (fun _ => true) true Try.f8.params.toList args.toList ds p := hA0
  rw [Try.params8] at hA hval
  obtain ⟨v0, vs0, d0, ds0, p0, q0, hargs, rfl, rfl, h0, r0⟩ := trodAll_cons hA
  obtain ⟨v1, vs1, d1, ds1, p1, q1, rfl, rfl, rfl, h1, r1⟩ := trodAll_cons r0
  obtain ⟨v2, vs2, d2, ds2, p2, q2, rfl, rfl, rfl, h2, r2⟩ := trodAll_cons r1
  obtain ⟨v3, vs3, d3, ds3, p3, q3, rfl, rfl, rfl, h3, r3⟩ := trodAll_cons r2
  obtain ⟨rfl, rfl, rfl⟩ := trodAll_nil r3
  obtain rfl : args = #[v0, v1, v2, v3] := by cases args; simp_all
  obtain ⟨rfl, rfl⟩ := trodVars_none hV
  obtain ⟨m, h, s, A1, n1, c1, A2, n2, c2, A3, n3, c3, A4, n4, c4, A5, n5, c5, e, rfl, hr, hb⟩ := open_ev (hval 0 28 v0 rfl rfl) h0
  obtain ⟨a1, t1⟩ := Go.Proofs.Ytomfnfbijgjfeaa.open_hist (hval 1 72 v1 rfl rfl) h1
  obtain ⟨a2, rfl, rfl, rfl, w2⟩ := open_int Try.underlying3 (hval 2 3 v2 rfl rfl) h2
  obtain ⟨A3, n3, c3, a3, rfl, s3, k3, l3⟩ := Go.Proofs.Ytomfnfbijgjfeaa.open_bools (hval 3 77 v3 rfl rfl) h3
  refine (law_of_acall (a_ReachMass e a1 a2 a3 (rs_hist_bound t1)) (.cons (rs_ev hr hb) (.cons (t1) (.cons (rs_int) (.cons (rs_bools s3 k3 l3) (.nil)))))).mono fun ee W' ⟨he, hg⟩ => ?_
  subst he
  exact ⟨_, rfl, law_post hW' law_laid (by rw [Try.params8]; intro t ht; simp at ht; rcases ht with rfl | rfl | rfl | rfl <;> exact ⟨by kernel_rfl, of_decide_eq_true (by kernel_rfl)⟩) rfl rfl (by kernel_rfl) Try.underlying4 hg⟩

theorem reachMass_holds : Rows.ReachMassSaid :=
  OpenClaim.holds_of_wide 8 Try.f8 rfl rfl rfl rfl rfl rfl rfl ⟨rfl, rfl, rfl, rfl, rfl⟩ rfl rfl rfl rfl rfl (by kernel_rfl) Try.func8 (by kernel_rfl)
    (of_decide_eq_true (by kernel_rfl)) (by unfold Func.isWrapper; first | (rw [if_pos (by decide +kernel)]; kernel_rfl) | (rw [if_neg (by decide +kernel)]; exact ⟨rfl, rfl⟩))
    (fun os started H enc _ => reachMass_lifted os started H enc)
end Go.Proofs.Ytomfnfbijgjfeaa
