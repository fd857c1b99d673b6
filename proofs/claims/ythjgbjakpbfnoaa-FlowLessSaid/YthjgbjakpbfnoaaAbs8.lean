/- The abstract machine is sound: slice literals, appends, stores. -/
import Derived.Test.YthjgbjakpbfnoaaAbs7
import Derived.Deep.Upon
namespace Go.Proofs.Ythjgbjakpbfnoaa
open Go.RowKit
set_option linter.unusedVariables false
set_option linter.unusedSimpArgs false

/-- values read as rows of cells -/
structure CellsOK (w : World) (ι : Io) (M : Ms) (size : Nat) (rows : List (List C)) (vals : List Value) : Prop where
  len : vals.length = rows.length * size
  row : ∀ r ∈ rows, r.length = size
  cell : ∀ i j c, at2 rows i j = some c → ∃ u, vals[i * size + j]? = some u ∧ RC w ι M c u

theorem CellsOK.at {w : World} {ι : Io} {M : Ms} {size : Nat} {rows : List (List C)} {vals : List Value} (h : CellsOK w ι M size rows vals) {q : Nat} {u : Value} (hu : vals[q]? = some u) :
    ∃ i j c, q = i * size + j ∧ at2 rows i j = some c ∧ RC w ι M c u := by
  have hq : q < rows.length * size := by rw [← h.len]; exact (List.getElem?_eq_some_iff.1 hu).1
  have h0 : 0 < size := by
    rcases Nat.eq_zero_or_pos size with h | h
    · subst h; simp at hq
    · exact h
  have hi : q / size < rows.length := by rw [Nat.div_lt_iff_lt_mul h0]; exact hq
  have hj : q % size < size := Nat.mod_lt _ h0
  have hr := h.row rows[q / size] (List.getElem_mem hi)
  have hc : at2 rows (q / size) (q % size) = some (rows[q / size][q % size]'(by omega)) := at2_some (List.getElem?_eq_getElem hi) (List.getElem?_eq_getElem (by omega))
  have e : q = q / size * size + q % size := by rw [Nat.mul_comm]; exact (Nat.div_add_mod q size).symm
  obtain ⟨u', h1, h2⟩ := h.cell _ _ _ hc
  rw [← e, hu] at h1
  injection h1 with h1
  subst h1
  exact ⟨_, _, _, e, hc, h2⟩
theorem CellsOK.one {w : World} {ι : Io} {M : Ms} {size : Nat} {rows : List (List C)} {vals : List Value} (h : CellsOK w ι M size rows vals) : ∀ u ∈ vals, u.oneCell' = true := fun u hu => by
  obtain ⟨q, hq⟩ := List.mem_iff_getElem?.1 hu
  obtain ⟨_, _, _, _, _, h⟩ := h.at hq
  exact h.one
theorem CellsOK.nil (w : World) (ι : Io) (M : Ms) (size : Nat) : CellsOK w ι M size [] [] := ⟨by simp, by simp, by simp [at2]⟩
theorem CellsOK.append {w : World} {ι : Io} {M : Ms} {size : Nat} {r1 r2 : List (List C)} {v1 v2 : List Value} (h1 : CellsOK w ι M size r1 v1) (h2 : CellsOK w ι M size r2 v2) :
    CellsOK w ι M size (r1 ++ r2) (v1 ++ v2) := by
  refine ⟨by rw [List.length_append, List.length_append, h1.len, h2.len, Nat.add_mul], ?_, ?_⟩
  · intro r hr
    rcases List.mem_append.1 hr with hr | hr
    · exact h1.row r hr
    · exact h2.row r hr
  · intro i j c hc
    obtain ⟨row, hr1, hr2⟩ := at2_inv hc
    by_cases hi : i < r1.length
    · rw [List.getElem?_append_left hi] at hr1
      obtain ⟨u, q1, q2⟩ := h1.cell i j c (at2_some hr1 hr2)
      exact ⟨u, by rw [List.getElem?_append_left (List.getElem?_eq_some_iff.1 q1).1]; exact q1, q2⟩
    · rw [List.getElem?_append_right (by omega)] at hr1
      obtain ⟨u, q1, q2⟩ := h2.cell _ j c (at2_some hr1 hr2)
      refine ⟨u, ?_, q2⟩
      have e : i * size + j = r1.length * size + ((i - r1.length) * size + j) := by
        rw [← Nat.add_assoc, ← Nat.add_mul, show r1.length + (i - r1.length) = i by omega]
      rw [List.getElem?_append_right (by rw [h1.len, e]; omega), h1.len, show i * size + j - r1.length * size = (i - r1.length) * size + j by omega]
      exact q1

/-- the cells of a tree's slice -/
theorem rt_cells {w : World} {ι : Io} {M : Ms} {size : Nat} {k : SK} {rows : List (List T)} {A : Option Addr} {n cap : Nat} (h : RT w M (.sl size k rows) (.slice A n cap)) :
    n = rows.length ∧ ∃ vals, CellsOK w ι M size (toC rows) vals ∧ (rows ≠ [] → ∃ b off, A = some ⟨b, off, none⟩ ∧ ∀ q u, vals[q]? = some u → w.cell? ⟨b, off + q, none⟩ = some u) := by
  cases h with
  | @sl _ _ _ b off _ _ f hrow hcap hmax hk hn hA hc hr =>
    refine ⟨rfl, (List.range (rows.length * size)).map (fun q => f (q / size) (q % size)), ?_, fun hne => ⟨b, off, hA hne, fun q u hq => ?_⟩⟩
    · refine ⟨by simp [toC], ?_, ?_⟩
      · intro r hr'
        obtain ⟨r', h1, rfl⟩ := List.mem_map.1 hr'
        rw [List.length_map]
        exact hrow r' h1
      · intro i j c hij
        obtain ⟨row, h1, h2⟩ := at2_inv hij
        unfold toC at h1
        rw [List.getElem?_map] at h1
        cases hri : rows[i]? with
        | none => rw [hri] at h1; cases h1
        | some row' =>
          rw [hri] at h1
          injection h1 with h1
          subst h1
          rw [List.getElem?_map] at h2
          cases hrj : row'[j]? with
          | none => rw [hrj] at h2; cases h2
          | some c' =>
            rw [hrj] at h2
            injection h2 with h2
            subst h2
            have hi : i < rows.length := (List.getElem?_eq_some_iff.1 hri).1
            have hj : j < size := by rw [← hrow row' (List.mem_of_getElem? hri)]; exact (List.getElem?_eq_some_iff.1 hrj).1
            have hlt : i * size + j < rows.length * size := by
              have : i * size + size ≤ rows.length * size := by rw [← Nat.succ_mul]; exact Nat.mul_le_mul_right _ hi
              omega
            have e1 : (i * size + j) / size = i := by
              rw [Nat.mul_comm, Nat.mul_add_div (by omega), Nat.div_eq_of_lt hj, Nat.add_zero]
            have e2 : (i * size + j) % size = j := by
              rw [Nat.mul_comm, Nat.mul_add_mod]; exact Nat.mod_eq_of_lt hj
            refine ⟨f i j, ?_, .t (hr i j c' (at2_some hri hrj))⟩
            rw [List.getElem?_map, List.getElem?_range hlt]
            simp [e1, e2]
    · have hlt : q < rows.length * size := by have := (List.getElem?_eq_some_iff.1 hq).1; simpa using this
      rw [List.getElem?_map, List.getElem?_range hlt] at hq
      injection hq with hq
      subst hq
      have h0 : 0 < size := by
        rcases Nat.eq_zero_or_pos size with h | h
        · subst h; simp at hlt
        · exact h
      have hi : q / size < rows.length := by rw [Nat.div_lt_iff_lt_mul h0]; exact hlt
      have hj : q % size < size := Nat.mod_lt _ h0
      have hrl := hrow rows[q / size] (List.getElem_mem hi)
      have := (hc (q / size) (q % size) _ (at2_some (List.getElem?_eq_getElem hi) (List.getElem?_eq_getElem (by omega)))).1
      rw [show q / size * size + q % size = q by rw [Nat.mul_comm]; exact Nat.div_add_mod q size] at this
      exact this

/-- the cells of a block of one's own -/
theorem blk_cells {w : World} {ι : Io} {M : Ms} {k : Blk} {b cap size : Nat} (h : BlkRel w ι M k (.blk b cap size)) {lo len : Nat} (hl : lo + len ≤ k.rows.length) :
    ∃ vals, CellsOK w ι M size ((k.rows.drop lo).take len) vals ∧ ∀ q u, vals[q]? = some u → w.cell? ⟨b, lo * size + q, none⟩ = some u := by
  obtain ⟨h1, h2, h3, h4, h5, cur, h6, h7, h8⟩ := h
  have hmul : lo * size + len * size ≤ cap * size := by rw [← Nat.add_mul]; exact Nat.mul_le_mul_right _ (by omega)
  refine ⟨(cur.toList.drop (lo * size)).take (len * size), ⟨?_, ?_, ?_⟩, ?_⟩
  · rw [List.length_take, List.length_drop, Array.length_toList, h7, List.length_take, List.length_drop]
    rw [Nat.min_eq_left (by omega), Nat.min_eq_left (by omega)]
  · intro r hr
    exact h5 r (List.mem_of_mem_drop (List.mem_of_mem_take hr))
  · intro i j c hij
    obtain ⟨row, q1, q2⟩ := at2_inv hij
    rw [List.getElem?_take] at q1
    split at q1
    · rename_i hi
      rw [List.getElem?_drop] at q1
      obtain ⟨u, r1, r2⟩ := h8 _ _ _ (at2_some q1 q2)
      refine ⟨u, ?_, r2⟩
      have hj : j < size := by rw [← h5 row (List.mem_of_getElem? q1)]; exact (List.getElem?_eq_some_iff.1 q2).1
      have hlt : i * size + j < len * size := by
        have : i * size + size ≤ len * size := by rw [← Nat.succ_mul]; exact Nat.mul_le_mul_right _ hi
        omega
      rw [List.getElem?_take_of_lt hlt, List.getElem?_drop, ← Nat.add_assoc, ← Nat.add_mul]
      simpa using r1
    · cases q1
  · intro q u hq
    rw [List.getElem?_take] at hq
    split at hq
    · rw [List.getElem?_drop] at hq
      simp [World.cell?, h6]
      simpa using hq
    · cases hq

section
variable {P : Program} {τ : Tab} {o : Oper} {ev : Operand → S} {H : Hp}

/-- what an append adds -/
theorem srcK_iff (hτ : TabOK P τ) {size : Nat} {t e : TypeId} (hu : P.underlying t = some (.slice e)) {x : Operand} {k : List (List C) → Prop} (h : srcK size H (ev x) k) :
    ∃ xr, k xr ∧ ∀ (a : Act) (w : World) (ι : Io) (M : Ms), EvRel w ι M ev a → HeapRel w ι M H → ∃ news, CellsOK w ι M size xr news ∧ Src P size t (a.eval x) xr.length news w ∧
      (xr.length = 0 ∨ ∃ ad c, a.eval x = .slice (some ad) xr.length c ∧ ∀ j v, news[j]? = some v → w.cell? (ad.add j) = some v) := by
  unfold srcK at h
  split at h
  · rename_i s sk rows hx
    refine ⟨_, h.2, fun a w ι M he hh => ?_⟩
    have hr := (he.to hx).inv_t
    generalize a.eval x = v at *
    by_cases hne : rows = []
    · subst hne
      cases hr with
      | @sl _ _ _ b off cap A f hrow hcap hmax hk hn hA hc hr =>
        refine ⟨[], CellsOK.nil w ι M size, ?_, .inl rfl⟩
        cases A with
        | none => exact Src.ofNil w hu _
        | some ad => exact Src.ofSlice w hu ad 0 _ [] (by simp) (by simp) (by simp)
    · have hs : s = size := by
        rcases h.1 with h | h
        · exact absurd (List.eq_nil_of_length_eq_zero h) hne
        · exact h
      subst hs
      cases hr with
      | @sl _ _ _ b off cap A f hrow hcap hmax hk hn hA hc hr =>
        obtain ⟨_, vals, h1, h2⟩ := rt_cells (ι := ι) (RT.sl f hrow hcap hmax hk hn hA hc hr)
        obtain ⟨b, off, rfl, h3⟩ := h2 hne
        have h3' : ∀ j v, vals[j]? = some v → w.cell? ((⟨b, off, none⟩ : Addr).add j) = some v := fun j v hj => by rw [Addr.add_none]; exact h3 j v hj
        have e : rows.length = (toC rows).length := by simp [toC]
        rw [e]
        exact ⟨vals, h1, Src.ofSlice w hu _ _ _ vals h1.len h3' h1.one, .inr ⟨_, _, rfl, h3'⟩⟩
  · rename_i id lo len app hx
    obtain ⟨bk, hbk, h⟩ := getK_iff h
    obtain ⟨hdead, h⟩ := readable_iff h
    obtain ⟨hs, hl, h⟩ := cond_iff h
    have hs : bk.size = size := by simpa using hs
    refine ⟨_, h, fun a w ι M he hh => ?_⟩
    have hr := (he.to hx).inv_c
    generalize a.eval x = v at *
    have hlen : ((bk.rows.drop lo).take len).length = len := by simp; omega
    cases hr with
    | @own _ _ _ _ b cap sz A cap' h' q1 q2 q3 q4 q5 =>
      have hb := hh.blk id bk hbk hdead _ h'
      obtain rfl : sz = size := hb.1.symm.trans hs
      obtain ⟨vals, h1, h2⟩ := blk_cells hb hl
      rw [hlen]
      by_cases h0 : len = 0
      · subst h0
        have : vals = [] := List.eq_nil_of_length_eq_zero (by rw [h1.len]; simp)
        subst this
        refine ⟨[], h1, ?_, .inl rfl⟩
        cases A with
        | none => exact Src.ofNil w hu _
        | some ad => exact Src.ofSlice w hu ad 0 _ [] (by simp) (by simp) (by simp)
      · obtain rfl := q2 (by omega)
        have h3' : ∀ j v, vals[j]? = some v → w.cell? ((⟨b, lo * sz, none⟩ : Addr).add j) = some v := fun j v hj => by rw [Addr.add_none]; exact h2 j v hj
        have hvl := h1.len
        rw [hlen] at hvl
        exact ⟨vals, h1, Src.ofSlice w hu _ _ _ vals hvl h3' h1.one, .inr ⟨_, _, rfl, h3'⟩⟩
    | nil h' =>
      have hb := hh.blk id bk hbk hdead _ h'
      have hb' : bk.rows = [] := hb
      refine ⟨[], by rw [hb']; exact CellsOK.nil w ι M size, ?_, .inl (by simp)⟩
      rw [hb']
      cases ‹Option Addr› with
      | none => exact Src.ofNil w hu _
      | some ad => exact Src.ofSlice w hu ad 0 _ [] (by simp) (by simp) (by simp)
  · exact h.elim
end
end Go.Proofs.Ythjgbjakpbfnoaa
