/- The abstract machine is sound: the operations that only look. -/
import Derived.Test.YthjgbjakpbfnoaaAbs3
namespace Go.Proofs.Ythjgbjakpbfnoaa
open Go.RowKit
set_option linter.unusedVariables false
set_option linter.unusedSimpArgs false

section
variable {P : Program} {τ : Tab} {o : Oper} {ev : Operand → S} {H : Hp}

theorem EvRel.to {w : World} {ι : Io} {M : Ms} {a : Act} (h : EvRel w ι M ev a) {x : Operand} {s : S} (e : ev x = s) : RS w ι M s (a.eval x) := e ▸ h x

theorem aop_move (x : Operand) (ho : o.op = .move x ∨ o.op = .assign x) : QOp P o ev H (ev x) [] :=
  qop_same fun a w ι M he hh => ⟨a.eval x, by rcases ho with ho | ho <;> simp [execOp, ho], he x⟩

theorem aop_pick (c x y : Operand) (t : Bool) (ho : o.op = .pick c x y) (hc : ev c = boolS t) : QOp P o ev H (cond t (ev x) (ev y)) [] :=
  qop_same fun a w ι M he hh => ⟨cond t (a.eval x) (a.eval y), by
    have h := (he.to hc).inv_atm
    cases t <;> simp [execOp, ho, h, asBool], by cases t <;> exact he _⟩

def aggD : TypeDesc → Bool
  | .struct _ => true
  | .array _ _ => true
  | _ => false
theorem isAgg_run {t : TypeId} {d : TD} (h : TDok P t d) (w : World) : (isAgg t).run P w = .ok d.agg w := by
  obtain ⟨u, hu, hk⟩ := h.und
  have hr : (isAgg t).run P w = .ok (aggD u) w := by
    clear hk
    simp only [isAgg, Sem.run_bind, run_underlying hu, Result.andThen_ok]
    cases u <;> rfl
  rw [hr]
  cases hd : d.k <;> rw [hd] at hk <;> simp only at hk
  · obtain ⟨h1, h2⟩ := hk
    rw [h1]
    cases u <;> first | exact h2.elim | rfl
  · obtain ⟨h1, rfl⟩ := hk; rw [h1]; rfl
  · obtain ⟨h1, rfl⟩ := hk; rw [h1]; rfl
  · obtain ⟨h1, rfl⟩ := hk; rw [h1]; rfl
  · obtain ⟨h1, rfl⟩ := hk; rw [h1]; rfl
  · obtain ⟨h1, _, rfl, _⟩ := hk; rw [h1]; rfl
theorem sizeOf_run {t : TypeId} {d : TD} (h : TDok P t d) (w : World) : (sizeOf t).run P w = .ok d.size w := by
  obtain ⟨i, hi, hs, _⟩ := h.info
  simp [sizeOf, typeInfo, hi, hs]

/-- a load of known cells -/
theorem run_load_cells {t : TypeId} {d : TD} (h : TDok P t d) {w : World} {ι : Io} {M : Ms} {b off : Nat} {cells : List C}
    (hc : ∀ j c, cells[j]? = some c → ∃ u, w.cell? ⟨b, off + j, none⟩ = some u ∧ RC w ι M c u) {s : S}
    (hs : (d.agg = true ∧ d.size ≤ cells.length ∧ s = .agg (cells.take d.size)) ∨ (d.agg = false ∧ ∃ c, cells[0]? = some c ∧ s = .c c)) :
    ∃ v, (Instr.loadAt t (.pointer (some ⟨b, off, none⟩))).run P w = .ok v w ∧ RS w ι M s v := by
  rcases hs with ⟨ha, hl, rfl⟩ | ⟨ha, c, h0, rfl⟩
  · have hex : ∀ j, j < d.size → ∃ u, w.cell? ⟨b, off + j, none⟩ = some u ∧ ∃ c, cells[j]? = some c ∧ RC w ι M c u := fun j hj => by
      obtain ⟨u, h1, h2⟩ := hc j _ (List.getElem?_eq_getElem (by omega))
      exact ⟨u, h1, _, List.getElem?_eq_getElem (by omega), h2⟩
    refine ⟨.agg ((List.range d.size).map fun j => (w.cell? ⟨b, off + j, none⟩).getD undef).toArray, ?_, ?_⟩
    · have := run_loadCells (P := P) w ⟨b, off, none⟩ d.size (fun j => (w.cell? ⟨b, off + j, none⟩).getD undef) (fun j hj => by
        obtain ⟨u, h1, _⟩ := hex j hj
        have e : (⟨b, off, none⟩ : Addr).add j = ⟨b, off + j, none⟩ := by unfold Addr.add; split <;> simp_all
        rw [e, h1]; rfl)
      simp [Instr.loadAt, Instr.sureAddr, loadVar, isAgg_run h, sizeOf_run h, ha, this]
    · refine .agg _ (by simp; omega) fun j c hj => ?_
      have hlt : j < d.size := by have := (List.getElem?_eq_some_iff.1 hj).1; simp at this; omega
      obtain ⟨u, h1, c', h2, h3⟩ := hex j hlt
      rw [List.getElem?_take_of_lt hlt, h2] at hj
      injection hj with hj
      subst hj
      rw [List.getD_eq_getElem?_getD, List.getElem?_map, List.getElem?_range hlt]
      simp [h1, h3]
  · obtain ⟨u, h1, h2⟩ := hc 0 c h0
    refine ⟨u, ?_, .c h2⟩
    simp only [Nat.add_zero] at h1
    simp [Instr.loadAt, Instr.sureAddr, loadVar, isAgg_run h, ha, h1]

theorem at2_row {rows : List (List C)} {r : Nat} {row : List C} (h : rows[r]? = some row) (j : Nat) : at2 rows r j = row[j]? := by simp [at2, h]

/-- the cells of a row of a block -/
theorem BlkRel.row {w : World} {ι : Io} {M : Ms} {k : Blk} {b cap size : Nat} (h : BlkRel w ι M k (.blk b cap size)) {r : Nat} {row : List C} (hr : k.rows[r]? = some row) :
    ∀ j c, row[j]? = some c → ∃ u, w.cell? ⟨b, r * size + j, none⟩ = some u ∧ RC w ι M c u := fun j c hj => by
  obtain ⟨_, _, _, _, _, cur, hb, _, h8⟩ := h
  obtain ⟨u, h1, h2⟩ := h8 r j c (by rw [at2_row hr]; exact hj)
  exact ⟨u, by simp [World.cell?, hb, h1], h2⟩

theorem rowK_iff {b : Blk} {r : Nat} {k : List C → Prop} (h : rowK b r k) : ∃ row, b.rows[r]? = some row ∧ k row ∧ (b.box = true → b.rows = [row] ∧ r = 0) := by
  unfold rowK at h
  split at h
  · split at h
    · rename_i hb _ _ row hr
      exact ⟨row, by rw [hr]; rfl, h, fun _ => ⟨hr, rfl⟩⟩
    · exact h.elim
  · obtain ⟨row, h1, h2⟩ := h
    rename_i hb
    exact ⟨row, h1, h2, fun h => by rw [hb] at h; cases h⟩
theorem readable_iff {b : Blk} {k : Prop} (h : readable b k) : b.mode ≠ .dead ∧ k := by
  unfold readable at h
  cases hb : b.mode <;> rw [hb] at h <;> first | exact h.elim | exact ⟨by simp, h⟩
theorem writable_iff {b : Blk} {k : Prop} (h : writable b k) : b.mode = .live ∧ k := by
  unfold writable at h
  cases hb : b.mode <;> rw [hb] at h <;> first | exact h.elim | exact ⟨rfl, h⟩

theorem loadRow_iff {d : TD} {row : List C} {o : Nat} {K : S → Prop} (h : loadRow d row o K) :
    ∃ s, K s ∧ ((d.agg = true ∧ d.size ≤ (row.drop o).length ∧ s = .agg ((row.drop o).take d.size)) ∨ (d.agg = false ∧ ∃ c, (row.drop o)[0]? = some c ∧ s = .c c)) := by
  obtain ⟨_, h⟩ := dropK_iff h
  cases ha : d.agg <;> rw [ha] at h
  · obtain ⟨c, h1, h2⟩ := getK_iff h
    exact ⟨_, h2, .inr ⟨rfl, c, h1, rfl⟩⟩
  · obtain ⟨h1, h2⟩ := takeK_iff h
    exact ⟨_, h2, .inl ⟨rfl, h1, rfl⟩⟩

theorem aload_val (hτ : TabOK P τ) {t : TypeId} {x : Operand} {K : S → Prop} (h : aload τ ev H t x K) : ∃ s, K s ∧ ∀ (a : Act) (w : World) (ι : Io) (M : Ms), EvRel w ι M ev a → HeapRel w ι M H → ∃ v ad, a.eval x = .pointer (some ad) ∧ (Instr.loadAt t (a.eval x)).run P w = .ok v w ∧ RS w ι M s v := by
  unfold aload at h
  split at h
  · exact h.elim
  rename_i d hd
  split at h
  · rename_i id r off hx
    obtain ⟨b, hb, h⟩ := getK_iff h
    obtain ⟨hdead, h⟩ := readable_iff h
    obtain ⟨row, hrow, h, _⟩ := rowK_iff h
    obtain ⟨s, hs, hcase⟩ := loadRow_iff h
    refine ⟨s, hs, fun a w ι M he hh => ?_⟩
    generalize hv : a.eval x = v
    have hr := he.to hx
    rw [hv] at hr
    cases hr with
    | c hr => cases hr with
      | @ptr _ _ _ bb cap size hi =>
        have hbr := (hh.blk id b hb hdead _ hi).row hrow
        obtain ⟨v, h1, h2⟩ := run_load_cells (hτ.td t d hd) (w := w) (ι := ι) (M := M) (b := bb) (off := r * size + off) (cells := row.drop off)
          (fun j c hj => by rw [List.getElem?_drop] at hj; rw [Nat.add_assoc]; exact hbr _ _ hj) hcase
        exact ⟨v, _, rfl, h1, h2⟩
  · rename_i cells hx
    have hcase : ∃ s, K s ∧ ((d.agg = true ∧ d.size ≤ (cells.map C.t).length ∧ s = .agg ((cells.map C.t).take d.size)) ∨ (d.agg = false ∧ ∃ c, (cells.map C.t)[0]? = some c ∧ s = .c c)) := by
      unfold loadRowT at h
      cases ha : d.agg <;> rw [ha] at h
      · obtain ⟨c, h1, h2⟩ := getK_iff h
        exact ⟨_, h2, .inr ⟨rfl, .t c, by simp [List.getElem?_map, h1], rfl⟩⟩
      · obtain ⟨h1, h2⟩ := takeK_iff h
        rw [mapK_iff, List.map_take] at h2
        exact ⟨_, h2, .inl ⟨rfl, by simpa using h1, rfl⟩⟩
    obtain ⟨s, hs, hcase⟩ := hcase
    refine ⟨s, hs, fun a w ι M he hh => ?_⟩
    generalize hv : a.eval x = v
    have hr := (he.to hx).inv_t
    rw [hv] at hr
    cases hr with
    | @ptr _ b off f hc hr =>
      obtain ⟨v, h1, h2⟩ := run_load_cells (hτ.td t d hd) (w := w) (ι := ι) (M := M) (b := b) (off := off) (cells := cells.map C.t)
        (fun j c hj => by
          rw [List.getElem?_map] at hj
          cases hj' : cells[j]? with
          | none => rw [hj'] at hj; cases hj
          | some c' =>
            rw [hj'] at hj
            injection hj with hj
            subst hj
            exact ⟨f j, (hc j c' hj').1, .t (hr j c' hj')⟩) hcase
      exact ⟨v, _, rfl, h1, h2⟩
  · exact h.elim
theorem aload_sound (hτ : TabOK P τ) {t : TypeId} {x : Operand} (ho : o.op = .load t x) {K : S → Prop} (h : aload τ ev H t x K) : ∃ s, K s ∧ QOp P o ev H s [] := by
  obtain ⟨s, hs, hv⟩ := aload_val hτ h
  refine ⟨s, hs, qop_same fun a w ι M he hh => ?_⟩
  obtain ⟨v, ad, h0, h1, h2⟩ := hv a w ι M he hh
  exact ⟨v, by simp [execOp, ho, h1], h2⟩
end
end Go.Proofs.Ythjgbjakpbfnoaa
