/- scale: Error, Interval. -/
import Derived.Test.YthinjkjhiembgaaGreatHt4
namespace Go.Proofs.YthinjkjhiembgaaGreat
open Go.RowKit
set_option linter.unusedVariables false
set_option linter.unusedSimpArgs false
set_option maxRecDepth 100000

theorem covers_iff {c : Cert} {day : Int} (h : covers c day = true) : 0 ≤ c.since ∧ c.since ≤ day ∧ day ≤ c.till ∧ c.till ≤ 100000 ∧ 0 ≤ c.grams ∧ c.grams ≤ 1099511627776 ∧ 0 ≤ c.permille ∧ c.permille ≤ 1000 ∧ 0 ≤ c.drift ∧ c.drift ≤ 10000000 := by
  unfold covers certRight btw at h
  simp only [Bool.and_eq_true, decide_eq_true_eq] at h
  omega
abbrev zeroF : Fr := ⟨⟨0, []⟩, ⟨0, []⟩⟩
theorem fin_fb {f f' : Fr} {b b' : Bool} {H1 : Hp} (h : f = f') (h2 : b = b') : Fin 0 (.tup [frS f, boolS b]) H1 (.tup [frS f', boolS b']) [] := by
  subst h h2; exact fin_t ⟨⟨rfl, rfl, rfl, rfl, trivial⟩, rfl, trivial⟩
structure ErrI (c : Cert) (reading day : Int) : Prop where
  p0 : 0 ≤ c.permille * reading
  p1 : c.permille * reading ≤ 1000 * 1099511627776
  d0 : 0 ≤ c.drift * (day - c.since)
  d1 : c.drift * (day - c.since) ≤ 10000000 * 100000
theorem ErrI.of {c : Cert} {reading day : Int} (h : covers c day = true) (hr : btw reading 0 1099511627776 = true) : ErrI c reading day := by
  have hc := covers_iff h
  rw [btw_iff] at hr
  exact ⟨Int.mul_nonneg (by omega) (by omega), Int.mul_le_mul (by omega) (by omega) (by omega) (by omega), Int.mul_nonneg (by omega) (by omega), Int.mul_le_mul (by omega) (by omega) (by omega) (by omega)⟩
theorem rl_err {c : Cert} {reading day : Int} (h : covers c day = true) (hr : btw reading 0 1099511627776 = true) : rl (errR c reading day) ≤ 9 := by
  have i := ErrI.of h hr
  have hc := covers_iff h
  obtain ⟨p0, p1, d0, d1⟩ := i
  unfold errR
  have h1 := rl_add (Rat.divInt (c.permille * reading) 1000) ((c.grams + c.drift * (day - c.since) : Int) : Rat)
  have h2 : rl (Rat.divInt (c.permille * reading) 1000) ≤ 4 := Nat.le_trans (rl_divInt (by decide)) (by have := bl_int (x := c.permille * reading) (by omega) (by omega); have := bl_int (x := 1000) (by decide) (by decide); omega)
  have h3 : rl ((c.grams + c.drift * (day - c.since) : Int) : Rat) ≤ 4 := by rw [rl_int]; have := bl_int (x := c.grams + c.drift * (day - c.since)) (by omega) (by omega); omega
  omega
theorem a_Error (c : Cert) (reading day : Int) (h : covers c day = true) : ACall Tryz.prog 95 [certS c, intS .i64 reading, intS .i64 day] []
    (.tup [frS (if btw reading 0 1099511627776 then fz (errR c reading day) else zeroF), boolS (btw reading 0 1099511627776)]) [] := by
  have cv := a_covers c day
  have wi := a_within reading 1099511627776
  rw [h] at cv
  have hc := covers_iff h
  cases hr : btw reading 0 1099511627776 with
  | false =>
    rw [hr] at wi
    (refine acall_of tab_ok Tryz.func95 rfl (by decide) ?_; (conv => whnf); repeat (first | (refine LitB.data ?_; conv => whnf) | (refine BoxB.own ?_; conv => whnf)))
    (repeat' (first | ((refine DecB.mk (fun h => ?_) (fun h => ?_)) <;> first | (exfalso; omega) | (conv => whnf)) | ((refine BoolB.mk (fun h => ?_) (fun h => ?_)) <;> first | (exact absurd h (by decide)) | (conv => whnf)) | (refine ⟨_, wrap_ok (by omega) (by omega), ?_⟩; conv => whnf) | (refine and_idx (by omega) (by omega) ?_; conv => whnf) | (refine reg_ok (by decide +kernel) ?_; conv => whnf) | (refine bar_ok (by decide +kernel) (by decide +kernel) ?_; conv => whnf) | (refine late_ok rfl rfl ?_; conv => whnf) | (refine src_ok rfl ?_; conv => whnf) | (refine .inl ⟨_, _, qcall_pure (cv) rfl rfl, ?_⟩; conv => whnf) | (refine .inl ⟨_, _, qcall_pure (wi) rfl rfl, ?_⟩; conv => whnf) | (refine LitB.data ?_; conv => whnf) | (refine BoxB.own ?_; conv => whnf)))
    all_goals first
      | (exfalso; simp_all; done)
      | exact fin_t ⟨⟨rfl, rfl, rfl, rfl, trivial⟩, rfl, trivial⟩
  | true =>
    rw [hr] at wi
    obtain ⟨p0, p1, d0, d1⟩ := ErrI.of h hr
    rw [btw_iff] at hr
    have fo := z_fOf (c.permille * reading) 1000 (by decide) (by omega) (by omega) (by decide) (by decide)
    have fi := z_fInt (c.grams + c.drift * (day - c.since)) (by omega) (by omega)
    have h2 : rl (Rat.divInt (c.permille * reading) 1000) ≤ 4 := Nat.le_trans (rl_divInt (by decide)) (by have := bl_int (x := c.permille * reading) (by omega) (by omega); have := bl_int (x := 1000) (by decide) (by decide); omega)
    have h3 : rl ((c.grams + c.drift * (day - c.since) : Int) : Rat) ≤ 4 := by rw [rl_int]; have := bl_int (x := c.grams + c.drift * (day - c.since)) (by omega) (by omega); omega
    have ad := z_fAdd (Rat.divInt (c.permille * reading) 1000) ((c.grams + c.drift * (day - c.since) : Int) : Rat) (by omega) (by omega)
    (refine acall_of tab_ok Tryz.func95 rfl (by decide) ?_; (conv => whnf); repeat (first | (refine LitB.data ?_; conv => whnf) | (refine BoxB.own ?_; conv => whnf)))
    (repeat' (first | ((refine DecB.mk (fun h => ?_) (fun h => ?_)) <;> first | (exfalso; omega) | (conv => whnf)) | ((refine BoolB.mk (fun h => ?_) (fun h => ?_)) <;> first | (exact absurd h (by decide)) | (conv => whnf)) | (refine ⟨_, wrap_ok (by omega) (by omega), ?_⟩; conv => whnf) | (refine and_idx (by omega) (by omega) ?_; conv => whnf) | (refine reg_ok (by decide +kernel) ?_; conv => whnf) | (refine bar_ok (by decide +kernel) (by decide +kernel) ?_; conv => whnf) | (refine late_ok rfl rfl ?_; conv => whnf) | (refine src_ok rfl ?_; conv => whnf) | (refine .inl ⟨_, _, qcall_pure (cv) rfl rfl, ?_⟩; conv => whnf) | (refine .inl ⟨_, _, qcall_pure (wi) rfl rfl, ?_⟩; conv => whnf) | (refine .inl ⟨_, _, qcall_pure (fo) rfl rfl, ?_⟩; conv => whnf) | (refine .inl ⟨_, _, qcall_pure (fi) rfl rfl, ?_⟩; conv => whnf) | (refine .inl ⟨_, _, qcall_pure (ad) rfl rfl, ?_⟩; conv => whnf) | (refine .inl ⟨_, _, qcall_pure (7) rfl rfl, ?_⟩; conv => whnf) | (refine .inl ⟨_, _, qcall_pure (15) rfl rfl, ?_⟩; conv => whnf) | (refine bar_late [7] (by decide +kernel) (by decide +kernel) ?_; conv => whnf) | (refine bar_late [15] (by decide +kernel) (by decide +kernel) ?_; conv => whnf) | (refine LitB.data ?_; conv => whnf) | (refine BoxB.own ?_; conv => whnf)))
    all_goals first
      | (exfalso; simp_all; done)
      | exact fin_fb rfl rfl
abbrev ivL (o : Option (Rat × Rat)) : List S := match o with
  | some (lo, hi) => [frS (fz lo), frS (fz hi), boolS true]
  | none => [frS zeroF, frS zeroF, boolS false]
theorem rl_maxR {x y : Rat} {n : Nat} (h1 : rl x ≤ n) (h2 : rl y ≤ n) : rl (maxR x y) ≤ n := by unfold maxR; split <;> assumption
theorem rl_interval {cs : List Cert} {rs : List Recall} {scale reading day : Int} {lo hi : Rat} (h : interval cs rs scale reading day = some (lo, hi)) : rl lo ≤ 20 ∧ rl hi ≤ 20 := by
  unfold interval at h
  split at h
  · cases h
  · rename_i i hi
    obtain ⟨hb, c, hc, _, hcv⟩ := findTo_some hi
    have e : certAt cs i = c := by unfold certAt; rw [hc]; rfl
    rw [e] at h
    split at h
    · cases h
    · split at h
      · rename_i hr
        injection h with h
        injection h with h1 h2
        have l1 := rl_err hcv hr
        rw [btw_iff] at hr
        have l2 : rl (reading : Rat) ≤ 4 := by rw [rl_int]; have := bl_int (x := reading) (by omega) (by omega); omega
        have l3 := rl_add (reading : Rat) (errR c reading day)
        have l4 := rl_sub (reading : Rat) (errR c reading day)
        refine ⟨?_, by rw [← h2]; omega⟩
        rw [← h1]
        exact rl_maxR (by omega) (by rw [rl_zero]; omega)
      · cases h
theorem a_Interval (cs : List Cert) (rs : List Recall) (hl : cs.length ≤ 1000000) (hl2 : rs.length ≤ 1000000) (scale reading day : Int) :
    ACall Tryz.prog 58 [.c (.t (certsT cs)), .c (.t (recallsT rs)), intS .i64 scale, intS .i64 reading, intS .i64 day] [] (.tup (ivL (interval cs rs scale reading day))) [] := by
  have f := a_Find cs scale day hl
  have r := a_Recalled rs hl2 scale day
  unfold interval
  cases hf : findTo cs scale day cs.length with
  | none =>
    rw [hf] at f
    (refine acall_of tab_ok Tryz.func58 rfl (by decide) ?_; (conv => whnf); repeat (first | (refine LitB.data ?_; conv => whnf) | (refine BoxB.own ?_; conv => whnf)))
    (repeat' (first | ((refine DecB.mk (fun h => ?_) (fun h => ?_)) <;> first | (exfalso; omega) | (conv => whnf)) | ((refine BoolB.mk (fun h => ?_) (fun h => ?_)) <;> first | (exact absurd h (by decide)) | (conv => whnf)) | (refine ⟨_, wrap_ok (by omega) (by omega), ?_⟩; conv => whnf) | (refine and_idx (by omega) (by omega) ?_; conv => whnf) | (refine reg_ok (by decide +kernel) ?_; conv => whnf) | (refine bar_ok (by decide +kernel) (by decide +kernel) ?_; conv => whnf) | (refine late_ok rfl rfl ?_; conv => whnf) | (refine src_ok rfl ?_; conv => whnf) | (refine .inl ⟨_, _, qcall_pure (f) rfl rfl, ?_⟩; conv => whnf) | (refine .inl ⟨_, _, qcall_pure (r) rfl rfl, ?_⟩; conv => whnf) | (refine .inl ⟨_, _, qcall_pure (1) rfl rfl, ?_⟩; conv => whnf) | (refine .inl ⟨_, _, qcall_pure (6) rfl rfl, ?_⟩; conv => whnf) | (refine bar_late [1] (by decide +kernel) (by decide +kernel) ?_; conv => whnf) | (refine bar_late [6] (by decide +kernel) (by decide +kernel) ?_; conv => whnf) | (refine LitB.data ?_; conv => whnf) | (refine BoxB.own ?_; conv => whnf)))
    all_goals first
      | (exfalso; simp_all; done)
      | exact fin_t ⟨⟨rfl, rfl, rfl, rfl, trivial⟩, ⟨rfl, rfl, rfl, rfl, trivial⟩, rfl, trivial⟩
  | some i =>
    rw [hf] at f
    obtain ⟨hb, c, hc, _, hcv⟩ := findTo_some hf
    have e : certAt cs i = c := by unfold certAt; rw [hc]; rfl
    have er := a_Error c reading day hcv
    simp only [e]
    cases hrec : recalled rs scale day with
    | true =>
      rw [hrec] at r
      (refine acall_of tab_ok Tryz.func58 rfl (by decide) ?_; (conv => whnf); repeat (first | (refine LitB.data ?_; conv => whnf) | (refine BoxB.own ?_; conv => whnf)))
      (repeat' (first | ((refine DecB.mk (fun h => ?_) (fun h => ?_)) <;> first | (exfalso; omega) | (conv => whnf)) | ((refine BoolB.mk (fun h => ?_) (fun h => ?_)) <;> first | (exact absurd h (by decide)) | (conv => whnf)) | (refine ⟨_, wrap_ok (by omega) (by omega), ?_⟩; conv => whnf) | (refine and_idx (by omega) (by omega) ?_; conv => whnf) | (refine reg_ok (by decide +kernel) ?_; conv => whnf) | (refine bar_ok (by decide +kernel) (by decide +kernel) ?_; conv => whnf) | (refine late_ok rfl rfl ?_; conv => whnf) | (refine src_ok rfl ?_; conv => whnf) | (refine .inl ⟨_, _, qcall_pure (f) rfl rfl, ?_⟩; conv => whnf) | (refine .inl ⟨_, _, qcall_pure (r) rfl rfl, ?_⟩; conv => whnf) | (refine .inl ⟨_, _, qcall_pure (1) rfl rfl, ?_⟩; conv => whnf) | (refine .inl ⟨_, _, qcall_pure (6) rfl rfl, ?_⟩; conv => whnf) | (refine bar_late [1] (by decide +kernel) (by decide +kernel) ?_; conv => whnf) | (refine bar_late [6] (by decide +kernel) (by decide +kernel) ?_; conv => whnf) | (refine LitB.data ?_; conv => whnf) | (refine BoxB.own ?_; conv => whnf)))
      all_goals first
        | (exfalso; simp_all; done)
        | exact fin_t ⟨⟨rfl, rfl, rfl, rfl, trivial⟩, ⟨rfl, rfl, rfl, rfl, trivial⟩, rfl, trivial⟩
    | false =>
      rw [hrec] at r
      cases hr : btw reading 0 1099511627776 with
      | false =>
        rw [hr] at er
        (refine acall_of tab_ok Tryz.func58 rfl (by decide) ?_; (conv => whnf); repeat (first | (refine LitB.data ?_; conv => whnf) | (refine BoxB.own ?_; conv => whnf)))
        (repeat' (first | ((refine DecB.mk (fun h => ?_) (fun h => ?_)) <;> first | (exfalso; omega) | (conv => whnf)) | ((refine BoolB.mk (fun h => ?_) (fun h => ?_)) <;> first | (exact absurd h (by decide)) | (conv => whnf)) | (refine ⟨_, wrap_ok (by omega) (by omega), ?_⟩; conv => whnf) | (refine and_idx (by omega) (by omega) ?_; conv => whnf) | (refine reg_ok (by decide +kernel) ?_; conv => whnf) | (refine bar_ok (by decide +kernel) (by decide +kernel) ?_; conv => whnf) | (refine late_ok rfl rfl ?_; conv => whnf) | (refine src_ok rfl ?_; conv => whnf) | (refine .inl ⟨_, _, qcall_pure (f) rfl rfl, ?_⟩; conv => whnf) | (refine .inl ⟨_, _, qcall_pure (r) rfl rfl, ?_⟩; conv => whnf) | (refine .inl ⟨_, _, qcall_pure (er) rfl rfl, ?_⟩; conv => whnf) | (refine .inl ⟨_, _, qcall_pure (1) rfl rfl, ?_⟩; conv => whnf) | (refine .inl ⟨_, _, qcall_pure (9) rfl rfl, ?_⟩; conv => whnf) | (refine ex_row hc ?_; conv => whnf) | (refine bar_late [1] (by decide +kernel) (by decide +kernel) ?_; conv => whnf) | (refine bar_late [9] (by decide +kernel) (by decide +kernel) ?_; conv => whnf) | (refine LitB.data ?_; conv => whnf) | (refine BoxB.own ?_; conv => whnf)))
        all_goals first
          | exact fin_t ⟨⟨rfl, rfl, rfl, rfl, trivial⟩, ⟨rfl, rfl, rfl, rfl, trivial⟩, rfl, trivial⟩
          | (exfalso; simp_all; done)
      | true =>
        have l1 := rl_err hcv hr
        rw [hr] at er
        rw [btw_iff] at hr
        have l2 : rl (reading : Rat) ≤ 4 := by rw [rl_int]; have := bl_int (x := reading) (by omega) (by omega); omega
        have fi := z_fInt reading (by omega) (by omega)
        have f0 := z_fInt 0 (by omega) (by omega)
        have sb := z_fSub (reading : Rat) (errR c reading day) (by omega) (by omega)
        have ad := z_fAdd (reading : Rat) (errR c reading day) (by omega) (by omega)
        have l4 := rl_sub (reading : Rat) (errR c reading day)
        have mx := z_fMax ((reading : Rat) - errR c reading day) ((0 : Int) : Rat) (by omega) (by rw [rl_zero]; omega)
        (refine acall_of tab_ok Tryz.func58 rfl (by decide) ?_; (conv => whnf); repeat (first | (refine LitB.data ?_; conv => whnf) | (refine BoxB.own ?_; conv => whnf)))
        (repeat' (first | ((refine DecB.mk (fun h => ?_) (fun h => ?_)) <;> first | (exfalso; omega) | (conv => whnf)) | ((refine BoolB.mk (fun h => ?_) (fun h => ?_)) <;> first | (exact absurd h (by decide)) | (conv => whnf)) | (refine ⟨_, wrap_ok (by omega) (by omega), ?_⟩; conv => whnf) | (refine and_idx (by omega) (by omega) ?_; conv => whnf) | (refine reg_ok (by decide +kernel) ?_; conv => whnf) | (refine bar_ok (by decide +kernel) (by decide +kernel) ?_; conv => whnf) | (refine late_ok rfl rfl ?_; conv => whnf) | (refine src_ok rfl ?_; conv => whnf) | (refine .inl ⟨_, _, qcall_pure (f) rfl rfl, ?_⟩; conv => whnf) | (refine .inl ⟨_, _, qcall_pure (r) rfl rfl, ?_⟩; conv => whnf) | (refine .inl ⟨_, _, qcall_pure (er) rfl rfl, ?_⟩; conv => whnf) | (refine .inl ⟨_, _, qcall_pure (fi) rfl rfl, ?_⟩; conv => whnf) | (refine .inl ⟨_, _, qcall_pure (f0) rfl rfl, ?_⟩; conv => whnf) | (refine .inl ⟨_, _, qcall_pure (sb) rfl rfl, ?_⟩; conv => whnf) | (refine .inl ⟨_, _, qcall_pure (ad) rfl rfl, ?_⟩; conv => whnf) | (refine .inl ⟨_, _, qcall_pure (mx) rfl rfl, ?_⟩; conv => whnf) | (refine .inl ⟨_, _, qcall_pure (1) rfl rfl, ?_⟩; conv => whnf) | (refine .inl ⟨_, _, qcall_pure (9) rfl rfl, ?_⟩; conv => whnf) | (refine .inl ⟨_, _, qcall_pure (5) rfl rfl, ?_⟩; conv => whnf) | (refine ex_row hc ?_; conv => whnf) | (refine bar_late [1] (by decide +kernel) (by decide +kernel) ?_; conv => whnf) | (refine bar_late [9] (by decide +kernel) (by decide +kernel) ?_; conv => whnf) | (refine bar_late [5] (by decide +kernel) (by decide +kernel) ?_; conv => whnf) | (refine LitB.data ?_; conv => whnf) | (refine BoxB.own ?_; conv => whnf)))
        all_goals first
          | exact fin_t ⟨⟨rfl, rfl, rfl, rfl, trivial⟩, ⟨rfl, rfl, rfl, rfl, trivial⟩, rfl, trivial⟩
          | (exfalso; simp_all; done)
end Go.Proofs.YthinjkjhiembgaaGreat
/- The reference's scale: Right, Find, Recalled, Error, Interval. -/
namespace Go.Proofs.YthinjkjhiembgaaGreat
open Go.RowKit
set_option linter.unusedVariables false
set_option linter.unusedSimpArgs false
set_option maxRecDepth 100000

theorem sgR_neg' (x : Rat) : sgR x < 0 ↔ x < ((0 : Int) : Rat) := by unfold sgR; split <;> (try split) <;> simp_all
theorem ent_fz {x y : Rat} {ρ : List (Option Nat)} {H : Hp} (h : x = y) : EntS ρ H (frS (fz x)) (frS (fz y)) := by subst h; exact ⟨rfl, rfl, rfl, rfl, trivial⟩
theorem r13in (n lo hi : Int) : ACall Tryz.prog 121 [intS .i64 n, intS .i64 lo, intS .i64 hi] [] (boolS (btw n lo hi)) [] := by
  (refine acall_of tab_ok Tryz.func121 rfl (by decide) ?_; (conv => whnf); repeat (first | (refine LitB.data ?_; conv => whnf) | (refine BoxB.own ?_; conv => whnf)))
  (repeat' (first | ((refine DecB.mk (fun h => ?_) (fun h => ?_)) <;> first | (exfalso; omega) | (conv => whnf)) | ((refine BoolB.mk (fun h => ?_) (fun h => ?_)) <;> first | (exact absurd h (by decide)) | (conv => whnf)) | (refine ⟨_, wrap_ok (by omega) (by omega), ?_⟩; conv => whnf) | (refine and_idx (by omega) (by omega) ?_; conv => whnf) | (refine reg_ok (by decide +kernel) ?_; conv => whnf) | (refine bar_ok (by decide +kernel) (by decide +kernel) ?_; conv => whnf) | (refine late_ok rfl rfl ?_; conv => whnf) | (refine src_ok rfl ?_; conv => whnf) | (refine LitB.data ?_; conv => whnf) | (refine BoxB.own ?_; conv => whnf)))
  all_goals (refine fin_bool ?_; simp only [btw]; simp; omega)
theorem r13Right (c : Cert) : ACall Tryz.prog 129 [certS c] [] (boolS (certRight c)) [] := by
  have w1 := r13in c.scale 0 29
  have w2 := r13in c.grams 0 1099511627776
  have w3 := r13in c.permille 0 1000
  have w4 := r13in c.drift 0 10000000
  rw [btw_idx30] at w1
  unfold certRight
  cases h1 : idx c.scale 30 <;> cases h2 : btw c.grams 0 1099511627776 <;> cases h3 : btw c.permille 0 1000 <;> cases h4 : btw c.drift 0 10000000 <;> rw [h1] at w1 <;> rw [h2] at w2 <;> rw [h3] at w3 <;> rw [h4] at w4 <;>
  · (refine acall_of tab_ok Tryz.func129 rfl (by decide) ?_; (conv => whnf); repeat (first | (refine LitB.data ?_; conv => whnf) | (refine BoxB.own ?_; conv => whnf)))
    (repeat' (first | ((refine DecB.mk (fun h => ?_) (fun h => ?_)) <;> first | (exfalso; omega) | (conv => whnf)) | ((refine BoolB.mk (fun h => ?_) (fun h => ?_)) <;> first | (exact absurd h (by decide)) | (conv => whnf)) | (refine ⟨_, wrap_ok (by omega) (by omega), ?_⟩; conv => whnf) | (refine and_idx (by omega) (by omega) ?_; conv => whnf) | (refine reg_ok (by decide +kernel) ?_; conv => whnf) | (refine bar_ok (by decide +kernel) (by decide +kernel) ?_; conv => whnf) | (refine late_ok rfl rfl ?_; conv => whnf) | (refine src_ok rfl ?_; conv => whnf) | (refine .inl ⟨_, _, qcall_pure (w1) rfl rfl, ?_⟩; conv => whnf) | (refine .inl ⟨_, _, qcall_pure (w2) rfl rfl, ?_⟩; conv => whnf) | (refine .inl ⟨_, _, qcall_pure (w3) rfl rfl, ?_⟩; conv => whnf) | (refine .inl ⟨_, _, qcall_pure (w4) rfl rfl, ?_⟩; conv => whnf) | (refine LitB.data ?_; conv => whnf) | (refine BoxB.own ?_; conv => whnf)))
    all_goals (refine fin_bool ?_; simp; try omega)
def bestI (o : Option Nat) : Int := match o with
  | none => -1
  | some b => b
set_option maxHeartbeats 2000000 in
theorem r13Find (cs : List Cert) (scale day : Int) (hl : cs.length ≤ 1000000) :
    ACall Tryz.prog 119 [.c (.t (certsT cs)), intS .i64 scale, intS .i64 day] [] (.tup [intS .i64 (bestOf (findTo cs scale day cs.length)), boolS (findTo cs scale day cs.length).isSome]) [] := by
  have l1 : (cs.map Cert.row).length = cs.length := by simp
  (refine acall_of tab_ok Tryz.func119 rfl (by decide) ?_; (conv => whnf); repeat (first | (refine LitB.data ?_; conv => whnf) | (refine BoxB.data ?_; conv => whnf)))
  (repeat' (first | ((refine DecB.mk (fun h => ?_) (fun h => ?_)) <;> first | (exfalso; omega) | (conv => whnf)) | ((refine BoolB.mk (fun h => ?_) (fun h => ?_)) <;> first | (exact absurd h (by decide)) | (conv => whnf)) | (refine ⟨_, wrap_ok (by omega) (by omega), ?_⟩; conv => whnf) | (refine and_idx (by omega) (by omega) ?_; conv => whnf) | (refine reg_ok (by decide +kernel) ?_; conv => whnf) | (refine bar_ok (by decide +kernel) (by decide +kernel) ?_; conv => whnf) | (refine late_ok rfl rfl ?_; conv => whnf) | (refine src_ok rfl ?_; conv => whnf) | (refine LitB.data ?_; conv => whnf) | (refine BoxB.own ?_; conv => whnf)))
  refine awp_for tab_ok (fun k => ([S.c (C.t (certsT cs)), intS .i64 scale, intS .i64 day, S.junk, S.junk, S.junk, S.junk, S.junk, intS .i64 (bestI (findTo cs scale day k)), intS .i64 k, S.junk, S.junk, S.junk, S.junk, S.junk, S.junk, S.junk, S.junk, S.junk, S.junk, S.junk, S.junk, S.junk, S.junk, S.junk, S.junk, S.junk, S.junk, S.junk, S.junk, S.junk, S.junk, S.junk, S.junk, S.junk, S.junk, S.junk, S.junk, S.junk, S.junk, S.junk, S.junk, S.junk, S.junk, S.junk, S.junk, S.junk, S.junk, S.junk, S.junk, S.junk, S.junk, S.junk, S.junk, S.junk, S.junk, S.junk], [])) cs.length (fun _ => True) [] trivial
    ⟨rfl, rfl, trivial, ⟨rfl, rfl, rfl, rfl, rfl, trivial⟩⟩ ?_
  intro k hk _
  by_cases hlt : k < cs.length
  · obtain ⟨c, hc⟩ : ∃ c, cs[k]? = some c := ⟨_, List.getElem?_eq_getElem hlt⟩
    have cr := r13Right c
    have ci := r13in day c.since c.till
    have hst : findTo cs scale day (k + 1) = if decide (c.scale = scale) && covers c day && later cs (findTo cs scale day k) c then some k else findTo cs scale day k := by
      conv => lhs; unfold findTo
      rw [hc]
    have nxt : ∀ z : Int, bestI (findTo cs scale day (k + 1)) = z → z = bestI (findTo cs scale day (k + 1)) := fun z h => h.symm
    cases hr : certRight c with
    | false =>
      have hcv : covers c day = false := by unfold covers; rw [hr]; rfl
      rw [hcv] at hst
      simp only [Bool.and_false, Bool.false_and, Bool.false_eq_true, if_false] at hst
      rw [hr] at cr
      rw [← hst]
      conv => whnf
      (repeat' (first | ((refine DecB.mk (fun h => ?_) (fun h => ?_)) <;> first | (exfalso; omega) | (conv => whnf)) | ((refine BoolB.mk (fun h => ?_) (fun h => ?_)) <;> first | (exact absurd h (by decide)) | (conv => whnf)) | (refine ⟨_, wrap_ok (by omega) (by omega), ?_⟩; conv => whnf) | (refine and_idx (by omega) (by omega) ?_; conv => whnf) | (refine reg_ok (by decide +kernel) ?_; conv => whnf) | (refine bar_ok (by decide +kernel) (by decide +kernel) ?_; conv => whnf) | (refine late_ok rfl rfl ?_; conv => whnf) | (refine src_ok rfl ?_; conv => whnf) | (refine .inl ⟨_, _, qcall_pure (cr) rfl rfl, ?_⟩; conv => whnf) | (refine ex_row hc ?_; conv => whnf) | (refine LitB.data ?_; conv => whnf) | (refine BoxB.own ?_; conv => whnf)))
      all_goals first
        | (exfalso; omega)
        | (exfalso; simp_all; done)
        | exact ⟨hlt, trivial, [], rfl, rfl, trivial, ⟨rfl, rfl, rfl, rfl, rfl, trivial⟩⟩
    | true =>
    rw [hr] at cr
    cases hb : btw day c.since c.till with
    | false =>
      have hcv : covers c day = false := by unfold covers; rw [hr, hb]; rfl
      rw [hcv] at hst
      simp only [Bool.and_false, Bool.false_and, Bool.false_eq_true, if_false] at hst
      rw [hb] at ci
      rw [← hst]
      conv => whnf
      (repeat' (first | ((refine DecB.mk (fun h => ?_) (fun h => ?_)) <;> first | (exfalso; omega) | (conv => whnf)) | ((refine BoolB.mk (fun h => ?_) (fun h => ?_)) <;> first | (exact absurd h (by decide)) | (conv => whnf)) | (refine ⟨_, wrap_ok (by omega) (by omega), ?_⟩; conv => whnf) | (refine and_idx (by omega) (by omega) ?_; conv => whnf) | (refine reg_ok (by decide +kernel) ?_; conv => whnf) | (refine bar_ok (by decide +kernel) (by decide +kernel) ?_; conv => whnf) | (refine late_ok rfl rfl ?_; conv => whnf) | (refine src_ok rfl ?_; conv => whnf) | (refine .inl ⟨_, _, qcall_pure (cr) rfl rfl, ?_⟩; conv => whnf) | (refine .inl ⟨_, _, qcall_pure (ci) rfl rfl, ?_⟩; conv => whnf) | (refine ex_row hc ?_; conv => whnf) | (refine LitB.data ?_; conv => whnf) | (refine BoxB.own ?_; conv => whnf)))
      all_goals first
        | (exfalso; omega)
        | (exfalso; simp_all; done)
        | exact ⟨hlt, trivial, [], rfl, rfl, trivial, ⟨rfl, rfl, rfl, rfl, rfl, trivial⟩⟩
    | true =>
      have hcv : covers c day = true := by unfold covers; rw [hr, hb]; rfl
      rw [hcv] at hst
      rw [hb] at ci
      cases hf : findTo cs scale day k with
      | none =>
        rw [hf] at hst
        have e0 : bestI none = -1 := rfl
        rw [e0]
        by_cases hsc : c.scale = scale
        · have hst2 : (k : Int) = bestI (findTo cs scale day (k + 1)) := by rw [hst, if_pos (by simp [hsc, later])]; rfl
          clear hst hcv hr hb nxt
          conv => whnf
          (repeat' (first | ((refine DecB.mk (fun h => ?_) (fun h => ?_)) <;> first | (exfalso; omega) | (conv => whnf)) | ((refine BoolB.mk (fun h => ?_) (fun h => ?_)) <;> first | (exact absurd h (by decide)) | (conv => whnf)) | (refine ⟨_, wrap_ok (by omega) (by omega), ?_⟩; conv => whnf) | (refine and_idx (by omega) (by omega) ?_; conv => whnf) | (refine reg_ok (by decide +kernel) ?_; conv => whnf) | (refine bar_ok (by decide +kernel) (by decide +kernel) ?_; conv => whnf) | (refine late_ok rfl rfl ?_; conv => whnf) | (refine src_ok rfl ?_; conv => whnf) | (refine .inl ⟨_, _, qcall_pure (cr) rfl rfl, ?_⟩; conv => whnf) | (refine .inl ⟨_, _, qcall_pure (ci) rfl rfl, ?_⟩; conv => whnf) | (refine ex_row hc ?_; conv => whnf) | (refine LitB.data ?_; conv => whnf) | (refine BoxB.own ?_; conv => whnf)))
          all_goals first
            | (exfalso; omega)
            | exact ⟨hlt, trivial, [], rfl, rfl, trivial, ⟨rfl, rfl, rfl, ent_i hst2, rfl, trivial⟩⟩
        · have hst2 : (-1 : Int) = bestI (findTo cs scale day (k + 1)) := by rw [hst, if_neg (by simp [hsc])]; rfl
          clear hst hcv hr hb nxt
          conv => whnf
          (repeat' (first | ((refine DecB.mk (fun h => ?_) (fun h => ?_)) <;> first | (exfalso; omega) | (conv => whnf)) | ((refine BoolB.mk (fun h => ?_) (fun h => ?_)) <;> first | (exact absurd h (by decide)) | (conv => whnf)) | (refine ⟨_, wrap_ok (by omega) (by omega), ?_⟩; conv => whnf) | (refine and_idx (by omega) (by omega) ?_; conv => whnf) | (refine reg_ok (by decide +kernel) ?_; conv => whnf) | (refine bar_ok (by decide +kernel) (by decide +kernel) ?_; conv => whnf) | (refine late_ok rfl rfl ?_; conv => whnf) | (refine src_ok rfl ?_; conv => whnf) | (refine .inl ⟨_, _, qcall_pure (cr) rfl rfl, ?_⟩; conv => whnf) | (refine .inl ⟨_, _, qcall_pure (ci) rfl rfl, ?_⟩; conv => whnf) | (refine ex_row hc ?_; conv => whnf) | (refine LitB.data ?_; conv => whnf) | (refine BoxB.own ?_; conv => whnf)))
          all_goals first
            | (exfalso; omega)
            | exact ⟨hlt, trivial, [], rfl, rfl, trivial, ⟨rfl, rfl, rfl, ent_i hst2, rfl, trivial⟩⟩
      | some b =>
        rw [hf] at hst
        obtain ⟨hb', cb, hcb, _⟩ := findTo_some hf
        have hsb := cert_get hcb
        have e0 : bestI (some b) = (b : Int) := rfl
        have em : (if (0 : Int) > (b : Int) then 0 else (b : Int)) = (b : Int) := if_neg (by omega)
        rw [e0]
        by_cases hsc : c.scale = scale ∧ cb.since ≤ c.since
        · have hst2 : (k : Int) = bestI (findTo cs scale day (k + 1)) := by rw [hst, if_pos (by simp [hsc.1, later, hsb, hsc.2])]; rfl
          clear hst hcv hr hb nxt
          conv => whnf
          (repeat' (first | ((refine DecB.mk (fun h => ?_) (fun h => ?_)) <;> first | (exfalso; omega) | (conv => whnf)) | ((refine BoolB.mk (fun h => ?_) (fun h => ?_)) <;> first | (exact absurd h (by decide)) | (conv => whnf)) | (refine ⟨_, wrap_ok (by omega) (by omega), ?_⟩; conv => whnf) | (refine and_idx (by omega) (by omega) ?_; conv => whnf) | (refine reg_ok (by decide +kernel) ?_; conv => whnf) | (refine bar_ok (by decide +kernel) (by decide +kernel) ?_; conv => whnf) | (refine late_ok rfl rfl ?_; conv => whnf) | (refine src_ok rfl ?_; conv => whnf) | (refine .inl ⟨_, _, qcall_pure (cr) rfl rfl, ?_⟩; conv => whnf) | (refine .inl ⟨_, _, qcall_pure (ci) rfl rfl, ?_⟩; conv => whnf) | (refine ex_row hc ?_; conv => whnf) | (refine ex_rowE em hcb ?_; conv => whnf) | (refine LitB.data ?_; conv => whnf) | (refine BoxB.own ?_; conv => whnf)))
          all_goals first
            | (exfalso; omega)
            | exact ⟨hlt, trivial, [], rfl, rfl, trivial, ⟨rfl, rfl, rfl, ent_i hst2, rfl, trivial⟩⟩
        · have hst2 : (b : Int) = bestI (findTo cs scale day (k + 1)) := by
            rw [hst, if_neg (by simp only [Bool.and_eq_true, decide_eq_true_eq, later, hsb]; intro h; exact hsc ⟨h.1.1, h.2⟩)]; rfl
          clear hst hcv hr hb nxt
          conv => whnf
          (repeat' (first | ((refine DecB.mk (fun h => ?_) (fun h => ?_)) <;> first | (exfalso; omega) | (conv => whnf)) | ((refine BoolB.mk (fun h => ?_) (fun h => ?_)) <;> first | (exact absurd h (by decide)) | (conv => whnf)) | (refine ⟨_, wrap_ok (by omega) (by omega), ?_⟩; conv => whnf) | (refine and_idx (by omega) (by omega) ?_; conv => whnf) | (refine reg_ok (by decide +kernel) ?_; conv => whnf) | (refine bar_ok (by decide +kernel) (by decide +kernel) ?_; conv => whnf) | (refine late_ok rfl rfl ?_; conv => whnf) | (refine src_ok rfl ?_; conv => whnf) | (refine .inl ⟨_, _, qcall_pure (cr) rfl rfl, ?_⟩; conv => whnf) | (refine .inl ⟨_, _, qcall_pure (ci) rfl rfl, ?_⟩; conv => whnf) | (refine ex_row hc ?_; conv => whnf) | (refine ex_rowE em hcb ?_; conv => whnf) | (refine LitB.data ?_; conv => whnf) | (refine BoxB.own ?_; conv => whnf)))
          all_goals first
            | (exfalso; omega)
            | exact ⟨hlt, trivial, [], rfl, rfl, trivial, ⟨rfl, rfl, rfl, ent_i hst2, rfl, trivial⟩⟩
  · have hke : k = cs.length := by omega
    subst hke
    cases hf : findTo cs scale day cs.length with
    | none =>
      have e0 : bestI none = -1 := rfl
      rw [e0]
      conv => whnf
      (repeat' (first | ((refine DecB.mk (fun h => ?_) (fun h => ?_)) <;> first | (exfalso; omega) | (conv => whnf)) | ((refine BoolB.mk (fun h => ?_) (fun h => ?_)) <;> first | (exact absurd h (by decide)) | (conv => whnf)) | (refine ⟨_, wrap_ok (by omega) (by omega), ?_⟩; conv => whnf) | (refine and_idx (by omega) (by omega) ?_; conv => whnf) | (refine reg_ok (by decide +kernel) ?_; conv => whnf) | (refine bar_ok (by decide +kernel) (by decide +kernel) ?_; conv => whnf) | (refine late_ok rfl rfl ?_; conv => whnf) | (refine src_ok rfl ?_; conv => whnf) | (refine LitB.data ?_; conv => whnf) | (refine BoxB.own ?_; conv => whnf)))
      all_goals first
        | (exfalso; omega)
        | exact fin_t ⟨rfl, rfl, trivial⟩
    | some b =>
      have e0 : bestI (some b) = (b : Int) := rfl
      have em : (if (0 : Int) > (b : Int) then 0 else (b : Int)) = (b : Int) := if_neg (by omega)
      rw [e0]
      conv => whnf
      (repeat' (first | ((refine DecB.mk (fun h => ?_) (fun h => ?_)) <;> first | (exfalso; omega) | (conv => whnf)) | ((refine BoolB.mk (fun h => ?_) (fun h => ?_)) <;> first | (exact absurd h (by decide)) | (conv => whnf)) | (refine ⟨_, wrap_ok (by omega) (by omega), ?_⟩; conv => whnf) | (refine and_idx (by omega) (by omega) ?_; conv => whnf) | (refine reg_ok (by decide +kernel) ?_; conv => whnf) | (refine bar_ok (by decide +kernel) (by decide +kernel) ?_; conv => whnf) | (refine late_ok rfl rfl ?_; conv => whnf) | (refine src_ok rfl ?_; conv => whnf) | (refine LitB.data ?_; conv => whnf) | (refine BoxB.own ?_; conv => whnf)))
      all_goals first
        | (exfalso; omega)
        | exact fin_t ⟨ent_i em, rfl, trivial⟩
theorem r13Recalled (rs : List Recall) (hl : rs.length ≤ 1000000) (scale day : Int) : ACall Tryz.prog 120 [.c (.t (recallsT rs)), intS .i64 scale, intS .i64 day] [] (boolS (recalled rs scale day)) [] := by
  have l1 : (rs.map Recall.row).length = rs.length := by simp
  (refine acall_of tab_ok Tryz.func120 rfl (by decide) ?_; (conv => whnf); repeat (first | (refine LitB.data ?_; conv => whnf) | (refine BoxB.data ?_; conv => whnf)))
  (repeat' (first | ((refine DecB.mk (fun h => ?_) (fun h => ?_)) <;> first | (exfalso; omega) | (conv => whnf)) | ((refine BoolB.mk (fun h => ?_) (fun h => ?_)) <;> first | (exact absurd h (by decide)) | (conv => whnf)) | (refine ⟨_, wrap_ok (by omega) (by omega), ?_⟩; conv => whnf) | (refine and_idx (by omega) (by omega) ?_; conv => whnf) | (refine reg_ok (by decide +kernel) ?_; conv => whnf) | (refine bar_ok (by decide +kernel) (by decide +kernel) ?_; conv => whnf) | (refine late_ok rfl rfl ?_; conv => whnf) | (refine src_ok rfl ?_; conv => whnf) | (refine LitB.data ?_; conv => whnf) | (refine BoxB.own ?_; conv => whnf)))
  refine awp_for tab_ok (fun k => ([S.c (C.t (recallsT rs)), intS .i64 scale, intS .i64 day, S.junk, S.junk, S.junk, S.junk, intS .i64 k, S.junk, S.junk, S.junk, S.junk, S.junk, S.junk, S.junk, S.junk, S.junk, S.junk, S.junk, S.junk, S.junk, S.junk, S.junk, S.junk, S.junk, S.junk, S.junk, S.junk, S.junk, S.junk], [])) rs.length (fun k => (rs.take k).any (fun r => decide (r.scale = scale) && decide (r.since ≤ day)) = false) [] rfl
    ⟨rfl, rfl, trivial, ⟨rfl, rfl, rfl, rfl, trivial⟩⟩ ?_
  intro k hk hI
  by_cases hlt : k < rs.length
  · obtain ⟨r, hr⟩ : ∃ r, rs[k]? = some r := ⟨_, List.getElem?_eq_getElem hlt⟩
    conv => whnf
    (repeat' (first | ((refine DecB.mk (fun h => ?_) (fun h => ?_)) <;> first | (exfalso; omega) | (conv => whnf)) | ((refine BoolB.mk (fun h => ?_) (fun h => ?_)) <;> first | (exact absurd h (by decide)) | (conv => whnf)) | (refine ⟨_, wrap_ok (by omega) (by omega), ?_⟩; conv => whnf) | (refine and_idx (by omega) (by omega) ?_; conv => whnf) | (refine reg_ok (by decide +kernel) ?_; conv => whnf) | (refine bar_ok (by decide +kernel) (by decide +kernel) ?_; conv => whnf) | (refine late_ok rfl rfl ?_; conv => whnf) | (refine src_ok rfl ?_; conv => whnf) | (refine ex_row hr ?_; conv => whnf) | (refine LitB.data ?_; conv => whnf) | (refine BoxB.own ?_; conv => whnf)))
    all_goals first
      | (exfalso; omega)
      | (refine ⟨hlt, ?_, [], rfl, rfl, trivial, ⟨rfl, rfl, rfl, rfl, trivial⟩⟩; rw [any_take_succ hr, hI]; simp [*]; done)
      | (refine ⟨hlt, ?_, [], rfl, rfl, trivial, ⟨rfl, rfl, rfl, rfl, trivial⟩⟩; rw [any_take_succ hr, hI]; simp; omega)
      | (refine fin_bool ?_; unfold recalled; rw [any_of_get hr]; simp [*]; done)
      | (refine fin_bool ?_; unfold recalled; rw [any_of_get hr]; simp; omega)
  · rw [List.take_of_length_le (by omega)] at hI
    conv => whnf
    (repeat' (first | ((refine DecB.mk (fun h => ?_) (fun h => ?_)) <;> first | (exfalso; omega) | (conv => whnf)) | ((refine BoolB.mk (fun h => ?_) (fun h => ?_)) <;> first | (exact absurd h (by decide)) | (conv => whnf)) | (refine ⟨_, wrap_ok (by omega) (by omega), ?_⟩; conv => whnf) | (refine and_idx (by omega) (by omega) ?_; conv => whnf) | (refine reg_ok (by decide +kernel) ?_; conv => whnf) | (refine bar_ok (by decide +kernel) (by decide +kernel) ?_; conv => whnf) | (refine late_ok rfl rfl ?_; conv => whnf) | (refine src_ok rfl ?_; conv => whnf) | (refine LitB.data ?_; conv => whnf) | (refine BoxB.own ?_; conv => whnf)))
    all_goals first
      | (exfalso; omega)
      | exact fin_bool hI.symm
theorem r13Error (c : Cert) (reading day : Int) (h : covers c day = true) (hr : btw reading 0 1099511627776 = true) : ACall Tryz.prog 122 [certS c, intS .i64 reading, intS .i64 day] []
    (.tup [frS (fz (errR c reading day)), boolS true]) [] := by
  have cr := r13Right c
  have ci := r13in day c.since c.till
  have wi := r13in reading 0 1099511627776
  have hcr : certRight c = true := by unfold covers at h; simp only [Bool.and_eq_true] at h; exact h.1
  have hci : btw day c.since c.till = true := by unfold covers at h; simp only [Bool.and_eq_true] at h; exact h.2
  rw [hcr] at cr
  rw [hci] at ci
  rw [hr] at wi
  have hc := covers_iff h
  obtain ⟨p0, p1, d0, d1⟩ := ErrI.of h hr
  rw [btw_iff] at hr
  have fo := r5Of (c.permille * reading) 1000 (by decide) (by omega) (by omega) (by decide)
  have fi := r5Int (c.grams + c.drift * (day - c.since)) (by omega) (by omega)
  have h2 : rl (Rat.divInt (c.permille * reading) 1000) ≤ 4 := Nat.le_trans (rl_divInt (by decide)) (by have := bl_int (x := c.permille * reading) (by omega) (by omega); have := bl_int (x := 1000) (by decide) (by decide); omega)
  have h3 : rl ((c.grams + c.drift * (day - c.since) : Int) : Rat) ≤ 4 := by rw [rl_int]; have := bl_int (x := c.grams + c.drift * (day - c.since)) (by omega) (by omega); omega
  have ad := r5Add ((c.grams + c.drift * (day - c.since) : Int) : Rat) (Rat.divInt (c.permille * reading) 1000) (by omega) (by omega)
  (refine acall_of tab_ok Tryz.func122 rfl (by decide) ?_; (conv => whnf); repeat (first | (refine LitB.data ?_; conv => whnf) | (refine BoxB.own ?_; conv => whnf)))
  (repeat' (first | ((refine DecB.mk (fun h => ?_) (fun h => ?_)) <;> first | (exfalso; omega) | (conv => whnf)) | ((refine BoolB.mk (fun h => ?_) (fun h => ?_)) <;> first | (exact absurd h (by decide)) | (conv => whnf)) | (refine ⟨_, wrap_ok (by omega) (by omega), ?_⟩; conv => whnf) | (refine and_idx (by omega) (by omega) ?_; conv => whnf) | (refine reg_ok (by decide +kernel) ?_; conv => whnf) | (refine bar_ok (by decide +kernel) (by decide +kernel) ?_; conv => whnf) | (refine late_ok rfl rfl ?_; conv => whnf) | (refine src_ok rfl ?_; conv => whnf) | (refine .inl ⟨_, _, qcall_pure (cr) rfl rfl, ?_⟩; conv => whnf) | (refine .inl ⟨_, _, qcall_pure (ci) rfl rfl, ?_⟩; conv => whnf) | (refine .inl ⟨_, _, qcall_pure (wi) rfl rfl, ?_⟩; conv => whnf) | (refine .inl ⟨_, _, qcall_pure (fo) rfl rfl, ?_⟩; conv => whnf) | (refine .inl ⟨_, _, qcall_pure (fi) rfl rfl, ?_⟩; conv => whnf) | (refine .inl ⟨_, _, qcall_pure (ad) rfl rfl, ?_⟩; conv => whnf) | (refine .inl ⟨_, _, qcall_pure (7) rfl rfl, ?_⟩; conv => whnf) | (refine .inl ⟨_, _, qcall_pure (15) rfl rfl, ?_⟩; conv => whnf) | (refine bar_late [7] (by decide +kernel) (by decide +kernel) ?_; conv => whnf) | (refine bar_late [15] (by decide +kernel) (by decide +kernel) ?_; conv => whnf) | (refine LitB.data ?_; conv => whnf) | (refine BoxB.own ?_; conv => whnf)))
  all_goals first
    | (exfalso; simp_all; done)
    | exact fin_fb (by rw [Rat.add_comm]; rfl) rfl
theorem r13Interval (cs : List Cert) (rs : List Recall) (hl : cs.length ≤ 1000000) (hl2 : rs.length ≤ 1000000) (scale reading day : Int) :
    ACall Tryz.prog 98 [.c (.t (certsT cs)), .c (.t (recallsT rs)), intS .i64 scale, intS .i64 reading, intS .i64 day] [] (.tup (ivL (interval cs rs scale reading day))) [] := by
  have f := r13Find cs scale day hl
  have r := r13Recalled rs hl2 scale day
  have wi := r13in reading 0 1099511627776
  unfold interval
  cases hf : findTo cs scale day cs.length with
  | none =>
    rw [hf] at f
    (refine acall_of tab_ok Tryz.func98 rfl (by decide) ?_; (conv => whnf); repeat (first | (refine LitB.data ?_; conv => whnf) | (refine BoxB.own ?_; conv => whnf)))
    (repeat' (first | ((refine DecB.mk (fun h => ?_) (fun h => ?_)) <;> first | (exfalso; omega) | (conv => whnf)) | ((refine BoolB.mk (fun h => ?_) (fun h => ?_)) <;> first | (exact absurd h (by decide)) | (conv => whnf)) | (refine ⟨_, wrap_ok (by omega) (by omega), ?_⟩; conv => whnf) | (refine and_idx (by omega) (by omega) ?_; conv => whnf) | (refine reg_ok (by decide +kernel) ?_; conv => whnf) | (refine bar_ok (by decide +kernel) (by decide +kernel) ?_; conv => whnf) | (refine late_ok rfl rfl ?_; conv => whnf) | (refine src_ok rfl ?_; conv => whnf) | (refine .inl ⟨_, _, qcall_pure (f) rfl rfl, ?_⟩; conv => whnf) | (refine .inl ⟨_, _, qcall_pure (r) rfl rfl, ?_⟩; conv => whnf) | (refine .inl ⟨_, _, qcall_pure (wi) rfl rfl, ?_⟩; conv => whnf) | (refine .inl ⟨_, _, qcall_pure (1) rfl rfl, ?_⟩; conv => whnf) | (refine bar_late [1] (by decide +kernel) (by decide +kernel) ?_; conv => whnf) | (refine LitB.data ?_; conv => whnf) | (refine BoxB.own ?_; conv => whnf)))
    all_goals first
      | (exfalso; simp_all; done)
      | exact fin_t ⟨⟨rfl, rfl, rfl, rfl, trivial⟩, ⟨rfl, rfl, rfl, rfl, trivial⟩, rfl, trivial⟩
  | some i =>
    rw [hf] at f
    obtain ⟨hb, c, hc, _, hcv⟩ := findTo_some hf
    have e : certAt cs i = c := by unfold certAt; rw [hc]; rfl
    simp only [e]
    cases hrec : recalled rs scale day with
    | true =>
      rw [hrec] at r
      (refine acall_of tab_ok Tryz.func98 rfl (by decide) ?_; (conv => whnf); repeat (first | (refine LitB.data ?_; conv => whnf) | (refine BoxB.own ?_; conv => whnf)))
      (repeat' (first | ((refine DecB.mk (fun h => ?_) (fun h => ?_)) <;> first | (exfalso; omega) | (conv => whnf)) | ((refine BoolB.mk (fun h => ?_) (fun h => ?_)) <;> first | (exact absurd h (by decide)) | (conv => whnf)) | (refine ⟨_, wrap_ok (by omega) (by omega), ?_⟩; conv => whnf) | (refine and_idx (by omega) (by omega) ?_; conv => whnf) | (refine reg_ok (by decide +kernel) ?_; conv => whnf) | (refine bar_ok (by decide +kernel) (by decide +kernel) ?_; conv => whnf) | (refine late_ok rfl rfl ?_; conv => whnf) | (refine src_ok rfl ?_; conv => whnf) | (refine .inl ⟨_, _, qcall_pure (f) rfl rfl, ?_⟩; conv => whnf) | (refine .inl ⟨_, _, qcall_pure (r) rfl rfl, ?_⟩; conv => whnf) | (refine .inl ⟨_, _, qcall_pure (wi) rfl rfl, ?_⟩; conv => whnf) | (refine .inl ⟨_, _, qcall_pure (1) rfl rfl, ?_⟩; conv => whnf) | (refine bar_late [1] (by decide +kernel) (by decide +kernel) ?_; conv => whnf) | (refine LitB.data ?_; conv => whnf) | (refine BoxB.own ?_; conv => whnf)))
      all_goals first
        | (exfalso; simp_all; done)
        | exact fin_t ⟨⟨rfl, rfl, rfl, rfl, trivial⟩, ⟨rfl, rfl, rfl, rfl, trivial⟩, rfl, trivial⟩
    | false =>
      rw [hrec] at r
      cases hr : btw reading 0 1099511627776 with
      | false =>
        rw [hr] at wi
        (refine acall_of tab_ok Tryz.func98 rfl (by decide) ?_; (conv => whnf); repeat (first | (refine LitB.data ?_; conv => whnf) | (refine BoxB.own ?_; conv => whnf)))
        (repeat' (first | ((refine DecB.mk (fun h => ?_) (fun h => ?_)) <;> first | (exfalso; omega) | (conv => whnf)) | ((refine BoolB.mk (fun h => ?_) (fun h => ?_)) <;> first | (exact absurd h (by decide)) | (conv => whnf)) | (refine ⟨_, wrap_ok (by omega) (by omega), ?_⟩; conv => whnf) | (refine and_idx (by omega) (by omega) ?_; conv => whnf) | (refine reg_ok (by decide +kernel) ?_; conv => whnf) | (refine bar_ok (by decide +kernel) (by decide +kernel) ?_; conv => whnf) | (refine late_ok rfl rfl ?_; conv => whnf) | (refine src_ok rfl ?_; conv => whnf) | (refine .inl ⟨_, _, qcall_pure (f) rfl rfl, ?_⟩; conv => whnf) | (refine .inl ⟨_, _, qcall_pure (r) rfl rfl, ?_⟩; conv => whnf) | (refine .inl ⟨_, _, qcall_pure (wi) rfl rfl, ?_⟩; conv => whnf) | (refine .inl ⟨_, _, qcall_pure (1) rfl rfl, ?_⟩; conv => whnf) | (refine bar_late [1] (by decide +kernel) (by decide +kernel) ?_; conv => whnf) | (refine LitB.data ?_; conv => whnf) | (refine BoxB.own ?_; conv => whnf)))
        all_goals first
          | exact fin_t ⟨⟨rfl, rfl, rfl, rfl, trivial⟩, ⟨rfl, rfl, rfl, rfl, trivial⟩, rfl, trivial⟩
          | (exfalso; simp_all; done)
      | true =>
        have er := r13Error c reading day hcv hr
        have l1 := rl_err hcv hr
        rw [hr] at wi
        rw [btw_iff] at hr
        have l2 : rl (reading : Rat) ≤ 4 := by rw [rl_int]; have := bl_int (x := reading) (by omega) (by omega); omega
        have fi := r5Int reading (by omega) (by omega)
        have f0 := r5Int 0 (by omega) (by omega)
        have sb := r5Sub (reading : Rat) (errR c reading day) (by omega) (by omega)
        have ad := r5Add (reading : Rat) (errR c reading day) (by omega) (by omega)
        have l4 := rl_sub (reading : Rat) (errR c reading day)
        have sg := r5Sign ((reading : Rat) - errR c reading day) (by omega)
        have hs := sgR_neg' ((reading : Rat) - errR c reading day)
        (refine acall_of tab_ok Tryz.func98 rfl (by decide) ?_; (conv => whnf); repeat (first | (refine LitB.data ?_; conv => whnf) | (refine BoxB.own ?_; conv => whnf)))
        (repeat' (first | ((refine DecB.mk (fun h => ?_) (fun h => ?_)) <;> first | (exfalso; omega) | (conv => whnf)) | ((refine BoolB.mk (fun h => ?_) (fun h => ?_)) <;> first | (exact absurd h (by decide)) | (conv => whnf)) | (refine ⟨_, wrap_ok (by omega) (by omega), ?_⟩; conv => whnf) | (refine and_idx (by omega) (by omega) ?_; conv => whnf) | (refine reg_ok (by decide +kernel) ?_; conv => whnf) | (refine bar_ok (by decide +kernel) (by decide +kernel) ?_; conv => whnf) | (refine late_ok rfl rfl ?_; conv => whnf) | (refine src_ok rfl ?_; conv => whnf) | (refine .inl ⟨_, _, qcall_pure (f) rfl rfl, ?_⟩; conv => whnf) | (refine .inl ⟨_, _, qcall_pure (r) rfl rfl, ?_⟩; conv => whnf) | (refine .inl ⟨_, _, qcall_pure (wi) rfl rfl, ?_⟩; conv => whnf) | (refine .inl ⟨_, _, qcall_pure (er) rfl rfl, ?_⟩; conv => whnf) | (refine .inl ⟨_, _, qcall_pure (fi) rfl rfl, ?_⟩; conv => whnf) | (refine .inl ⟨_, _, qcall_pure (f0) rfl rfl, ?_⟩; conv => whnf) | (refine .inl ⟨_, _, qcall_pure (sb) rfl rfl, ?_⟩; conv => whnf) | (refine .inl ⟨_, _, qcall_pure (ad) rfl rfl, ?_⟩; conv => whnf) | (refine .inl ⟨_, _, qcall_pure (sg) rfl rfl, ?_⟩; conv => whnf) | (refine .inl ⟨_, _, qcall_pure (1) rfl rfl, ?_⟩; conv => whnf) | (refine .inl ⟨_, _, qcall_pure (9) rfl rfl, ?_⟩; conv => whnf) | (refine .inl ⟨_, _, qcall_pure (6) rfl rfl, ?_⟩; conv => whnf) | (refine ex_row hc ?_; conv => whnf) | (refine bar_late [1] (by decide +kernel) (by decide +kernel) ?_; conv => whnf) | (refine bar_late [9] (by decide +kernel) (by decide +kernel) ?_; conv => whnf) | (refine bar_late [6] (by decide +kernel) (by decide +kernel) ?_; conv => whnf) | (refine LitB.data ?_; conv => whnf) | (refine BoxB.own ?_; conv => whnf)))
        · have hn : (reading : Rat) - errR c reading day < ((0 : Int) : Rat) := hs.1 (by omega)
          refine fin_t ⟨ent_fz ?_, ⟨rfl, rfl, rfl, rfl, trivial⟩, rfl, trivial⟩
          unfold maxR; rw [if_pos hn]
        · have hn : ¬ (reading : Rat) - errR c reading day < ((0 : Int) : Rat) := fun h => absurd (hs.2 h) (by omega)
          refine fin_t ⟨ent_fz ?_, ⟨rfl, rfl, rfl, rfl, trivial⟩, rfl, trivial⟩
          unfold maxR; rw [if_neg hn]
        · have hq : (some i).isSome = false := by assumption
          cases hq
end Go.Proofs.YthinjkjhiembgaaGreat
/- More on picked numbers, in plain Lean. -/
namespace Go.Proofs.YthinjkjhiembgaaGreat

theorem pickFrom_none {α : Type} (p : Nat → α → Bool) (l : List α) : ∀ k, (∀ j m, k ≤ j → p j m = false) → pickFrom p k l = [] := by
  induction l with
  | nil => intro k _; rfl
  | cons m r ih =>
    intro k h
    simp only [pickFrom, h k m (Nat.le_refl _)]
    exact ih (k + 1) (fun j m' hj => h j m' (by omega))
theorem pickTo_rest {α : Type} (p : Nat → α → Bool) (l : List α) {k : Nat} (h : ∀ j m, k ≤ j → p j m = false) : pickTo p l k = pickFrom p 0 l := by
  by_cases hk : k ≤ l.length
  · unfold pickTo
    conv => rhs; rw [← List.take_append_drop k l, pickFrom_append]
    have hl : (l.take k).length = k := by simp; omega
    rw [hl, pickFrom_none p (l.drop k) (0 + k) (by simpa using h)]
    simp
  · exact pickTo_all p (by omega)
/-- equal so far -/
def SameTo (xs ys : List Int) (k : Nat) : Prop := xs.take k = ys.take k
theorem SameTo.zero (xs ys : List Int) : SameTo xs ys 0 := by simp [SameTo]
theorem SameTo.next {xs ys : List Int} {k : Nat} {x : Int} (h : SameTo xs ys k) (hx : xs[k]? = some x) (hy : ys[k]? = some x) : SameTo xs ys (k + 1) := by
  unfold SameTo at *
  rw [List.take_add_one, List.take_add_one, h, hx, hy]
theorem SameTo.all {xs ys : List Int} {k : Nat} (h : SameTo xs ys k) (h1 : xs.length ≤ k) (h2 : ys.length ≤ k) : xs = ys := by
  unfold SameTo at h
  rwa [List.take_of_length_le h1, List.take_of_length_le h2] at h
theorem liftIs_of {e : Ev} {m : Move} {i : Nat} {p : Place} (hp : e.places[i]? = some p) (hs : m.src = (i : Int)) (hh mat lo hi : Int) :
    liftIs e hh mat lo hi m = (decide (p.kind = 0) && decide (p.hh = hh) && (decide (mat = -1) || decide (p.mat = mat)) && btw m.day lo hi) := by
  unfold liftIs
  rw [hs, Int.toNat_natCast, hp]

end Go.Proofs.YthinjkjhiembgaaGreat
/- Package flow: what its inner functions compute. -/
namespace Go.Proofs.YthinjkjhiembgaaGreat
open Go.RowKit
set_option linter.unusedVariables false
set_option linter.unusedSimpArgs false

theorem a_index (i n : Int) : ACall Tryz.prog 90 [intS .i64 i, intS .i64 n] [] (boolS (idx i n)) [] := by
  (refine acall_of tab_ok Tryz.func90 rfl (by decide) ?_; (conv => whnf); repeat (first | (refine LitB.data ?_; conv => whnf) | (refine BoxB.own ?_; conv => whnf)))
  (repeat' (first | ((refine DecB.mk (fun h => ?_) (fun h => ?_)) <;> first | (exfalso; omega) | (conv => whnf)) | ((refine BoolB.mk (fun h => ?_) (fun h => ?_)) <;> first | (exact absurd h (by decide)) | (conv => whnf)) | (refine ⟨_, wrap_ok (by omega) (by omega), ?_⟩; conv => whnf) | (refine and_idx (by omega) (by omega) ?_; conv => whnf) | (refine reg_ok (by decide +kernel) ?_; conv => whnf) | (refine bar_ok (by decide +kernel) (by decide +kernel) ?_; conv => whnf) | (refine late_ok rfl rfl ?_; conv => whnf) | (refine src_ok rfl ?_; conv => whnf) | (refine LitB.data ?_; conv => whnf) | (refine BoxB.own ?_; conv => whnf)))
  all_goals (refine fin_bool ?_; simp only [idx]; simp; omega)

theorem a_between (n lo hi : Int) : ACall Tryz.prog 91 [intS .i64 n, intS .i64 lo, intS .i64 hi] [] (boolS (btw n lo hi)) [] := by
  (refine acall_of tab_ok Tryz.func91 rfl (by decide) ?_; (conv => whnf); repeat (first | (refine LitB.data ?_; conv => whnf) | (refine BoxB.own ?_; conv => whnf)))
  (repeat' (first | ((refine DecB.mk (fun h => ?_) (fun h => ?_)) <;> first | (exfalso; omega) | (conv => whnf)) | ((refine BoolB.mk (fun h => ?_) (fun h => ?_)) <;> first | (exact absurd h (by decide)) | (conv => whnf)) | (refine ⟨_, wrap_ok (by omega) (by omega), ?_⟩; conv => whnf) | (refine and_idx (by omega) (by omega) ?_; conv => whnf) | (refine reg_ok (by decide +kernel) ?_; conv => whnf) | (refine bar_ok (by decide +kernel) (by decide +kernel) ?_; conv => whnf) | (refine late_ok rfl rfl ?_; conv => whnf) | (refine src_ok rfl ?_; conv => whnf) | (refine LitB.data ?_; conv => whnf) | (refine BoxB.own ?_; conv => whnf)))
  all_goals (refine fin_bool ?_; simp only [btw]; simp; omega)

def pairRow (p : Int × Int) : List T := [ti p.1, ti p.2]
def fullL (e : Ev) : List (Int × Int) := [(e.mats, 6), (e.hhs, 100), (e.scs, 30), (e.places.length, 100), (e.moves.length, 200), (e.certs.length, 100), (e.recalls.length, 30), (e.purities.length, 200)]
theorem fullB_any (e : Ev) : fullB e = (fullL e).any fun p => decide (p.2 < p.1) := by
  rw [Bool.eq_iff_iff]
  simp [fullB, fullL]
  omega

set_option maxRecDepth 100000 in
theorem a_full (e : Ev) (hs : e.Sized) : ACall Tryz.prog 52 [evS e] [] (boolS (fullB e)) [] := by
  (refine acall_of tab_ok Tryz.func52 rfl (by decide) ?_; (conv => whnf); repeat (first | (refine LitB.data ?_; conv => whnf) | (refine BoxB.own ?_; conv => whnf)))
  have hl : (fullL e).length = 8 := rfl
  refine awp_for tab_ok (fun k => ([S.junk, S.junk, S.junk, S.junk, S.junk, S.junk, S.junk, S.junk, S.junk, S.junk, S.junk, S.junk, S.junk, S.junk, S.junk, S.junk, S.junk, S.junk, S.junk, S.junk, S.junk, S.junk, S.junk, S.junk, S.junk, S.junk, S.junk, S.junk, S.junk, S.junk, S.junk, S.junk, S.junk, S.junk, S.c (C.t (T.sl 2 .full ((fullL e).map pairRow))), intS .i64 8, intS .i64 k, S.junk, S.junk, S.junk, S.junk, S.junk, S.junk, S.junk, S.junk, S.junk], [])) 8 (fun k => ((fullL e).take k).any (fun p => decide (p.2 < p.1)) = false) [] rfl
    ⟨rfl, rfl, trivial, ⟨ent_t (by simp [fullL, pairRow]), rfl, rfl, trivial⟩⟩ ?_
  intro k hk hI
  conv => whnf
  (repeat' (first | ((refine DecB.mk (fun h => ?_) (fun h => ?_)) <;> first | (exfalso; omega) | (conv => whnf)) | ((refine BoolB.mk (fun h => ?_) (fun h => ?_)) <;> first | (exact absurd h (by decide)) | (conv => whnf)) | (refine ⟨_, wrap_ok (by omega) (by omega), ?_⟩; conv => whnf) | (refine and_idx (by omega) (by omega) ?_; conv => whnf) | (refine reg_ok (by decide +kernel) ?_; conv => whnf) | (refine bar_ok (by decide +kernel) (by decide +kernel) ?_; conv => whnf) | (refine late_ok rfl rfl ?_; conv => whnf) | (refine src_ok rfl ?_; conv => whnf) | (refine LitB.data ?_; conv => whnf) | (refine BoxB.own ?_; conv => whnf)))
  · have hlt : k < 8 := by omega
    refine ex_row (List.getElem?_eq_getElem (hl ▸ hlt)) ?_
    conv => whnf
    (repeat' (first | ((refine DecB.mk (fun h => ?_) (fun h => ?_)) <;> first | (exfalso; omega) | (conv => whnf)) | ((refine BoolB.mk (fun h => ?_) (fun h => ?_)) <;> first | (exact absurd h (by decide)) | (conv => whnf)) | (refine ⟨_, wrap_ok (by omega) (by omega), ?_⟩; conv => whnf) | (refine and_idx (by omega) (by omega) ?_; conv => whnf) | (refine reg_ok (by decide +kernel) ?_; conv => whnf) | (refine bar_ok (by decide +kernel) (by decide +kernel) ?_; conv => whnf) | (refine late_ok rfl rfl ?_; conv => whnf) | (refine src_ok rfl ?_; conv => whnf) | (refine LitB.data ?_; conv => whnf) | (refine BoxB.own ?_; conv => whnf)))
    · refine fin_bool ?_
      rw [fullB_any, any_of_get (List.getElem?_eq_getElem (hl ▸ hlt))]
      simpa using ‹_ > _›
    · refine ⟨hlt, ?_, [], rfl, rfl, trivial, ⟨rfl, rfl, rfl, trivial⟩⟩
      rw [any_take_succ (List.getElem?_eq_getElem (hl ▸ hlt)), hI]
      have h := ‹¬ _ > _›
      simp; omega
  · refine fin_bool ?_
    rw [fullB_any, ← hI, List.take_of_length_le (by omega)]
end Go.Proofs.YthinjkjhiembgaaGreat
/- Package flow: places, moves, what was said; Check. -/
namespace Go.Proofs.YthinjkjhiembgaaGreat
open Go.RowKit
set_option linter.unusedVariables false
set_option linter.unusedSimpArgs false
set_option maxRecDepth 100000


theorem a_places (e : Ev) (hs : e.Sized) : ACall Tryz.prog 53 [evS e] [] (boolS (e.places.all (placeOk e))) [] := by
  have l1 := hs.s1
  have l2 : (e.places.map Place.row).length = e.places.length := by simp
  (refine acall_of tab_ok Tryz.func53 rfl (by decide) ?_; (conv => whnf); repeat (first | (refine LitB.data ?_; conv => whnf) | (refine BoxB.own ?_; conv => whnf)))
  refine awp_for tab_ok (fun k => ([S.junk, S.c (C.ptr 0 0 0), S.junk, S.junk, S.junk, S.junk, S.c (C.t (placesT e.places)), intS .i64 e.places.length, intS .i64 k, S.junk, S.junk, S.junk, S.junk, S.junk, S.junk, S.junk, S.junk, S.junk, S.junk, S.junk, S.junk, S.junk, S.junk, S.junk, S.junk, S.junk, S.junk, S.junk, S.junk, S.junk, S.junk, S.junk, S.junk, S.junk, S.junk, S.junk, S.junk, S.junk, S.junk, S.junk, S.junk, S.junk, S.junk, S.junk, S.junk], [evB e])) e.places.length (fun k => (e.places.take k).all (placeOk e) = true) [some 0] rfl
    ⟨rfl, rfl, ⟨⟨rfl, rfl, rfl, .inl ⟨rfl, rowsT_ev e⟩⟩, trivial⟩, ⟨⟨rfl, rfl, rfl⟩, ent_t rfl, ent_i (by simp), ent_i rfl, trivial⟩⟩ ?_
  intro k hk hI
  conv => whnf
  (repeat' (first | ((refine DecB.mk (fun h => ?_) (fun h => ?_)) <;> first | (exfalso; omega) | (conv => whnf)) | ((refine BoolB.mk (fun h => ?_) (fun h => ?_)) <;> first | (exact absurd h (by decide)) | (conv => whnf)) | (refine ⟨_, wrap_ok (by omega) (by omega), ?_⟩; conv => whnf) | (refine and_idx (by omega) (by omega) ?_; conv => whnf) | (refine reg_ok (by decide +kernel) ?_; conv => whnf) | (refine bar_ok (by decide +kernel) (by decide +kernel) ?_; conv => whnf) | (refine late_ok rfl rfl ?_; conv => whnf) | (refine src_ok rfl ?_; conv => whnf) | (refine LitB.data ?_; conv => whnf) | (refine BoxB.own ?_; conv => whnf)))
  · have hlt : k < e.places.length := by omega
    obtain ⟨x, hx⟩ : ∃ x, e.places[k]? = some x := ⟨_, List.getElem?_eq_getElem hlt⟩
    refine ex_row hx ?_
    conv => whnf
    (repeat' (first | ((refine DecB.mk (fun h => ?_) (fun h => ?_)) <;> first | (exfalso; omega) | (conv => whnf)) | ((refine BoolB.mk (fun h => ?_) (fun h => ?_)) <;> first | (exact absurd h (by decide)) | (conv => whnf)) | (refine ⟨_, wrap_ok (by omega) (by omega), ?_⟩; conv => whnf) | (refine and_idx (by omega) (by omega) ?_; conv => whnf) | (refine reg_ok (by decide +kernel) ?_; conv => whnf) | (refine bar_ok (by decide +kernel) (by decide +kernel) ?_; conv => whnf) | (refine late_ok rfl rfl ?_; conv => whnf) | (refine src_ok rfl ?_; conv => whnf) | (refine .inl ⟨_, _, qcall_pure (a_index _ _) rfl rfl, ?_⟩; conv => whnf) | (refine LitB.data ?_; conv => whnf) | (refine BoxB.own ?_; conv => whnf)))
    all_goals first
      | (refine ⟨hlt, ?_, [some 0], rfl, rfl, ⟨⟨rfl, rfl, rfl, .inl ⟨rfl, rowsT_ev e⟩⟩, trivial⟩, ⟨⟨rfl, rfl, rfl⟩, rfl, rfl, rfl, trivial⟩⟩; rw [all_take_succ hx, hI]; simp_all [placeOk]; done)
      | (refine fin_bool ?_; rw [all_of_get hx]; simp_all [placeOk]; done)
  · refine fin_bool ?_
    rw [← hI, List.take_of_length_le (by omega)]

theorem place_get {e : Ev} {i : Int} (h : idx i e.places.length = true) : 0 ≤ i ∧ ∃ x, e.places[i.toNat]? = some x ∧ kindAt e i = x.kind := by
  have h' := idx_iff.1 h
  have hlt : i.toNat < e.places.length := by omega
  refine ⟨h'.1, _, List.getElem?_eq_getElem hlt, ?_⟩
  unfold kindAt
  rw [List.getElem?_eq_getElem hlt]; rfl

theorem a_move (e : Ev) (m : Move) (hs : e.Sized) : ACall Tryz.prog 54 [evS e, moveS m] [] (boolS (moveOk e m)) [] := by
  have l1 := hs.s1
  have l2 : (e.places.map Place.row).length = e.places.length := by simp
  by_cases h1 : idx m.src e.places.length = true
  · obtain ⟨hs0, x, hx, kx⟩ := place_get h1
    by_cases h2 : idx m.dst e.places.length = true
    · obtain ⟨hd0, y, hy, ky⟩ := place_get h2
      (refine acall_of tab_ok Tryz.func54 rfl (by decide) ?_; (conv => whnf); repeat (first | (refine LitB.data ?_; conv => whnf) | (refine BoxB.own ?_; conv => whnf)))
      rw [← l2] at h1 h2
      (repeat' (first | ((refine DecB.mk (fun h => ?_) (fun h => ?_)) <;> first | (exfalso; omega) | (conv => whnf)) | ((refine BoolB.mk (fun h => ?_) (fun h => ?_)) <;> first | (exact absurd h (by decide)) | (conv => whnf)) | (refine ⟨_, wrap_ok (by omega) (by omega), ?_⟩; conv => whnf) | (refine and_idx (by omega) (by omega) ?_; conv => whnf) | (refine reg_ok (by decide +kernel) ?_; conv => whnf) | (refine bar_ok (by decide +kernel) (by decide +kernel) ?_; conv => whnf) | (refine late_ok rfl rfl ?_; conv => whnf) | (refine src_ok rfl ?_; conv => whnf) | (refine .inl ⟨_, _, qcall_pure (a_index _ _) rfl rfl, ?_⟩; conv => whnf) | (refine .inl ⟨_, _, qcall_pure (a_between _ _ _) rfl rfl, ?_⟩; conv => whnf) | (refine ex_rowI hs0 hx ?_; conv => whnf) | (refine ex_rowI hd0 hy ?_; conv => whnf) | (refine LitB.data ?_; conv => whnf) | (refine BoxB.own ?_; conv => whnf)))
      all_goals (refine fin_bool ?_; simp_all [moveOk]; done)
    · (refine acall_of tab_ok Tryz.func54 rfl (by decide) ?_; (conv => whnf); repeat (first | (refine LitB.data ?_; conv => whnf) | (refine BoxB.own ?_; conv => whnf)))
      rw [← l2] at h1 h2
      (repeat' (first | ((refine DecB.mk (fun h => ?_) (fun h => ?_)) <;> first | (exfalso; omega) | (conv => whnf)) | ((refine BoolB.mk (fun h => ?_) (fun h => ?_)) <;> first | (exact absurd h (by decide)) | (conv => whnf)) | (refine ⟨_, wrap_ok (by omega) (by omega), ?_⟩; conv => whnf) | (refine and_idx (by omega) (by omega) ?_; conv => whnf) | (refine reg_ok (by decide +kernel) ?_; conv => whnf) | (refine bar_ok (by decide +kernel) (by decide +kernel) ?_; conv => whnf) | (refine late_ok rfl rfl ?_; conv => whnf) | (refine src_ok rfl ?_; conv => whnf) | (refine .inl ⟨_, _, qcall_pure (a_index _ _) rfl rfl, ?_⟩; conv => whnf) | (refine LitB.data ?_; conv => whnf) | (refine BoxB.own ?_; conv => whnf)))
      all_goals first | (exfalso; simp_all; done) | (refine fin_bool ?_; simp_all [moveOk]; done)
  · (refine acall_of tab_ok Tryz.func54 rfl (by decide) ?_; (conv => whnf); repeat (first | (refine LitB.data ?_; conv => whnf) | (refine BoxB.own ?_; conv => whnf)))
    rw [← l2] at h1
    (repeat' (first | ((refine DecB.mk (fun h => ?_) (fun h => ?_)) <;> first | (exfalso; omega) | (conv => whnf)) | ((refine BoolB.mk (fun h => ?_) (fun h => ?_)) <;> first | (exact absurd h (by decide)) | (conv => whnf)) | (refine ⟨_, wrap_ok (by omega) (by omega), ?_⟩; conv => whnf) | (refine and_idx (by omega) (by omega) ?_; conv => whnf) | (refine reg_ok (by decide +kernel) ?_; conv => whnf) | (refine bar_ok (by decide +kernel) (by decide +kernel) ?_; conv => whnf) | (refine late_ok rfl rfl ?_; conv => whnf) | (refine src_ok rfl ?_; conv => whnf) | (refine .inl ⟨_, _, qcall_pure (a_index _ _) rfl rfl, ?_⟩; conv => whnf) | (refine LitB.data ?_; conv => whnf) | (refine BoxB.own ?_; conv => whnf)))
    all_goals first | (exfalso; simp_all; done) | (refine fin_bool ?_; simp_all [moveOk]; done)

theorem a_said (e : Ev) (hs : e.Sized) : ACall Tryz.prog 55 [evS e] [] (boolS (saidOk e)) [] := by
  have l1 := hs.s3
  have l2 : (e.certs.map Cert.row).length = e.certs.length := by simp
  have l3 := hs.s4
  have l4 : (e.recalls.map Recall.row).length = e.recalls.length := by simp
  have l5 := hs.s5
  have l6 : (e.purities.map Purity.row).length = e.purities.length := by simp
  have l7 := hs.s2
  have l8 : (e.moves.map Move.row).length = e.moves.length := by simp
  (refine acall_of tab_ok Tryz.func55 rfl (by decide) ?_; (conv => whnf); repeat (first | (refine LitB.data ?_; conv => whnf) | (refine BoxB.own ?_; conv => whnf)))
  refine awp_for tab_ok (fun k => ([S.junk, S.c (C.ptr 0 0 0), S.junk, S.junk, S.junk, S.junk, S.junk, S.junk, S.junk, S.junk, S.junk, S.c (C.t (certsT e.certs)), intS .i64 e.certs.length, intS .i64 k, S.junk, S.junk, S.junk, S.junk, S.junk, S.junk, S.junk, S.junk, S.junk, S.junk, S.junk, S.junk, S.junk, S.junk, S.junk, S.junk, S.junk, S.junk, S.junk, S.junk, S.junk, S.junk, S.junk, S.junk, S.junk, S.junk, S.junk, S.junk, S.junk, S.junk, S.junk, S.junk, S.junk, S.junk, S.junk, S.junk, S.junk, S.junk, S.junk, S.junk, S.junk, S.junk, S.junk, S.junk, S.junk, S.junk, S.junk, S.junk, S.junk, S.junk, S.junk, S.junk, S.junk, S.junk, S.junk, S.junk, S.junk, S.junk, S.junk, S.junk, S.junk, S.junk, S.junk, S.junk, S.junk, S.junk, S.junk, S.junk, S.junk, S.junk, S.junk, S.junk, S.junk, S.junk, S.junk, S.junk, S.junk, S.junk, S.junk, S.junk, S.junk, S.junk, S.junk, S.junk, S.junk, S.junk, S.junk, S.junk, S.junk, S.junk, S.junk, S.junk, S.junk, S.junk, S.junk, S.junk, S.junk, S.junk, S.junk, S.junk, S.junk, S.junk, S.junk, S.junk, S.junk, S.junk, S.junk], [evB e])) e.certs.length (fun k => (e.certs.take k).all (certOk e) = true) [some 0] rfl
    ⟨rfl, rfl, ⟨⟨rfl, rfl, rfl, .inl ⟨rfl, rowsT_ev e⟩⟩, trivial⟩, ⟨⟨rfl, rfl, rfl⟩, ent_t rfl, ent_i (by simp), ent_i rfl, trivial⟩⟩ ?_
  intro k hk hI
  conv => whnf
  (repeat' (first | ((refine DecB.mk (fun h => ?_) (fun h => ?_)) <;> first | (exfalso; omega) | (conv => whnf)) | ((refine BoolB.mk (fun h => ?_) (fun h => ?_)) <;> first | (exact absurd h (by decide)) | (conv => whnf)) | (refine ⟨_, wrap_ok (by omega) (by omega), ?_⟩; conv => whnf) | (refine and_idx (by omega) (by omega) ?_; conv => whnf) | (refine reg_ok (by decide +kernel) ?_; conv => whnf) | (refine bar_ok (by decide +kernel) (by decide +kernel) ?_; conv => whnf) | (refine late_ok rfl rfl ?_; conv => whnf) | (refine src_ok rfl ?_; conv => whnf) | (refine LitB.data ?_; conv => whnf) | (refine BoxB.own ?_; conv => whnf)))
  · have hlt : k < e.certs.length := by omega
    obtain ⟨x, hx⟩ : ∃ x, e.certs[k]? = some x := ⟨_, List.getElem?_eq_getElem hlt⟩
    refine ex_row hx ?_
    conv => whnf
    (repeat' (first | ((refine DecB.mk (fun h => ?_) (fun h => ?_)) <;> first | (exfalso; omega) | (conv => whnf)) | ((refine BoolB.mk (fun h => ?_) (fun h => ?_)) <;> first | (exact absurd h (by decide)) | (conv => whnf)) | (refine ⟨_, wrap_ok (by omega) (by omega), ?_⟩; conv => whnf) | (refine and_idx (by omega) (by omega) ?_; conv => whnf) | (refine reg_ok (by decide +kernel) ?_; conv => whnf) | (refine bar_ok (by decide +kernel) (by decide +kernel) ?_; conv => whnf) | (refine late_ok rfl rfl ?_; conv => whnf) | (refine src_ok rfl ?_; conv => whnf) | (refine .inl ⟨_, _, qcall_pure (a_index _ _) rfl rfl, ?_⟩; conv => whnf) | (refine .inl ⟨_, _, qcall_pure (a_between _ _ _) rfl rfl, ?_⟩; conv => whnf) | (refine LitB.data ?_; conv => whnf) | (refine BoxB.own ?_; conv => whnf)))
    all_goals first
      | (refine ⟨hlt, ?_, [some 0], rfl, rfl, ⟨⟨rfl, rfl, rfl, .inl ⟨rfl, rowsT_ev e⟩⟩, trivial⟩, ⟨⟨rfl, rfl, rfl⟩, rfl, rfl, rfl, trivial⟩⟩; rw [all_take_succ hx, hI]; simp_all [certOk]; done)
      | (refine fin_bool ?_; rw [saidOk, all_of_get hx]; rfl; simp_all [certOk]; (try omega); done)
  · have hc : e.certs.all (certOk e) = true := by rw [← hI, List.take_of_length_le (by omega)]
    clear hI h hk
    refine awp_for tab_ok (fun k => ([S.junk, S.c (C.ptr 0 0 0), S.junk, S.junk, S.junk, S.junk, S.junk, S.junk, S.junk, S.junk, S.junk, S.junk, S.junk, S.junk, S.junk, S.junk, S.junk, S.junk, S.junk, S.junk, S.junk, S.junk, S.junk, S.junk, S.junk, S.junk, S.junk, S.junk, S.junk, S.junk, S.junk, S.junk, S.junk, S.junk, S.junk, S.junk, S.junk, S.junk, S.junk, S.junk, S.junk, S.junk, S.junk, S.junk, S.junk, S.junk, S.junk, S.junk, S.junk, S.junk, S.junk, S.junk, S.junk, S.junk, S.junk, S.junk, S.junk, S.junk, S.junk, S.junk, S.junk, S.junk, S.c (C.t (recallsT e.recalls)), intS .i64 e.recalls.length, intS .i64 k, S.junk, S.junk, S.junk, S.junk, S.junk, S.junk, S.junk, S.junk, S.junk, S.junk, S.junk, S.junk, S.junk, S.junk, S.junk, S.junk, S.junk, S.junk, S.junk, S.junk, S.junk, S.junk, S.junk, S.junk, S.junk, S.junk, S.junk, S.junk, S.junk, S.junk, S.junk, S.junk, S.junk, S.junk, S.junk, S.junk, S.junk, S.junk, S.junk, S.junk, S.junk, S.junk, S.junk, S.junk, S.junk, S.junk, S.junk, S.junk, S.junk, S.junk, S.junk, S.junk, S.junk, S.junk, S.junk, S.junk], [evB e])) e.recalls.length (fun k => (e.recalls.take k).all (recallOk e) = true) [some 0] rfl
      ⟨rfl, rfl, ⟨⟨rfl, rfl, rfl, .inl ⟨rfl, rowsT_ev e⟩⟩, trivial⟩, ⟨⟨rfl, rfl, rfl⟩, ent_t rfl, ent_i (by simp), ent_i rfl, trivial⟩⟩ ?_
    intro k hk hI
    conv => whnf
    (repeat' (first | ((refine DecB.mk (fun h => ?_) (fun h => ?_)) <;> first | (exfalso; omega) | (conv => whnf)) | ((refine BoolB.mk (fun h => ?_) (fun h => ?_)) <;> first | (exact absurd h (by decide)) | (conv => whnf)) | (refine ⟨_, wrap_ok (by omega) (by omega), ?_⟩; conv => whnf) | (refine and_idx (by omega) (by omega) ?_; conv => whnf) | (refine reg_ok (by decide +kernel) ?_; conv => whnf) | (refine bar_ok (by decide +kernel) (by decide +kernel) ?_; conv => whnf) | (refine late_ok rfl rfl ?_; conv => whnf) | (refine src_ok rfl ?_; conv => whnf) | (refine LitB.data ?_; conv => whnf) | (refine BoxB.own ?_; conv => whnf)))
    · have hlt : k < e.recalls.length := by omega
      obtain ⟨x, hx⟩ : ∃ x, e.recalls[k]? = some x := ⟨_, List.getElem?_eq_getElem hlt⟩
      refine ex_row hx ?_
      conv => whnf
      (repeat' (first | ((refine DecB.mk (fun h => ?_) (fun h => ?_)) <;> first | (exfalso; omega) | (conv => whnf)) | ((refine BoolB.mk (fun h => ?_) (fun h => ?_)) <;> first | (exact absurd h (by decide)) | (conv => whnf)) | (refine ⟨_, wrap_ok (by omega) (by omega), ?_⟩; conv => whnf) | (refine and_idx (by omega) (by omega) ?_; conv => whnf) | (refine reg_ok (by decide +kernel) ?_; conv => whnf) | (refine bar_ok (by decide +kernel) (by decide +kernel) ?_; conv => whnf) | (refine late_ok rfl rfl ?_; conv => whnf) | (refine src_ok rfl ?_; conv => whnf) | (refine .inl ⟨_, _, qcall_pure (a_index _ _) rfl rfl, ?_⟩; conv => whnf) | (refine .inl ⟨_, _, qcall_pure (a_between _ _ _) rfl rfl, ?_⟩; conv => whnf) | (refine LitB.data ?_; conv => whnf) | (refine BoxB.own ?_; conv => whnf)))
      all_goals first
        | (refine ⟨hlt, ?_, [some 0], rfl, rfl, ⟨⟨rfl, rfl, rfl, .inl ⟨rfl, rowsT_ev e⟩⟩, trivial⟩, ⟨⟨rfl, rfl, rfl⟩, rfl, rfl, rfl, trivial⟩⟩; rw [all_take_succ hx, hI]; simp_all [recallOk]; done)
        | (refine fin_bool ?_; rw [saidOk, hc, all_of_get hx]; rfl; simp_all [recallOk]; done)
    · have hr : e.recalls.all (recallOk e) = true := by rw [← hI, List.take_of_length_le (by omega)]
      clear hI h hk
      refine awp_for tab_ok (fun k => ([S.junk, S.c (C.ptr 0 0 0), S.junk, S.junk, S.junk, S.junk, S.junk, S.junk, S.junk, S.junk, S.junk, S.junk, S.junk, S.junk, S.junk, S.junk, S.junk, S.junk, S.junk, S.junk, S.junk, S.junk, S.junk, S.junk, S.junk, S.junk, S.junk, S.junk, S.junk, S.junk, S.junk, S.junk, S.junk, S.junk, S.junk, S.junk, S.junk, S.junk, S.junk, S.junk, S.junk, S.junk, S.junk, S.junk, S.junk, S.junk, S.junk, S.junk, S.junk, S.junk, S.junk, S.junk, S.junk, S.junk, S.junk, S.junk, S.junk, S.junk, S.junk, S.junk, S.junk, S.junk, S.junk, S.junk, S.junk, S.junk, S.junk, S.junk, S.junk, S.junk, S.junk, S.junk, S.junk, S.junk, S.junk, S.junk, S.junk, S.junk, S.junk, S.junk, S.junk, S.junk, S.c (C.t (puritiesT e.purities)), intS .i64 e.purities.length, intS .i64 k, S.junk, S.junk, S.junk, S.junk, S.junk, S.junk, S.junk, S.junk, S.junk, S.junk, S.junk, S.junk, S.junk, S.junk, S.junk, S.junk, S.junk, S.junk, S.junk, S.junk, S.junk, S.junk, S.junk, S.junk, S.junk, S.junk, S.junk, S.junk, S.junk, S.junk, S.junk, S.junk, S.junk, S.junk, S.junk, S.junk], [evB e])) e.purities.length (fun k => (e.purities.take k).all (purityOk e) = true) [some 0] rfl
        ⟨rfl, rfl, ⟨⟨rfl, rfl, rfl, .inl ⟨rfl, rowsT_ev e⟩⟩, trivial⟩, ⟨⟨rfl, rfl, rfl⟩, ent_t rfl, ent_i (by simp), ent_i rfl, trivial⟩⟩ ?_
      intro k hk hI
      conv => whnf
      (repeat' (first | ((refine DecB.mk (fun h => ?_) (fun h => ?_)) <;> first | (exfalso; omega) | (conv => whnf)) | ((refine BoolB.mk (fun h => ?_) (fun h => ?_)) <;> first | (exact absurd h (by decide)) | (conv => whnf)) | (refine ⟨_, wrap_ok (by omega) (by omega), ?_⟩; conv => whnf) | (refine and_idx (by omega) (by omega) ?_; conv => whnf) | (refine reg_ok (by decide +kernel) ?_; conv => whnf) | (refine bar_ok (by decide +kernel) (by decide +kernel) ?_; conv => whnf) | (refine late_ok rfl rfl ?_; conv => whnf) | (refine src_ok rfl ?_; conv => whnf) | (refine LitB.data ?_; conv => whnf) | (refine BoxB.own ?_; conv => whnf)))
      · have hlt : k < e.purities.length := by omega
        obtain ⟨x, hx⟩ : ∃ x, e.purities[k]? = some x := ⟨_, List.getElem?_eq_getElem hlt⟩
        refine ex_row hx ?_
        conv => whnf
        (repeat' (first | ((refine DecB.mk (fun h => ?_) (fun h => ?_)) <;> first | (exfalso; omega) | (conv => whnf)) | ((refine BoolB.mk (fun h => ?_) (fun h => ?_)) <;> first | (exact absurd h (by decide)) | (conv => whnf)) | (refine ⟨_, wrap_ok (by omega) (by omega), ?_⟩; conv => whnf) | (refine and_idx (by omega) (by omega) ?_; conv => whnf) | (refine reg_ok (by decide +kernel) ?_; conv => whnf) | (refine bar_ok (by decide +kernel) (by decide +kernel) ?_; conv => whnf) | (refine late_ok rfl rfl ?_; conv => whnf) | (refine src_ok rfl ?_; conv => whnf) | (refine .inl ⟨_, _, qcall_pure (a_index _ _) rfl rfl, ?_⟩; conv => whnf) | (refine .inl ⟨_, _, qcall_pure (a_between _ _ _) rfl rfl, ?_⟩; conv => whnf) | (refine LitB.data ?_; conv => whnf) | (refine BoxB.own ?_; conv => whnf)))
        all_goals first
          | (refine ⟨hlt, ?_, [some 0], rfl, rfl, ⟨⟨rfl, rfl, rfl, .inl ⟨rfl, rowsT_ev e⟩⟩, trivial⟩, ⟨⟨rfl, rfl, rfl⟩, rfl, rfl, rfl, trivial⟩⟩; rw [all_take_succ hx, hI]; simp_all [purityOk]; done)
          | (refine fin_bool ?_; rw [saidOk, hc, hr, all_of_get hx]; rfl; simp_all [purityOk]; (try omega); done)
      · have hp : e.purities.all (purityOk e) = true := by rw [← hI, List.take_of_length_le (by omega)]
        refine fin_bool ?_
        rw [saidOk, hc, hr, hp]; rfl
end Go.Proofs.YthinjkjhiembgaaGreat
/- Package flow: Check. -/
namespace Go.Proofs.YthinjkjhiembgaaGreat
open Go.RowKit
set_option linter.unusedVariables false
set_option linter.unusedSimpArgs false
set_option maxRecDepth 100000

def lastD (e : Ev) : Nat → Int
  | 0 => 0
  | k + 1 => ((e.moves[k]?).map (·.day)).getD 0
theorem lastD_succ {e : Ev} {k : Nat} {m : Move} (h : e.moves[k]? = some m) : lastD e (k + 1) = m.day := by simp [lastD, h]
theorem drop_get {α : Type} {l : List α} {k : Nat} {x : α} (h : l[k]? = some x) : l.drop k = x :: l.drop (k + 1) := by
  obtain ⟨h1, h2⟩ := List.getElem?_eq_some_iff.1 h
  rw [List.drop_eq_getElem_cons h1, h2]

theorem a_Check (e : Ev) (hs : e.Sized) : ACall Tryz.prog 25 [evS e] [] (intS .i64 (check e)) [] := by
  have l7 := hs.s2
  have l8 : (e.moves.map Move.row).length = e.moves.length := by simp
  (refine acall_of tab_ok Tryz.func25 rfl (by decide) ?_; (conv => whnf); repeat (first | (refine LitB.data ?_; conv => whnf) | (refine BoxB.own ?_; conv => whnf)))
  (repeat' (first | ((refine DecB.mk (fun h => ?_) (fun h => ?_)) <;> first | (exfalso; omega) | (conv => whnf)) | ((refine BoolB.mk (fun h => ?_) (fun h => ?_)) <;> first | (exact absurd h (by decide)) | (conv => whnf)) | (refine ⟨_, wrap_ok (by omega) (by omega), ?_⟩; conv => whnf) | (refine and_idx (by omega) (by omega) ?_; conv => whnf) | (refine reg_ok (by decide +kernel) ?_; conv => whnf) | (refine bar_ok (by decide +kernel) (by decide +kernel) ?_; conv => whnf) | (refine late_ok rfl rfl ?_; conv => whnf) | (refine src_ok rfl ?_; conv => whnf) | (refine .inl ⟨_, _, qcall_pure (a_full _ hs) rfl rfl, ?_⟩; conv => whnf) | (refine .inl ⟨_, _, qcall_pure (a_places _ hs) rfl rfl, ?_⟩; conv => whnf) | (refine LitB.data ?_; conv => whnf) | (refine BoxB.own ?_; conv => whnf)))
  case refine_2.refine_2.refine_2.refine_2.refine_1 hf h1 h2 h3 =>
    have h4 := h
    clear h
    have hpre : ¬(e.mats < 1 ∨ e.hhs < 0 ∨ e.scs < 0 ∨ e.places.all (placeOk e) = false) := by
      rintro (h | h | h | h)
      · omega
      · omega
      · omega
      · rw [h4] at h; cases h
    have hck : check e = if movesErr e 0 e.moves ≠ 0 then movesErr e 0 e.moves else if saidOk e then 0 else 1 := by
      unfold check; rw [if_neg (by simp [hf]), if_neg hpre]
    refine awp_for tab_ok (fun k => ([S.junk, S.c (C.ptr 0 0 0), S.junk, intS .i64 (lastD e k), S.junk, S.junk, S.junk, S.junk, S.junk, S.junk, S.junk, S.junk, S.junk, S.junk, S.junk, S.junk, S.junk, S.junk, S.junk, S.junk, S.junk, S.junk, S.junk, S.junk, S.junk, S.junk, S.junk, S.junk, S.junk, S.c (C.t (movesT e.moves)), intS .i64 e.moves.length, intS .i64 k, S.junk, S.junk, S.junk, S.junk, S.junk, S.junk, S.junk, S.junk, S.junk, S.junk, S.junk, S.junk, S.junk, S.junk, S.junk, S.junk, S.junk, S.junk, S.junk, S.junk, S.junk, S.junk], [evB e])) e.moves.length (fun k => movesErr e 0 e.moves = movesErr e (lastD e k) (e.moves.drop k)) [some 0] rfl
      ⟨rfl, rfl, ⟨⟨rfl, rfl, rfl, .inl ⟨rfl, rowsT_ev e⟩⟩, trivial⟩, ⟨⟨rfl, rfl, rfl⟩, ent_i rfl, ent_t rfl, ent_i (by simp), ent_i rfl, trivial⟩⟩ ?_
    intro k hk hI
    conv => whnf
    (repeat' (first | ((refine DecB.mk (fun h => ?_) (fun h => ?_)) <;> first | (exfalso; omega) | (conv => whnf)) | ((refine BoolB.mk (fun h => ?_) (fun h => ?_)) <;> first | (exact absurd h (by decide)) | (conv => whnf)) | (refine ⟨_, wrap_ok (by omega) (by omega), ?_⟩; conv => whnf) | (refine and_idx (by omega) (by omega) ?_; conv => whnf) | (refine reg_ok (by decide +kernel) ?_; conv => whnf) | (refine bar_ok (by decide +kernel) (by decide +kernel) ?_; conv => whnf) | (refine late_ok rfl rfl ?_; conv => whnf) | (refine src_ok rfl ?_; conv => whnf) | (refine LitB.data ?_; conv => whnf) | (refine BoxB.own ?_; conv => whnf)))
    · have hlt : k < e.moves.length := by omega
      obtain ⟨x, hx⟩ : ∃ x, e.moves[k]? = some x := ⟨_, List.getElem?_eq_getElem hlt⟩
      rw [drop_get hx, movesErr] at hI
      refine ex_row hx ?_
      conv => whnf
      (repeat' (first | ((refine DecB.mk (fun h => ?_) (fun h => ?_)) <;> first | (exfalso; omega) | (conv => whnf)) | ((refine BoolB.mk (fun h => ?_) (fun h => ?_)) <;> first | (exact absurd h (by decide)) | (conv => whnf)) | (refine ⟨_, wrap_ok (by omega) (by omega), ?_⟩; conv => whnf) | (refine and_idx (by omega) (by omega) ?_; conv => whnf) | (refine reg_ok (by decide +kernel) ?_; conv => whnf) | (refine bar_ok (by decide +kernel) (by decide +kernel) ?_; conv => whnf) | (refine late_ok rfl rfl ?_; conv => whnf) | (refine src_ok rfl ?_; conv => whnf) | (refine .inl ⟨_, _, qcall_pure (a_move _ x hs) rfl rfl, ?_⟩; conv => whnf) | (refine LitB.data ?_; conv => whnf) | (refine BoxB.own ?_; conv => whnf)))
      all_goals first
        | (refine ⟨hlt, ?_, [some 0], rfl, rfl, ⟨⟨rfl, rfl, rfl, .inl ⟨rfl, rowsT_ev e⟩⟩, trivial⟩, ⟨⟨rfl, rfl, rfl⟩, ?_, rfl, rfl, rfl, trivial⟩⟩
           · rw [lastD_succ hx, hI, if_neg (by omega), if_pos (by assumption)]
           · rw [lastD_succ hx]; exact rfl)
        | (have e1 : movesErr e 0 e.moves = 17 := by rw [hI, if_pos (by omega)]
           refine fin_int ?_; rw [hck, e1]; rfl)
        | (have e1 : movesErr e 0 e.moves = 1 := by rw [hI, if_neg (by omega), if_neg (by simp_all)]
           refine fin_int ?_; rw [hck, e1]; rfl)
    · rw [List.drop_eq_nil_of_le (by omega), movesErr] at hI
      (repeat' (first | ((refine DecB.mk (fun h => ?_) (fun h => ?_)) <;> first | (exfalso; omega) | (conv => whnf)) | ((refine BoolB.mk (fun h => ?_) (fun h => ?_)) <;> first | (exact absurd h (by decide)) | (conv => whnf)) | (refine ⟨_, wrap_ok (by omega) (by omega), ?_⟩; conv => whnf) | (refine and_idx (by omega) (by omega) ?_; conv => whnf) | (refine reg_ok (by decide +kernel) ?_; conv => whnf) | (refine bar_ok (by decide +kernel) (by decide +kernel) ?_; conv => whnf) | (refine late_ok rfl rfl ?_; conv => whnf) | (refine src_ok rfl ?_; conv => whnf) | (refine .inl ⟨_, _, qcall_pure (a_said _ hs) rfl rfl, ?_⟩; conv => whnf) | (refine LitB.data ?_; conv => whnf) | (refine BoxB.own ?_; conv => whnf)))
      all_goals (refine fin_int ?_; rw [hck, hI]; simp_all)
  all_goals (refine fin_int ?_; unfold check; simp_all; try omega)
end Go.Proofs.YthinjkjhiembgaaGreat
/- The reference's flow: Check. -/
namespace Go.Proofs.YthinjkjhiembgaaGreat
open Go.RowKit
set_option linter.unusedVariables false
set_option linter.unusedSimpArgs false
set_option maxRecDepth 100000

theorem r14in (n lo hi : Int) : ACall Tryz.prog 97 [intS .i64 n, intS .i64 lo, intS .i64 hi] [] (boolS (btw n lo hi)) [] := by
  (refine acall_of tab_ok Tryz.func97 rfl (by decide) ?_; (conv => whnf); repeat (first | (refine LitB.data ?_; conv => whnf) | (refine BoxB.own ?_; conv => whnf)))
  (repeat' (first | ((refine DecB.mk (fun h => ?_) (fun h => ?_)) <;> first | (exfalso; omega) | (conv => whnf)) | ((refine BoolB.mk (fun h => ?_) (fun h => ?_)) <;> first | (exact absurd h (by decide)) | (conv => whnf)) | (refine ⟨_, wrap_ok (by omega) (by omega), ?_⟩; conv => whnf) | (refine and_idx (by omega) (by omega) ?_; conv => whnf) | (refine reg_ok (by decide +kernel) ?_; conv => whnf) | (refine bar_ok (by decide +kernel) (by decide +kernel) ?_; conv => whnf) | (refine late_ok rfl rfl ?_; conv => whnf) | (refine src_ok rfl ?_; conv => whnf) | (refine LitB.data ?_; conv => whnf) | (refine BoxB.own ?_; conv => whnf)))
  all_goals (refine fin_bool ?_; simp only [btw]; simp; omega)
theorem r14idx (n m : Int) : ACall Tryz.prog 97 [intS .i64 n, intS .i64 0, intS .i64 (m - 1)] [] (boolS (idx n m)) [] := by
  rw [← btw_idx]; exact r14in n 0 (m - 1)
theorem r14full (e : Ev) (hs : e.Sized) : ACall Tryz.prog 61 [evS e] [] (boolS (fullB e)) [] := by
  have l1 : (e.places.map Place.row).length = e.places.length := by simp
  have l2 : (e.moves.map Move.row).length = e.moves.length := by simp
  have l3 : (e.certs.map Cert.row).length = e.certs.length := by simp
  have l4 : (e.recalls.map Recall.row).length = e.recalls.length := by simp
  have l5 : (e.purities.map Purity.row).length = e.purities.length := by simp
  (refine acall_of tab_ok Tryz.func61 rfl (by decide) ?_; (conv => whnf); repeat (first | (refine LitB.data ?_; conv => whnf) | (refine BoxB.data ?_; conv => whnf)))
  (repeat' (first | ((refine DecB.mk (fun h => ?_) (fun h => ?_)) <;> first | (exfalso; omega) | (conv => whnf)) | ((refine BoolB.mk (fun h => ?_) (fun h => ?_)) <;> first | (exact absurd h (by decide)) | (conv => whnf)) | (refine ⟨_, wrap_ok (by omega) (by omega), ?_⟩; conv => whnf) | (refine and_idx (by omega) (by omega) ?_; conv => whnf) | (refine reg_ok (by decide +kernel) ?_; conv => whnf) | (refine bar_ok (by decide +kernel) (by decide +kernel) ?_; conv => whnf) | (refine late_ok rfl rfl ?_; conv => whnf) | (refine src_ok rfl ?_; conv => whnf) | (refine LitB.data ?_; conv => whnf) | (refine BoxB.own ?_; conv => whnf)))
  all_goals (refine fin_bool ?_; unfold fullB; simp; omega)
theorem r14place (e : Ev) (p : Place) (h1 : 1 ≤ e.mats) (h2 : e.mats ≤ 6) (h3 : 0 ≤ e.hhs) (h4 : e.hhs ≤ 100) : ACall Tryz.prog 62 [evS e, .agg (p.row.map .t)] [] (boolS (placeOk e p)) [] := by
  have i3 := r14idx p.kind 7
  (refine acall_of tab_ok Tryz.func62 rfl (by decide) ?_; (conv => whnf); repeat (first | (refine LitB.data ?_; conv => whnf) | (refine BoxB.data ?_; conv => whnf)))
  (repeat' (first | ((refine DecB.mk (fun h => ?_) (fun h => ?_)) <;> first | (exfalso; omega) | (conv => whnf)) | ((refine BoolB.mk (fun h => ?_) (fun h => ?_)) <;> first | (exact absurd h (by decide)) | (conv => whnf)) | (refine ⟨_, wrap_ok (by omega) (by omega), ?_⟩; conv => whnf) | (refine and_idx (by omega) (by omega) ?_; conv => whnf) | (refine reg_ok (by decide +kernel) ?_; conv => whnf) | (refine bar_ok (by decide +kernel) (by decide +kernel) ?_; conv => whnf) | (refine late_ok rfl rfl ?_; conv => whnf) | (refine src_ok rfl ?_; conv => whnf) | (refine .inl ⟨_, _, qcall_pure (r14idx p.hh e.hhs) rfl rfl, ?_⟩; conv => whnf) | (refine .inl ⟨_, _, qcall_pure (r14idx p.mat e.mats) rfl rfl, ?_⟩; conv => whnf) | (refine .inl ⟨_, _, qcall_pure (i3) rfl rfl, ?_⟩; conv => whnf) | (refine LitB.data ?_; conv => whnf) | (refine BoxB.own ?_; conv => whnf)))
  all_goals first
    | (exfalso; omega)
    | (refine fin_bool ?_; simp_all [placeOk] <;> decide)
/-- the error of a move by the reference -/
def moveE (e : Ev) (k : Nat) (x : Move) : Int := if x.day < 0 ∨ 100000 < x.day ∨ (0 < k ∧ x.day < lastD e k) then 17 else if moveOk e x then 0 else 1
set_option maxHeartbeats 4000000 in
theorem r14move (e : Ev) (k : Nat) (x : Move) (hx : e.moves[k]? = some x) (hf : fullB e = false) (h1 : 1 ≤ e.mats) (h3 : 0 ≤ e.hhs) (h5 : 0 ≤ e.scs) : ACall Tryz.prog 63 [evS e, intS .i64 k] [] (intS .i64 (moveE e k x)) [] := by
  have l1 : (e.places.map Place.row).length = e.places.length := by simp
  have l2 : (e.moves.map Move.row).length = e.moves.length := by simp
  have hk : k < e.moves.length := (List.getElem?_eq_some_iff.1 hx).1
  unfold fullB at hf
  simp only [Bool.or_eq_false_iff, decide_eq_false_iff_not] at hf
  obtain ⟨y, hy⟩ : ∃ y, e.moves[k - 1]? = some y := ⟨_, List.getElem?_eq_getElem (by omega)⟩
  have hl : 0 < k → lastD e k = y.day := fun h => by
    obtain ⟨j, rfl⟩ : ∃ j, k = j + 1 := ⟨k - 1, by omega⟩
    exact lastD_succ hy
  have d := r14in x.day 0 100000
  have is := r14idx x.src (e.places.map Place.row).length
  have id := r14idx x.dst (e.places.map Place.row).length
  have ic := r14idx x.scale e.scs
  have ir := r14in x.reading 0 1099511627776
  have hdd : (x.day < 0 ∨ 100000 < x.day ∨ (0 < k ∧ x.day < lastD e k)) ↔ (x.day < 0 ∨ 100000 < x.day ∨ (0 < k ∧ x.day < y.day)) := by
    rcases Nat.eq_zero_or_pos k with h | h
    · simp [h]
    · rw [hl h]
  clear hl
  have em : (if (0 : Int) > (k : Int) - 1 then 0 else (k : Int) - 1) = ((k - 1 : Nat) : Int) := by split <;> omega
  by_cases hd : x.day < 0 ∨ 100000 < x.day ∨ (0 < k ∧ x.day < y.day)
  · have e1 : moveE e k x = 17 := by unfold moveE; rw [if_pos (hdd.2 hd)]
    clear hdd
    rw [e1]
    have hb := btw_iff (a := x.day) (b := 0) (c := 100000)
    (refine acall_of tab_ok Tryz.func63 rfl (by decide) ?_; (conv => whnf); repeat (first | (refine LitB.data ?_; conv => whnf) | (refine BoxB.data ?_; conv => whnf)))
    (repeat' (first | ((refine DecB.mk (fun h => ?_) (fun h => ?_)) <;> first | (exfalso; omega) | (conv => whnf)) | ((refine BoolB.mk (fun h => ?_) (fun h => ?_)) <;> first | (exact absurd h (by decide)) | (conv => whnf)) | (refine ⟨_, wrap_ok (by omega) (by omega), ?_⟩; conv => whnf) | (refine and_idx (by omega) (by omega) ?_; conv => whnf) | (refine reg_ok (by decide +kernel) ?_; conv => whnf) | (refine bar_ok (by decide +kernel) (by decide +kernel) ?_; conv => whnf) | (refine late_ok rfl rfl ?_; conv => whnf) | (refine src_ok rfl ?_; conv => whnf) | (refine .inl ⟨_, _, qcall_pure (d) rfl rfl, ?_⟩; conv => whnf) | (refine ex_row hx ?_; conv => whnf) | (refine ex_rowE em hy ?_; conv => whnf) | (refine LitB.data ?_; conv => whnf) | (refine BoxB.own ?_; conv => whnf)))
    all_goals first
      | exact fin_int rfl
      | (exfalso; have := hb.1 (by assumption); omega)
      | (exfalso; omega)
  have e1 : moveE e k x = if moveOk e x then 0 else 1 := by unfold moveE; rw [if_neg (fun h => hd (hdd.1 h))]
  clear hdd
  rw [e1]
  have hd' : btw x.day 0 100000 = true := by rw [btw_iff]; omega
  rw [hd'] at d
  cases h1 : idx x.src e.places.length with
  | false =>
    rw [← l1] at h1
    rw [h1] at is
    rw [l1] at h1
    (refine acall_of tab_ok Tryz.func63 rfl (by decide) ?_; (conv => whnf); repeat (first | (refine LitB.data ?_; conv => whnf) | (refine BoxB.data ?_; conv => whnf)))
    (repeat' (first | ((refine DecB.mk (fun h => ?_) (fun h => ?_)) <;> first | (exfalso; omega) | (conv => whnf)) | ((refine BoolB.mk (fun h => ?_) (fun h => ?_)) <;> first | (exact absurd h (by decide)) | (conv => whnf)) | (refine ⟨_, wrap_ok (by omega) (by omega), ?_⟩; conv => whnf) | (refine and_idx (by omega) (by omega) ?_; conv => whnf) | (refine reg_ok (by decide +kernel) ?_; conv => whnf) | (refine bar_ok (by decide +kernel) (by decide +kernel) ?_; conv => whnf) | (refine late_ok rfl rfl ?_; conv => whnf) | (refine src_ok rfl ?_; conv => whnf) | (refine .inl ⟨_, _, qcall_pure (d) rfl rfl, ?_⟩; conv => whnf) | (refine .inl ⟨_, _, qcall_pure (is) rfl rfl, ?_⟩; conv => whnf) | (refine ex_row hx ?_; conv => whnf) | (refine ex_rowE em hy ?_; conv => whnf) | (refine LitB.data ?_; conv => whnf) | (refine BoxB.own ?_; conv => whnf)))
    all_goals first
      | (refine fin_int ?_; simp [moveOk, h1]; done)
      | (exfalso; simp_all; done)
      | (exfalso; omega)
  | true =>
    obtain ⟨hs0, p, hp, kp⟩ := place_get h1
    rw [← l1] at h1
    rw [h1] at is
    rw [l1] at h1
    cases h2 : idx x.dst e.places.length with
    | false =>
      rw [← l1] at h2
      rw [h2] at id
      rw [l1] at h2
      (refine acall_of tab_ok Tryz.func63 rfl (by decide) ?_; (conv => whnf); repeat (first | (refine LitB.data ?_; conv => whnf) | (refine BoxB.data ?_; conv => whnf)))
      (repeat' (first | ((refine DecB.mk (fun h => ?_) (fun h => ?_)) <;> first | (exfalso; omega) | (conv => whnf)) | ((refine BoolB.mk (fun h => ?_) (fun h => ?_)) <;> first | (exact absurd h (by decide)) | (conv => whnf)) | (refine ⟨_, wrap_ok (by omega) (by omega), ?_⟩; conv => whnf) | (refine and_idx (by omega) (by omega) ?_; conv => whnf) | (refine reg_ok (by decide +kernel) ?_; conv => whnf) | (refine bar_ok (by decide +kernel) (by decide +kernel) ?_; conv => whnf) | (refine late_ok rfl rfl ?_; conv => whnf) | (refine src_ok rfl ?_; conv => whnf) | (refine .inl ⟨_, _, qcall_pure (d) rfl rfl, ?_⟩; conv => whnf) | (refine .inl ⟨_, _, qcall_pure (is) rfl rfl, ?_⟩; conv => whnf) | (refine .inl ⟨_, _, qcall_pure (id) rfl rfl, ?_⟩; conv => whnf) | (refine ex_row hx ?_; conv => whnf) | (refine ex_rowE em hy ?_; conv => whnf) | (refine LitB.data ?_; conv => whnf) | (refine BoxB.own ?_; conv => whnf)))
      all_goals first
        | (refine fin_int ?_; simp [moveOk, h1, h2]; done)
        | (exfalso; simp_all; done)
        | (exfalso; omega)
    | true =>
      obtain ⟨hd0, q, hq, kq⟩ := place_get h2
      rw [← l1] at h2
      rw [h2] at id
      rw [l1] at h2
      (refine acall_of tab_ok Tryz.func63 rfl (by decide) ?_; (conv => whnf); repeat (first | (refine LitB.data ?_; conv => whnf) | (refine BoxB.data ?_; conv => whnf)))
      (repeat' (first | ((refine DecB.mk (fun h => ?_) (fun h => ?_)) <;> first | (exfalso; omega) | (conv => whnf)) | ((refine BoolB.mk (fun h => ?_) (fun h => ?_)) <;> first | (exact absurd h (by decide)) | (conv => whnf)) | (refine ⟨_, wrap_ok (by omega) (by omega), ?_⟩; conv => whnf) | (refine and_idx (by omega) (by omega) ?_; conv => whnf) | (refine reg_ok (by decide +kernel) ?_; conv => whnf) | (refine bar_ok (by decide +kernel) (by decide +kernel) ?_; conv => whnf) | (refine late_ok rfl rfl ?_; conv => whnf) | (refine src_ok rfl ?_; conv => whnf) | (refine .inl ⟨_, _, qcall_pure (d) rfl rfl, ?_⟩; conv => whnf) | (refine .inl ⟨_, _, qcall_pure (is) rfl rfl, ?_⟩; conv => whnf) | (refine .inl ⟨_, _, qcall_pure (id) rfl rfl, ?_⟩; conv => whnf) | (refine .inl ⟨_, _, qcall_pure (ic) rfl rfl, ?_⟩; conv => whnf) | (refine .inl ⟨_, _, qcall_pure (ir) rfl rfl, ?_⟩; conv => whnf) | (refine ex_row hx ?_; conv => whnf) | (refine ex_rowI hs0 hp ?_; conv => whnf) | (refine ex_rowI hd0 hq ?_; conv => whnf) | (refine ex_rowE em hy ?_; conv => whnf) | (refine LitB.data ?_; conv => whnf) | (refine BoxB.own ?_; conv => whnf)))
      all_goals first
        | (refine fin_int ?_; simp_all [moveOk]; done)
        | (exfalso; simp_all; done)
        | (exfalso; omega)
theorem r14said (e : Ev) (hs : e.Sized) (hf : fullB e = false) (h1 : 1 ≤ e.mats) (h5 : 0 ≤ e.scs) : ACall Tryz.prog 64 [evS e] [] (boolS (saidOk e)) [] := by
  have l2 : (e.certs.map Cert.row).length = e.certs.length := by simp
  have l4 : (e.recalls.map Recall.row).length = e.recalls.length := by simp
  have l6 : (e.purities.map Purity.row).length = e.purities.length := by simp
  have l8 : (e.moves.map Move.row).length = e.moves.length := by simp
  unfold fullB at hf
  simp only [Bool.or_eq_false_iff, decide_eq_false_iff_not] at hf
  (refine acall_of tab_ok Tryz.func64 rfl (by decide) ?_; (conv => whnf); repeat (first | (refine LitB.data ?_; conv => whnf) | (refine BoxB.data ?_; conv => whnf)))
  (repeat' (first | ((refine DecB.mk (fun h => ?_) (fun h => ?_)) <;> first | (exfalso; omega) | (conv => whnf)) | ((refine BoolB.mk (fun h => ?_) (fun h => ?_)) <;> first | (exact absurd h (by decide)) | (conv => whnf)) | (refine ⟨_, wrap_ok (by omega) (by omega), ?_⟩; conv => whnf) | (refine and_idx (by omega) (by omega) ?_; conv => whnf) | (refine reg_ok (by decide +kernel) ?_; conv => whnf) | (refine bar_ok (by decide +kernel) (by decide +kernel) ?_; conv => whnf) | (refine late_ok rfl rfl ?_; conv => whnf) | (refine src_ok rfl ?_; conv => whnf) | (refine LitB.data ?_; conv => whnf) | (refine BoxB.own ?_; conv => whnf)))
  refine awp_for tab_ok (fun k => ([S.junk, S.c (C.t (T.ptr (evT e))), S.junk, intS .i64 k, S.junk, S.junk, S.junk, S.junk, S.junk, S.junk, S.junk, S.junk, S.junk, S.junk, S.junk, S.junk, S.junk, S.junk, S.junk, S.junk, S.junk, S.junk, S.junk, S.junk, S.junk, S.junk, S.junk, S.junk, S.junk, S.junk, S.junk, S.junk, S.junk, S.junk, S.junk, S.junk, S.junk, S.junk, S.junk, S.junk, S.junk, S.junk, S.junk, S.junk, S.junk, S.junk, S.junk, S.junk, S.junk, S.junk, S.junk, S.junk, S.junk, S.junk, S.junk, S.junk, S.junk, S.junk, S.junk, S.junk, S.junk, S.junk, S.junk, S.junk, S.junk, S.junk, S.junk, S.junk, S.junk, S.junk, S.junk, S.junk, S.junk, S.junk, S.junk, S.junk, S.junk, S.junk, S.junk, S.junk, S.junk, S.junk, S.junk, S.junk, S.junk, S.junk, S.junk, S.junk, S.junk, S.junk, S.junk, S.junk, S.junk, S.junk, S.junk, S.junk, S.junk, S.junk, S.junk, S.junk, S.junk, S.junk, S.junk, S.junk, S.junk, S.junk, S.junk, S.junk, S.junk, S.junk, S.junk, S.junk, S.junk, S.junk, S.junk, S.junk, S.junk, S.junk, S.junk, S.junk, S.junk, S.junk, S.junk, S.junk, S.junk, S.junk, S.junk, S.junk], [])) e.certs.length (fun k => (e.certs.take k).all (certOk e) = true) [] rfl
    ⟨rfl, rfl, trivial, ⟨rfl, rfl, trivial⟩⟩ ?_
  intro k hk hI
  by_cases hlt : k < e.certs.length
  · obtain ⟨x, hx⟩ : ∃ x, e.certs[k]? = some x := ⟨_, List.getElem?_eq_getElem hlt⟩
    conv => whnf
    (repeat' (first | ((refine DecB.mk (fun h => ?_) (fun h => ?_)) <;> first | (exfalso; omega) | (conv => whnf)) | ((refine BoolB.mk (fun h => ?_) (fun h => ?_)) <;> first | (exact absurd h (by decide)) | (conv => whnf)) | (refine ⟨_, wrap_ok (by omega) (by omega), ?_⟩; conv => whnf) | (refine and_idx (by omega) (by omega) ?_; conv => whnf) | (refine reg_ok (by decide +kernel) ?_; conv => whnf) | (refine bar_ok (by decide +kernel) (by decide +kernel) ?_; conv => whnf) | (refine late_ok rfl rfl ?_; conv => whnf) | (refine src_ok rfl ?_; conv => whnf) | (refine .inl ⟨_, _, qcall_pure (r14idx x.scale e.scs) rfl rfl, ?_⟩; conv => whnf) | (refine .inl ⟨_, _, qcall_pure (r14in x.till x.since 100000) rfl rfl, ?_⟩; conv => whnf) | (refine .inl ⟨_, _, qcall_pure (r14in x.grams 0 1099511627776) rfl rfl, ?_⟩; conv => whnf) | (refine .inl ⟨_, _, qcall_pure (r14in x.permille 0 1000) rfl rfl, ?_⟩; conv => whnf) | (refine .inl ⟨_, _, qcall_pure (r14in x.drift 0 10000000) rfl rfl, ?_⟩; conv => whnf) | (refine ex_row hx ?_; conv => whnf) | (refine LitB.data ?_; conv => whnf) | (refine BoxB.own ?_; conv => whnf)))
    all_goals first
      | (exfalso; omega)
      | (refine ⟨hlt, ?_, [], rfl, rfl, trivial, ⟨rfl, rfl, trivial⟩⟩; rw [all_take_succ hx, hI]; simp_all [certOk, btw]; done)
      | (refine fin_bool ?_; rw [saidOk, all_of_get hx]; rfl; simp_all [certOk, btw]; (try omega); done)
  · have hc : e.certs.all (certOk e) = true := by rw [← hI, List.take_of_length_le (by omega)]
    conv => whnf
    (repeat' (first | ((refine DecB.mk (fun h => ?_) (fun h => ?_)) <;> first | (exfalso; omega) | (conv => whnf)) | ((refine BoolB.mk (fun h => ?_) (fun h => ?_)) <;> first | (exact absurd h (by decide)) | (conv => whnf)) | (refine ⟨_, wrap_ok (by omega) (by omega), ?_⟩; conv => whnf) | (refine and_idx (by omega) (by omega) ?_; conv => whnf) | (refine reg_ok (by decide +kernel) ?_; conv => whnf) | (refine bar_ok (by decide +kernel) (by decide +kernel) ?_; conv => whnf) | (refine late_ok rfl rfl ?_; conv => whnf) | (refine src_ok rfl ?_; conv => whnf) | (refine LitB.data ?_; conv => whnf) | (refine BoxB.own ?_; conv => whnf)))
    all_goals try (exfalso; omega)
    clear hI hlt hk
    refine awp_for tab_ok (fun k => ([S.junk, S.c (C.t (T.ptr (evT e))), S.junk, S.junk, S.junk, intS .i64 k, S.junk, S.junk, S.junk, S.junk, S.junk, S.junk, S.junk, S.junk, S.junk, S.junk, S.junk, S.junk, S.junk, S.junk, S.junk, S.junk, S.junk, S.junk, S.junk, S.junk, S.junk, S.junk, S.junk, S.junk, S.junk, S.junk, S.junk, S.junk, S.junk, S.junk, S.junk, S.junk, S.junk, S.junk, S.junk, S.junk, S.junk, S.junk, S.junk, S.junk, S.junk, S.junk, S.junk, S.junk, S.junk, S.junk, S.junk, S.junk, S.junk, S.junk, S.junk, S.junk, S.junk, S.junk, S.junk, S.junk, S.junk, S.junk, S.junk, S.junk, S.junk, S.junk, S.junk, S.junk, S.junk, S.junk, S.junk, S.junk, S.junk, S.junk, S.junk, S.junk, S.junk, S.junk, S.junk, S.junk, S.junk, S.junk, S.junk, S.junk, S.junk, S.junk, S.junk, S.junk, S.junk, S.junk, S.junk, S.junk, S.junk, S.junk, S.junk, S.junk, S.junk, S.junk, S.junk, S.junk, S.junk, S.junk, S.junk, S.junk, S.junk, S.junk, S.junk, S.junk, S.junk, S.junk, S.junk, S.junk, S.junk, S.junk, S.junk, S.junk, S.junk, S.junk, S.junk, S.junk, S.junk, S.junk, S.junk, S.junk, S.junk, S.junk], [])) e.recalls.length (fun k => (e.recalls.take k).all (recallOk e) = true) [] rfl
      ⟨rfl, rfl, trivial, ⟨rfl, rfl, trivial⟩⟩ ?_
    intro k hk hI
    by_cases hlt : k < e.recalls.length
    · obtain ⟨x, hx⟩ : ∃ x, e.recalls[k]? = some x := ⟨_, List.getElem?_eq_getElem hlt⟩
      conv => whnf
      (repeat' (first | ((refine DecB.mk (fun h => ?_) (fun h => ?_)) <;> first | (exfalso; omega) | (conv => whnf)) | ((refine BoolB.mk (fun h => ?_) (fun h => ?_)) <;> first | (exact absurd h (by decide)) | (conv => whnf)) | (refine ⟨_, wrap_ok (by omega) (by omega), ?_⟩; conv => whnf) | (refine and_idx (by omega) (by omega) ?_; conv => whnf) | (refine reg_ok (by decide +kernel) ?_; conv => whnf) | (refine bar_ok (by decide +kernel) (by decide +kernel) ?_; conv => whnf) | (refine late_ok rfl rfl ?_; conv => whnf) | (refine src_ok rfl ?_; conv => whnf) | (refine .inl ⟨_, _, qcall_pure (r14idx x.scale e.scs) rfl rfl, ?_⟩; conv => whnf) | (refine .inl ⟨_, _, qcall_pure (r14in x.since 0 100000) rfl rfl, ?_⟩; conv => whnf) | (refine ex_row hx ?_; conv => whnf) | (refine LitB.data ?_; conv => whnf) | (refine BoxB.own ?_; conv => whnf)))
      all_goals first
        | (exfalso; omega)
        | (refine ⟨hlt, ?_, [], rfl, rfl, trivial, ⟨rfl, rfl, trivial⟩⟩; rw [all_take_succ hx, hI]; simp_all [recallOk]; done)
        | (refine fin_bool ?_; rw [saidOk, hc, all_of_get hx]; rfl; simp_all [recallOk]; done)
    · have hr : e.recalls.all (recallOk e) = true := by rw [← hI, List.take_of_length_le (by omega)]
      conv => whnf
      (repeat' (first | ((refine DecB.mk (fun h => ?_) (fun h => ?_)) <;> first | (exfalso; omega) | (conv => whnf)) | ((refine BoolB.mk (fun h => ?_) (fun h => ?_)) <;> first | (exact absurd h (by decide)) | (conv => whnf)) | (refine ⟨_, wrap_ok (by omega) (by omega), ?_⟩; conv => whnf) | (refine and_idx (by omega) (by omega) ?_; conv => whnf) | (refine reg_ok (by decide +kernel) ?_; conv => whnf) | (refine bar_ok (by decide +kernel) (by decide +kernel) ?_; conv => whnf) | (refine late_ok rfl rfl ?_; conv => whnf) | (refine src_ok rfl ?_; conv => whnf) | (refine LitB.data ?_; conv => whnf) | (refine BoxB.own ?_; conv => whnf)))
      all_goals try (exfalso; omega)
      clear hI hlt hk
      refine awp_for tab_ok (fun k => ([S.junk, S.c (C.t (T.ptr (evT e))), S.junk, S.junk, S.junk, S.junk, intS .i64 k, S.junk, S.junk, S.junk, S.junk, S.junk, S.junk, S.junk, S.junk, S.junk, S.junk, S.junk, S.junk, S.junk, S.junk, S.junk, S.junk, S.junk, S.junk, S.junk, S.junk, S.junk, S.junk, S.junk, S.junk, S.junk, S.junk, S.junk, S.junk, S.junk, S.junk, S.junk, S.junk, S.junk, S.junk, S.junk, S.junk, S.junk, S.junk, S.junk, S.junk, S.junk, S.junk, S.junk, S.junk, S.junk, S.junk, S.junk, S.junk, S.junk, S.junk, S.junk, S.junk, S.junk, S.junk, S.junk, S.junk, S.junk, S.junk, S.junk, S.junk, S.junk, S.junk, S.junk, S.junk, S.junk, S.junk, S.junk, S.junk, S.junk, S.junk, S.junk, S.junk, S.junk, S.junk, S.junk, S.junk, S.junk, S.junk, S.junk, S.junk, S.junk, S.junk, S.junk, S.junk, S.junk, S.junk, S.junk, S.junk, S.junk, S.junk, S.junk, S.junk, S.junk, S.junk, S.junk, S.junk, S.junk, S.junk, S.junk, S.junk, S.junk, S.junk, S.junk, S.junk, S.junk, S.junk, S.junk, S.junk, S.junk, S.junk, S.junk, S.junk, S.junk, S.junk, S.junk, S.junk, S.junk, S.junk, S.junk, S.junk, S.junk], [])) e.purities.length (fun k => (e.purities.take k).all (purityOk e) = true) [] rfl
        ⟨rfl, rfl, trivial, ⟨rfl, rfl, trivial⟩⟩ ?_
      intro k hk hI
      by_cases hlt : k < e.purities.length
      · obtain ⟨x, hx⟩ : ∃ x, e.purities[k]? = some x := ⟨_, List.getElem?_eq_getElem hlt⟩
        conv => whnf
        (repeat' (first | ((refine DecB.mk (fun h => ?_) (fun h => ?_)) <;> first | (exfalso; omega) | (conv => whnf)) | ((refine BoolB.mk (fun h => ?_) (fun h => ?_)) <;> first | (exact absurd h (by decide)) | (conv => whnf)) | (refine ⟨_, wrap_ok (by omega) (by omega), ?_⟩; conv => whnf) | (refine and_idx (by omega) (by omega) ?_; conv => whnf) | (refine reg_ok (by decide +kernel) ?_; conv => whnf) | (refine bar_ok (by decide +kernel) (by decide +kernel) ?_; conv => whnf) | (refine late_ok rfl rfl ?_; conv => whnf) | (refine src_ok rfl ?_; conv => whnf) | (refine .inl ⟨_, _, qcall_pure (r14idx x.move (e.moves.map Move.row).length) rfl rfl, ?_⟩; conv => whnf) | (refine .inl ⟨_, _, qcall_pure (r14idx x.mat e.mats) rfl rfl, ?_⟩; conv => whnf) | (refine .inl ⟨_, _, qcall_pure (r14in x.most x.least 1000) rfl rfl, ?_⟩; conv => whnf) | (refine ex_row hx ?_; conv => whnf) | (refine LitB.data ?_; conv => whnf) | (refine BoxB.own ?_; conv => whnf)))
        all_goals first
          | (exfalso; omega)
          | (refine ⟨hlt, ?_, [], rfl, rfl, trivial, ⟨rfl, rfl, trivial⟩⟩; rw [all_take_succ hx, hI]; simp_all [purityOk, btw]; done)
          | (refine fin_bool ?_; rw [saidOk, hc, hr, all_of_get hx]; rfl; simp_all [purityOk, btw]; (try omega); done)
      · have hp : e.purities.all (purityOk e) = true := by rw [← hI, List.take_of_length_le (by omega)]
        conv => whnf
        (repeat' (first | ((refine DecB.mk (fun h => ?_) (fun h => ?_)) <;> first | (exfalso; omega) | (conv => whnf)) | ((refine BoolB.mk (fun h => ?_) (fun h => ?_)) <;> first | (exact absurd h (by decide)) | (conv => whnf)) | (refine ⟨_, wrap_ok (by omega) (by omega), ?_⟩; conv => whnf) | (refine and_idx (by omega) (by omega) ?_; conv => whnf) | (refine reg_ok (by decide +kernel) ?_; conv => whnf) | (refine bar_ok (by decide +kernel) (by decide +kernel) ?_; conv => whnf) | (refine late_ok rfl rfl ?_; conv => whnf) | (refine src_ok rfl ?_; conv => whnf) | (refine LitB.data ?_; conv => whnf) | (refine BoxB.own ?_; conv => whnf)))
        all_goals first
          | (exfalso; omega)
          | (refine fin_bool ?_; rw [saidOk, hc, hr, hp]; rfl)
theorem r14Check (e : Ev) (hs : e.Sized) : ACall Tryz.prog 34 [evS e] [] (intS .i64 (check e)) [] := by
  have l1 : (e.places.map Place.row).length = e.places.length := by simp
  have l8 : (e.moves.map Move.row).length = e.moves.length := by simp
  have fu := r14full e hs
  cases hf : fullB e with
  | true =>
    rw [hf] at fu
    (refine acall_of tab_ok Tryz.func34 rfl (by decide) ?_; (conv => whnf); repeat (first | (refine LitB.data ?_; conv => whnf) | (refine BoxB.data ?_; conv => whnf)))
    (repeat' (first | ((refine DecB.mk (fun h => ?_) (fun h => ?_)) <;> first | (exfalso; omega) | (conv => whnf)) | ((refine BoolB.mk (fun h => ?_) (fun h => ?_)) <;> first | (exact absurd h (by decide)) | (conv => whnf)) | (refine ⟨_, wrap_ok (by omega) (by omega), ?_⟩; conv => whnf) | (refine and_idx (by omega) (by omega) ?_; conv => whnf) | (refine reg_ok (by decide +kernel) ?_; conv => whnf) | (refine bar_ok (by decide +kernel) (by decide +kernel) ?_; conv => whnf) | (refine late_ok rfl rfl ?_; conv => whnf) | (refine src_ok rfl ?_; conv => whnf) | (refine .inl ⟨_, _, qcall_pure (fu) rfl rfl, ?_⟩; conv => whnf) | (refine LitB.data ?_; conv => whnf) | (refine BoxB.own ?_; conv => whnf)))
    all_goals first
      | (exfalso; simp_all; done)
      | (refine fin_int ?_; unfold check; rw [if_pos hf])
  | false =>
    rw [hf] at fu
    by_cases hb : e.mats < 1 ∨ e.hhs < 0 ∨ e.scs < 0
    · have e1 : check e = 1 := by
        unfold check; rw [if_neg (by simp [hf]), if_pos (by rcases hb with h | h | h <;> simp [h])]
      rw [e1]
      (refine acall_of tab_ok Tryz.func34 rfl (by decide) ?_; (conv => whnf); repeat (first | (refine LitB.data ?_; conv => whnf) | (refine BoxB.data ?_; conv => whnf)))
      (repeat' (first | ((refine DecB.mk (fun h => ?_) (fun h => ?_)) <;> first | (exfalso; omega) | (conv => whnf)) | ((refine BoolB.mk (fun h => ?_) (fun h => ?_)) <;> first | (exact absurd h (by decide)) | (conv => whnf)) | (refine ⟨_, wrap_ok (by omega) (by omega), ?_⟩; conv => whnf) | (refine and_idx (by omega) (by omega) ?_; conv => whnf) | (refine reg_ok (by decide +kernel) ?_; conv => whnf) | (refine bar_ok (by decide +kernel) (by decide +kernel) ?_; conv => whnf) | (refine late_ok rfl rfl ?_; conv => whnf) | (refine src_ok rfl ?_; conv => whnf) | (refine .inl ⟨_, _, qcall_pure (fu) rfl rfl, ?_⟩; conv => whnf) | (refine LitB.data ?_; conv => whnf) | (refine BoxB.own ?_; conv => whnf)))
      all_goals first
        | (exfalso; simp_all; done)
        | (exfalso; omega)
        | exact fin_int rfl
    have hfb := hf
    unfold fullB at hfb
    simp only [Bool.or_eq_false_iff, decide_eq_false_iff_not] at hfb
    (refine acall_of tab_ok Tryz.func34 rfl (by decide) ?_; (conv => whnf); repeat (first | (refine LitB.data ?_; conv => whnf) | (refine BoxB.data ?_; conv => whnf)))
    (repeat' (first | ((refine DecB.mk (fun h => ?_) (fun h => ?_)) <;> first | (exfalso; omega) | (conv => whnf)) | ((refine BoolB.mk (fun h => ?_) (fun h => ?_)) <;> first | (exact absurd h (by decide)) | (conv => whnf)) | (refine ⟨_, wrap_ok (by omega) (by omega), ?_⟩; conv => whnf) | (refine and_idx (by omega) (by omega) ?_; conv => whnf) | (refine reg_ok (by decide +kernel) ?_; conv => whnf) | (refine bar_ok (by decide +kernel) (by decide +kernel) ?_; conv => whnf) | (refine late_ok rfl rfl ?_; conv => whnf) | (refine src_ok rfl ?_; conv => whnf) | (refine .inl ⟨_, _, qcall_pure (fu) rfl rfl, ?_⟩; conv => whnf) | (refine LitB.data ?_; conv => whnf) | (refine BoxB.own ?_; conv => whnf)))
    all_goals try (exfalso; omega)
    refine awp_for tab_ok (fun k => ([S.junk, S.c (C.t (T.ptr (evT e))), S.junk, intS .i64 k, S.junk, S.junk, S.junk, S.junk, S.junk, S.junk, S.junk, S.junk, S.junk, S.junk, S.junk, S.junk, S.junk, S.junk, S.junk, S.junk, S.junk, S.junk, S.junk, S.junk, S.junk, S.junk, S.junk, S.junk, S.junk, S.junk, S.junk, S.junk, S.junk, S.junk, S.junk, S.junk, S.junk, S.junk, S.junk, S.junk, S.junk, S.junk, S.junk, S.junk, S.junk, S.junk, S.junk, S.junk, S.junk, S.junk, S.junk, S.junk], [])) e.places.length (fun k => (e.places.take k).all (placeOk e) = true) [] rfl
      ⟨rfl, rfl, trivial, ⟨rfl, rfl, trivial⟩⟩ ?_
    intro k hk hI
    by_cases hlt : k < e.places.length
    · obtain ⟨x, hx⟩ : ∃ x, e.places[k]? = some x := ⟨_, List.getElem?_eq_getElem hlt⟩
      have pl := r14place e x (by omega) (by omega) (by omega) (by omega)
      conv => whnf
      (repeat' (first | ((refine DecB.mk (fun h => ?_) (fun h => ?_)) <;> first | (exfalso; omega) | (conv => whnf)) | ((refine BoolB.mk (fun h => ?_) (fun h => ?_)) <;> first | (exact absurd h (by decide)) | (conv => whnf)) | (refine ⟨_, wrap_ok (by omega) (by omega), ?_⟩; conv => whnf) | (refine and_idx (by omega) (by omega) ?_; conv => whnf) | (refine reg_ok (by decide +kernel) ?_; conv => whnf) | (refine bar_ok (by decide +kernel) (by decide +kernel) ?_; conv => whnf) | (refine late_ok rfl rfl ?_; conv => whnf) | (refine src_ok rfl ?_; conv => whnf) | (refine .inl ⟨_, _, qcall_pure (pl) rfl rfl, ?_⟩; conv => whnf) | (refine ex_row hx ?_; conv => whnf) | (refine LitB.data ?_; conv => whnf) | (refine BoxB.own ?_; conv => whnf)))
      all_goals first
        | (exfalso; omega)
        | (refine ⟨hlt, ?_, [], rfl, rfl, trivial, ⟨rfl, rfl, trivial⟩⟩; rw [all_take_succ hx, hI]; simp_all; done)
        | (refine fin_int ?_; unfold check; rw [if_neg (by simp [hf]), if_pos (.inr (.inr (.inr (all_of_get hx (by assumption)))))])
    have hp : e.places.all (placeOk e) = true := by rw [← hI, List.take_of_length_le (by omega)]
    have hck : check e = if movesErr e 0 e.moves ≠ 0 then movesErr e 0 e.moves else if saidOk e then 0 else 1 := by
      unfold check; rw [if_neg (by simp [hf]), if_neg (by rw [hp]; simp; omega)]
    conv => whnf
    (repeat' (first | ((refine DecB.mk (fun h => ?_) (fun h => ?_)) <;> first | (exfalso; omega) | (conv => whnf)) | ((refine BoolB.mk (fun h => ?_) (fun h => ?_)) <;> first | (exact absurd h (by decide)) | (conv => whnf)) | (refine ⟨_, wrap_ok (by omega) (by omega), ?_⟩; conv => whnf) | (refine and_idx (by omega) (by omega) ?_; conv => whnf) | (refine reg_ok (by decide +kernel) ?_; conv => whnf) | (refine bar_ok (by decide +kernel) (by decide +kernel) ?_; conv => whnf) | (refine late_ok rfl rfl ?_; conv => whnf) | (refine src_ok rfl ?_; conv => whnf) | (refine LitB.data ?_; conv => whnf) | (refine BoxB.own ?_; conv => whnf)))
    all_goals try (exfalso; omega)
    clear hI hlt hk
    refine awp_for tab_ok (fun k => ([S.junk, S.c (C.t (T.ptr (evT e))), S.junk, S.junk, intS .i64 k, S.junk, S.junk, S.junk, S.junk, S.junk, S.junk, S.junk, S.junk, S.junk, S.junk, S.junk, S.junk, S.junk, S.junk, S.junk, S.junk, S.junk, S.junk, S.junk, S.junk, S.junk, S.junk, S.junk, S.junk, S.junk, S.junk, S.junk, S.junk, S.junk, S.junk, S.junk, S.junk, S.junk, S.junk, S.junk, S.junk, S.junk, S.junk, S.junk, S.junk, S.junk, S.junk, S.junk, S.junk, S.junk, S.junk, S.junk], [])) e.moves.length (fun k => movesErr e 0 e.moves = movesErr e (lastD e k) (e.moves.drop k) ∧ 0 ≤ lastD e k) [] ⟨rfl, Int.le_refl 0⟩
      ⟨rfl, rfl, trivial, ⟨rfl, rfl, trivial⟩⟩ ?_
    rintro k hk ⟨hI, hI2⟩
    by_cases hlt : k < e.moves.length
    · obtain ⟨x, hx⟩ : ∃ x, e.moves[k]? = some x := ⟨_, List.getElem?_eq_getElem hlt⟩
      have mv := r14move e k x hx hf (by omega) (by omega) (by omega)
      rw [drop_get hx, movesErr] at hI
      have hm : movesErr e 0 e.moves = if moveE e k x = 0 then movesErr e x.day (e.moves.drop (k + 1)) else moveE e k x := by
        rw [hI]
        unfold moveE
        have hk0 : k = 0 → lastD e k = 0 := fun h => by subst h; rfl
        by_cases h1 : x.day < lastD e k ∨ 100000 < x.day
        · rw [if_pos h1, if_pos (c := x.day < 0 ∨ 100000 < x.day ∨ (0 < k ∧ x.day < lastD e k)) (by omega)]; simp
        · rw [if_neg h1, if_neg (c := x.day < 0 ∨ 100000 < x.day ∨ (0 < k ∧ x.day < lastD e k)) (by omega)]
          cases moveOk e x <;> simp
      have hv : moveE e k x = 0 → 0 ≤ x.day := fun h => by unfold moveE at h; split at h <;> omega
      have hm0 : moveE e k x = 0 → movesErr e 0 e.moves = movesErr e x.day (e.moves.drop (k + 1)) := fun h => by rw [hm, if_pos h]
      have hm1 : moveE e k x ≠ 0 → movesErr e 0 e.moves = moveE e k x := fun h => by rw [hm, if_neg h]
      clear hm hI
      conv => whnf
      (repeat' (first | ((refine DecB.mk (fun h => ?_) (fun h => ?_)) <;> first | (exfalso; omega) | (conv => whnf)) | ((refine BoolB.mk (fun h => ?_) (fun h => ?_)) <;> first | (exact absurd h (by decide)) | (conv => whnf)) | (refine ⟨_, wrap_ok (by omega) (by omega), ?_⟩; conv => whnf) | (refine and_idx (by omega) (by omega) ?_; conv => whnf) | (refine reg_ok (by decide +kernel) ?_; conv => whnf) | (refine bar_ok (by decide +kernel) (by decide +kernel) ?_; conv => whnf) | (refine late_ok rfl rfl ?_; conv => whnf) | (refine src_ok rfl ?_; conv => whnf) | (refine .inl ⟨_, _, qcall_pure (mv) rfl rfl, ?_⟩; conv => whnf) | (refine LitB.data ?_; conv => whnf) | (refine BoxB.own ?_; conv => whnf)))
      all_goals first
        | (exfalso; omega)
        | (refine ⟨hlt, ⟨?_, ?_⟩, [], rfl, rfl, trivial, ⟨rfl, rfl, trivial⟩⟩
           · rw [lastD_succ hx]; exact hm0 (by omega)
           · rw [lastD_succ hx]; exact hv (by omega))
        | (refine fin_int ?_
           have hne : moveE e k x ≠ 0 := by omega
           rw [hck, hm1 hne, if_pos hne])
    · rw [List.drop_eq_nil_of_le (by omega), movesErr] at hI
      have sd := r14said e hs hf (by omega) (by omega)
      conv => whnf
      (repeat' (first | ((refine DecB.mk (fun h => ?_) (fun h => ?_)) <;> first | (exfalso; omega) | (conv => whnf)) | ((refine BoolB.mk (fun h => ?_) (fun h => ?_)) <;> first | (exact absurd h (by decide)) | (conv => whnf)) | (refine ⟨_, wrap_ok (by omega) (by omega), ?_⟩; conv => whnf) | (refine and_idx (by omega) (by omega) ?_; conv => whnf) | (refine reg_ok (by decide +kernel) ?_; conv => whnf) | (refine bar_ok (by decide +kernel) (by decide +kernel) ?_; conv => whnf) | (refine late_ok rfl rfl ?_; conv => whnf) | (refine src_ok rfl ?_; conv => whnf) | (refine .inl ⟨_, _, qcall_pure (sd) rfl rfl, ?_⟩; conv => whnf) | (refine LitB.data ?_; conv => whnf) | (refine BoxB.own ?_; conv => whnf)))
      all_goals first
        | (exfalso; omega)
        | (refine fin_int ?_; rw [hck, hI]; simp_all; done)
end Go.Proofs.YthinjkjhiembgaaGreat
/- The reference of chapter 15 in plain Lean: stocks that are summed anew, what a move takes. No program is in sight. -/
namespace Go.Proofs.YthinjkjhiembgaaGreat
set_option linter.unusedVariables false
set_option linter.unusedSimpArgs false

theorem takenF_over {f : Nat → Rat} {all : Bool} : ∀ {l : List Rat} {m : Nat} {r : Bool}, (∃ (i : Nat) (v : Rat), l[i]? = some v ∧ f (m + i) < v) → takenF f all l m r = 4
  | [], m, r, h => by obtain ⟨i, v, h, _⟩ := h; simp at h
  | x :: l, m, r, h => by
    unfold takenF
    by_cases hx : f m < x
    · rw [if_pos hx]
    · rw [if_neg hx]
      obtain ⟨i, v, h1, h2⟩ := h
      cases i with
      | zero => simp at h1; subst h1; exact absurd h2 hx
      | succ i => exact takenF_over ⟨i, v, by simpa using h1, by rw [show m + 1 + i = m + (i + 1) from by omega]; exact h2⟩
theorem takenF_seven {f : Nat → Rat} : ∀ {l : List Rat} {m : Nat} {r : Bool}, (∀ (i : Nat) (v : Rat), l[i]? = some v → ¬ f (m + i) < v) → (r = true ∨ ∃ (i : Nat) (v : Rat), l[i]? = some v ∧ v ≠ f (m + i)) → takenF f true l m r = 7
  | [], m, r, h, h2 => by
    rcases h2 with h2 | ⟨i, v, h2, _⟩
    · subst h2; rfl
    · simp at h2
  | x :: l, m, r, h, h2 => by
    unfold takenF
    have hx : ¬ f m < x := h 0 x rfl
    rw [if_neg hx]
    refine takenF_seven (fun i v hi => ?_) ?_
    · have := h (i + 1) v (by simpa using hi)
      rw [show m + 1 + i = m + (i + 1) from by omega]; exact this
    · rcases h2 with h2 | ⟨i, v, h2, h3⟩
      · left; simp [h2]
      · cases i with
        | zero =>
          simp at h2; subst h2
          left
          have : x < f m := Rat.lt_of_le_of_ne (Rat.not_lt.1 hx) h3
          simp [this]
        | succ i => exact .inr ⟨i, v, by simpa using h2, by rw [show m + 1 + i = m + (i + 1) from by omega]; exact h3⟩
theorem takenF_ok {f : Nat → Rat} {all : Bool} : ∀ {l : List Rat} {m : Nat} {r : Bool}, (∀ (i : Nat) (v : Rat), l[i]? = some v → ¬ f (m + i) < v) → (all = false ∨ (r = false ∧ ∀ (i : Nat) (v : Rat), l[i]? = some v → v = f (m + i))) → takenF f all l m r = 0
  | [], m, r, h, h2 => by
    unfold takenF
    rcases h2 with h2 | ⟨h2, _⟩ <;> simp [h2]
  | x :: l, m, r, h, h2 => by
    unfold takenF
    have hx : ¬ f m < x := h 0 x rfl
    rw [if_neg hx]
    refine takenF_ok (fun i v hi => ?_) ?_
    · have := h (i + 1) v (by simpa using hi)
      rw [show m + 1 + i = m + (i + 1) from by omega]; exact this
    · rcases h2 with h2 | ⟨h2, h3⟩
      · exact .inl h2
      · have e := h3 0 x rfl
        have e : x = f m := e
        refine .inr ⟨by simp [h2, e, Rat.lt_irrefl], fun i v hi => ?_⟩
        have := h3 (i + 1) v (by simpa using hi)
        rw [show m + 1 + i = m + (i + 1) from by omega]; exact this
theorem stk_succ1 {e : Ev} {H : List (List Rat)} {k : Nat} {x : Move} (hx : e.moves[k]? = some x) : stk e H (k + 1) = carryF x (hAt H k) (stk e H k) := by
  conv => lhs; unfold stk
  rw [hx]
theorem stk_src {e : Ev} {H : List (List Rat)} {k p m : Nat} {x : Move} (hx : e.moves[k]? = some x) (h : x.src = (p : Int)) : stk e H (k + 1) p m = stk e H k p m - hAt H k m := by
  rw [stk_succ1 hx]; unfold carryF; rw [if_pos h]
theorem stk_dst {e : Ev} {H : List (List Rat)} {k p m : Nat} {x : Move} (hx : e.moves[k]? = some x) (h : x.src ≠ (p : Int)) (h2 : x.dst = (p : Int)) : stk e H (k + 1) p m = stk e H k p m + hAt H k m := by
  rw [stk_succ1 hx]; unfold carryF; rw [if_neg h, if_pos h2]
theorem stk_same {e : Ev} {H : List (List Rat)} {k p m : Nat} {x : Move} (hx : e.moves[k]? = some x) (h : x.src ≠ (p : Int)) (h2 : x.dst ≠ (p : Int)) : stk e H (k + 1) p m = stk e H k p m := by
  rw [stk_succ1 hx]; unfold carryF; rw [if_neg h, if_neg h2]
/-- the interval of a move -/
def ivOf (e : Ev) (x : Move) : Option (Rat × Rat) := if x.scale = -1 then none else interval e.certs e.recalls x.scale x.reading x.day
theorem weighed_iv (e : Ev) (x : Move) (m : Rat) : weighedB e x m = inB (ivOf e x) m := by
  unfold weighedB ivOf
  by_cases h : x.scale = -1
  · rw [if_pos h, if_pos h]; rfl
  · rw [if_neg h, if_neg h]
end Go.Proofs.YthinjkjhiembgaaGreat
/- history: shaped, sum, negative, weighed, pure. -/
namespace Go.Proofs.YthinjkjhiembgaaGreat
open Go.RowKit
set_option linter.unusedVariables false
set_option linter.unusedSimpArgs false
set_option maxRecDepth 100000

def frRow (f : Fr) : List T := [ti f.p.sg, intsT f.p.dl, ti f.q.sg, intsT f.q.dl]
abbrev fracsT (l : List Fr) : T := .sl 4 .any (l.map frRow)
abbrev fracsS (l : List Fr) : S := .c (.t (fracsT l))
def fracsRow (l : List Fr) : List T := [fracsT l]
abbrev histT (h : List (List Fr)) : T := .sl 1 .any (h.map fracsRow)
abbrev histS (h : List (List Fr)) : S := .c (.t (histT h))
abbrev evP (e : Ev) : T := .ptr (evT e)
/-- small enough to be calculated with -/
structure SmallH (n : Nat) (h : List (List Fr)) : Prop where
  l1 : h.length ≤ 1000000
  l2 : ∀ l ∈ h, l.length ≤ 1000000
  l3 : ∀ l ∈ h, ∀ f ∈ l, f.p.dl.length ≤ n ∧ f.q.dl.length ≤ n
theorem ex_rowAt {α : Type} {xs : List α} {f : α → List T} {n : Int} {k : Nat} {K : List T → Prop} (h0 : n = k) (hk : k < xs.length) (h : K (f xs[k])) : ∃ row, 0 ≤ n ∧ (xs.map f)[n.toNat]? = some row ∧ K row :=
  ex_rowE h0 (List.getElem?_eq_getElem hk) h
theorem all_take_full {α : Type} {l : List α} {f : α → Bool} (h : (l.take l.length).all f = true) : l.all f = true := by rwa [List.take_of_length_le (Nat.le_refl _)] at h
theorem a_shaped (e : Ev) (hh : List (List Fr)) (hs : SmallH 200000 hh) (hm : e.moves.length ≤ 1000000) : ACall Tryz.prog 26 [evS e, histS hh] [] (boolS (shapedB e hh)) [] := by
  have m1 : (hh.map fracsRow).length = hh.length := by simp
  have m2 : (e.moves.map Move.row).length = e.moves.length := by simp
  have l1 := hs.l1
  let P : List Fr → Bool := fun l => decide ((l.length : Int) = e.mats) && l.all rightF
  have hP : shapedB e hh = (decide (hh.length = e.moves.length) && hh.all P) := rfl
  by_cases hlen : hh.length = e.moves.length
  · (refine acall_of tab_ok Tryz.func26 rfl (by decide) ?_; (conv => whnf); repeat (first | (refine LitB.data ?_; conv => whnf) | (refine BoxB.data ?_; conv => whnf)))
    (repeat' (first | ((refine DecB.mk (fun h => ?_) (fun h => ?_)) <;> first | (exfalso; omega) | (conv => whnf)) | ((refine BoolB.mk (fun h => ?_) (fun h => ?_)) <;> first | (exact absurd h (by decide)) | (conv => whnf)) | (refine ⟨_, wrap_ok (by omega) (by omega), ?_⟩; conv => whnf) | (refine and_idx (by omega) (by omega) ?_; conv => whnf) | (refine reg_ok (by decide +kernel) ?_; conv => whnf) | (refine bar_ok (by decide +kernel) (by decide +kernel) ?_; conv => whnf) | (refine late_ok rfl rfl ?_; conv => whnf) | (refine src_ok rfl ?_; conv => whnf) | (refine LitB.data ?_; conv => whnf) | (refine BoxB.own ?_; conv => whnf)))
    refine awp_for tab_ok (fun k => ([S.junk, S.junk, S.c (C.t (evP e)), S.junk, S.junk, S.junk, S.junk, S.junk, S.junk, S.junk, S.junk, S.junk, S.junk, S.junk, S.junk, histS hh, intS .i64 hh.length, intS .i64 k, S.junk, S.junk, S.junk, S.junk, S.junk, S.junk, S.junk, S.junk, S.junk, S.junk, S.junk, S.junk, S.junk, S.junk, S.junk, S.junk, S.junk, S.junk, S.junk], [])) hh.length (fun k => (hh.take k).all P = true) [] rfl
      ⟨rfl, rfl, trivial, ⟨rfl, ent_t rfl, ent_i (by simp), rfl, trivial⟩⟩ ?_
    intro k hk hI
    by_cases hlt : k < hh.length
    · obtain ⟨l, hl⟩ : ∃ l, hh[k]? = some l := ⟨_, List.getElem?_eq_getElem hlt⟩
      have hmem := List.mem_of_getElem? hl
      have l2 := hs.l2 l hmem
      have m3 : (l.map frRow).length = l.length := by simp
      have hall : (hh.take (k + 1)).all P = P l := by rw [all_take_succ hl, hI, Bool.true_and]
      conv => whnf
      (repeat' (first | ((refine DecB.mk (fun h => ?_) (fun h => ?_)) <;> first | (exfalso; omega) | (conv => whnf)) | ((refine BoolB.mk (fun h => ?_) (fun h => ?_)) <;> first | (exact absurd h (by decide)) | (conv => whnf)) | (refine ⟨_, wrap_ok (by omega) (by omega), ?_⟩; conv => whnf) | (refine and_idx (by omega) (by omega) ?_; conv => whnf) | (refine reg_ok (by decide +kernel) ?_; conv => whnf) | (refine bar_ok (by decide +kernel) (by decide +kernel) ?_; conv => whnf) | (refine late_ok rfl rfl ?_; conv => whnf) | (refine src_ok rfl ?_; conv => whnf) | (refine ex_row hl ?_; conv => whnf) | (refine LitB.data ?_; conv => whnf) | (refine BoxB.own ?_; conv => whnf)))
      · have hd : ¬ (l.length : Int) = e.mats := by omega
        refine fin_bool ?_
        rw [hP, all_of_get hl (by simp [P, hd])]; simp
      · have hd : (l.length : Int) = e.mats := by omega
        refine awp_for tab_ok (fun j => ([S.junk, S.junk, S.c (C.t (evP e)), S.junk, S.junk, S.junk, S.junk, S.junk, S.junk, S.junk, S.junk, S.junk, S.junk, S.junk, S.junk, histS hh, intS .i64 hh.length, intS .i64 k, S.junk, S.junk, S.junk, S.junk, S.junk, S.junk, S.junk, S.junk, fracsS l, intS .i64 l.length, intS .i64 j, S.junk, S.junk, S.junk, S.junk, S.junk, S.junk, S.junk, S.junk], [])) l.length (fun j => (l.take j).all rightF = true) [] rfl
          ⟨rfl, rfl, trivial, ⟨rfl, rfl, rfl, rfl, ent_t rfl, ent_i (by simp), rfl, trivial⟩⟩ ?_
        intro j hj hJ
        by_cases hjt : j < l.length
        · obtain ⟨f, hf⟩ : ∃ f, l[j]? = some f := ⟨_, List.getElem?_eq_getElem hjt⟩
          have l3 := hs.l3 l hmem f (List.mem_of_getElem? hf)
          have r := a_fRight f l3.1 l3.2
          conv => whnf
          (repeat' (first | ((refine DecB.mk (fun h => ?_) (fun h => ?_)) <;> first | (exfalso; omega) | (conv => whnf)) | ((refine BoolB.mk (fun h => ?_) (fun h => ?_)) <;> first | (exact absurd h (by decide)) | (conv => whnf)) | (refine ⟨_, wrap_ok (by omega) (by omega), ?_⟩; conv => whnf) | (refine and_idx (by omega) (by omega) ?_; conv => whnf) | (refine reg_ok (by decide +kernel) ?_; conv => whnf) | (refine bar_ok (by decide +kernel) (by decide +kernel) ?_; conv => whnf) | (refine late_ok rfl rfl ?_; conv => whnf) | (refine src_ok rfl ?_; conv => whnf) | (refine .inl ⟨_, _, qcall_pure (r) rfl rfl, ?_⟩; conv => whnf) | (refine ex_row hf ?_; conv => whnf) | (refine LitB.data ?_; conv => whnf) | (refine BoxB.own ?_; conv => whnf)))
          all_goals first
            | (exfalso; omega)
            | (have hr : rightF f = true := by assumption
               exact ⟨hjt, by rw [all_take_succ hf, hJ, hr]; rfl, [], rfl, rfl, trivial, ⟨rfl, rfl, rfl, rfl, rfl, rfl, rfl, trivial⟩⟩)
            | (have hr : rightF f = false := by assumption
               refine fin_bool ?_
               rw [hP, all_of_get hl (by simp only [P]; rw [all_of_get hf hr, Bool.and_false]), Bool.and_false])
        · have hje : j = l.length := by omega
          subst hje
          conv => whnf
          (repeat' (first | ((refine DecB.mk (fun h => ?_) (fun h => ?_)) <;> first | (exfalso; omega) | (conv => whnf)) | ((refine BoolB.mk (fun h => ?_) (fun h => ?_)) <;> first | (exact absurd h (by decide)) | (conv => whnf)) | (refine ⟨_, wrap_ok (by omega) (by omega), ?_⟩; conv => whnf) | (refine and_idx (by omega) (by omega) ?_; conv => whnf) | (refine reg_ok (by decide +kernel) ?_; conv => whnf) | (refine bar_ok (by decide +kernel) (by decide +kernel) ?_; conv => whnf) | (refine late_ok rfl rfl ?_; conv => whnf) | (refine src_ok rfl ?_; conv => whnf) | (refine LitB.data ?_; conv => whnf) | (refine BoxB.own ?_; conv => whnf)))
          all_goals first
            | (exfalso; omega)
            | exact ⟨hlt, by rw [hall]; simp only [P]; rw [all_take_full hJ]; simp [hd], [], rfl, rfl, trivial, ⟨rfl, rfl, rfl, rfl, trivial⟩⟩
    · have hke : k = hh.length := by omega
      subst hke
      conv => whnf
      (repeat' (first | ((refine DecB.mk (fun h => ?_) (fun h => ?_)) <;> first | (exfalso; omega) | (conv => whnf)) | ((refine BoolB.mk (fun h => ?_) (fun h => ?_)) <;> first | (exact absurd h (by decide)) | (conv => whnf)) | (refine ⟨_, wrap_ok (by omega) (by omega), ?_⟩; conv => whnf) | (refine and_idx (by omega) (by omega) ?_; conv => whnf) | (refine reg_ok (by decide +kernel) ?_; conv => whnf) | (refine bar_ok (by decide +kernel) (by decide +kernel) ?_; conv => whnf) | (refine late_ok rfl rfl ?_; conv => whnf) | (refine src_ok rfl ?_; conv => whnf) | (refine LitB.data ?_; conv => whnf) | (refine BoxB.own ?_; conv => whnf)))
      all_goals first
        | (exfalso; omega)
        | (refine fin_bool ?_; rw [hP, all_take_full hI]; simp [hlen])
  · (refine acall_of tab_ok Tryz.func26 rfl (by decide) ?_; (conv => whnf); repeat (first | (refine LitB.data ?_; conv => whnf) | (refine BoxB.data ?_; conv => whnf)))
    (repeat' (first | ((refine DecB.mk (fun h => ?_) (fun h => ?_)) <;> first | (exfalso; omega) | (conv => whnf)) | ((refine BoolB.mk (fun h => ?_) (fun h => ?_)) <;> first | (exact absurd h (by decide)) | (conv => whnf)) | (refine ⟨_, wrap_ok (by omega) (by omega), ?_⟩; conv => whnf) | (refine and_idx (by omega) (by omega) ?_; conv => whnf) | (refine reg_ok (by decide +kernel) ?_; conv => whnf) | (refine bar_ok (by decide +kernel) (by decide +kernel) ?_; conv => whnf) | (refine late_ok rfl rfl ?_; conv => whnf) | (refine src_ok rfl ?_; conv => whnf) | (refine LitB.data ?_; conv => whnf) | (refine BoxB.own ?_; conv => whnf)))
    all_goals first
      | (exfalso; omega)
      | (refine fin_bool ?_; rw [hP]; simp [hlen])
theorem zero_get (l : List Rat) {k : Nat} {x : Rat} (h : l[k]? = some x) : (l.map fz)[k]? = some (fz x) := by rw [List.getElem?_map, h]; rfl
theorem sumR_take {l : List Rat} {k : Nat} {x : Rat} (h : l[k]? = some x) : sumR (l.take (k + 1)) = sumR (l.take k) + x := by rw [List.take_add_one, h]; exact sumR_snoc _ _
theorem fin_f {f f' : Fr} {H1 : Hp} (h : f = f') : Fin 0 (frS f) H1 (frS f') [] := by subst h; exact fin_t ⟨rfl, rfl, rfl, rfl, trivial⟩
abbrev frB (f : Fr) : Blk := { mode := .live, elem := 37, size := 4, rows := [frC f], box := true }
theorem rowsT_fr (f : Fr) : rowsT [frC f] := by
  intro r hr c hc
  simp at hr
  subst hr
  simp [frC] at hc
  rcases hc with rfl | rfl | rfl | rfl <;> rfl
theorem z_sum (l : List Rat) (hB : ∀ x ∈ l, rl x ≤ 200) (hl : l.length ≤ 200) : ACall Tryz.prog 30 [fracsS (l.map fz)] [] (frS (fz (sumR l))) [] := by
  have m1 : ((l.map fz).map frRow).length = l.length := by simp
  have i0 := z_fInt 0 (by decide) (by decide)
  (refine acall_of tab_ok Tryz.func30 rfl (by decide) ?_; (conv => whnf); repeat (first | (refine LitB.data ?_; conv => whnf) | (refine BoxB.own ?_; conv => whnf)))
  (repeat' (first | ((refine DecB.mk (fun h => ?_) (fun h => ?_)) <;> first | (exfalso; omega) | (conv => whnf)) | ((refine BoolB.mk (fun h => ?_) (fun h => ?_)) <;> first | (exact absurd h (by decide)) | (conv => whnf)) | (refine ⟨_, wrap_ok (by omega) (by omega), ?_⟩; conv => whnf) | (refine and_idx (by omega) (by omega) ?_; conv => whnf) | (refine reg_ok (by decide +kernel) ?_; conv => whnf) | (refine bar_ok (by decide +kernel) (by decide +kernel) ?_; conv => whnf) | (refine late_ok rfl rfl ?_; conv => whnf) | (refine src_ok rfl ?_; conv => whnf) | (refine .inl ⟨_, _, qcall_pure (i0) rfl rfl, ?_⟩; conv => whnf) | (refine LitB.data ?_; conv => whnf) | (refine BoxB.own ?_; conv => whnf)))
  refine awp_for tab_ok (fun k => ([S.junk, S.junk, S.c (C.ptr 0 0 0), S.c (C.ptr 1 0 0), S.junk, S.junk, S.junk, fracsS (l.map fz), intS .i64 l.length, intS .i64 k, S.junk, S.junk, S.junk, S.junk, S.junk, S.junk, S.junk, S.junk, S.junk, S.junk, S.junk], [frB zeroF, frB (fz (sumR (l.take k)))])) l.length (fun _ => True) [some 0, some 1] trivial
    ⟨rfl, rfl, ⟨⟨rfl, rfl, rfl, .inr ⟨⟨rfl, rfl, rfl, rfl, trivial⟩, trivial⟩⟩, ⟨rfl, rfl, rfl, .inl ⟨rfl, rowsT_fr _⟩⟩, trivial⟩, ⟨⟨rfl, rfl, rfl⟩, ⟨rfl, rfl, rfl⟩, ent_t rfl, ent_i (by simp), rfl, trivial⟩⟩ ?_
  intro k hk _
  by_cases hlt : k < l.length
  · obtain ⟨x, hx⟩ : ∃ x, l[k]? = some x := ⟨_, List.getElem?_eq_getElem hlt⟩
    have bx := hB x (List.mem_of_getElem? hx)
    have bs := rl_sumR (l := l.take k) (B := 200) fun y hy => hB y (List.mem_of_mem_take hy)
    have lt : (l.take k).length ≤ 200 := by simp; omega
    have bs2 : rl (sumR (l.take k)) ≤ 200 * 201 + 1 := Nat.le_trans bs (by have := Nat.mul_le_mul_right (200 + 1) lt; omega)
    have ad := z_fAdd (sumR (l.take k)) x (by omega) (by omega)
    rw [← sumR_take hx] at ad
    conv => whnf
    (repeat' (first | ((refine DecB.mk (fun h => ?_) (fun h => ?_)) <;> first | (exfalso; omega) | (conv => whnf)) | ((refine BoolB.mk (fun h => ?_) (fun h => ?_)) <;> first | (exact absurd h (by decide)) | (conv => whnf)) | (refine ⟨_, wrap_ok (by omega) (by omega), ?_⟩; conv => whnf) | (refine and_idx (by omega) (by omega) ?_; conv => whnf) | (refine reg_ok (by decide +kernel) ?_; conv => whnf) | (refine bar_ok (by decide +kernel) (by decide +kernel) ?_; conv => whnf) | (refine late_ok rfl rfl ?_; conv => whnf) | (refine src_ok rfl ?_; conv => whnf) | (refine .inl ⟨_, _, qcall_pure (ad) rfl rfl, ?_⟩; conv => whnf) | (refine .inl ⟨_, _, qcall_pure (5) rfl rfl, ?_⟩; conv => whnf) | (refine ex_row (zero_get l hx) ?_; conv => whnf) | (refine bar_late [5] (by decide +kernel) (by decide +kernel) ?_; conv => whnf) | (refine LitB.data ?_; conv => whnf) | (refine BoxB.own ?_; conv => whnf)))
    all_goals first
      | (exfalso; omega)
      | exact ⟨hlt, trivial, [some 0, some 1], rfl, rfl, ⟨⟨rfl, rfl, rfl, .inl ⟨rfl, rowsT_fr _⟩⟩, ⟨rfl, rfl, rfl, .inl ⟨rfl, rowsT_fr _⟩⟩, trivial⟩, ⟨⟨rfl, rfl, rfl⟩, ⟨rfl, rfl, rfl⟩, rfl, rfl, rfl, trivial⟩⟩
  · have hke : k = l.length := by omega
    subst hke
    rw [List.take_of_length_le (Nat.le_refl _)]
    conv => whnf
    (repeat' (first | ((refine DecB.mk (fun h => ?_) (fun h => ?_)) <;> first | (exfalso; omega) | (conv => whnf)) | ((refine BoolB.mk (fun h => ?_) (fun h => ?_)) <;> first | (exact absurd h (by decide)) | (conv => whnf)) | (refine ⟨_, wrap_ok (by omega) (by omega), ?_⟩; conv => whnf) | (refine and_idx (by omega) (by omega) ?_; conv => whnf) | (refine reg_ok (by decide +kernel) ?_; conv => whnf) | (refine bar_ok (by decide +kernel) (by decide +kernel) ?_; conv => whnf) | (refine late_ok rfl rfl ?_; conv => whnf) | (refine src_ok rfl ?_; conv => whnf) | (refine LitB.data ?_; conv => whnf) | (refine BoxB.own ?_; conv => whnf)))
    all_goals first
      | (exfalso; omega)
      | exact fin_f rfl
theorem sgR_neg {x : Rat} : sgR x < 0 ↔ x < 0 := by unfold sgR; split <;> (try split) <;> simp_all
theorem z_negative (l : List Rat) (hB : ∀ x ∈ l, rl x ≤ 200) (hl : l.length ≤ 200) : ACall Tryz.prog 28 [fracsS (l.map fz)] [] (boolS (l.any fun v => decide (v < 0))) [] := by
  have m1 : ((l.map fz).map frRow).length = l.length := by simp
  (refine acall_of tab_ok Tryz.func28 rfl (by decide) ?_; (conv => whnf); repeat (first | (refine LitB.data ?_; conv => whnf) | (refine BoxB.own ?_; conv => whnf)))
  (repeat' (first | ((refine DecB.mk (fun h => ?_) (fun h => ?_)) <;> first | (exfalso; omega) | (conv => whnf)) | ((refine BoolB.mk (fun h => ?_) (fun h => ?_)) <;> first | (exact absurd h (by decide)) | (conv => whnf)) | (refine ⟨_, wrap_ok (by omega) (by omega), ?_⟩; conv => whnf) | (refine and_idx (by omega) (by omega) ?_; conv => whnf) | (refine reg_ok (by decide +kernel) ?_; conv => whnf) | (refine bar_ok (by decide +kernel) (by decide +kernel) ?_; conv => whnf) | (refine late_ok rfl rfl ?_; conv => whnf) | (refine src_ok rfl ?_; conv => whnf) | (refine LitB.data ?_; conv => whnf) | (refine BoxB.own ?_; conv => whnf)))
  refine awp_for tab_ok (fun k => ([S.junk, S.junk, S.junk, S.junk, S.junk, fracsS (l.map fz), intS .i64 l.length, intS .i64 k, S.junk, S.junk, S.junk, S.junk, S.junk, S.junk, S.junk], [])) l.length (fun k => (l.take k).any (fun v => decide (v < 0)) = false) [] rfl
    ⟨rfl, rfl, trivial, ⟨ent_t rfl, ent_i (by simp), rfl, trivial⟩⟩ ?_
  intro k hk hI
  by_cases hlt : k < l.length
  · obtain ⟨x, hx⟩ : ∃ x, l[k]? = some x := ⟨_, List.getElem?_eq_getElem hlt⟩
    have bx := hB x (List.mem_of_getElem? hx)
    have sg := z_fSign x (by omega)
    conv => whnf
    (repeat' (first | ((refine DecB.mk (fun h => ?_) (fun h => ?_)) <;> first | (exfalso; omega) | (conv => whnf)) | ((refine BoolB.mk (fun h => ?_) (fun h => ?_)) <;> first | (exact absurd h (by decide)) | (conv => whnf)) | (refine ⟨_, wrap_ok (by omega) (by omega), ?_⟩; conv => whnf) | (refine and_idx (by omega) (by omega) ?_; conv => whnf) | (refine reg_ok (by decide +kernel) ?_; conv => whnf) | (refine bar_ok (by decide +kernel) (by decide +kernel) ?_; conv => whnf) | (refine late_ok rfl rfl ?_; conv => whnf) | (refine src_ok rfl ?_; conv => whnf) | (refine .inl ⟨_, _, qcall_pure (sg) rfl rfl, ?_⟩; conv => whnf) | (refine ex_row (zero_get l hx) ?_; conv => whnf) | (refine LitB.data ?_; conv => whnf) | (refine BoxB.own ?_; conv => whnf)))
    all_goals first
      | (exfalso; omega)
      | (have h0 : sgR x < 0 := by omega
         refine fin_bool ?_; rw [any_of_get hx (by simpa using sgR_neg.1 h0)])
      | (have h0 : ¬ sgR x < 0 := by omega
         have h1 : ¬ x < 0 := fun h => h0 (sgR_neg.2 h)
         exact ⟨hlt, by rw [any_take_succ hx, hI]; simpa using h1, [], rfl, rfl, trivial, ⟨rfl, rfl, rfl, trivial⟩⟩)
  · have hke : k = l.length := by omega
    subst hke
    rw [List.take_of_length_le (Nat.le_refl _)] at hI
    conv => whnf
    (repeat' (first | ((refine DecB.mk (fun h => ?_) (fun h => ?_)) <;> first | (exfalso; omega) | (conv => whnf)) | ((refine BoolB.mk (fun h => ?_) (fun h => ?_)) <;> first | (exact absurd h (by decide)) | (conv => whnf)) | (refine ⟨_, wrap_ok (by omega) (by omega), ?_⟩; conv => whnf) | (refine and_idx (by omega) (by omega) ?_; conv => whnf) | (refine reg_ok (by decide +kernel) ?_; conv => whnf) | (refine bar_ok (by decide +kernel) (by decide +kernel) ?_; conv => whnf) | (refine late_ok rfl rfl ?_; conv => whnf) | (refine src_ok rfl ?_; conv => whnf) | (refine LitB.data ?_; conv => whnf) | (refine BoxB.own ?_; conv => whnf)))
    all_goals first
      | (exfalso; omega)
      | exact fin_bool hI.symm
theorem cmpR_le {x y : Rat} : cmpR x y ≤ 0 ↔ x ≤ y := by
  unfold cmpR
  split
  · simp; grind
  · split
    · simp; grind
    · simp; grind
theorem z_weighed (e : Ev) (x : Move) (mass : Rat) (hm : rl mass ≤ 60000) (hs : e.Sized) : ACall Tryz.prog 31 [evS e, moveS x, frS (fz mass)] [] (boolS (weighedB e x mass)) [] := by
  have l1 := hs.s3
  have l2 := hs.s4
  have iv := a_Interval e.certs e.recalls (by omega) (by omega) x.scale x.reading x.day
  unfold weighedB
  by_cases hsc : x.scale = -1
  · rw [if_pos hsc]
    (refine acall_of tab_ok Tryz.func31 rfl (by decide) ?_; (conv => whnf); repeat (first | (refine LitB.data ?_; conv => whnf) | (refine BoxB.own ?_; conv => whnf)))
    (repeat' (first | ((refine DecB.mk (fun h => ?_) (fun h => ?_)) <;> first | (exfalso; omega) | (conv => whnf)) | ((refine BoolB.mk (fun h => ?_) (fun h => ?_)) <;> first | (exact absurd h (by decide)) | (conv => whnf)) | (refine ⟨_, wrap_ok (by omega) (by omega), ?_⟩; conv => whnf) | (refine and_idx (by omega) (by omega) ?_; conv => whnf) | (refine reg_ok (by decide +kernel) ?_; conv => whnf) | (refine bar_ok (by decide +kernel) (by decide +kernel) ?_; conv => whnf) | (refine late_ok rfl rfl ?_; conv => whnf) | (refine src_ok rfl ?_; conv => whnf) | (refine LitB.data ?_; conv => whnf) | (refine BoxB.own ?_; conv => whnf)))
    all_goals first
      | (exfalso; omega)
      | exact fin_bool rfl
  · rw [if_neg hsc]
    cases hiv : interval e.certs e.recalls x.scale x.reading x.day with
    | none =>
      rw [hiv] at iv
      (refine acall_of tab_ok Tryz.func31 rfl (by decide) ?_; (conv => whnf); repeat (first | (refine LitB.data ?_; conv => whnf) | (refine BoxB.own ?_; conv => whnf)))
      (repeat' (first | ((refine DecB.mk (fun h => ?_) (fun h => ?_)) <;> first | (exfalso; omega) | (conv => whnf)) | ((refine BoolB.mk (fun h => ?_) (fun h => ?_)) <;> first | (exact absurd h (by decide)) | (conv => whnf)) | (refine ⟨_, wrap_ok (by omega) (by omega), ?_⟩; conv => whnf) | (refine and_idx (by omega) (by omega) ?_; conv => whnf) | (refine reg_ok (by decide +kernel) ?_; conv => whnf) | (refine bar_ok (by decide +kernel) (by decide +kernel) ?_; conv => whnf) | (refine late_ok rfl rfl ?_; conv => whnf) | (refine src_ok rfl ?_; conv => whnf) | (refine .inl ⟨_, _, qcall_pure (iv) rfl rfl, ?_⟩; conv => whnf) | (refine LitB.data ?_; conv => whnf) | (refine BoxB.own ?_; conv => whnf)))
      all_goals first
        | (exfalso; simp_all; done)
        | exact fin_bool rfl
    | some p =>
      obtain ⟨lo, hi⟩ := p
      obtain ⟨b1, b2⟩ := rl_interval hiv
      rw [hiv] at iv
      have c1 := z_fCompare lo mass (by omega) (by omega)
      have c2 := z_fCompare mass hi (by omega) (by omega)
      (refine acall_of tab_ok Tryz.func31 rfl (by decide) ?_; (conv => whnf); repeat (first | (refine LitB.data ?_; conv => whnf) | (refine BoxB.own ?_; conv => whnf)))
      (repeat' (first | ((refine DecB.mk (fun h => ?_) (fun h => ?_)) <;> first | (exfalso; omega) | (conv => whnf)) | ((refine BoolB.mk (fun h => ?_) (fun h => ?_)) <;> first | (exact absurd h (by decide)) | (conv => whnf)) | (refine ⟨_, wrap_ok (by omega) (by omega), ?_⟩; conv => whnf) | (refine and_idx (by omega) (by omega) ?_; conv => whnf) | (refine reg_ok (by decide +kernel) ?_; conv => whnf) | (refine bar_ok (by decide +kernel) (by decide +kernel) ?_; conv => whnf) | (refine late_ok rfl rfl ?_; conv => whnf) | (refine src_ok rfl ?_; conv => whnf) | (refine .inl ⟨_, _, qcall_pure (iv) rfl rfl, ?_⟩; conv => whnf) | (refine .inl ⟨_, _, qcall_pure (c1) rfl rfl, ?_⟩; conv => whnf) | (refine .inl ⟨_, _, qcall_pure (c2) rfl rfl, ?_⟩; conv => whnf) | (refine LitB.data ?_; conv => whnf) | (refine BoxB.own ?_; conv => whnf)))
      all_goals first
        | (exfalso; simp_all; done)
        | (refine fin_bool ?_; simp only [inB, ← cmpR_le]; simp; omega)
theorem cmpR_lt' {x y : Rat} : cmpR x y > 0 ↔ y < x := by
  have := cmpR_le (x := x) (y := y)
  constructor
  · intro h; have h2 : ¬ x ≤ y := fun h' => by have := this.2 h'; omega
    grind
  · intro h; have h2 : ¬ cmpR x y ≤ 0 := fun h' => by have := this.1 h'; grind
    omega
theorem purity_get {e : Ev} (h0 : saidOk e = true) {p : Purity} (hp : p ∈ e.purities) : 0 ≤ p.mat ∧ p.mat < e.mats ∧ 0 ≤ p.least ∧ p.least ≤ p.most ∧ p.most ≤ 1000 := by
  unfold saidOk at h0
  simp only [Bool.and_eq_true, List.all_eq_true] at h0
  have := h0.2 p hp
  unfold purityOk at this
  simp only [Bool.and_eq_true, decide_eq_true_eq, idx_iff] at this
  omega
theorem z_pure (e : Ev) (i : Nat) (l : List Rat) (mass : Rat) (hm : rl mass ≤ 50000) (hB : ∀ x ∈ l, rl x ≤ 200) (hl : l.length ≤ 200) (hw : (l.length : Int) = e.mats) (h0 : saidOk e = true) (hs : e.Sized) (hi : i ≤ 1000000) :
    ACall Tryz.prog 32 [evS e, intS .i64 i, fracsS (l.map fz), frS (fz mass)] [] (boolS (pureB e.purities i l mass)) [] := by
  have m1 : (e.purities.map Purity.row).length = e.purities.length := by simp
  have m2 : ((l.map fz).map frRow).length = l.length := by simp
  have l1 := hs.s5
  let P : Purity → Bool := fun p => decide (p.move ≠ (i : Int)) || pureOne p l mass
  have hP : pureB e.purities i l mass = e.purities.all P := rfl
  (refine acall_of tab_ok Tryz.func32 rfl (by decide) ?_; (conv => whnf); repeat (first | (refine LitB.data ?_; conv => whnf) | (refine BoxB.data ?_; conv => whnf)))
  (repeat' (first | ((refine DecB.mk (fun h => ?_) (fun h => ?_)) <;> first | (exfalso; omega) | (conv => whnf)) | ((refine BoolB.mk (fun h => ?_) (fun h => ?_)) <;> first | (exact absurd h (by decide)) | (conv => whnf)) | (refine ⟨_, wrap_ok (by omega) (by omega), ?_⟩; conv => whnf) | (refine and_idx (by omega) (by omega) ?_; conv => whnf) | (refine reg_ok (by decide +kernel) ?_; conv => whnf) | (refine bar_ok (by decide +kernel) (by decide +kernel) ?_; conv => whnf) | (refine late_ok rfl rfl ?_; conv => whnf) | (refine src_ok rfl ?_; conv => whnf) | (refine LitB.data ?_; conv => whnf) | (refine BoxB.own ?_; conv => whnf)))
  refine awp_for tab_ok (fun k => ([S.junk, intS .i64 i, fracsS (l.map fz), S.junk, S.junk, S.junk, S.junk, S.c (C.t (T.ptr (frRow (fz mass)))), S.junk, S.junk, S.junk, S.junk, S.junk, S.junk, S.junk, S.junk, S.junk, S.junk, S.c (C.t (puritiesT e.purities)), intS .i64 e.purities.length, intS .i64 k, S.junk, S.junk, S.junk, S.junk, S.junk, S.junk, S.junk, S.junk, S.junk, S.junk, S.junk, S.junk, S.junk, S.junk, S.junk, S.junk, S.junk, S.junk, S.junk, S.junk, S.junk, S.junk, S.junk, S.junk, S.junk, S.junk, S.junk, S.junk, S.junk, S.junk, S.junk, S.junk, S.junk, S.junk, S.junk, S.junk, S.junk, S.junk, S.junk, S.junk, S.junk, S.junk, S.junk, S.junk], [])) e.purities.length (fun k => (e.purities.take k).all P = true) [] rfl
    ⟨rfl, rfl, trivial, ⟨rfl, ent_t rfl, ent_t rfl, ent_t rfl, ent_i (by simp), rfl, trivial⟩⟩ ?_
  intro k hk hI
  by_cases hlt : k < e.purities.length
  · obtain ⟨p, hp⟩ : ∃ p, e.purities[k]? = some p := ⟨_, List.getElem?_eq_getElem hlt⟩
    have hall : (e.purities.take (k + 1)).all P = P p := by rw [all_take_succ hp, hI, Bool.true_and]
    by_cases hmv : p.move = (i : Int)
    · obtain ⟨q1, q2, q3, q4, q5⟩ := purity_get h0 (List.mem_of_getElem? hp)
      obtain ⟨x, hx⟩ : ∃ x, l[p.mat.toNat]? = some x := ⟨_, List.getElem?_eq_getElem (by omega)⟩
      have hxd : l.getD p.mat.toNat 0 = x := by rw [List.getD_eq_getElem?_getD, hx]; rfl
      have bx := hB x (List.mem_of_getElem? hx)
      have b1 : rl ((1000 : Int) : Rat) ≤ 4 := by rw [rl_int]; have := bl_int (x := 1000) (by decide) (by decide); omega
      have b2 : rl (p.least : Rat) ≤ 4 := by rw [rl_int]; have := bl_int (x := p.least) (by omega) (by omega); omega
      have b3 : rl (p.most : Rat) ≤ 4 := by rw [rl_int]; have := bl_int (x := p.most) (by omega) (by omega); omega
      have i1 := z_fInt 1000 (by decide) (by decide)
      have i2 := z_fInt p.least (by omega) (by omega)
      have i3 := z_fInt p.most (by omega) (by omega)
      have u1 := z_fMul ((1000 : Int) : Rat) x (by omega) (by omega)
      have u2 := z_fMul (p.least : Rat) mass (by omega) (by omega)
      have u3 := z_fMul (p.most : Rat) mass (by omega) (by omega)
      have k1 := rl_mul ((1000 : Int) : Rat) x
      have k2 := rl_mul (p.least : Rat) mass
      have k3 := rl_mul (p.most : Rat) mass
      have c1 := z_fCompare (((1000 : Int) : Rat) * x) ((p.least : Rat) * mass) (by omega) (by omega)
      have c2 := z_fCompare (((1000 : Int) : Rat) * x) ((p.most : Rat) * mass) (by omega) (by omega)
      have hPp : P p = (decide (¬ cmpR (((1000 : Int) : Rat) * x) ((p.least : Rat) * mass) < 0) && decide (cmpR (((1000 : Int) : Rat) * x) ((p.most : Rat) * mass) ≤ 0)) := by
        simp only [P, pureOne, hmv, hxd]
        simp only [cmpR_lt, cmpR_le]
        have e1 : ((p.least : Rat) * mass ≤ ((1000 : Int) : Rat) * x) ↔ ¬ (((1000 : Int) : Rat) * x < (p.least : Rat) * mass) := by grind
        simp only [e1]
        simp
      conv => whnf
      (repeat' (first | ((refine DecB.mk (fun h => ?_) (fun h => ?_)) <;> first | (exfalso; omega) | (conv => whnf)) | ((refine BoolB.mk (fun h => ?_) (fun h => ?_)) <;> first | (exact absurd h (by decide)) | (conv => whnf)) | (refine ⟨_, wrap_ok (by omega) (by omega), ?_⟩; conv => whnf) | (refine and_idx (by omega) (by omega) ?_; conv => whnf) | (refine reg_ok (by decide +kernel) ?_; conv => whnf) | (refine bar_ok (by decide +kernel) (by decide +kernel) ?_; conv => whnf) | (refine late_ok rfl rfl ?_; conv => whnf) | (refine src_ok rfl ?_; conv => whnf) | (refine .inl ⟨_, _, qcall_pure (i1) rfl rfl, ?_⟩; conv => whnf) | (refine .inl ⟨_, _, qcall_pure (i2) rfl rfl, ?_⟩; conv => whnf) | (refine .inl ⟨_, _, qcall_pure (i3) rfl rfl, ?_⟩; conv => whnf) | (refine .inl ⟨_, _, qcall_pure (u1) rfl rfl, ?_⟩; conv => whnf) | (refine .inl ⟨_, _, qcall_pure (u2) rfl rfl, ?_⟩; conv => whnf) | (refine .inl ⟨_, _, qcall_pure (u3) rfl rfl, ?_⟩; conv => whnf) | (refine .inl ⟨_, _, qcall_pure (c1) rfl rfl, ?_⟩; conv => whnf) | (refine .inl ⟨_, _, qcall_pure (c2) rfl rfl, ?_⟩; conv => whnf) | (refine .inl ⟨_, _, qcall_pure (9) rfl rfl, ?_⟩; conv => whnf) | (refine .inl ⟨_, _, qcall_pure (7) rfl rfl, ?_⟩; conv => whnf) | (refine ex_row hp ?_; conv => whnf) | (refine ex_rowI (by omega) (zero_get l hx) ?_; conv => whnf) | (refine bar_late [9] (by decide +kernel) (by decide +kernel) ?_; conv => whnf) | (refine bar_late [7] (by decide +kernel) (by decide +kernel) ?_; conv => whnf) | (refine LitB.data ?_; conv => whnf) | (refine BoxB.own ?_; conv => whnf)))
      · refine fin_bool ?_
        rw [hP, all_of_get hp (by rw [hPp]; simp only [Bool.and_eq_false_iff, decide_eq_false_iff_not]; omega)]
      · refine fin_bool ?_
        rw [hP, all_of_get hp (by rw [hPp]; simp only [Bool.and_eq_false_iff, decide_eq_false_iff_not]; omega)]
      · exact ⟨hlt, by rw [hall, hPp]; simp only [Bool.and_eq_true, decide_eq_true_eq]; omega, [], rfl, rfl, trivial, ⟨rfl, rfl, rfl, rfl, rfl, rfl, trivial⟩⟩
    · conv => whnf
      (repeat' (first | ((refine DecB.mk (fun h => ?_) (fun h => ?_)) <;> first | (exfalso; omega) | (conv => whnf)) | ((refine BoolB.mk (fun h => ?_) (fun h => ?_)) <;> first | (exact absurd h (by decide)) | (conv => whnf)) | (refine ⟨_, wrap_ok (by omega) (by omega), ?_⟩; conv => whnf) | (refine and_idx (by omega) (by omega) ?_; conv => whnf) | (refine reg_ok (by decide +kernel) ?_; conv => whnf) | (refine bar_ok (by decide +kernel) (by decide +kernel) ?_; conv => whnf) | (refine late_ok rfl rfl ?_; conv => whnf) | (refine src_ok rfl ?_; conv => whnf) | (refine ex_row hp ?_; conv => whnf) | (refine LitB.data ?_; conv => whnf) | (refine BoxB.own ?_; conv => whnf)))
      all_goals first
        | (exfalso; omega)
        | exact ⟨hlt, by rw [hall]; simp [P, hmv], [], rfl, rfl, trivial, ⟨rfl, rfl, rfl, rfl, rfl, rfl, trivial⟩⟩
  · have hke : k = e.purities.length := by omega
    subst hke
    conv => whnf
    (repeat' (first | ((refine DecB.mk (fun h => ?_) (fun h => ?_)) <;> first | (exfalso; omega) | (conv => whnf)) | ((refine BoolB.mk (fun h => ?_) (fun h => ?_)) <;> first | (exact absurd h (by decide)) | (conv => whnf)) | (refine ⟨_, wrap_ok (by omega) (by omega), ?_⟩; conv => whnf) | (refine and_idx (by omega) (by omega) ?_; conv => whnf) | (refine reg_ok (by decide +kernel) ?_; conv => whnf) | (refine bar_ok (by decide +kernel) (by decide +kernel) ?_; conv => whnf) | (refine late_ok rfl rfl ?_; conv => whnf) | (refine src_ok rfl ?_; conv => whnf) | (refine LitB.data ?_; conv => whnf) | (refine BoxB.own ?_; conv => whnf)))
    all_goals first
      | (exfalso; omega)
      | (refine fin_bool ?_; rw [hP, all_take_full hI])
end Go.Proofs.YthinjkjhiembgaaGreat
/- Heaps whose last part is symbolic: steps by lemma, views of nested blocks, calls over a first part of the heap. -/
namespace Go.Proofs.YthinjkjhiembgaaGreat
open Go.RowKit
set_option linter.unusedVariables false
set_option linter.unusedSimpArgs false

section
variable {α β : Type}
theorem getK_ok {l : List α} : ∀ {i : Nat} {x : α} {k : α → Prop}, l[i]? = some x → k x → getK i l k := by
  induction l with
  | nil => intro i x k h; simp at h
  | cons a r ih =>
    intro i x k h hk
    cases i with
    | zero => simp at h; subst h; exact hk
    | succ i => exact ih (by simpa using h) hk
theorem setK_ok {v : α} {l : List α} {i : Nat} {k : List α → Prop} (h : k (l.set i v)) : setK i v l k := setK_iff.2 h
theorem appK_ok {r l : List α} {k : List α → Prop} (h : k (l ++ r)) : appK l r k := appK_iff.2 h
theorem appK_nil {l : List α} {k : List α → Prop} (h : k l) : appK l [] k := appK_ok (by rw [List.append_nil]; exact h)
theorem lenK_ok {l : List α} {n : Nat} {k : Nat → Prop} (h : k (l.length + n)) : lenK l n k := lenK_iff.2 (by rw [Nat.add_comm]; exact h)
theorem lenK_map {f : β → α} {M : List β} {N n : Nat} {k : Nat → Prop} (h : M.length = N) (hk : k (N + n)) : lenK (M.map f) n k := lenK_ok (by simpa [h] using hk)
theorem lenK_mapA {f : β → α} {M : List β} {T : List α} {N n : Nat} {k : Nat → Prop} (h : M.length = N) (hk : lenK T n fun m => k (N + m)) : lenK (M.map f ++ T) n k := by
  refine lenK_ok ?_
  have := (lenK_iff (k := fun m => k (N + m))).1 hk
  simpa [h, Nat.add_assoc, Nat.add_comm n] using this
theorem appK_mapA {f : β → α} {M : List β} {T r : List α} {k : List α → Prop} (h : appK T r fun q => k (M.map f ++ q)) : appK (M.map f ++ T) r k := by
  refine appK_ok ?_
  rw [List.append_assoc]
  exact (appK_iff (k := fun q => k (M.map f ++ q))).1 h
theorem getK_map {f : β → α} {M : List β} {i : Nat} {x : β} {k : α → Prop} (h : M[i]? = some x) (hk : k (f x)) : getK i (M.map f) k := getK_ok (by rw [List.getElem?_map, h]; rfl) hk
theorem getK_mapA {f : β → α} {M : List β} {T : List α} {i : Nat} {x : β} {k : α → Prop} (h : M[i]? = some x) (hk : k (f x)) : getK i (M.map f ++ T) k :=
  getK_ok (by rw [List.getElem?_append_left (by simpa using (List.getElem?_eq_some_iff.1 h).1), List.getElem?_map, h]; rfl) hk
theorem getK_mapT {f : β → α} {M : List β} {T : List α} {N t : Nat} {k : α → Prop} (h : M.length = N) (hk : getK t T k) : getK (N + t) (M.map f ++ T) k := by
  obtain ⟨x, h1, h2⟩ := getK_iff hk
  exact getK_ok (by rw [List.getElem?_append_right (by simp [h])]; simpa [h] using h1) h2
theorem getK_map0 {f : β → α} {M : List β} {T : List α} {N : Nat} {k : α → Prop} (h : M.length = N) (hk : getK 0 T k) : getK N (M.map f ++ T) k := getK_mapT (t := 0) h hk
theorem setK_map {f : β → α} {M : List β} {i : Nat} {v : α} {x : β} {k : List α → Prop} (hv : v = f x) (h : k ((M.set i x).map f)) : setK i v (M.map f) k :=
  setK_ok (by rw [hv, ← List.map_set]; exact h)
theorem setK_mapA {f : β → α} {M : List β} {T : List α} {i : Nat} {v : α} {x : β} {k : List α → Prop} (hi : i < M.length) (hv : v = f x) (h : k ((M.set i x).map f ++ T)) : setK i v (M.map f ++ T) k :=
  setK_ok (by rw [List.set_append_left _ _ (by simpa using hi), hv, ← List.map_set]; exact h)
theorem setK_mapT {f : β → α} {M : List β} {T : List α} {N t : Nat} {v : α} {k : List α → Prop} (h : M.length = N) (hk : setK t v T fun q => k (M.map f ++ q)) : setK (N + t) v (M.map f ++ T) k := by
  refine setK_ok ?_
  rw [List.set_append_right _ _ (by simp [h])]
  simpa [h] using (setK_iff (k := fun q => k (M.map f ++ q))).1 hk
theorem setK_map0 {f : β → α} {M : List β} {T : List α} {N : Nat} {v : α} {k : List α → Prop} (h : M.length = N) (hk : setK 0 v T fun q => k (M.map f ++ q)) : setK N v (M.map f ++ T) k := setK_mapT (t := 0) h hk
end

/-- nothing renamed -/
def idR (n : Nat) : List (Option Nat) := (List.range n).map some
theorem idR_len (n : Nat) : (idR n).length = n := by simp [idR]
theorem idR_get {n i : Nat} (h : i < n) : (idR n)[i]? = some (some i) := by simp [idR, h]
theorem idR_inv {n i j : Nat} (h : (idR n)[i]? = some (some j)) : i = j := by
  obtain ⟨h1, h2⟩ := List.getElem?_eq_some_iff.1 h
  simp [idR] at h2
  exact h2
theorem idR_keeps {n : Nat} : ∀ {m : Nat}, m ≤ n → keepsB (idR n) m = true
  | 0, _ => rfl
  | m + 1, h => by
    unfold keepsB
    rw [idR_get (by omega), idR_keeps (by omega)]
    simp
theorem sameL_no : ∀ {r : List (Option Nat)} {H : Hp} {n : Nat}, (∀ j : Nat, r[j]? ≠ some (some n)) → sameL n r H = false
  | [], H, n, _ => by cases H <;> rfl
  | x :: r, [], n, _ => by cases x <;> rfl
  | x :: r, k :: H, n, h => by
    unfold sameL
    rw [sameL_no (r := r) (H := H) (n := n) (fun j => by simpa using h (j + 1)), Bool.or_false]
    split
    · rfl
    · rename_i m _
      have : m ≠ n := by rintro rfl; exact h 0 rfl
      cases hb : Nat.beq m n with
      | false => rfl
      | true => exact absurd (Nat.eq_of_beq_eq_true hb) this
    · rfl
theorem nodupH_ok : ∀ {r : List (Option Nat)} {H : Hp}, (∀ i j n : Nat, r[i]? = some (some n) → r[j]? = some (some n) → i = j) → nodupH r H = true
  | [], H, _ => by cases H <;> rfl
  | x :: r, [], _ => by cases x <;> rfl
  | none :: r, k :: H, h => nodupH_ok (r := r) fun i j n h1 h2 => by have := h (i + 1) (j + 1) n (by simpa using h1) (by simpa using h2); omega
  | some n :: r, k :: H, h => by
    unfold nodupH
    rw [nodupH_ok (r := r) (H := H) fun i j n h1 h2 => by have := h (i + 1) (j + 1) n (by simpa using h1) (by simpa using h2); omega]
    rw [sameL_no (r := r) (n := n) (fun j hj => by have := h 0 (j + 1) n rfl (by simpa using hj); omega)]
    cases k.mode <;> rfl
theorem idR_nodup {n : Nat} {H : Hp} : nodupH (idR n) H = true := nodupH_ok fun i j n h1 h2 => by rw [idR_inv h1, idR_inv h2]
theorem entH_ok {ρ : List (Option Nat)} {H : Hp} : ∀ {r : List (Option Nat)} {H' : Hp}, r.length = H'.length → (∀ (i : Nat) (k' : Blk), H'[i]? = some k' → ∃ (j : Nat) (k : Blk), r[i]? = some (some j) ∧ H[j]? = some k ∧ EntB ρ H k k') → EntH ρ H r H'
  | [], [], _, _ => trivial
  | [], _ :: _, h, _ => by simp at h
  | _ :: _, [], h, _ => by simp at h
  | x :: r, k' :: H', hl, h => by
    obtain ⟨j, k, h1, h2, h3⟩ := h 0 k' rfl
    simp at h1
    subst h1
    refine ⟨?_, entH_ok (by simpa using hl) fun i k1 hk => by simpa using h (i + 1) k1 (by simpa using hk)⟩
    simp only [h2]
    exact h3
theorem entL_refl {n : Nat} {H : Hp} : ∀ {l : List C}, (∀ c ∈ l, match c with | .t _ => True | .ptr id _ _ => id < n | .own id _ _ _ => id < n | .fn _ _ => False) → EntL (idR n) H l l
  | [], _ => trivial
  | c :: r, h => by
    refine ⟨?_, entL_refl fun c hc => h c (by simp [hc])⟩
    have h0 := h c (by simp)
    cases c with
    | t x => exact weak_refl x
    | ptr id r o => exact ⟨idR_get h0, rfl, rfl⟩
    | own id lo len app => exact ⟨idR_get h0, rfl, rfl, fun h => h⟩
    | fn f caps => exact h0.elim
/-- a block all of whose handles are below n -/
def okB (n : Nat) (k : Blk) : Prop := ∀ r ∈ k.rows, ∀ c ∈ r, match c with | .t _ => True | .ptr id _ _ => id < n | .own id _ _ _ => id < n | .fn _ _ => False
theorem okB_toC {n : Nat} {k : Blk} {rows : List (List T)} (h : k.rows = toC rows) : okB n k := by
  intro r hr c hc
  rw [h] at hr
  obtain ⟨r0, _, rfl⟩ := List.mem_map.1 hr
  obtain ⟨t, _, rfl⟩ := List.mem_map.1 hc
  trivial
theorem entR_refl {n : Nat} {H : Hp} : ∀ {l : List (List C)}, (∀ r ∈ l, ∀ c ∈ r, match c with | .t _ => True | .ptr id _ _ => id < n | .own id _ _ _ => id < n | .fn _ _ => False) → EntR (idR n) H l l
  | [], _ => trivial
  | r :: l, h => ⟨entL_refl (h r (by simp)), entR_refl fun r hr => h r (by simp [hr])⟩
theorem entB_refl {n : Nat} {H : Hp} {k : Blk} (h : okB n k) : EntB (idR n) H k k := ⟨by unfold leMode; cases k.mode <;> simp, rfl, rfl, .inr (entR_refl h)⟩
/-- nothing renamed; each block is known as well, or less -/
theorem ent_idx {n0 n : Nat} {env env' : Env} {H H' : Hp} (hn : H'.length = n) (h0 : n0 ≤ n) (hB : ∀ (i : Nat) (k' : Blk), H'[i]? = some k' → ∃ k : Blk, H[i]? = some k ∧ EntB (idR n) H k k') (hE : EntE (idR n) H env env') : Ent n0 (idR n) env H env' H' :=
  ⟨idR_keeps h0, idR_nodup, entH_ok (by rw [idR_len, hn]) fun i k' hk => by
    have hi : i < n := by rw [← hn]; exact (List.getElem?_eq_some_iff.1 hk).1
    obtain ⟨k, h1, h2⟩ := hB i k' hk
    exact ⟨i, k, idR_get hi, h1, h2⟩, hE⟩
theorem entR_all {ρ : List (Option Nat)} {H : Hp} : ∀ {xs ys : List (List C)}, xs.length = ys.length → (∀ (i : Nat) (x y : List C), xs[i]? = some x → ys[i]? = some y → EntL ρ H x y) → EntR ρ H xs ys
  | [], [], _, _ => trivial
  | [], _ :: _, h, _ => by simp at h
  | _ :: _, [], h, _ => by simp at h
  | x :: xs, y :: ys, h, hh => ⟨hh 0 x y rfl rfl, entR_all (by simpa using h) fun i a b ha hb => hh (i + 1) a b (by simpa using ha) (by simpa using hb)⟩
theorem ent_mid {β : Type} {n0 n : Nat} {env env' : Env} {f : β → Blk} {M : List β} {b0 b0' bl bl' : Blk} {T : Hp} (hn : M.length + 2 = n) (h0 : n0 ≤ n) (e0 : b0 = b0') (ok0 : okB n b0') (hf : ∀ x, okB n (f x))
    (hl : EntB (idR n) (b0 :: (M.map f ++ bl :: T)) bl bl') (hE : EntE (idR n) (b0 :: (M.map f ++ bl :: T)) env env') : Ent n0 (idR n) env (b0 :: (M.map f ++ bl :: T)) env' (b0' :: (M.map f ++ [bl'])) := by
  refine ent_idx (by simp; omega) h0 (fun i k' hk => ?_) hE
  cases i with
  | zero => simp at hk; subst hk; exact ⟨b0, rfl, by rw [e0]; exact entB_refl ok0⟩
  | succ i =>
    rw [List.getElem?_cons_succ] at hk ⊢
    by_cases hi : i < M.length
    · rw [List.getElem?_append_left (by simpa using hi)] at hk ⊢
      refine ⟨k', hk, entB_refl ?_⟩
      obtain ⟨x, _, rfl⟩ := List.mem_map.1 (List.mem_of_getElem? hk)
      exact hf x
    · rw [List.getElem?_append_right (by simpa using hi)] at hk ⊢
      have : i = M.length := by
        have := (List.getElem?_eq_some_iff.1 hk).1
        simp at this; omega
      subst this
      simp at hk ⊢
      subst hk
      exact hl
theorem entB_eq {n : Nat} {H : Hp} {k k' : Blk} (e : k = k') (h : okB n k') : EntB (idR n) H k k' := by subst e; exact entB_refl h
/-- the first blocks stay, the others are dropped -/
theorem ent_first {n0 n : Nat} {env env' : Env} {H H' : Hp} (hn : H'.length = n) (h0 : n0 ≤ n) (hok : ∀ k ∈ H', okB n k) (hH : ∀ i, i < n → H[i]? = H'[i]?) (hE : EntE (idR n) H env env') : Ent n0 (idR n) env H env' H' :=
  ⟨idR_keeps h0, idR_nodup, entH_ok (by rw [idR_len, hn]) fun i k' hk => by
    have hi : i < n := by rw [← hn]; exact (List.getElem?_eq_some_iff.1 hk).1
    exact ⟨i, k', idR_get hi, by rw [hH i hi]; exact hk, entB_refl (hok k' (List.mem_of_getElem? hk))⟩, hE⟩
theorem ent_firstA {n0 n : Nat} {env env' : Env} {H' T : Hp} (hn : H'.length = n) (h0 : n0 ≤ n) (hok : ∀ k ∈ H', okB n k) (hE : EntE (idR n) (H' ++ T) env env') : Ent n0 (idR n) env (H' ++ T) env' H' :=
  ent_first hn h0 hok (fun i hi => by rw [List.getElem?_append_left (by omega)]) hE

theorem fin_first {n0 n : Nat} {r s : S} {H H' : Hp} (hn : H'.length = n) (h0 : n0 ≤ n) (hok : ∀ k ∈ H', okB n k) (hH : ∀ i, i < n → H[i]? = H'[i]?) (hE : EntT (idR n) H r s) : Fin n0 r H s H' :=
  ⟨idR n, idR_keeps h0, idR_nodup, entH_ok (by rw [idR_len, hn]) fun i k' hk => by
    have hi : i < n := by rw [← hn]; exact (List.getElem?_eq_some_iff.1 hk).1
    exact ⟨i, k', idR_get hi, by rw [hH i hi]; exact hk, entB_refl (hok k' (List.mem_of_getElem? hk))⟩, hE⟩

/-- cells of nested blocks as data -/
inductive VX (H : Hp) (p : Nat → Prop) : C → T → Prop
  | vc {x : C} {y : T} (h : VC H p x y) : VX H p x y
  | own {id lo len : Nat} {app : Bool} {size : Nat} {k : Blk} {rows : List (List T)} (hp : p id) (hk : H[id]? = some k) (hd : ¬ k.mode.gone) (hs : k.size = size) (hl : rows.length = len)
      (hw : ∀ r ∈ rows, r.length = size) (g : Nat → Nat → C) (hc : ∀ i j c, at2 rows i j = some c → at2 k.rows (lo + i) j = some (g i j))
      (hx : ∀ i j c, at2 rows i j = some c → VX H p (g i j) c) : VX H p (.own id lo len app) (.sl size .any rows)
theorem VX.rt {H : Hp} {p : Nat → Prop} {w : World} {ι : Io} {M M' : Ms} (hH : HeapRel w ι M H) (hM : ∀ b, M' b → M b) (hp : ∀ id k b cap size, p id → H[id]? = some k → ¬ k.mode.gone → ι id = some (.blk b cap size) → ¬ M' b)
    {x : C} {y : T} (h : VX H p x y) : ∀ {v : Value}, RC w ι M x v → RT w M' y v := by
  induction h with
  | vc h => intro v hr; exact VC.rt hH hM hp _ _ _ h hr
  | @own id lo len app size k rows hpi hk hd hs hl hw g hc hx ih =>
    intro v hr
    cases hr with
    | @own _ _ _ _ b cap sz A cap' hi q1 q2 q3 q4 q5 =>
      subst hl
      have hbr := hH.blk id k hk (fun e => hd (by rw [e]; trivial)) _ hi
      obtain ⟨r1, r2, r3, r4, r5, cur, r6, r7, r8⟩ := hbr
      have hnm := hp id k b cap sz hpi hk hd hi
      have hse : sz = size := by rw [← hs, r1]
      subst hse
      have hat : ∀ (i j : Nat) (c : T), at2 rows i j = some c → ∃ u, cur[(lo + i) * sz + j]? = some u ∧ RT w M' c u := fun i j c hij => by
        obtain ⟨u, t1, t2⟩ := r8 _ _ _ (hc i j c hij)
        exact ⟨u, t1, ih i j c hij t2⟩
      refine .sl (b := b) (off := lo * sz) (fun i j => cur.getD ((lo + i) * sz + j) undef) hw q3 q4 (by intro h; cases h) (by intro h; cases h) (fun hne => q2 (List.length_pos_iff.2 hne)) ?_ ?_
      · intro i j c hc'
        obtain ⟨u, s1, s2⟩ := hat i j c hc'
        refine ⟨?_, hnm⟩
        have e : lo * sz + (i * sz + j) = (lo + i) * sz + j := by rw [Nat.add_mul, Nat.add_assoc]
        simp only [World.cell?]
        rw [r6, e]
        simp [s1]
      · intro i j c hc'
        obtain ⟨u, s1, s2⟩ := hat i j c hc'
        have : cur.getD ((lo + i) * sz + j) undef = u := by simp [s1]
        rw [this]; exact s2
    | nil hi =>
      have hr0 : rows = [] := List.eq_nil_of_length_eq_zero hl
      subst hr0
      exact .sl (b := 0) (off := 0) (fun _ _ => undef) (by simp) (by simp) (by unfold maxLen; omega) (by simp) (by simp) (by simp) (by simp [at2]) (by simp [at2])

/-- arguments seen as data, nested blocks too -/
def VXS (H : Hp) (p : Nat → Prop) (s s' : S) : Prop :=
  (∃ x y, s = .c x ∧ s' = .c (.t y) ∧ VX H p x y) ∨ VS H p s s'
def VXArgs (H : Hp) (p : Nat → Prop) : List S → List S → Prop
  | [], [] => True
  | s :: r, s' :: r' => VXS H p s s' ∧ VXArgs H p r r'
  | _, _ => False
theorem VXArgs.get {H : Hp} {p : Nat → Prop} : ∀ {l l' : List S}, VXArgs H p l l' → l.length = l'.length ∧ ∀ (j : Nat) (s' : S), l'[j]? = some s' → ∃ s, l[j]? = some s ∧ VXS H p s s'
  | [], [], _ => ⟨rfl, by simp⟩
  | s :: r, s' :: r', h => by
    obtain ⟨h1, h2⟩ := VXArgs.get h.2
    refine ⟨by simp [h1], fun j t ht => ?_⟩
    cases j with
    | zero => simp at ht; subst ht; exact ⟨s, rfl, h.1⟩
    | succ j => simpa using h2 j t (by simpa using ht)
  | [], _ :: _, h => h.elim
  | _ :: _, [], h => h.elim
/-- a function at data, called at what may be viewed as such, nested blocks too; a flat result -/
theorem qcall_viewX {P : Program} {g : FuncId} {args args' : List S} {H : Hp} {r : S} (h : ACall P g args' [] r []) (ha : VXArgs H (fun _ => True) args args') (hr : r.flat = true) : QCall P g args H r [] := by
  refine ⟨h.1, fun w ι M vals hl hv hH hM hf => ?_⟩
  obtain ⟨hlen, hget⟩ := VXArgs.get ha
  have := h.2 w (fun _ => none) (fun _ => False) vals (by omega) (fun j s hj => by
    obtain ⟨x, hx, hs⟩ := hget j s hj
    have hr := hv j x hx
    rcases hs with ⟨x', y, rfl, rfl, hvx⟩ | hs
    · cases hr with
      | c hr => exact .c (.t (hvx.rt hH (fun _ h => h.elim) (fun _ _ _ _ _ _ _ _ _ h => h) hr))
    · exact hs.rs hH (fun _ h => h.elim) (fun _ _ _ _ _ _ _ _ _ h => h) hr)
    .none (fun _ h => h.elim) (fun _ _ => rfl)
  refine Calls.mono this ?_
  rintro e w' ⟨v, rfl, ι', M', h1, h2, h3, h4, h5⟩
  exact ⟨v, rfl, QPost.of_none (h1.flat hr) ⟨h5.os, h5.tape, h5.output, h5.size, fun b hb => h5.keep b hb (by rintro ⟨id, k, _, _, hk, _⟩; simp at hk)⟩⟩

theorem range_getD {n i : Nat} (h : i < n) : (List.range n).getD i 0 = i := by simp [h]
mutual
theorem renC_range {n : Nat} : ∀ c : C, okC n c = true → renC (List.range n) c = c
  | .t x, _ => by simp [renC]
  | .ptr id r o, h => by simp only [renC]; rw [range_getD (by simpa [okC] using h)]
  | .own id lo len app, h => by simp only [renC]; rw [range_getD (by simpa [okC] using h)]
  | .fn f caps, h => by simp only [renC]; rw [renL_range caps (by simpa [okC] using h)]
theorem renL_range {n : Nat} : ∀ l : List C, okL n l = true → renL (List.range n) l = l
  | [], _ => by simp [renL]
  | c :: r, h => by
    simp only [okL, Bool.and_eq_true] at h
    simp only [renL]
    rw [renC_range c h.1, renL_range r h.2]
end
theorem renS_range {n : Nat} {s : S} (h : okS n s = true) : renS (List.range n) s = s := by
  cases s with
  | junk => rfl
  | c x => simp only [renS]; rw [renC_range x h]
  | agg cs => simp only [renS]; rw [renL_range cs h]
  | tup ss => simp [okS] at h
theorem okL_of {n : Nat} : ∀ {l : List C}, (∀ c ∈ l, match c with | .t _ => True | .ptr id _ _ => id < n | .own id _ _ _ => id < n | .fn _ _ => False) → okL n l = true
  | [], _ => by simp [okL]
  | c :: r, h => by
    simp only [okL, Bool.and_eq_true]
    refine ⟨?_, okL_of fun c hc => h c (by simp [hc])⟩
    have h0 := h c (by simp)
    cases c with
    | t x => simp [okC]
    | ptr id r o => simp only [okC]; exact Nat.blt_eq ▸ h0
    | own id lo len app => simp only [okC]; exact Nat.blt_eq ▸ h0
    | fn f caps => exact h0.elim
theorem renB_range {n : Nat} {k : Blk} (h : okB n k) : RenB (List.range n) k k := by
  refine ⟨rfl, rfl, rfl, rfl, ?_⟩
  unfold renR
  rw [List.map_congr_left (g := id) fun r hr => renL_range r (okL_of (h r hr))]
  simp
theorem renL_isT {σ : List Nat} {l : List C} (h : l.all C.isT = true) : renL σ l = l := by
  rw [renL_eq]
  conv => rhs; rw [← List.map_id l]
  exact List.map_congr_left fun c hc => renC_isT (List.all_eq_true.1 h c hc)
/-- a call over the first blocks, which it may write -/
theorem acall_first {P : Program} {g : FuncId} {args : List S} {Hs Hs' : Hp} {r : S} {n : Nat} (T : Hp) (h : ACall P g args Hs r Hs') (hn : Hs.length = n) (hn' : Hs'.length = n) (hok : args.all (okS n) = true)
    (hin : ∀ k ∈ Hs, k.mode = .live ∧ k.app = false ∧ okB n k) (hout : ∀ k ∈ Hs', k.mode ≠ .old ∧ okB n k) (hr : flatT r = true) (hr' : r.isT = true) : ACall P g args (Hs ++ T) r (Hs' ++ T) := by
  have e0 : Hs'.length - Hs.length = 0 := by omega
  have ex : ∀ m, extR (List.range n) m (Hs'.length - Hs.length) = List.range n := fun m => by rw [e0]; simp [extR]
  have hargs : args = args.map (renS (List.range n)) := by
    conv => lhs; rw [← List.map_id args]
    exact List.map_congr_left fun s hs => (renS_range (List.all_eq_true.1 hok s hs)).symm
  refine acall_frame (List.range n) h hargs (by simpa using hok) (by simp [hn]) List.nodup_range ?_ (fun k hk => (hout k hk).1) (by omega) hr ?_ (by simp; omega) ?_ ?_
  · intro i k hk
    have hi : i < n := by rw [← hn]; exact (List.getElem?_eq_some_iff.1 hk).1
    obtain ⟨h1, h2, h3⟩ := hin k (List.mem_of_getElem? hk)
    refine ⟨h1, h2, fun r hr => by rw [List.length_range]; exact okL_of (h3 r hr), k, ?_, renB_range h3⟩
    rw [range_getD hi, List.getElem?_append_left (by omega), hk]
  · rw [ex]
    cases r with
    | junk => rfl
    | c x => simp only [renS]; rw [renC_isT hr']
    | agg cs =>
      simp only [renS]
      rw [renL_isT hr']
    | tup ss =>
      simp only [renS]
      congr 1
      conv => lhs; rw [← List.map_id ss]
      refine List.map_congr_left fun s hs => ?_
      have h1 := List.all_eq_true.1 hr' s hs
      cases s with
      | junk => rfl
      | c x => simp only [id]; rw [renC_isT h1]
      | agg cs =>
        simp only [id]
        rw [renL_isT h1]
      | tup ss => rfl
  · intro i k hk
    have hi : i < n := by rw [← hn']; exact (List.getElem?_eq_some_iff.1 hk).1
    obtain ⟨h1, h3⟩ := hout k (List.mem_of_getElem? hk)
    rw [ex]
    exact ⟨k, by rw [range_getD hi, List.getElem?_append_left (by omega), hk], renB_range h3⟩
  · intro j hj hnj
    have : n ≤ j := by
      rcases Nat.lt_or_ge j n with h | h
      · exact absurd (List.mem_range.2 h) hnj
      · exact h
    rw [List.getElem?_append_right (by omega), List.getElem?_append_right (by omega), hn, hn']
end Go.Proofs.YthinjkjhiembgaaGreat
/- history: none, carry, taken. -/
namespace Go.Proofs.YthinjkjhiembgaaGreat
open Go.RowKit
set_option linter.unusedVariables false
set_option linter.unusedSimpArgs false
set_option maxRecDepth 100000

def rowF (w : Nat) (g : Nat → Rat) : List Fr := (List.range w).map fun m => fz (g m)
def matF (N w : Nat) (f : Nat → Nat → Rat) : List (List Fr) := (List.range N).map fun p => rowF w (f p)
theorem rowF_len (w : Nat) (g : Nat → Rat) : (rowF w g).length = w := by simp [rowF]
theorem matF_len (N w : Nat) (f : Nat → Nat → Rat) : (matF N w f).length = N := by simp [matF]
theorem rowF_get {w : Nat} {g : Nat → Rat} {m : Nat} (h : m < w) : (rowF w g)[m]? = some (fz (g m)) := by simp [rowF, h]
theorem matF_get {N w : Nat} {f : Nat → Nat → Rat} {p : Nat} (h : p < N) : (matF N w f)[p]? = some (rowF w (f p)) := by simp [matF, h]
theorem rowF_set {w : Nat} {g : Nat → Rat} {m : Nat} {v : Rat} (h : m < w) : (rowF w g).set m (fz v) = rowF w (fun j => if j = m then v else g j) := by
  apply List.ext_getElem?
  intro j
  by_cases hj : j < w
  · rw [rowF_get hj, List.getElem?_set, rowF_len]
    by_cases hjm : m = j
    · subst hjm; simp [h]
    · rw [if_neg hjm, rowF_get hj, if_neg (by omega)]
  · rw [List.getElem?_eq_none (by simp [rowF_len]; omega), List.getElem?_eq_none (by simp [rowF_len]; omega)]
theorem matF_set {N w : Nat} {f : Nat → Nat → Rat} {p : Nat} {g : Nat → Rat} (h : p < N) : (matF N w f).set p (rowF w g) = matF N w (fun q => if q = p then g else f q) := by
  apply List.ext_getElem?
  intro j
  by_cases hj : j < N
  · rw [matF_get hj, List.getElem?_set, matF_len]
    by_cases hjm : p = j
    · subst hjm; simp [h]
    · rw [if_neg hjm, matF_get hj, if_neg (by omega)]
  · rw [List.getElem?_eq_none (by simp [matF_len]; omega), List.getElem?_eq_none (by simp [matF_len]; omega)]
def ownRows (N w : Nat) : List (List C) := (List.range N).map fun j => [C.own (j + 1) 0 w true]
abbrev matB (N w : Nat) : Blk := { mode := .live, elem := 44, size := 1, rows := ownRows N w, box := false }
abbrev rowB (l : List Fr) : Blk := { mode := .live, elem := 37, size := 4, rows := toC (l.map frRow), box := false }
abbrev matH (N w : Nat) (f : Nat → Nat → Rat) : Hp := matB N w :: (matF N w f).map rowB
theorem ex_ownRow {N w i : Nat} {K : List C → Prop} (h : i < N) (k : K [C.own (i + 1) 0 w true]) : ∃ row, (ownRows N w)[i]? = some row ∧ K row := ⟨_, by simp [ownRows, h], k⟩
theorem ok_matB {N w : Nat} : okB (N + 1) (matB N w) := by
  intro r hr c hc
  obtain ⟨j, hj, rfl⟩ := List.mem_map.1 hr
  simp at hc
  subst hc
  have := List.mem_range.1 hj
  simp only
  omega
theorem ok_matH {N w : Nat} {f : Nat → Nat → Rat} : ∀ k ∈ matH N w f, okB (N + 1) k := by
  intro k hk
  rcases List.mem_cons.1 hk with rfl | hk
  · exact ok_matB
  · obtain ⟨l, _, rfl⟩ := List.mem_map.1 hk
    exact okB_toC rfl
theorem matH_len {N w : Nat} {f : Nat → Nat → Rat} : (matH N w f).length = N + 1 := by simp [matF_len]
theorem ex_ownRowE {N w i s : Nat} {K : List C → Prop} (e : i = s) (h : s < N) (k : K [C.own (s + 1) 0 w true]) : ∃ row, (ownRows N w)[i]? = some row ∧ K row := by subst e; exact ex_ownRow h k
theorem rowB_set {row : List Fr} {i n : Nat} {y : Fr} (h : n = i) : setRows (rowB row) ((toC (row.map frRow)).set n (frC y)) = rowB (row.set i y) := by
  subst h
  unfold setRows
  simp [toC, List.map_set, frRow]
def upTo (k : Nat) (f g : Nat → Nat → Rat) : Nat → Nat → Rat := fun p m => if m < k then g p m else f p m

theorem a_carry (N w : Nat) (f : Nat → Nat → Rat) (x : Move) (l : List Rat) (hl : l.length = w) (hw : w ≤ 1000) (s d : Nat) (hs : x.src = s) (hd : x.dst = d) (hsN : s < N) (hdN : d < N) (hsd : s ≠ d) (hB : ∀ x ∈ l, rl x ≤ 200) (hF : ∀ p m, rl (f p m) ≤ 50000) :
    ACall Tryz.prog 33 [.c (.own 0 0 N true), moveS x, fracsS (l.map fz)] (matH N w f) (.tup []) (matH N w (carryF x (fun m => l.getD m 0) f)) := by
  have m1 : ((l.map fz).map frRow).length = l.length := by simp
  (refine acall_of tab_ok Tryz.func33 rfl (by decide) ?_; (conv => whnf); repeat (first | (refine LitB.data ?_; conv => whnf) | (refine BoxB.data ?_; conv => whnf)))
  (repeat' (first | ((refine DecB.mk (fun h => ?_) (fun h => ?_)) <;> first | (exfalso; omega) | (conv => whnf)) | ((refine BoolB.mk (fun h => ?_) (fun h => ?_)) <;> first | (exact absurd h (by decide)) | (conv => whnf)) | (refine ⟨_, wrap_ok (by omega) (by omega), ?_⟩; conv => whnf) | (refine and_idx (by omega) (by omega) ?_; conv => whnf) | (refine reg_ok (by decide +kernel) ?_; conv => whnf) | (refine bar_ok (by decide +kernel) (by decide +kernel) ?_; conv => whnf) | (refine late_ok rfl rfl ?_; conv => whnf) | (refine src_ok rfl ?_; conv => whnf) | (refine BoxB.data ?_; conv => whnf) | (refine lenK_map (matF_len _ _ _) ?_; conv => whnf) | (refine appK_nil ?_; conv => whnf) | (refine LitB.data ?_; conv => whnf) | (refine BoxB.own ?_; conv => whnf)))
  let v : Nat → Rat := fun m => l.getD m 0
  have e0 : upTo 0 f (carryF x v f) = f := by funext p m; simp [upTo]
  refine awp_for tab_ok (fun k => ([S.c (C.own 0 0 N true), S.junk, S.junk, S.junk, S.c (C.t (T.ptr x.row)), S.junk, S.junk, S.junk, fracsS (l.map fz), intS .i64 l.length, intS .i64 k, S.junk, S.junk, S.junk, S.junk, S.junk, S.junk, S.junk, S.junk, S.junk, S.junk, S.junk, S.junk, S.junk, S.junk, S.junk, S.junk, S.junk, S.junk, S.junk, S.junk, S.junk, S.junk, S.junk, S.junk, S.junk, S.junk, S.junk, S.junk, S.junk, S.junk, S.junk, S.junk, S.junk, S.junk, S.junk, S.junk, S.junk, S.junk, S.junk, S.junk, S.junk, S.junk, S.junk, S.junk, S.junk], matH N w (upTo k f (carryF x v f)))) l.length (fun _ => True) (idR (N + 1)) trivial
    ?_ ?_
  · refine ent_first matH_len ?_ ok_matH (fun i _ => by rw [e0]) ?_
    · simp [matF_len]
    · exact ⟨⟨idR_get (by omega), rfl, rfl, fun h => h⟩, ent_t rfl, ent_t rfl, ent_i (by simp), rfl, trivial⟩
  intro k hk _
  by_cases hlt : k < l.length
  · obtain ⟨y, hy⟩ : ∃ y, l[k]? = some y := ⟨_, List.getElem?_eq_getElem hlt⟩
    have hv : v k = y := by show l.getD k 0 = y; rw [List.getD_eq_getElem?_getD, hy]; rfl
    have by1 := hB y (List.mem_of_getElem? hy)
    have gs : (matF N w (upTo k f (carryF x v f)))[s]? = some (rowF w (upTo k f (carryF x v f) s)) := matF_get hsN
    have gd : (matF N w (upTo k f (carryF x v f)))[d]? = some (rowF w (upTo k f (carryF x v f) d)) := matF_get hdN
    have fs : upTo k f (carryF x v f) s k = f s k := by simp [upTo]
    have fd : upTo k f (carryF x v f) d k = f d k := by simp [upTo]
    have hs2 : x.src.toNat = s := by omega
    have hd2 : x.dst.toNat = d := by omega
    have b1 := hF s k
    have b2 := hF d k
    have sb := z_fSub (f s k) y (by omega) (by omega)
    have ad := z_fAdd (f d k) y (by omega) (by omega)
    have eS : 0 + x.src.toNat = s := by omega
    have eD : 0 + x.dst.toNat = d := by omega
    have xs : (rowF w (upTo k f (carryF x v f) s))[0 + (k : Int).toNat]? = some (fz (f s k)) := by rw [Nat.zero_add, show (k : Int).toNat = k by omega, rowF_get (by omega), fs]
    have xd : (rowF w (upTo k f (carryF x v f) d))[0 + (k : Int).toNat]? = some (fz (f d k)) := by rw [Nat.zero_add, show (k : Int).toNat = k by omega, rowF_get (by omega), fd]
    have gd2 : ∀ r, ((matF N w (upTo k f (carryF x v f))).set s r)[d]? = some (rowF w (upTo k f (carryF x v f) d)) := fun r => by rw [List.getElem?_set_ne hsd]; exact gd
    have lS : s < (matF N w (upTo k f (carryF x v f))).length := by rw [matF_len]; exact hsN
    have lD : ∀ r, d < ((matF N w (upTo k f (carryF x v f))).set s r).length := fun r => by rw [List.length_set, matF_len]; exact hdN
    have lE : ∀ r, ((matF N w (upTo k f (carryF x v f))).set s r).length = N := fun r => by rw [List.length_set, matF_len]
    have eK : 0 + (k : Int).toNat = k := by omega
    conv => whnf
    (repeat' (first | ((refine DecB.mk (fun h => ?_) (fun h => ?_)) <;> first | (exfalso; omega) | (conv => whnf)) | ((refine BoolB.mk (fun h => ?_) (fun h => ?_)) <;> first | (exact absurd h (by decide)) | (conv => whnf)) | (refine ⟨_, wrap_ok (by omega) (by omega), ?_⟩; conv => whnf) | (refine and_idx (by omega) (by omega) ?_; conv => whnf) | (refine reg_ok (by decide +kernel) ?_; conv => whnf) | (refine bar_ok (by decide +kernel) (by decide +kernel) ?_; conv => whnf) | (refine late_ok rfl rfl ?_; conv => whnf) | (refine src_ok rfl ?_; conv => whnf) | (refine .inl ⟨_, _, qcall_pure (sb) rfl rfl, ?_⟩; conv => whnf) | (refine .inl ⟨_, _, qcall_pure (ad) rfl rfl, ?_⟩; conv => whnf) | (refine .inl ⟨_, _, qcall_pure (18) rfl rfl, ?_⟩; conv => whnf) | (refine ex_row (zero_get l hy) ?_; conv => whnf) | (refine lenK_map (matF_len _ _ _) ?_; conv => whnf) | (refine appK_nil ?_; conv => whnf) | (refine appK_ok ?_; conv => whnf) | (refine getK_map0 (matF_len _ _ _) ?_; conv => whnf) | (refine getK_map0 (lE _) ?_; conv => whnf) | (refine setK_map0 (matF_len _ _ _) ?_; conv => whnf) | (refine ex_ownRowE eS hsN ?_; conv => whnf) | (refine ex_ownRowE eD hdN ?_; conv => whnf) | (refine getK_mapA gs ?_; conv => whnf) | (refine getK_mapA (gd2 _) ?_; conv => whnf) | (refine ex_own xs ?_; conv => whnf) | (refine ex_own xd ?_; conv => whnf) | (refine setK_mapA lS (rowB_set (y := fz (f s k - y)) eK) ?_; conv => whnf) | (refine setK_mapA (lD _) (rowB_set (y := fz (f d k + y)) eK) ?_; conv => whnf) | (refine bar_late [18] (by decide +kernel) (by decide +kernel) ?_; conv => whnf) | (refine LitB.data ?_; conv => whnf) | (refine BoxB.own ?_; conv => whnf)))
    · have eM : ((matF N w (upTo k f (carryF x v f))).set s ((rowF w (upTo k f (carryF x v f) s)).set k (fz (f s k - y)))).set d ((rowF w (upTo k f (carryF x v f) d)).set k (fz (f d k + y))) = matF N w (upTo (k + 1) f (carryF x v f)) := by
        rw [rowF_set (by omega), rowF_set (by omega), matF_set hsN, matF_set hdN]
        congr 1
        funext p m
        have c1 : (x.src = (p : Int)) ↔ p = s := by omega
        have c2 : (x.dst = (p : Int)) ↔ p = d := by omega
        have cF : carryF x v f p m = if p = s then f p m - v m else if p = d then f p m + v m else f p m := by unfold carryF; simp only [c1, c2]
        have hds : d ≠ s := fun h => hsd h.symm
        simp only [upTo] at *
        by_cases hp : p = d
        · subst hp
          rw [if_neg hds, if_pos rfl] at cF
          rw [if_pos rfl, cF]
          rcases Nat.lt_trichotomy m k with h | h | h
          · rw [if_neg (by omega), if_pos h, if_pos (by omega)]
          · subst h; rw [if_pos rfl, if_pos (by omega), hv]
          · rw [if_neg (by omega), if_neg (by omega), if_neg (by omega)]
        · rw [if_neg hp]
          by_cases hp2 : p = s
          · subst hp2
            rw [if_pos rfl] at cF
            rw [if_pos rfl, cF]
            rcases Nat.lt_trichotomy m k with h | h | h
            · rw [if_neg (by omega), if_pos h, if_pos (by omega)]
            · subst h; rw [if_pos rfl, if_pos (by omega), hv]
            · rw [if_neg (by omega), if_neg (by omega), if_neg (by omega)]
          · rw [if_neg hp2, if_neg hp] at cF
            rw [if_neg hp2, cF]
            simp only [ite_self]
            unfold upTo
            rw [cF]; simp
      rw [eM]
      refine ⟨hlt, trivial, idR (N + 1), ent_firstA matH_len ?_ ok_matH ?_⟩
      · simp [matF_len]
      · exact ⟨⟨idR_get (by omega), rfl, rfl, fun h => h⟩, rfl, rfl, rfl, rfl, trivial⟩
    all_goals (exfalso; omega)
  · have hke : k = l.length := by omega
    subst hke
    have eM : matF N w (upTo l.length f (carryF x v f)) = matF N w (carryF x v f) := by
      unfold matF rowF
      refine List.map_congr_left fun p _ => List.map_congr_left fun m hm => ?_
      have := List.mem_range.1 hm
      simp only [upTo]
      rw [if_pos (by omega)]
    conv => whnf
    (repeat' (first | ((refine DecB.mk (fun h => ?_) (fun h => ?_)) <;> first | (exfalso; omega) | (conv => whnf)) | ((refine BoolB.mk (fun h => ?_) (fun h => ?_)) <;> first | (exact absurd h (by decide)) | (conv => whnf)) | (refine ⟨_, wrap_ok (by omega) (by omega), ?_⟩; conv => whnf) | (refine and_idx (by omega) (by omega) ?_; conv => whnf) | (refine reg_ok (by decide +kernel) ?_; conv => whnf) | (refine bar_ok (by decide +kernel) (by decide +kernel) ?_; conv => whnf) | (refine late_ok rfl rfl ?_; conv => whnf) | (refine src_ok rfl ?_; conv => whnf) | (refine appK_nil ?_; conv => whnf) | (refine LitB.data ?_; conv => whnf) | (refine BoxB.own ?_; conv => whnf)))
    all_goals try (exfalso; omega)
    · refine fin_first (H' := matH N w (carryF x v f)) (n := N + 1) matH_len ?_ ok_matH ?_ ?_
      · simp [matF_len]
      · intro i _; rw [eM]
      · exact trivial
theorem a_taken (e : Ev) (x : Move) (N w : Nat) (f : Nat → Nat → Rat) (l : List Rat) (hl : l.length = w) (hw : w ≤ 1000) (s : Nat) (hs : x.src = s) (hsN : s < N) (p : Place) (hp : e.places[s]? = some p) (hB : ∀ x ∈ l, rl x ≤ 200) (hF : ∀ p m, rl (f p m) ≤ 50000) :
    ACall Tryz.prog 29 [histS (matF N w f), evS e, moveS x, fracsS (l.map fz)] [] (intS .i64 (takenE e f x l)) [] := by
  have m1 : ((l.map fz).map frRow).length = l.length := by simp
  have hk : kindAt e x.src = p.kind := by rw [hs]; exact kindAt_of hp
  have hsn : x.src.toNat = s := by omega
  unfold takenE
  rw [hk, hsn]
  by_cases hb : p.kind = 0
  · rw [if_pos hb]
    (refine acall_of tab_ok Tryz.func29 rfl (by decide) ?_; (conv => whnf); repeat (first | (refine LitB.data ?_; conv => whnf) | (refine BoxB.data ?_; conv => whnf)))
    (repeat' (first | ((refine DecB.mk (fun h => ?_) (fun h => ?_)) <;> first | (exfalso; omega) | (conv => whnf)) | ((refine BoolB.mk (fun h => ?_) (fun h => ?_)) <;> first | (exact absurd h (by decide)) | (conv => whnf)) | (refine ⟨_, wrap_ok (by omega) (by omega), ?_⟩; conv => whnf) | (refine and_idx (by omega) (by omega) ?_; conv => whnf) | (refine reg_ok (by decide +kernel) ?_; conv => whnf) | (refine bar_ok (by decide +kernel) (by decide +kernel) ?_; conv => whnf) | (refine late_ok rfl rfl ?_; conv => whnf) | (refine src_ok rfl ?_; conv => whnf) | (refine ex_rowE (k := s) hs hp ?_; conv => whnf) | (refine LitB.data ?_; conv => whnf) | (refine BoxB.own ?_; conv => whnf)))
    all_goals first
      | (exfalso; omega)
      | exact fin_int rfl
  · rw [if_neg hb]
    (refine acall_of tab_ok Tryz.func29 rfl (by decide) ?_; (conv => whnf); repeat (first | (refine LitB.data ?_; conv => whnf) | (refine BoxB.data ?_; conv => whnf)))
    (repeat' (first | ((refine DecB.mk (fun h => ?_) (fun h => ?_)) <;> first | (exfalso; omega) | (conv => whnf)) | ((refine BoolB.mk (fun h => ?_) (fun h => ?_)) <;> first | (exact absurd h (by decide)) | (conv => whnf)) | (refine ⟨_, wrap_ok (by omega) (by omega), ?_⟩; conv => whnf) | (refine and_idx (by omega) (by omega) ?_; conv => whnf) | (refine reg_ok (by decide +kernel) ?_; conv => whnf) | (refine bar_ok (by decide +kernel) (by decide +kernel) ?_; conv => whnf) | (refine late_ok rfl rfl ?_; conv => whnf) | (refine src_ok rfl ?_; conv => whnf) | (refine ex_rowE (k := s) hs hp ?_; conv => whnf) | (refine LitB.data ?_; conv => whnf) | (refine BoxB.own ?_; conv => whnf)))
    refine awp_while tab_ok (σ := Nat × Bool) (fun | (k, rest) => ([histS (matF N w f), S.junk, S.junk, S.junk, S.junk, S.junk, S.c (C.t (T.ptr x.row)), S.junk, S.junk, boolS rest, S.junk, S.junk, S.junk, S.junk, S.junk, S.junk, S.junk, S.junk, S.junk, S.junk, fracsS (l.map fz), intS .i64 l.length, intS .i64 k, S.junk, S.junk, S.junk, S.junk, S.junk, S.junk, S.junk, S.junk, S.junk, S.junk, S.junk, S.junk, S.junk, S.junk, S.junk, S.junk, S.junk, S.junk, S.junk, S.junk, S.junk, S.junk, S.junk, S.junk], [])) (fun σ => σ.1 ≤ l.length ∧ takenF (f s) x.all (l.drop σ.1) σ.1 σ.2 = takenF (f s) x.all l 0 false) (fun σ => l.length - σ.1) (0, false) []
      ⟨Nat.zero_le _, rfl⟩ ⟨rfl, rfl, trivial, ⟨ent_t rfl, ent_t rfl, rfl, ent_t rfl, ent_i (by simp), rfl, trivial⟩⟩ ?_
    rintro ⟨k, rest⟩ ⟨hk, hI⟩
    have hk : k ≤ l.length := hk
    have hI : takenF (f s) x.all (l.drop k) k rest = takenF (f s) x.all l 0 false := hI
    by_cases hlt : k < l.length
    · obtain ⟨y, hy⟩ : ∃ y, l[k]? = some y := ⟨_, List.getElem?_eq_getElem hlt⟩
      have hd : l.drop k = y :: l.drop (k + 1) := by
        rw [List.drop_eq_getElem_cons hlt]
        rw [List.getElem?_eq_getElem hlt] at hy
        injection hy with hy
        rw [hy]
      have by1 := hB y (List.mem_of_getElem? hy)
      have b1 := hF s k
      have c := z_fCompare y (f s k) (by omega) (by omega)
      have cl := cmpR_lt (x := y) (y := f s k)
      have cg := cmpR_lt' (x := y) (y := f s k)
      have cr := cmpR_rng y (f s k)
      have gs : (matF N w f)[s]? = some (rowF w (f s)) := matF_get hsN
      have gk : (rowF w (f s))[k]? = some (fz (f s k)) := rowF_get (by omega)
      rw [hd] at hI
      have hI : (if f s k < y then 4 else takenF (f s) x.all (l.drop (k + 1)) (k + 1) (rest || decide (y < f s k))) = takenF (f s) x.all l 0 false := hI
      conv => whnf
      (repeat' (first | ((refine DecB.mk (fun h => ?_) (fun h => ?_)) <;> first | (exfalso; omega) | (conv => whnf)) | ((refine BoolB.mk (fun h => ?_) (fun h => ?_)) <;> first | (exact absurd h (by decide)) | (conv => whnf)) | (refine ⟨_, wrap_ok (by omega) (by omega), ?_⟩; conv => whnf) | (refine and_idx (by omega) (by omega) ?_; conv => whnf) | (refine reg_ok (by decide +kernel) ?_; conv => whnf) | (refine bar_ok (by decide +kernel) (by decide +kernel) ?_; conv => whnf) | (refine late_ok rfl rfl ?_; conv => whnf) | (refine src_ok rfl ?_; conv => whnf) | (refine .inl ⟨_, _, qcall_pure (c) rfl rfl, ?_⟩; conv => whnf) | (refine ex_row (zero_get l hy) ?_; conv => whnf) | (refine ex_rowE (k := s) hs gs ?_; conv => whnf) | (refine ex_row gk ?_; conv => whnf) | (refine LitB.data ?_; conv => whnf) | (refine BoxB.own ?_; conv => whnf)))
      · have h1 : f s k < y := cg.1 (by omega)
        exact fin_int (by rw [← hI, if_pos h1])
      · have h1 : y < f s k := cl.1 (by omega)
        have h2 : ¬ f s k < y := fun h => by have := cg.2 h; omega
        rw [if_neg h2, show (rest || decide (y < f s k)) = true by simp [h1]] at hI
        exact ⟨[], (k + 1, true), ⟨rfl, rfl, trivial, ⟨rfl, rfl, rfl, rfl, rfl, ent_i (by omega), trivial⟩⟩, ⟨hlt, hI⟩, by show l.length - (k + 1) < l.length - k; omega⟩
      · have h1 : ¬ y < f s k := fun h => by have := cl.2 h; omega
        have h2 : ¬ f s k < y := fun h => by have := cg.2 h; omega
        rw [if_neg h2, show (rest || decide (y < f s k)) = rest by simp [h1]] at hI
        exact ⟨[], (k + 1, rest), ⟨rfl, rfl, trivial, ⟨rfl, rfl, rfl, rfl, rfl, ent_i (by omega), trivial⟩⟩, ⟨hlt, hI⟩, by show l.length - (k + 1) < l.length - k; omega⟩
    · have hke : k = l.length := by omega
      subst hke
      rw [List.drop_of_length_le (Nat.le_refl _)] at hI
      have hI : (if rest && x.all then 7 else 0) = takenF (f s) x.all l 0 false := hI
      cases rest <;> cases hxa : x.all <;> rw [hxa] at hI <;>
      · conv => whnf
        (repeat' (first | ((refine DecB.mk (fun h => ?_) (fun h => ?_)) <;> first | (exfalso; omega) | (conv => whnf)) | ((refine BoolB.mk (fun h => ?_) (fun h => ?_)) <;> first | (exact absurd h (by decide)) | (conv => whnf)) | (refine ⟨_, wrap_ok (by omega) (by omega), ?_⟩; conv => whnf) | (refine and_idx (by omega) (by omega) ?_; conv => whnf) | (refine reg_ok (by decide +kernel) ?_; conv => whnf) | (refine bar_ok (by decide +kernel) (by decide +kernel) ?_; conv => whnf) | (refine late_ok rfl rfl ?_; conv => whnf) | (refine src_ok rfl ?_; conv => whnf) | (refine LitB.data ?_; conv => whnf) | (refine BoxB.own ?_; conv => whnf)))
        all_goals first
          | (exfalso; omega)
          | (exfalso; simp_all; done)
          | exact fin_int (by rw [← hI]; rfl)
end Go.Proofs.YthinjkjhiembgaaGreat
/- history: none. -/
namespace Go.Proofs.YthinjkjhiembgaaGreat
open Go.RowKit
set_option linter.unusedVariables false
set_option linter.unusedSimpArgs false
set_option maxRecDepth 100000

def noneRows (k N w : Nat) : List (List C) := (List.range N).map fun j => if j < k then [C.own (j + 1) 0 w true] else [C.t (.sl 0 .nil [])]
abbrev noneB (k N w : Nat) : Blk := { mode := .live, elem := 44, size := 1, rows := noneRows k N w, box := false }
theorem noneRows_len (k N w : Nat) : (noneRows k N w).length = N := by simp [noneRows]
theorem noneRows_get {k N w j : Nat} (h : j < N) : (noneRows k N w)[j]? = some (if j < k then [C.own (j + 1) 0 w true] else [C.t (.sl 0 .nil [])]) := by simp [noneRows, h]
theorem noneRows_set {k N w : Nat} (h : k < N) : (noneRows k N w).set k [C.own (k + 1) 0 w true] = noneRows (k + 1) N w := by
  apply List.ext_getElem?
  intro j
  by_cases hj : j < N
  · rw [noneRows_get hj, List.getElem?_set, noneRows_len]
    by_cases hjk : k = j
    · subst hjk; simp [h]
    · rw [if_neg hjk, noneRows_get hj]
      have : (j < k + 1) ↔ (j < k) := by omega
      simp only [this]
  · rw [List.getElem?_eq_none (by simp [noneRows_len]; omega), List.getElem?_eq_none (by simp [noneRows_len]; omega)]
theorem noneRows_all (N w : Nat) : noneRows N N w = ownRows N w := by
  unfold noneRows ownRows
  refine List.map_congr_left fun j hj => ?_
  rw [if_pos (List.mem_range.1 hj)]
theorem noneRows_none (N w : Nat) : noneRows 0 N w = List.replicate N [C.t (.sl 0 .nil [])] := by
  apply List.ext_getElem?
  intro j
  by_cases hj : j < N
  · rw [noneRows_get hj]; simp [hj]
  · rw [List.getElem?_eq_none (by simp [noneRows_len]; omega), List.getElem?_eq_none (by simp; omega)]
abbrev zR : Rat := ((0 : Int) : Rat)
def partF (m w : Nat) : List Fr := (List.range w).map fun j => if j < m then fz zR else zeroF
theorem partF_len (m w : Nat) : (partF m w).length = w := by simp [partF]
theorem partF_get {m w j : Nat} (h : j < w) : (partF m w)[j]? = some (if j < m then fz zR else zeroF) := by simp [partF, h]
theorem partF_set {m w : Nat} (h : m < w) : (partF m w).set m (fz zR) = partF (m + 1) w := by
  apply List.ext_getElem?
  intro j
  by_cases hj : j < w
  · rw [partF_get hj, List.getElem?_set, partF_len]
    by_cases hjk : m = j
    · subst hjk; simp [h]
    · rw [if_neg hjk, partF_get hj]
      have : (j < m + 1) ↔ (j < m) := by omega
      simp only [this]
  · rw [List.getElem?_eq_none (by simp [partF_len]; omega), List.getElem?_eq_none (by simp [partF_len]; omega)]
theorem partF_all (w : Nat) : partF w w = rowF w (fun _ => zR) := by
  unfold partF rowF
  refine List.map_congr_left fun j hj => ?_
  rw [if_pos (List.mem_range.1 hj)]
theorem partF_zero (w : Nat) : partF 0 w = List.replicate w zeroF := by
  apply List.ext_getElem?
  intro j
  by_cases hj : j < w
  · rw [partF_get hj]; simp [hj]
  · rw [List.getElem?_eq_none (by simp [partF_len]; omega), List.getElem?_eq_none (by simp; omega)]
abbrev zRows (k w : Nat) : List (List Fr) := List.replicate k (rowF w fun _ => zR)
theorem zRows_all (N w : Nat) : zRows N w = matF N w (fun _ _ => zR) := by
  apply List.ext_getElem?
  intro j
  by_cases hj : j < N
  · rw [matF_get hj]; simp [hj]
  · rw [List.getElem?_eq_none (by simp; omega), List.getElem?_eq_none (by simp [matF_len]; omega)]
theorem zRows_len (k w : Nat) : (zRows k w).length = k := by simp
abbrev noneH (k N w : Nat) : Hp := noneB k N w :: (zRows k w).map rowB
theorem ok_noneB {k N w : Nat} (n : Nat) (h : k + 1 ≤ n) : okB n (noneB k N w) := by
  intro r hr c hc
  obtain ⟨j, hj, rfl⟩ := List.mem_map.1 hr
  by_cases hjk : j < k
  · rw [if_pos hjk] at hc; simp at hc; subst hc; show j + 1 < n; omega
  · rw [if_neg hjk] at hc; simp at hc; subst hc; trivial
theorem ok_noneH {k N w : Nat} : ∀ b ∈ noneH k N w, okB (k + 1) b := by
  intro b hb
  rcases List.mem_cons.1 hb with rfl | hb
  · exact ok_noneB _ (Nat.le_refl _)
  · obtain ⟨l, _, rfl⟩ := List.mem_map.1 hb
    exact okB_toC rfl
theorem noneH_len {k N w : Nat} : (noneH k N w).length = k + 1 := by simp
theorem a_none (e : Ev) (N w : Nat) (hN : e.places.length = N) (hw : e.mats = w) (hN1 : N ≤ 1000) (hw1 : w ≤ 1000) :
    ACall Tryz.prog 27 [evS e] [] (.c (.own 0 0 N true)) (matH N w fun _ _ => zR) := by
  have m1 : (e.places.map Place.row).length = N := by simp [hN]
  have i0 := z_fInt 0 (by decide) (by decide)
  have hwn : e.mats.toNat = w := by omega
  (refine acall_of tab_ok Tryz.func27 rfl (by decide) ?_; (conv => whnf); repeat (first | (refine LitB.data ?_; conv => whnf) | (refine BoxB.data ?_; conv => whnf)))
  (repeat' (first | ((refine DecB.mk (fun h => ?_) (fun h => ?_)) <;> first | (exfalso; omega) | (conv => whnf)) | ((refine BoolB.mk (fun h => ?_) (fun h => ?_)) <;> first | (exact absurd h (by decide)) | (conv => whnf)) | (refine ⟨_, wrap_ok (by omega) (by omega), ?_⟩; conv => whnf) | (refine and_idx (by omega) (by omega) ?_; conv => whnf) | (refine reg_ok (by decide +kernel) ?_; conv => whnf) | (refine bar_ok (by decide +kernel) (by decide +kernel) ?_; conv => whnf) | (refine late_ok rfl rfl ?_; conv => whnf) | (refine src_ok rfl ?_; conv => whnf) | (refine mk_ok (by omega) (by omega) (by omega) (by decide) ?_; conv => whnf) | (refine LitB.data ?_; conv => whnf) | (refine BoxB.own ?_; conv => whnf)))
  refine awp_for tab_ok (fun k => ([S.junk, S.c (C.t (T.ptr (evT e))), S.junk, S.c (C.own 0 0 N true), S.junk, S.junk, S.junk, S.junk, S.junk, S.junk, S.junk, intS .i64 N, intS .i64 k, S.junk, S.junk, S.junk, S.junk, S.junk, S.junk, S.junk, S.junk, S.junk, S.junk, S.junk, S.junk, S.junk, S.junk, S.junk, S.junk, S.junk, S.junk, S.junk, S.junk, S.junk, S.junk, S.junk, S.junk, S.junk, S.junk], noneH k N w)) N (fun _ => True) (idR 1) trivial ?_ ?_
  · refine ent_first rfl (by simp) ok_noneH (fun i hi => ?_) ?_
    · obtain rfl : i = 0 := by omega
      rw [show noneH 0 N w = [noneB 0 N w] from rfl]
      unfold noneB
      rw [noneRows_none]
      simp [newBlk, m1]
      exact .inr rfl
    · exact ⟨ent_t rfl, ⟨rfl, rfl, by omega, fun h => h⟩, ent_i (by omega), rfl, trivial⟩
  intro k hk _
  by_cases hlt : k < N
  · conv => whnf
    have gn : (noneB k N w).rows[0 + (k : Int).toNat]? = some [C.t (.sl 0 .nil [])] := by
      show (noneRows k N w)[0 + (k : Int).toNat]? = _
      rw [Nat.zero_add, show (k : Int).toNat = k by omega, noneRows_get hlt, if_neg (by omega)]
    have gn2 : ∀ c, ((noneB k N w).rows.set (0 + (k : Int).toNat) c)[0 + (k : Int).toNat]? = some c := fun c => by
      rw [List.getElem?_set_self]
      show _ < (noneRows k N w).length
      rw [noneRows_len]; omega
    (repeat' (first | ((refine DecB.mk (fun h => ?_) (fun h => ?_)) <;> first | (exfalso; omega) | (conv => whnf)) | ((refine BoolB.mk (fun h => ?_) (fun h => ?_)) <;> first | (exact absurd h (by decide)) | (conv => whnf)) | (refine ⟨_, wrap_ok (by omega) (by omega), ?_⟩; conv => whnf) | (refine and_idx (by omega) (by omega) ?_; conv => whnf) | (refine reg_ok (by decide +kernel) ?_; conv => whnf) | (refine bar_ok (by decide +kernel) (by decide +kernel) ?_; conv => whnf) | (refine late_ok rfl rfl ?_; conv => whnf) | (refine src_ok rfl ?_; conv => whnf) | (refine mk_ok (by omega) (by omega) (by omega) (by decide) ?_; conv => whnf) | (refine lenK_map (zRows_len _ _) ?_; conv => whnf) | (refine appK_nil ?_; conv => whnf) | (refine appK_ok ?_; conv => whnf) | (refine ⟨_, gn, ?_⟩; conv => whnf) | (refine ⟨_, gn2 _, ?_⟩; conv => whnf) | (refine getK_map0 (zRows_len _ _) ?_; conv => whnf) | (refine LitB.data ?_; conv => whnf) | (refine BoxB.own ?_; conv => whnf)))
    refine awp_for tab_ok (fun m => ([S.junk, S.c (C.t (T.ptr (evT e))), S.junk, S.c (C.own 0 0 N true), intS .i64 k, S.junk, S.junk, S.junk, S.junk, S.junk, S.junk, intS .i64 N, intS .i64 k, S.junk, S.junk, S.junk, S.junk, S.junk, S.junk, S.junk, S.junk, S.junk, S.junk, S.junk, S.junk, intS .i64 w, intS .i64 m, S.junk, S.junk, S.junk, S.junk, S.junk, S.junk, S.junk, S.junk, S.junk, S.junk, S.junk, S.junk], noneB (k + 1) N w :: ((zRows k w).map rowB ++ [rowB (partF m w)]))) w (fun _ => True) (idR (k + 2)) trivial ?_ ?_
    · refine ent_mid (by simp) (by simp) ?_ (ok_noneB _ (by omega)) (fun _ => okB_toC rfl) ?_ ?_
      · unfold setRows noneB
        rw [Nat.zero_add, show (k : Int).toNat = k by omega, hwn]
        simp only
        rw [show k + (0 + 1) = k + 1 by omega, noneRows_set hlt]
      · refine ⟨rfl, rfl, rfl, .inr (entR_all ?_ ?_)⟩
        · simp [newBlk, toC, partF_len, hwn]
        · intro i x y hx hy
          simp only [newBlk, List.getElem?_replicate] at hx
          split at hx
          · rename_i hi
            injection hx with hx
            subst hx
            have hy : (toC ((partF 0 w).map frRow))[i]? = some y := hy
            rw [partF_zero] at hy
            simp only [toC, List.map_replicate, List.getElem?_replicate] at hy
            split at hy
            · injection hy with hy
              subst hy
              exact ⟨rfl, rfl, rfl, rfl, trivial⟩
            · cases hy
          · cases hx
      · exact ⟨rfl, ⟨idR_get (by omega), rfl, rfl, fun h => h⟩, rfl, rfl, rfl, ent_i (by omega), rfl, trivial⟩
    intro m hm _
    by_cases hmt : m < w
    · have gk : (noneB (k + 1) N w).rows[0 + (k : Int).toNat]? = some [C.own (k + 1) 0 w true] := by
        show (noneRows (k + 1) N w)[0 + (k : Int).toNat]? = _
        rw [Nat.zero_add, show (k : Int).toNat = k by omega, noneRows_get hlt, if_pos (by omega)]
      obtain ⟨pf, hpf⟩ : ∃ pf, (partF m w)[m]? = some pf := ⟨_, partF_get hmt⟩
      have gp : (partF m w)[0 + (m : Int).toNat]? = some pf := by rw [Nat.zero_add, show (m : Int).toNat = m by omega]; exact hpf
      have eM : 0 + (m : Int).toNat = m := by omega
      conv => whnf
      (repeat' (first | ((refine DecB.mk (fun h => ?_) (fun h => ?_)) <;> first | (exfalso; omega) | (conv => whnf)) | ((refine BoolB.mk (fun h => ?_) (fun h => ?_)) <;> first | (exact absurd h (by decide)) | (conv => whnf)) | (refine ⟨_, wrap_ok (by omega) (by omega), ?_⟩; conv => whnf) | (refine and_idx (by omega) (by omega) ?_; conv => whnf) | (refine reg_ok (by decide +kernel) ?_; conv => whnf) | (refine bar_ok (by decide +kernel) (by decide +kernel) ?_; conv => whnf) | (refine late_ok rfl rfl ?_; conv => whnf) | (refine src_ok rfl ?_; conv => whnf) | (refine .inl ⟨_, _, qcall_pure (i0) rfl rfl, ?_⟩; conv => whnf) | (refine lenK_map (zRows_len _ _) ?_; conv => whnf) | (refine appK_nil ?_; conv => whnf) | (refine appK_ok ?_; conv => whnf) | (refine ⟨_, gk, ?_⟩; conv => whnf) | (refine getK_map0 (zRows_len _ _) ?_; conv => whnf) | (refine ex_own gp ?_; conv => whnf) | (refine setK_map0 (zRows_len _ _) ?_; conv => whnf) | (refine LitB.data ?_; conv => whnf) | (refine BoxB.own ?_; conv => whnf)))
      refine ⟨hmt, trivial, idR (k + 2), ent_mid (by simp) (by simp) rfl (ok_noneB _ (by omega)) (fun _ => okB_toC rfl) ?_ ?_⟩
      · have e := rowB_set (row := partF m w) (y := fz zR) eM
        rw [partF_set hmt] at e
        have e2 : setRows (rowB (partF m w)) ((rowB (partF m w)).rows.set (0 + (m : Int).toNat) (frC (fz zR))) = rowB (partF (m + 1) w) := e
        exact entB_eq e2 (okB_toC rfl)
      · exact ⟨rfl, ⟨idR_get (by omega), rfl, rfl, fun h => h⟩, rfl, rfl, rfl, rfl, rfl, trivial⟩
    · have hme : m = w := by omega
      subst hme
      have eH : (zRows k m).map rowB ++ [rowB (partF m m)] = (zRows (k + 1) m).map rowB := by
        rw [partF_all]; simp [zRows, List.replicate_succ']
      conv => whnf
      (repeat' (first | ((refine DecB.mk (fun h => ?_) (fun h => ?_)) <;> first | (exfalso; omega) | (conv => whnf)) | ((refine BoolB.mk (fun h => ?_) (fun h => ?_)) <;> first | (exact absurd h (by decide)) | (conv => whnf)) | (refine ⟨_, wrap_ok (by omega) (by omega), ?_⟩; conv => whnf) | (refine and_idx (by omega) (by omega) ?_; conv => whnf) | (refine reg_ok (by decide +kernel) ?_; conv => whnf) | (refine bar_ok (by decide +kernel) (by decide +kernel) ?_; conv => whnf) | (refine late_ok rfl rfl ?_; conv => whnf) | (refine src_ok rfl ?_; conv => whnf) | (refine appK_nil ?_; conv => whnf) | (refine LitB.data ?_; conv => whnf) | (refine BoxB.own ?_; conv => whnf)))
      all_goals try (exfalso; omega)
      refine ⟨hlt, trivial, idR (k + 2), ent_first (H' := noneH (k + 1) N m) noneH_len (by simp) ok_noneH (fun i _ => by rw [eH]) ?_⟩
      exact ⟨rfl, ⟨idR_get (by omega), rfl, rfl, fun h => h⟩, rfl, rfl, trivial⟩
  · have hke : k = N := by omega
    subst hke
    conv => whnf
    (repeat' (first | ((refine DecB.mk (fun h => ?_) (fun h => ?_)) <;> first | (exfalso; omega) | (conv => whnf)) | ((refine BoolB.mk (fun h => ?_) (fun h => ?_)) <;> first | (exact absurd h (by decide)) | (conv => whnf)) | (refine ⟨_, wrap_ok (by omega) (by omega), ?_⟩; conv => whnf) | (refine and_idx (by omega) (by omega) ?_; conv => whnf) | (refine reg_ok (by decide +kernel) ?_; conv => whnf) | (refine bar_ok (by decide +kernel) (by decide +kernel) ?_; conv => whnf) | (refine late_ok rfl rfl ?_; conv => whnf) | (refine src_ok rfl ?_; conv => whnf) | (refine appK_nil ?_; conv => whnf) | (refine LitB.data ?_; conv => whnf) | (refine BoxB.own ?_; conv => whnf)))
    all_goals try (exfalso; omega)
    refine fin_first (H' := matH k w fun _ _ => zR) (n := k + 1) matH_len (by simp) ok_matH (fun i _ => ?_) ?_
    · unfold matH
      rw [← zRows_all]
      unfold noneB matB
      rw [noneRows_all]
    · exact ⟨idR_get (by omega), rfl, rfl, fun h => h⟩
end Go.Proofs.YthinjkjhiembgaaGreat
/- history: Check. -/
namespace Go.Proofs.YthinjkjhiembgaaGreat
open Go.RowKit
set_option linter.unusedVariables false
set_option linter.unusedSimpArgs false
set_option maxRecDepth 100000

theorem vx_mat {H : Hp} {p : Nat → Prop} {N w : Nat} {f : Nat → Nat → Rat} {T : Hp} (hH : H = matH N w f ++ T) (hp : ∀ i, p i) : VX H p (.own 0 0 N true) (histT (matF N w f)) := by
  have h0 : H[0]? = some (matB N w) := by rw [hH]; rfl
  have hi : ∀ i, i < N → H[i + 1]? = some (rowB (rowF w (f i))) := fun i h => by
    rw [hH]
    show ((matF N w f).map rowB ++ T)[i]? = _
    rw [List.getElem?_append_left (by simp [matF_len]; exact h), List.getElem?_map, matF_get h]; rfl
  refine .own (k := matB N w) (hp 0) h0 (fun h => h) rfl (by simp [matF_len]) ?_ (fun i _ => .own (i + 1) 0 w true) ?_ ?_
  · intro r hr
    obtain ⟨l, _, rfl⟩ := List.mem_map.1 hr
    rfl
  · intro i j c hc
    obtain ⟨row, h1, h2⟩ := at2_inv hc
    have hil : i < N := by have := (List.getElem?_eq_some_iff.1 h1).1; simpa [matF_len] using this
    rw [List.getElem?_map, matF_get hil] at h1
    injection h1 with h1
    subst h1
    have hj : j = 0 := by have := (List.getElem?_eq_some_iff.1 h2).1; simp [fracsRow] at this; omega
    subst hj
    rw [Nat.zero_add]
    exact at2_some (row := [C.own (i + 1) 0 w true]) (by simp [matB, ownRows, hil]) rfl
  · intro i j c hc
    obtain ⟨row, h1, h2⟩ := at2_inv hc
    have hil : i < N := by have := (List.getElem?_eq_some_iff.1 h1).1; simpa [matF_len] using this
    rw [List.getElem?_map, matF_get hil] at h1
    injection h1 with h1
    subst h1
    have hj : j = 0 := by have := (List.getElem?_eq_some_iff.1 h2).1; simp [fracsRow] at this; omega
    subst hj
    injection h2 with h2
    subst h2
    exact .vc (vc_all (hp _) (hi i hil) (fun h => h) rfl rfl (by simp [rowF_len]))
theorem live_matH {N w : Nat} {f : Nat → Nat → Rat} : ∀ k ∈ matH N w f, k.mode = .live ∧ k.app = false ∧ okB (N + 1) k := by
  intro k hk
  refine ⟨?_, ?_, ok_matH k hk⟩
  · rcases List.mem_cons.1 hk with rfl | hk
    · rfl
    · obtain ⟨l, _, rfl⟩ := List.mem_map.1 hk; rfl
  · rcases List.mem_cons.1 hk with rfl | hk
    · rfl
    · obtain ⟨l, _, rfl⟩ := List.mem_map.1 hk; rfl
theorem old_matH {N w : Nat} {f : Nat → Nat → Rat} : ∀ k ∈ matH N w f, k.mode ≠ .old ∧ okB (N + 1) k := fun k hk => by
  obtain ⟨h1, _, h3⟩ := live_matH k hk
  exact ⟨(by rw [h1]; intro h; cases h), h3⟩
theorem small_rats {n : Nat} {G : List (List Rat)} (h : SmallH n (hz G)) : ∀ l ∈ G, ∀ x ∈ l, rl x ≤ n := by
  intro l hl x hx
  have := h.l3 (l.map fz) (List.mem_map.2 ⟨l, hl, rfl⟩) (fz x) (List.mem_map.2 ⟨x, hx, rfl⟩)
  exact Nat.max_le.2 this
theorem check_bounds {e : Ev} (h : check e = 0) : 1 ≤ e.mats ∧ e.mats ≤ 6 ∧ e.places.length ≤ 100 ∧ e.moves.length ≤ 200 := by
  obtain ⟨h1, h2, _⟩ := check_zero h
  unfold fullB at h1
  simp only [Bool.or_eq_false_iff, decide_eq_false_iff_not] at h1
  omega
theorem hz_get {G : List (List Rat)} {k : Nat} {l : List Rat} (h : G[k]? = some l) : (hz G)[k]? = some (l.map fz) := by simp [hz, h]
set_option maxHeartbeats 4000000 in
theorem a_hCheck (e : Ev) (hh : List (List Fr)) (hs : e.Sized) (hS : SmallH 200 hh) : ACall Tryz.prog 9 [evS e, histS hh] [] (intS .i64 (histCheck e hh)) [] := by
  have ck := a_Check e hs
  have sh := a_shaped e hh ⟨hS.l1, hS.l2, fun l hl f hf => by have := hS.l3 l hl f hf; omega⟩ (by have := hs.s2; omega)
  unfold histCheck
  by_cases h0 : check e ≠ 0
  · rw [if_pos h0]
    (refine acall_of tab_ok Tryz.func9 rfl (by decide) ?_; (conv => whnf); repeat (first | (refine LitB.data ?_; conv => whnf) | (refine BoxB.data ?_; conv => whnf)))
    (repeat' (first | ((refine DecB.mk (fun h => ?_) (fun h => ?_)) <;> first | (exfalso; omega) | (conv => whnf)) | ((refine BoolB.mk (fun h => ?_) (fun h => ?_)) <;> first | (exact absurd h (by decide)) | (conv => whnf)) | (refine ⟨_, wrap_ok (by omega) (by omega), ?_⟩; conv => whnf) | (refine and_idx (by omega) (by omega) ?_; conv => whnf) | (refine reg_ok (by decide +kernel) ?_; conv => whnf) | (refine bar_ok (by decide +kernel) (by decide +kernel) ?_; conv => whnf) | (refine late_ok rfl rfl ?_; conv => whnf) | (refine src_ok rfl ?_; conv => whnf) | (refine .inl ⟨_, _, qcall_pure (ck) rfl rfl, ?_⟩; conv => whnf) | (refine LitB.data ?_; conv => whnf) | (refine BoxB.own ?_; conv => whnf)))
    all_goals first
      | (exfalso; omega)
      | exact fin_int rfl
  rw [if_neg h0]
  have h0 : check e = 0 := by omega
  cases hsb : shapedB e hh with
  | false =>
    rw [hsb] at sh
    (refine acall_of tab_ok Tryz.func9 rfl (by decide) ?_; (conv => whnf); repeat (first | (refine LitB.data ?_; conv => whnf) | (refine BoxB.data ?_; conv => whnf)))
    (repeat' (first | ((refine DecB.mk (fun h => ?_) (fun h => ?_)) <;> first | (exfalso; omega) | (conv => whnf)) | ((refine BoolB.mk (fun h => ?_) (fun h => ?_)) <;> first | (exact absurd h (by decide)) | (conv => whnf)) | (refine ⟨_, wrap_ok (by omega) (by omega), ?_⟩; conv => whnf) | (refine and_idx (by omega) (by omega) ?_; conv => whnf) | (refine reg_ok (by decide +kernel) ?_; conv => whnf) | (refine bar_ok (by decide +kernel) (by decide +kernel) ?_; conv => whnf) | (refine late_ok rfl rfl ?_; conv => whnf) | (refine src_ok rfl ?_; conv => whnf) | (refine .inl ⟨_, _, qcall_pure (ck) rfl rfl, ?_⟩; conv => whnf) | (refine .inl ⟨_, _, qcall_pure (sh) rfl rfl, ?_⟩; conv => whnf) | (refine LitB.data ?_; conv => whnf) | (refine BoxB.own ?_; conv => whnf)))
    all_goals first
      | (exfalso; omega)
      | (exfalso; simp_all; done)
      | exact fin_int rfl
  | true =>
    rw [hsb] at sh
    obtain ⟨G, rfl, hG⟩ := shaped_rats hsb
    have e1 : (if true = true then histE e ((hz G).map (·.map fv)) else 2) = histE e G := by rw [unhz]; rfl
    rw [e1]
    have hB := small_rats hS
    obtain ⟨b1, b2, b3, b4⟩ := check_bounds h0
    obtain ⟨w, hw⟩ : ∃ w : Nat, e.mats = w := ⟨e.mats.toNat, by omega⟩
    generalize hN : e.places.length = N at b3
    have no := a_none e N w hN hw (by omega) (by omega)
    have m2 : (e.moves.map Move.row).length = e.moves.length := by simp
    (refine acall_of tab_ok Tryz.func9 rfl (by decide) ?_; (conv => whnf); repeat (first | (refine LitB.data ?_; conv => whnf) | (refine BoxB.data ?_; conv => whnf)))
    (repeat' (first | ((refine DecB.mk (fun h => ?_) (fun h => ?_)) <;> first | (exfalso; omega) | (conv => whnf)) | ((refine BoolB.mk (fun h => ?_) (fun h => ?_)) <;> first | (exact absurd h (by decide)) | (conv => whnf)) | (refine ⟨_, wrap_ok (by omega) (by omega), ?_⟩; conv => whnf) | (refine and_idx (by omega) (by omega) ?_; conv => whnf) | (refine reg_ok (by decide +kernel) ?_; conv => whnf) | (refine bar_ok (by decide +kernel) (by decide +kernel) ?_; conv => whnf) | (refine late_ok rfl rfl ?_; conv => whnf) | (refine src_ok rfl ?_; conv => whnf) | (refine .inl ⟨_, _, qcall_pure (ck) rfl rfl, ?_⟩; conv => whnf) | (refine .inl ⟨_, _, qcall_pure (sh) rfl rfl, ?_⟩; conv => whnf) | (refine .inr ⟨_, _, no, ?_⟩; conv => whnf) | (refine appK_nil ?_; conv => whnf) | (refine LitB.data ?_; conv => whnf) | (refine BoxB.own ?_; conv => whnf)))
    refine awp_for tab_ok (fun k => ([S.junk, histS (hz G), S.c (C.t (T.ptr (evT e))), S.junk, S.junk, S.c (C.own 0 0 N true), S.junk, S.junk, S.junk, S.junk, S.junk, S.junk, S.junk, S.junk, S.junk, S.junk, S.junk, S.junk, S.junk, S.junk, S.c (C.t (movesT e.moves)), intS .i64 e.moves.length, intS .i64 k, S.junk, S.junk, S.junk, S.junk, S.junk, S.junk, S.junk, S.junk, S.junk, S.junk, S.junk, S.junk, S.junk, S.junk, S.junk, S.junk, S.junk, S.junk, S.junk, S.junk, S.junk, S.junk, S.junk, S.junk, S.junk, S.junk, S.junk, S.junk, S.junk, S.junk, S.junk, S.junk, S.junk, S.junk, S.junk, S.junk, S.junk, S.junk, S.junk, S.junk, S.junk, S.junk, S.junk, S.junk, S.junk, S.junk, S.junk, S.junk, S.junk], matH N w (stk e G k))) e.moves.length (fun k => movesE e G k (e.moves.drop k) = histE e G) (idR (N + 1)) rfl ?_ ?_
    · refine ent_first matH_len (by simp) ok_matH (fun i _ => rfl) ?_
      exact ⟨rfl, rfl, ⟨idR_get (by omega), rfl, rfl, fun h => h⟩, ent_t rfl, ent_i (by simp), rfl, trivial⟩
    intro k hk hI
    by_cases hlt : k < e.moves.length
    · obtain ⟨x, hx⟩ : ∃ x, e.moves[k]? = some x := ⟨_, List.getElem?_eq_getElem hlt⟩
      obtain ⟨l, hl⟩ : ∃ l, G[k]? = some l := ⟨_, List.getElem?_eq_getElem (by rw [hG.len]; exact hlt)⟩
      have hd : e.moves.drop k = x :: e.moves.drop (k + 1) := by
        rw [List.drop_eq_getElem_cons hlt]
        rw [List.getElem?_eq_getElem hlt] at hx
        injection hx with hx
        rw [hx]
      have hmem := List.mem_of_getElem? hl
      have hlB := hB l hmem
      have hlw : l.length = w := by have := hG.wid l hmem; omega
      have hgd : G.getD k [] = l := by rw [List.getD_eq_getElem?_getD, hl]; rfl
      rw [hd] at hI
      have hI : (if stepE e x l (stk e G k) k ≠ 0 then stepE e x l (stk e G k) k else movesE e G (k + 1) (e.moves.drop (k + 1))) = histE e G := by
        rw [← hgd]; exact hI
      have hm := check_move h0 (List.mem_of_getElem? hx)
      have ms := moveOk_src hm
      have md := moveOk_dst hm
      obtain ⟨s, hsn⟩ : ∃ s : Nat, x.src = s := ⟨x.src.toNat, by omega⟩
      obtain ⟨d, hdn⟩ : ∃ d : Nat, x.dst = d := ⟨x.dst.toNat, by omega⟩
      have hsd : s ≠ d := by
        have : x.src ≠ x.dst := by unfold moveOk at hm; simp only [Bool.and_eq_true, decide_eq_true_eq] at hm; exact hm.1.1.1.1.1.2
        omega
      obtain ⟨pl, hpl⟩ : ∃ pl, e.places[s]? = some pl := ⟨_, List.getElem?_eq_getElem (by omega)⟩
      have hF : ∀ p m, rl (stk e G k p m) ≤ 50000 := fun p m => by
        have := rl_stk (e := e) hB (by decide) k p m
        have h2 := Nat.mul_le_mul_right (200 + 1) (show k ≤ 200 by omega)
        omega
      have ng := z_negative l hlB (by omega)
      have tk := a_taken e x N w (stk e G k) l hlw (by omega) s hsn (by omega) pl hpl hlB hF
      have su := z_sum l hlB (by omega)
      have bs : rl (sumR l) ≤ 50000 := by
        have := rl_sumR hlB
        have h2 := Nat.mul_le_mul_right (200 + 1) (show l.length ≤ 6 by omega)
        omega
      have we := z_weighed e x (sumR l) (by omega) hs
      have pu := z_pure e k l (sumR l) bs hlB (by omega) (by omega) (check_zero h0).2.2.2.2.2.2 hs (by omega)
      have ca := a_carry N w (stk e G k) x l hlw (by omega) s d hsn hdn (by omega) (by omega) hsd hlB hF
      have hst : stk e G (k + 1) = carryF x (fun m => l.getD m 0) (stk e G k) := by
        conv => lhs; unfold stk
        rw [hx]
        simp only
        congr 1
        funext m
        show (G.getD k []).getD m 0 = _
        rw [hgd]
      rw [← hst] at ca
      have fin3 : ∀ (c : Int) (H1 : Hp), stepE e x l (stk e G k) k = c → c ≠ 0 → Fin 0 (intS .i64 c) H1 (intS .i64 (histE e G)) [] := fun c H1 h hc => fin_int (by rw [← hI, h, if_pos hc])
      cases hng : l.any (fun v => decide (v < 0)) with
      | true =>
        have hse : stepE e x l (stk e G k) k = 3 := by unfold stepE; rw [hng]; rfl
        rw [hng] at ng
        conv => whnf
        (repeat' (first | ((refine DecB.mk (fun h => ?_) (fun h => ?_)) <;> first | (exfalso; omega) | (conv => whnf)) | ((refine BoolB.mk (fun h => ?_) (fun h => ?_)) <;> first | (exact absurd h (by decide)) | (conv => whnf)) | (refine ⟨_, wrap_ok (by omega) (by omega), ?_⟩; conv => whnf) | (refine and_idx (by omega) (by omega) ?_; conv => whnf) | (refine reg_ok (by decide +kernel) ?_; conv => whnf) | (refine bar_ok (by decide +kernel) (by decide +kernel) ?_; conv => whnf) | (refine late_ok rfl rfl ?_; conv => whnf) | (refine src_ok rfl ?_; conv => whnf) | (refine .inl ⟨_, _, qcall_pure (ng) rfl rfl, ?_⟩; conv => whnf) | (refine ex_row hx ?_; conv => whnf) | (refine ex_row (hz_get hl) ?_; conv => whnf) | (refine lenK_mapA (matF_len _ _ _) ?_; conv => whnf) | (refine lenK_map (matF_len _ _ _) ?_; conv => whnf) | (refine appK_nil ?_; conv => whnf) | (refine appK_mapA ?_; conv => whnf) | (refine appK_ok ?_; conv => whnf) | (refine getK_map0 (matF_len _ _ _) ?_; conv => whnf) | (refine getK_mapT (matF_len _ _ _) ?_; conv => whnf) | (refine setK_map0 (matF_len _ _ _) ?_; conv => whnf) | (refine setK_mapT (matF_len _ _ _) ?_; conv => whnf) | (refine LitB.data ?_; conv => whnf) | (refine BoxB.own ?_; conv => whnf)))
        all_goals first
          | (exfalso; omega)
          | exact fin3 _ _ hse (by decide)
      | false =>
        rw [hng] at ng
        by_cases htk : takenE e (stk e G k) x l = 0
        · cases hwe : weighedB e x (sumR l) with
          | false =>
            have hse : stepE e x l (stk e G k) k = 24 := by unfold stepE; rw [hng, htk, hwe]; rfl
            rw [hwe] at we
            conv => whnf
            (repeat' (first | ((refine DecB.mk (fun h => ?_) (fun h => ?_)) <;> first | (exfalso; omega) | (conv => whnf)) | ((refine BoolB.mk (fun h => ?_) (fun h => ?_)) <;> first | (exact absurd h (by decide)) | (conv => whnf)) | (refine ⟨_, wrap_ok (by omega) (by omega), ?_⟩; conv => whnf) | (refine and_idx (by omega) (by omega) ?_; conv => whnf) | (refine reg_ok (by decide +kernel) ?_; conv => whnf) | (refine bar_ok (by decide +kernel) (by decide +kernel) ?_; conv => whnf) | (refine late_ok rfl rfl ?_; conv => whnf) | (refine src_ok rfl ?_; conv => whnf) | (refine .inl ⟨_, _, qcall_pure (ng) rfl rfl, ?_⟩; conv => whnf) | (refine .inl ⟨_, _, qcall_pure (su) rfl rfl, ?_⟩; conv => whnf) | (refine .inl ⟨_, _, qcall_pure (we) rfl rfl, ?_⟩; conv => whnf) | (refine .inl ⟨_, _, qcall_viewX tk ⟨.inl ⟨_, _, rfl, rfl, vx_mat rfl (fun _ => trivial)⟩, .inr (vs_ev e), .inr (vs_ts x.row), .inr vs_t, trivial⟩ rfl, ?_⟩; conv => whnf) | (refine ex_row hx ?_; conv => whnf) | (refine ex_row (hz_get hl) ?_; conv => whnf) | (refine lenK_mapA (matF_len _ _ _) ?_; conv => whnf) | (refine lenK_map (matF_len _ _ _) ?_; conv => whnf) | (refine appK_nil ?_; conv => whnf) | (refine appK_mapA ?_; conv => whnf) | (refine appK_ok ?_; conv => whnf) | (refine getK_map0 (matF_len _ _ _) ?_; conv => whnf) | (refine getK_mapT (matF_len _ _ _) ?_; conv => whnf) | (refine setK_map0 (matF_len _ _ _) ?_; conv => whnf) | (refine setK_mapT (matF_len _ _ _) ?_; conv => whnf) | (refine LitB.data ?_; conv => whnf) | (refine BoxB.own ?_; conv => whnf)))
            all_goals first
              | (exfalso; omega)
              | exact fin3 _ _ hse (by decide)
          | true =>
            rw [hwe] at we
            cases hpu : pureB e.purities k l (sumR l) with
            | false =>
              have hse : stepE e x l (stk e G k) k = 13 := by unfold stepE; rw [hng, htk, hwe, hpu]; rfl
              rw [hpu] at pu
              conv => whnf
              (repeat' (first | ((refine DecB.mk (fun h => ?_) (fun h => ?_)) <;> first | (exfalso; omega) | (conv => whnf)) | ((refine BoolB.mk (fun h => ?_) (fun h => ?_)) <;> first | (exact absurd h (by decide)) | (conv => whnf)) | (refine ⟨_, wrap_ok (by omega) (by omega), ?_⟩; conv => whnf) | (refine and_idx (by omega) (by omega) ?_; conv => whnf) | (refine reg_ok (by decide +kernel) ?_; conv => whnf) | (refine bar_ok (by decide +kernel) (by decide +kernel) ?_; conv => whnf) | (refine late_ok rfl rfl ?_; conv => whnf) | (refine src_ok rfl ?_; conv => whnf) | (refine .inl ⟨_, _, qcall_pure (ng) rfl rfl, ?_⟩; conv => whnf) | (refine .inl ⟨_, _, qcall_pure (su) rfl rfl, ?_⟩; conv => whnf) | (refine .inl ⟨_, _, qcall_pure (we) rfl rfl, ?_⟩; conv => whnf) | (refine .inl ⟨_, _, qcall_pure (pu) rfl rfl, ?_⟩; conv => whnf) | (refine .inl ⟨_, _, qcall_viewX tk ⟨.inl ⟨_, _, rfl, rfl, vx_mat rfl (fun _ => trivial)⟩, .inr (vs_ev e), .inr (vs_ts x.row), .inr vs_t, trivial⟩ rfl, ?_⟩; conv => whnf) | (refine ex_row hx ?_; conv => whnf) | (refine ex_row (hz_get hl) ?_; conv => whnf) | (refine lenK_mapA (matF_len _ _ _) ?_; conv => whnf) | (refine lenK_map (matF_len _ _ _) ?_; conv => whnf) | (refine appK_nil ?_; conv => whnf) | (refine appK_mapA ?_; conv => whnf) | (refine appK_ok ?_; conv => whnf) | (refine getK_map0 (matF_len _ _ _) ?_; conv => whnf) | (refine getK_mapT (matF_len _ _ _) ?_; conv => whnf) | (refine setK_map0 (matF_len _ _ _) ?_; conv => whnf) | (refine setK_mapT (matF_len _ _ _) ?_; conv => whnf) | (refine LitB.data ?_; conv => whnf) | (refine BoxB.own ?_; conv => whnf)))
              all_goals first
                | (exfalso; omega)
                | exact fin3 _ _ hse (by decide)
            | true =>
              have hse : stepE e x l (stk e G k) k = 0 := by unfold stepE; rw [hng, htk, hwe, hpu]; rfl
              rw [hpu] at pu
              rw [hse, if_neg (by decide)] at hI
              have hok : [S.c (.own 0 0 N true), moveS x, fracsS (l.map fz)].all (okS (N + 1)) = true := by
                simp [okS, okC, okL, Move.cs, Move.row]
              conv => whnf
              (repeat' (first | ((refine DecB.mk (fun h => ?_) (fun h => ?_)) <;> first | (exfalso; omega) | (conv => whnf)) | ((refine BoolB.mk (fun h => ?_) (fun h => ?_)) <;> first | (exact absurd h (by decide)) | (conv => whnf)) | (refine ⟨_, wrap_ok (by omega) (by omega), ?_⟩; conv => whnf) | (refine and_idx (by omega) (by omega) ?_; conv => whnf) | (refine reg_ok (by decide +kernel) ?_; conv => whnf) | (refine bar_ok (by decide +kernel) (by decide +kernel) ?_; conv => whnf) | (refine late_ok rfl rfl ?_; conv => whnf) | (refine src_ok rfl ?_; conv => whnf) | (refine .inl ⟨_, _, qcall_pure (ng) rfl rfl, ?_⟩; conv => whnf) | (refine .inl ⟨_, _, qcall_pure (su) rfl rfl, ?_⟩; conv => whnf) | (refine .inl ⟨_, _, qcall_pure (we) rfl rfl, ?_⟩; conv => whnf) | (refine .inl ⟨_, _, qcall_pure (pu) rfl rfl, ?_⟩; conv => whnf) | (refine .inl ⟨_, _, qcall_viewX tk ⟨.inl ⟨_, _, rfl, rfl, vx_mat rfl (fun _ => trivial)⟩, .inr (vs_ev e), .inr (vs_ts x.row), .inr vs_t, trivial⟩ rfl, ?_⟩; conv => whnf) | (refine .inr ⟨_, _, acall_first _ ca matH_len matH_len hok live_matH old_matH rfl rfl, ?_⟩; conv => whnf) | (refine ex_row hx ?_; conv => whnf) | (refine ex_row (hz_get hl) ?_; conv => whnf) | (refine lenK_mapA (matF_len _ _ _) ?_; conv => whnf) | (refine lenK_map (matF_len _ _ _) ?_; conv => whnf) | (refine appK_nil ?_; conv => whnf) | (refine appK_mapA ?_; conv => whnf) | (refine appK_ok ?_; conv => whnf) | (refine getK_map0 (matF_len _ _ _) ?_; conv => whnf) | (refine getK_mapT (matF_len _ _ _) ?_; conv => whnf) | (refine setK_map0 (matF_len _ _ _) ?_; conv => whnf) | (refine setK_mapT (matF_len _ _ _) ?_; conv => whnf) | (refine LitB.data ?_; conv => whnf) | (refine BoxB.own ?_; conv => whnf)))
              all_goals try (exfalso; omega)
              refine ⟨hlt, hI, idR (N + 1), ent_firstA matH_len (by simp) ok_matH ?_⟩
              exact ⟨rfl, rfl, ⟨idR_get (by omega), rfl, rfl, fun h => h⟩, rfl, rfl, rfl, trivial⟩
        · have hse : stepE e x l (stk e G k) k = takenE e (stk e G k) x l := by unfold stepE; rw [hng, if_neg (by simp), if_pos htk]
          conv => whnf
          (repeat' (first | ((refine DecB.mk (fun h => ?_) (fun h => ?_)) <;> first | (exfalso; omega) | (conv => whnf)) | ((refine BoolB.mk (fun h => ?_) (fun h => ?_)) <;> first | (exact absurd h (by decide)) | (conv => whnf)) | (refine ⟨_, wrap_ok (by omega) (by omega), ?_⟩; conv => whnf) | (refine and_idx (by omega) (by omega) ?_; conv => whnf) | (refine reg_ok (by decide +kernel) ?_; conv => whnf) | (refine bar_ok (by decide +kernel) (by decide +kernel) ?_; conv => whnf) | (refine late_ok rfl rfl ?_; conv => whnf) | (refine src_ok rfl ?_; conv => whnf) | (refine .inl ⟨_, _, qcall_pure (ng) rfl rfl, ?_⟩; conv => whnf) | (refine .inl ⟨_, _, qcall_viewX tk ⟨.inl ⟨_, _, rfl, rfl, vx_mat rfl (fun _ => trivial)⟩, .inr (vs_ev e), .inr (vs_ts x.row), .inr vs_t, trivial⟩ rfl, ?_⟩; conv => whnf) | (refine ex_row hx ?_; conv => whnf) | (refine ex_row (hz_get hl) ?_; conv => whnf) | (refine lenK_mapA (matF_len _ _ _) ?_; conv => whnf) | (refine lenK_map (matF_len _ _ _) ?_; conv => whnf) | (refine appK_nil ?_; conv => whnf) | (refine appK_mapA ?_; conv => whnf) | (refine appK_ok ?_; conv => whnf) | (refine getK_map0 (matF_len _ _ _) ?_; conv => whnf) | (refine getK_mapT (matF_len _ _ _) ?_; conv => whnf) | (refine setK_map0 (matF_len _ _ _) ?_; conv => whnf) | (refine setK_mapT (matF_len _ _ _) ?_; conv => whnf) | (refine LitB.data ?_; conv => whnf) | (refine BoxB.own ?_; conv => whnf)))
          all_goals first
            | (exfalso; omega)
            | exact fin3 _ _ hse htk
    · have hke : k = e.moves.length := by omega
      subst hke
      rw [List.drop_of_length_le (Nat.le_refl _)] at hI
      have hI : (0 : Int) = histE e G := hI
      conv => whnf
      (repeat' (first | ((refine DecB.mk (fun h => ?_) (fun h => ?_)) <;> first | (exfalso; omega) | (conv => whnf)) | ((refine BoolB.mk (fun h => ?_) (fun h => ?_)) <;> first | (exact absurd h (by decide)) | (conv => whnf)) | (refine ⟨_, wrap_ok (by omega) (by omega), ?_⟩; conv => whnf) | (refine and_idx (by omega) (by omega) ?_; conv => whnf) | (refine reg_ok (by decide +kernel) ?_; conv => whnf) | (refine bar_ok (by decide +kernel) (by decide +kernel) ?_; conv => whnf) | (refine late_ok rfl rfl ?_; conv => whnf) | (refine src_ok rfl ?_; conv => whnf) | (refine appK_nil ?_; conv => whnf) | (refine LitB.data ?_; conv => whnf) | (refine BoxB.own ?_; conv => whnf)))
      all_goals first
        | (exfalso; omega)
        | exact fin_int hI
end Go.Proofs.YthinjkjhiembgaaGreat
