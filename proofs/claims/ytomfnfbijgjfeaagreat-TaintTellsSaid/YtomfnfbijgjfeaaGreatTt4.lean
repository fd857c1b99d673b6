/- big: Int. -/
import Derived.Test.YtomfnfbijgjfeaaGreatTt3
namespace Go.Proofs.YtomfnfbijgjfeaaGreat
open Go.RowKit
set_option linter.unusedVariables false
set_option linter.unusedSimpArgs false
set_option maxRecDepth 100000

theorem pw_two (i : Nat) : pw i = ((2 ^ (20 * i) : Nat) : Int) := by
  unfold pw; rw [show (1048576 : Int) = ((2 ^ 20 : Nat) : Int) by decide, ← Int.natCast_pow, ← Nat.pow_mul]
theorem shlu {d : Int} {i : Nat} {b : Int} (hi : i ≤ 3) (h : 0 ≤ d) (h2 : d * pw i < 18446744073709551616) (hb : b = 20 * i) : IsWrap .u64 (d * 2 ^ min b.toNat (IntKind.bits .u64)) (d * pw i) := by
  have e : min b.toNat (IntKind.bits .u64) = 20 * i := by show min b.toNat 64 = _; omega
  have hp := pw_pos i
  have h3 : 0 ≤ d * pw i := Int.mul_nonneg h (by omega)
  rw [e, show (2 : Int) ^ (20 * i) = pw i by rw [pw_two]; simp]
  exact wrapu_ok h3 h2
theorem oru {u d : Int} {i : Nat} (hu : 0 ≤ u) (hu2 : u < pw i) (h : 0 ≤ d) (h2 : u + d * pw i < 18446744073709551616) : IsBits .or .u64 u (d * pw i) (u + d * pw i) := by
  obtain ⟨U, rfl⟩ := Int.eq_ofNat_of_zero_le hu
  obtain ⟨D, rfl⟩ := Int.eq_ofNat_of_zero_le h
  have hp := pw_pos i
  have e2 : (U : Int) + D * pw i = ((U + 2 ^ (20 * i) * D : Nat) : Int) := by rw [pw_two]; simp [Int.mul_comm]
  have e3 : (D : Int) * pw i = ((2 ^ (20 * i) * D : Nat) : Int) := by rw [pw_two]; simp [Int.mul_comm]
  rw [e2] at h2
  have hU : U < 2 ^ (20 * i) := by rw [pw_two] at hu2; omega
  have k1 : (BitVec.ofInt (IntKind.bits .u64) (U : Int) ||| BitVec.ofInt (IntKind.bits .u64) ((2 ^ (20 * i) * D : Nat) : Int)).toNat = U + 2 ^ (20 * i) * D := by
    show (BitVec.ofInt 64 _ ||| BitVec.ofInt 64 _).toNat = _
    rw [BitVec.toNat_or, BitVec.toNat_ofInt, BitVec.toNat_ofInt]
    rw [Int.emod_eq_of_lt (by omega) (by omega), Int.emod_eq_of_lt (by omega) (by omega), Int.toNat_natCast, Int.toNat_natCast, Nat.or_comm, ← Nat.two_pow_add_eq_or_of_lt hU, Nat.add_comm]
  rw [e2, e3]
  unfold IsBits
  simp only
  rw [k1]
  exact (wrap_u64 (by omega) h2).symm
structure IntI (n : Nat) (k : Nat) (u : Int) : Prop where
  eq : u = val ((dg n).take k)
  le : k ≤ (dg n).length
  lt : k = 4 → u < 9 * 1152921504606846976
theorem IntI.rng {n k : Nat} {u : Int} (h : IntI n k u) : 0 ≤ u ∧ u < pw k := by
  have h1 := val_nonneg ((okd_dg n).take k)
  have h2 := val_lt ((okd_dg n).take k)
  rw [List.length_take, Nat.min_eq_left h.le, ← h.eq] at h2
  rw [← h.eq] at h1
  exact ⟨h1, h2⟩
theorem IntI.step {n k : Nat} {u : Int} (h : IntI n k u) (hk : k < (dg n).length) (hd : k = 3 → dat (dg n) k ≤ 8) : IntI n (k + 1) (u + dat (dg n) k * pw k) := by
  have hr := h.rng
  refine ⟨by rw [val_take_dat, h.eq, Int.mul_comm], hk, fun h4 => ?_⟩
  have : k = 3 := by omega
  subst this
  have := hd rfl
  simp only [pw] at hr ⊢
  omega
theorem pw_le3 {k : Nat} (h : k ≤ 3) : pw k ≤ 1152921504606846976 := by
  have := pw_mono h
  simp only [pw] at this ⊢
  omega
theorem pw_le2 {k : Nat} (h : k ≤ 2) : pw k ≤ 1099511627776 := by
  have := pw_mono h
  simp only [pw] at this ⊢
  omega
theorem fin_ib {a a' : Int} {b b' : Bool} {k : IntKind} {H1 : Hp} (h : a = a') (h2 : b = b') : Fin 0 (.tup [intS k a, boolS b]) H1 (.tup [intS k a', boolS b']) [] := by
  subst h h2; exact fin_t ⟨rfl, rfl, trivial⟩
theorem wrapi_high {x : Int} (h1 : 9223372036854775808 ≤ x) (h2 : x < 18446744073709551616) : IsWrap .i64 x (x - 18446744073709551616) := by
  unfold IsWrap
  simp only [IntKind.wrap, IntKind.bits, IntKind.signed]
  simp
  omega
abbrev fitI (x : Int) : Prop := -9223372036854775808 ≤ x ∧ x ≤ 9223372036854775807
theorem z_bInt (x : Int) (lx : bl x ≤ 200000) : ACall Tryz.prog 91 [bgS (bz x)] [] (.tup [intS .i64 (if fitI x then x else 0), boolS (decide (fitI x))]) [] := by
  have r1 := z_bRight x (by omega)
  have l1 : ((bz x).dl.map intRow).length = (dg x.natAbs).length := by simp [bz]
  have l2 : (bz x).dl = dg x.natAbs := rfl
  have hlast : ∀ k : Nat, k < (dg x.natAbs).length → pw k ≤ x.natAbs := fun k hk => Int.le_trans (pw_mono (by omega)) (dg_last (by
    rcases Nat.eq_zero_or_pos x.natAbs with h | h
    · rw [h, dg_zero] at hk; simp at hk
    · exact h))
  (refine acall_of tab_ok Tryz.func91 rfl (by decide) ?_; (conv => whnf); repeat (first | (refine LitB.data ?_; conv => whnf) | (refine BoxB.own ?_; conv => whnf)))
  (repeat' (first | ((refine DecB.mk (fun h => ?_) (fun h => ?_)) <;> first | (exfalso; omega) | (conv => whnf)) | ((refine BoolB.mk (fun h => ?_) (fun h => ?_)) <;> first | (exact absurd h (by decide)) | (conv => whnf)) | ((first | refine ⟨_, wrap_ok (by omega) (by omega), ?_⟩ | refine and_idx (by omega) (by omega) ?_ | refine reg_ok (by decide +kernel) ?_ | refine bar_ok (by decide +kernel) (by decide +kernel) ?_ | refine late_ok rfl rfl ?_ | refine src_ok rfl ?_ | refine .inl ⟨_, _, qcall_pure (r1) rfl rfl, ?_⟩ | refine LitB.data ?_ | refine BoxB.own ?_); conv => whnf)))
  · have hl : 4 < (dg x.natAbs).length := by omega
    have := hlast 4 hl
    simp only [pw] at this
    have hn : ¬ fitI x := by unfold fitI; omega
    exact fin_ib (by rw [if_neg hn]) (by simp [hn])
  · refine awp_while tab_ok (σ := Nat × Int) (fun | (k, u) => ([J, S.c (C.ptr 0 0 0), J, J, intS .u64 u, J, J, J, J, J, J, J, J, J, J, J, J, intsS (dg x.natAbs), intS .i64 (dg x.natAbs).length, intS .i64 k, J, J, J, J, J, J, J, J, J, J, J, J, J, J, J, J, J, J, J, J, J, J, J, J, J, J, J, J, J, J, J, J, J, J, J, J, J, J, J], [bgB (bz x)])) (fun s => IntI x.natAbs s.1 s.2) (fun s => (dg x.natAbs).length - s.1) (0, 0) [some 0]
      ⟨by simp [val], by omega, by omega⟩ ⟨rfl, rfl, ⟨⟨rfl, rfl, rfl, .inl ⟨rfl, rowsT_bg _⟩⟩, trivial⟩, ⟨⟨rfl, rfl, rfl⟩, rfl, ent_t rfl, ent_i (by omega), rfl, trivial⟩⟩ ?_
    rintro ⟨k, u⟩ hI
    have hI : IntI x.natAbs k u := hI
    have hr := hI.rng
    have hle := hI.le
    have hd := (okd_dg x.natAbs).dat k
    have hp := pw_pos k
    have hp3 : k ≤ 3 → pw k ≤ 1152921504606846976 := pw_le3
    have hdm : 0 ≤ dat (dg x.natAbs) k * pw k := Int.mul_nonneg hd.1 (by omega)
    have l3 : ((dg x.natAbs).map intRow).length = (dg x.natAbs).length := by simp
    have hp2 : k ≤ 2 → pw k ≤ 1099511627776 := pw_le2
    have hA : k ≤ 3 → (k = 3 → dat (dg x.natAbs) k ≤ 8) → u + dat (dg x.natAbs) k * pw k < 18446744073709551616 := fun h3 h8 => by
      by_cases hk : k = 3
      · have := Int.mul_le_mul_of_nonneg_right (c := pw k) (h8 hk) (by omega)
        have := hp3 h3
        omega
      · have := Int.mul_le_mul_of_nonneg_right (c := pw k) (show dat (dg x.natAbs) k ≤ 1048575 by omega) (by omega)
        have := hp2 (by omega)
        omega
    have hE : k = (dg x.natAbs).length → u = x.natAbs := fun h => by
      have := hI.eq
      rw [h, List.take_of_length_le (Nat.le_refl _), val_dg] at this
      exact this
    have hs := sign_cases x
    have hsg : (bz x).sg = x.sign := rfl
    conv => whnf
    (repeat' (first | ((refine DecB.mk (fun h => ?_) (fun h => ?_)) <;> first | (exfalso; omega) | (conv => whnf)) | ((refine BoolB.mk (fun h => ?_) (fun h => ?_)) <;> first | (exact absurd h (by decide)) | (conv => whnf)) | ((first | refine ⟨_, wrap_ok (by omega) (by omega), ?_⟩ | refine and_idx (by omega) (by omega) ?_ | refine reg_ok (by decide +kernel) ?_ | refine bar_ok (by decide +kernel) (by decide +kernel) ?_ | refine late_ok rfl rfl ?_ | refine src_ok rfl ?_ | refine ex_row (get_dat (by omega)) ?_ | refine ⟨_, wrapu_ok (by omega) (by omega), ?_⟩ | refine ⟨by omega, _, shlu (i := k) (by omega) (by omega) (by omega) (by omega), ?_⟩ | refine ⟨_, oru (by omega) (by omega) (by omega) (by omega), ?_⟩ | refine ⟨_, wrapu_mod (y := 18446744073709551616 - u) (by omega), ?_⟩ | refine ⟨_, wrapi_high (by omega) (by omega), ?_⟩ | refine LitB.data ?_ | refine BoxB.own ?_); conv => whnf)))
    · have hk : k = 3 := by omega
      have h8 : 9 ≤ dat (dg x.natAbs) k := by omega
      have h1 := val_take_dat (dg x.natAbs) k
      have h4 : val (dg x.natAbs) = val ((dg x.natAbs).take (k + 1)) := by rw [List.take_of_length_le (by omega)]
      rw [val_dg] at h4
      have h5 := val_nonneg ((okd_dg x.natAbs).take k)
      have h6 := Int.mul_le_mul_of_nonneg_left (a := 9) (b := dat (dg x.natAbs) k) (c := pw k) h8 (by omega)
      have h7 : pw k = 1152921504606846976 := by rw [hk]; rfl
      have hn : ¬ fitI x := by unfold fitI; omega
      exact fin_ib (by rw [if_neg hn]) (by simp [hn])
    · have hst := hI.step (by omega) (by omega)
      exact ⟨[some 0], (k + 1, u + dat (dg x.natAbs) k * pw k), ⟨rfl, rfl, ⟨⟨rfl, rfl, rfl, .inl ⟨rfl, rowsT_bg _⟩⟩, trivial⟩, ⟨⟨rfl, rfl, rfl⟩, rfl, rfl, rfl, ent_i (by omega), trivial⟩⟩, hst, by show (dg x.natAbs).length - (k + 1) < (dg x.natAbs).length - k; omega⟩
    · have hst := hI.step (by omega) (by omega)
      exact ⟨[some 0], (k + 1, u + dat (dg x.natAbs) k * pw k), ⟨rfl, rfl, ⟨⟨rfl, rfl, rfl, .inl ⟨rfl, rowsT_bg _⟩⟩, trivial⟩, ⟨⟨rfl, rfl, rfl⟩, rfl, rfl, rfl, ent_i (by omega), trivial⟩⟩, hst, by show (dg x.natAbs).length - (k + 1) < (dg x.natAbs).length - k; omega⟩
    all_goals
      have hu := hE (by omega)
      first
        | (have hn : fitI x := by unfold fitI; omega
           exact fin_ib (by rw [if_pos hn]; omega) (by simp [hn]))
        | (have hn : ¬ fitI x := by unfold fitI; omega
           exact fin_ib (by rw [if_neg hn]) (by simp [hn]))
end Go.Proofs.YtomfnfbijgjfeaaGreat
/- frac: one, Right, times, New, Add, Sub, Mul, Compare. -/
namespace Go.Proofs.YtomfnfbijgjfeaaGreat
open Go.RowKit
set_option linter.unusedVariables false
set_option linter.unusedSimpArgs false
set_option maxRecDepth 100000

abbrev frC (f : Fr) : List C := [.t (ti f.p.sg), .t (intsT f.p.dl), .t (ti f.q.sg), .t (intsT f.q.dl)]
abbrev frS (f : Fr) : S := .agg (frC f)
theorem a_one (x : Int) (lx : bl x ≤ 200000) : ACall Tryz.prog 62 [bgS (bz x)] [] (boolS (x == 1)) [] := by
  have i := z_bInt x lx
  by_cases h : fitI x
  · rw [if_pos h, show decide (fitI x) = true by simp [h]] at i
    (refine acall_of tab_ok Tryz.func62 rfl (by decide) ?_; (conv => whnf); repeat (first | (refine LitB.data ?_; conv => whnf) | (refine BoxB.own ?_; conv => whnf)))
    (repeat' (first | ((refine DecB.mk (fun h => ?_) (fun h => ?_)) <;> first | (exfalso; omega) | (conv => whnf)) | ((refine BoolB.mk (fun h => ?_) (fun h => ?_)) <;> first | (exact absurd h (by decide)) | (conv => whnf)) | ((first | refine ⟨_, wrap_ok (by omega) (by omega), ?_⟩ | refine and_idx (by omega) (by omega) ?_ | refine reg_ok (by decide +kernel) ?_ | refine bar_ok (by decide +kernel) (by decide +kernel) ?_ | refine late_ok rfl rfl ?_ | refine src_ok rfl ?_ | refine .inl ⟨_, _, qcall_pure (i) rfl rfl, ?_⟩ | refine LitB.data ?_ | refine BoxB.own ?_); conv => whnf)))
    all_goals (refine fin_bool ?_; simp; omega)
  · rw [if_neg h, show decide (fitI x) = false by simp [h]] at i
    have hx : x ≠ 1 := by rintro rfl; exact h (by decide)
    (refine acall_of tab_ok Tryz.func62 rfl (by decide) ?_; (conv => whnf); repeat (first | (refine LitB.data ?_; conv => whnf) | (refine BoxB.own ?_; conv => whnf)))
    (repeat' (first | ((refine DecB.mk (fun h => ?_) (fun h => ?_)) <;> first | (exfalso; omega) | (conv => whnf)) | ((refine BoolB.mk (fun h => ?_) (fun h => ?_)) <;> first | (exact absurd h (by decide)) | (conv => whnf)) | ((first | refine ⟨_, wrap_ok (by omega) (by omega), ?_⟩ | refine and_idx (by omega) (by omega) ?_ | refine reg_ok (by decide +kernel) ?_ | refine bar_ok (by decide +kernel) (by decide +kernel) ?_ | refine late_ok rfl rfl ?_ | refine src_ok rfl ?_ | refine .inl ⟨_, _, qcall_pure (i) rfl rfl, ?_⟩ | refine LitB.data ?_ | refine BoxB.own ?_); conv => whnf)))
    all_goals (refine fin_bool ?_; simp; omega)
theorem a_fRight (f : Fr) (lp : f.p.dl.length ≤ 200000) (lq : f.q.dl.length ≤ 200000) : ACall Tryz.prog 33 [frS f] [] (boolS (rightF f)) [] := by
  obtain ⟨p, q⟩ := f
  simp only at lp lq
  have r1 := a_bRight p (by omega)
  have r2 := a_bRight q (by omega)
  cases hp : rightB p with
  | false =>
    rw [hp] at r1
    (refine acall_of tab_ok Tryz.func33 rfl (by decide) ?_; (conv => whnf); repeat (first | (refine LitB.data ?_; conv => whnf) | (refine BoxB.own ?_; conv => whnf)))
    (repeat' (first | ((refine DecB.mk (fun h => ?_) (fun h => ?_)) <;> first | (exfalso; omega) | (conv => whnf)) | ((refine BoolB.mk (fun h => ?_) (fun h => ?_)) <;> first | (exact absurd h (by decide)) | (conv => whnf)) | ((first | refine ⟨_, wrap_ok (by omega) (by omega), ?_⟩ | refine and_idx (by omega) (by omega) ?_ | refine reg_ok (by decide +kernel) ?_ | refine bar_ok (by decide +kernel) (by decide +kernel) ?_ | refine late_ok rfl rfl ?_ | refine src_ok rfl ?_ | refine .inl ⟨_, _, qcall_pure (r1) rfl rfl, ?_⟩ | refine .inl ⟨_, _, qcall_pure (r2) rfl rfl, ?_⟩ | refine LitB.data ?_ | refine BoxB.own ?_); conv => whnf)))
    all_goals (first | (exfalso; simp_all; done) | (refine fin_bool ?_; unfold rightF; simp [hp]))
  | true =>
    rw [hp] at r1
    cases hq : rightB q with
    | false =>
      rw [hq] at r2
      (refine acall_of tab_ok Tryz.func33 rfl (by decide) ?_; (conv => whnf); repeat (first | (refine LitB.data ?_; conv => whnf) | (refine BoxB.own ?_; conv => whnf)))
      (repeat' (first | ((refine DecB.mk (fun h => ?_) (fun h => ?_)) <;> first | (exfalso; omega) | (conv => whnf)) | ((refine BoolB.mk (fun h => ?_) (fun h => ?_)) <;> first | (exact absurd h (by decide)) | (conv => whnf)) | ((first | refine ⟨_, wrap_ok (by omega) (by omega), ?_⟩ | refine and_idx (by omega) (by omega) ?_ | refine reg_ok (by decide +kernel) ?_ | refine bar_ok (by decide +kernel) (by decide +kernel) ?_ | refine late_ok rfl rfl ?_ | refine src_ok rfl ?_ | refine .inl ⟨_, _, qcall_pure (r1) rfl rfl, ?_⟩ | refine .inl ⟨_, _, qcall_pure (r2) rfl rfl, ?_⟩ | refine LitB.data ?_ | refine BoxB.own ?_); conv => whnf)))
      all_goals (first | (exfalso; simp_all; done) | (refine fin_bool ?_; unfold rightF; simp [hq]))
    | true =>
      rw [hq] at r2
      obtain ⟨x, rfl⟩ := bz_of hp
      obtain ⟨y, rfl⟩ := bz_of hq
      have g := z_bGcd x y lp lq
      have o := a_one (Int.gcd x y) (bl_gcd x y lp lq)
      (refine acall_of tab_ok Tryz.func33 rfl (by decide) ?_; (conv => whnf); repeat (first | (refine LitB.data ?_; conv => whnf) | (refine BoxB.own ?_; conv => whnf)))
      (repeat' (first | ((refine DecB.mk (fun h => ?_) (fun h => ?_)) <;> first | (exfalso; omega) | (conv => whnf)) | ((refine BoolB.mk (fun h => ?_) (fun h => ?_)) <;> first | (exact absurd h (by decide)) | (conv => whnf)) | ((first | refine ⟨_, wrap_ok (by omega) (by omega), ?_⟩ | refine and_idx (by omega) (by omega) ?_ | refine reg_ok (by decide +kernel) ?_ | refine bar_ok (by decide +kernel) (by decide +kernel) ?_ | refine late_ok rfl rfl ?_ | refine src_ok rfl ?_ | refine .inl ⟨_, _, qcall_pure (r1) rfl rfl, ?_⟩ | refine .inl ⟨_, _, qcall_pure (r2) rfl rfl, ?_⟩ | refine .inl ⟨_, _, qcall_pure (g) rfl rfl, ?_⟩ | refine .inl ⟨_, _, qcall_pure (o) rfl rfl, ?_⟩ | refine LitB.data ?_ | refine BoxB.own ?_); conv => whnf)))
      all_goals (refine fin_bool ?_; unfold rightF; simp only [bz_right, bv_bz, Bool.true_and]; symm; simp_all <;> omega)
theorem z_times (x y : Int) (lx : bl x ≤ 200000) (ly : bl y ≤ 200000) : ACall Tryz.prog 64 [bgS (bz x), bgS (bz y)] [] (bgS (bz (x * y))) [] := by
  have mu := z_bMul x y lx ly
  (refine acall_of tab_ok Tryz.func64 rfl (by decide) ?_; (conv => whnf); repeat (first | (refine LitB.data ?_; conv => whnf) | (refine BoxB.own ?_; conv => whnf)))
  (repeat' (first | ((refine DecB.mk (fun h => ?_) (fun h => ?_)) <;> first | (exfalso; omega) | (conv => whnf)) | ((refine BoolB.mk (fun h => ?_) (fun h => ?_)) <;> first | (exact absurd h (by decide)) | (conv => whnf)) | ((first | refine ⟨_, wrap_ok (by omega) (by omega), ?_⟩ | refine and_idx (by omega) (by omega) ?_ | refine reg_ok (by decide +kernel) ?_ | refine bar_ok (by decide +kernel) (by decide +kernel) ?_ | refine late_ok rfl rfl ?_ | refine src_ok rfl ?_ | refine .inl ⟨_, _, qcall_pure (mu) rfl rfl, ?_⟩ | refine LitB.data ?_ | refine BoxB.own ?_); conv => whnf)))
  exact fin_t ⟨rfl, rfl, trivial⟩
theorem fin_fe {f f' : Fr} {e : Int} {H1 : Hp} (h : f = f') : Fin 0 (.tup [frS f, intS .i64 e]) H1 (.tup [frS f', intS .i64 e]) [] := by
  subst h; exact fin_t ⟨⟨rfl, rfl, rfl, rfl, trivial⟩, rfl, trivial⟩
theorem z_fNew (p q : Int) (hq : q ≠ 0) (lp : bl p ≤ 200000) (lq : bl q ≤ 200000) : ACall Tryz.prog 67 [bgS (bz p), bgS (bz q)] [] (.tup [frS (fz (Rat.divInt p q)), intS .i64 0]) [] := by
  have r1 := z_bRight p (by omega)
  have r2 := z_bRight q (by omega)
  have hs := sign_cases q
  have hsg : (bz q).sg = q.sign := rfl
  by_cases h : q < 0
  · have n1 := z_bNeg p (by omega)
    have n2 := z_bNeg q (by omega)
    have lg := bl_gcd (-p) (-q) (by rw [bl_neg]; exact lp) (by rw [bl_neg]; exact lq)
    have hg : 0 < (Int.gcd (-p) (-q) : Int) := by have := Int.gcd_pos_of_ne_zero_right (-p) (b := -q) (by omega); omega
    have g := z_bGcd (-p) (-q) (by rw [bl_neg]; exact lp) (by rw [bl_neg]; exact lq)
    have d1 := z_bDiv (-p) _ hg (by rw [bl_neg]; exact lp) lg
    have d2 := z_bDiv (-q) _ hg (by rw [bl_neg]; exact lq) lg
    have e := fz_divInt (p := -p) (q := -q) (by omega) rfl
    rw [Rat.neg_divInt_neg] at e
    (refine acall_of tab_ok Tryz.func67 rfl (by decide) ?_; (conv => whnf); repeat (first | (refine LitB.data ?_; conv => whnf) | (refine BoxB.own ?_; conv => whnf)))
    (repeat' (first | ((refine DecB.mk (fun h => ?_) (fun h => ?_)) <;> first | (exfalso; omega) | (conv => whnf)) | ((refine BoolB.mk (fun h => ?_) (fun h => ?_)) <;> first | (exact absurd h (by decide)) | (conv => whnf)) | ((first | refine ⟨_, wrap_ok (by omega) (by omega), ?_⟩ | refine and_idx (by omega) (by omega) ?_ | refine reg_ok (by decide +kernel) ?_ | refine bar_ok (by decide +kernel) (by decide +kernel) ?_ | refine late_ok rfl rfl ?_ | refine src_ok rfl ?_ | refine .inl ⟨_, _, qcall_pure (r1) rfl rfl, ?_⟩ | refine .inl ⟨_, _, qcall_pure (r2) rfl rfl, ?_⟩ | refine .inl ⟨_, _, qcall_pure (n1) rfl rfl, ?_⟩ | refine .inl ⟨_, _, qcall_pure (n2) rfl rfl, ?_⟩ | refine .inl ⟨_, _, qcall_pure (g) rfl rfl, ?_⟩ | refine .inl ⟨_, _, qcall_pure (d1) rfl rfl, ?_⟩ | refine .inl ⟨_, _, qcall_pure (d2) rfl rfl, ?_⟩ | refine LitB.data ?_ | refine BoxB.own ?_); conv => whnf)))
    all_goals first
      | (exfalso; simp_all; done)
      | (exfalso; omega)
      | exact fin_fe e.symm
  · have lg := bl_gcd p q lp lq
    have hg : 0 < (Int.gcd p q : Int) := by have := Int.gcd_pos_of_ne_zero_right p (b := q) (by omega); omega
    have g := z_bGcd p q lp lq
    have d1 := z_bDiv p _ hg lp lg
    have d2 := z_bDiv q _ hg lq lg
    have e := fz_divInt (p := p) (q := q) (by omega) rfl
    (refine acall_of tab_ok Tryz.func67 rfl (by decide) ?_; (conv => whnf); repeat (first | (refine LitB.data ?_; conv => whnf) | (refine BoxB.own ?_; conv => whnf)))
    (repeat' (first | ((refine DecB.mk (fun h => ?_) (fun h => ?_)) <;> first | (exfalso; omega) | (conv => whnf)) | ((refine BoolB.mk (fun h => ?_) (fun h => ?_)) <;> first | (exact absurd h (by decide)) | (conv => whnf)) | ((first | refine ⟨_, wrap_ok (by omega) (by omega), ?_⟩ | refine and_idx (by omega) (by omega) ?_ | refine reg_ok (by decide +kernel) ?_ | refine bar_ok (by decide +kernel) (by decide +kernel) ?_ | refine late_ok rfl rfl ?_ | refine src_ok rfl ?_ | refine .inl ⟨_, _, qcall_pure (r1) rfl rfl, ?_⟩ | refine .inl ⟨_, _, qcall_pure (r2) rfl rfl, ?_⟩ | refine .inl ⟨_, _, qcall_pure (g) rfl rfl, ?_⟩ | refine .inl ⟨_, _, qcall_pure (d1) rfl rfl, ?_⟩ | refine .inl ⟨_, _, qcall_pure (d2) rfl rfl, ?_⟩ | refine LitB.data ?_ | refine BoxB.own ?_); conv => whnf)))
    all_goals first
      | (exfalso; omega)
      | (exfalso; simp_all; done)
      | exact fin_fe e.symm
theorem z_fRight (x : Rat) (lx : rl x ≤ 200000) : ACall Tryz.prog 33 [frS (fz x)] [] (boolS true) [] := by
  have h := a_fRight (fz x) (Nat.le_trans (rl_num x) lx) (Nat.le_trans (rl_den x) lx)
  rw [fz_right] at h
  exact h
theorem z_fAdd (x y : Rat) (lx : rl x ≤ 60000) (ly : rl y ≤ 60000) : ACall Tryz.prog 38 [frS (fz x), frS (fz y)] [] (.tup [frS (fz (x + y)), intS .i64 0]) [] := by
  have r1 := z_fRight x (by omega)
  have r2 := z_fRight y (by omega)
  have x1 := rl_num x
  have x2 := rl_den x
  have y1 := rl_num y
  have y2 := rl_den y
  have l1 := bl_mul x.num y.den
  have l2 := bl_mul y.num x.den
  have l3 := bl_mul x.den y.den
  have l4 := bl_add (x.num * y.den) (y.num * x.den)
  have t1 := z_times x.num y.den (by omega) (by omega)
  have t2 := z_times y.num x.den (by omega) (by omega)
  have t3 := z_times x.den y.den (by omega) (by omega)
  have a := z_bAdd (x.num * y.den) (y.num * x.den) (by omega) (by omega)
  have n := z_fNew (x.num * y.den + y.num * x.den) (x.den * y.den) (den2_ne x y) (by omega) (by omega)
  rw [← rat_add] at n
  (refine acall_of tab_ok Tryz.func38 rfl (by decide) ?_; (conv => whnf); repeat (first | (refine LitB.data ?_; conv => whnf) | (refine BoxB.own ?_; conv => whnf)))
  (repeat' (first | ((refine DecB.mk (fun h => ?_) (fun h => ?_)) <;> first | (exfalso; omega) | (conv => whnf)) | ((refine BoolB.mk (fun h => ?_) (fun h => ?_)) <;> first | (exact absurd h (by decide)) | (conv => whnf)) | ((first | refine ⟨_, wrap_ok (by omega) (by omega), ?_⟩ | refine and_idx (by omega) (by omega) ?_ | refine reg_ok (by decide +kernel) ?_ | refine bar_ok (by decide +kernel) (by decide +kernel) ?_ | refine late_ok rfl rfl ?_ | refine src_ok rfl ?_ | refine .inl ⟨_, _, qcall_pure (r1) rfl rfl, ?_⟩ | refine .inl ⟨_, _, qcall_pure (r2) rfl rfl, ?_⟩ | refine .inl ⟨_, _, qcall_pure (t1) rfl rfl, ?_⟩ | refine .inl ⟨_, _, qcall_pure (t2) rfl rfl, ?_⟩ | refine .inl ⟨_, _, qcall_pure (t3) rfl rfl, ?_⟩ | refine .inl ⟨_, _, qcall_pure (a) rfl rfl, ?_⟩ | refine .inl ⟨_, _, qcall_pure (n) rfl rfl, ?_⟩ | refine .inl ⟨_, _, qcall_pure (13) rfl rfl, ?_⟩ | refine bar_late [13] (by decide +kernel) (by decide +kernel) ?_ | refine LitB.data ?_ | refine BoxB.own ?_); conv => whnf)))
  all_goals first
    | (exfalso; simp_all; done)
    | exact fin_fe rfl
theorem z_fSub (x y : Rat) (lx : rl x ≤ 60000) (ly : rl y ≤ 60000) : ACall Tryz.prog 37 [frS (fz x), frS (fz y)] [] (.tup [frS (fz (x - y)), intS .i64 0]) [] := by
  have r1 := z_fRight x (by omega)
  have r2 := z_fRight y (by omega)
  have y1 := rl_num y
  have n := z_bNeg y.num (by omega)
  have a := z_fAdd x (-y) lx (by rw [rl_neg]; exact ly)
  rw [← Rat.sub_eq_add_neg] at a
  have e : fz (-y) = ⟨bz (-y.num), bz y.den⟩ := rfl
  rw [e] at a
  (refine acall_of tab_ok Tryz.func37 rfl (by decide) ?_; (conv => whnf); repeat (first | (refine LitB.data ?_; conv => whnf) | (refine BoxB.own ?_; conv => whnf)))
  (repeat' (first | ((refine DecB.mk (fun h => ?_) (fun h => ?_)) <;> first | (exfalso; omega) | (conv => whnf)) | ((refine BoolB.mk (fun h => ?_) (fun h => ?_)) <;> first | (exact absurd h (by decide)) | (conv => whnf)) | ((first | refine ⟨_, wrap_ok (by omega) (by omega), ?_⟩ | refine and_idx (by omega) (by omega) ?_ | refine reg_ok (by decide +kernel) ?_ | refine bar_ok (by decide +kernel) (by decide +kernel) ?_ | refine late_ok rfl rfl ?_ | refine src_ok rfl ?_ | refine .inl ⟨_, _, qcall_pure (r1) rfl rfl, ?_⟩ | refine .inl ⟨_, _, qcall_pure (r2) rfl rfl, ?_⟩ | refine .inl ⟨_, _, qcall_pure (n) rfl rfl, ?_⟩ | refine .inl ⟨_, _, qcall_pure (a) rfl rfl, ?_⟩ | refine LitB.data ?_ | refine BoxB.own ?_); conv => whnf)))
  all_goals first
    | (exfalso; simp_all; done)
    | exact fin_fe rfl
theorem cmpR_num (x y : Rat) : cmpI (x.num * y.den) (y.num * x.den) = cmpR x y := by
  unfold cmpI cmpR
  simp only [← Rat.lt_iff]
theorem z_fCompare (x y : Rat) (lx : rl x ≤ 60000) (ly : rl y ≤ 60000) : ACall Tryz.prog 34 [frS (fz x), frS (fz y)] [] (intS .i64 (cmpR x y)) [] := by
  have r1 := z_fRight x (by omega)
  have r2 := z_fRight y (by omega)
  have x1 := rl_num x
  have x2 := rl_den x
  have y1 := rl_num y
  have y2 := rl_den y
  have l1 := bl_mul x.num y.den
  have l2 := bl_mul y.num x.den
  have t1 := z_times x.num y.den (by omega) (by omega)
  have t2 := z_times y.num x.den (by omega) (by omega)
  have c := z_bCompare (x.num * y.den) (y.num * x.den) (by omega) (by omega)
  rw [cmpR_num] at c
  (refine acall_of tab_ok Tryz.func34 rfl (by decide) ?_; (conv => whnf); repeat (first | (refine LitB.data ?_; conv => whnf) | (refine BoxB.own ?_; conv => whnf)))
  (repeat' (first | ((refine DecB.mk (fun h => ?_) (fun h => ?_)) <;> first | (exfalso; omega) | (conv => whnf)) | ((refine BoolB.mk (fun h => ?_) (fun h => ?_)) <;> first | (exact absurd h (by decide)) | (conv => whnf)) | ((first | refine ⟨_, wrap_ok (by omega) (by omega), ?_⟩ | refine and_idx (by omega) (by omega) ?_ | refine reg_ok (by decide +kernel) ?_ | refine bar_ok (by decide +kernel) (by decide +kernel) ?_ | refine late_ok rfl rfl ?_ | refine src_ok rfl ?_ | refine .inl ⟨_, _, qcall_pure (r1) rfl rfl, ?_⟩ | refine .inl ⟨_, _, qcall_pure (r2) rfl rfl, ?_⟩ | refine .inl ⟨_, _, qcall_pure (t1) rfl rfl, ?_⟩ | refine .inl ⟨_, _, qcall_pure (t2) rfl rfl, ?_⟩ | refine .inl ⟨_, _, qcall_pure (c) rfl rfl, ?_⟩ | refine LitB.data ?_ | refine BoxB.own ?_); conv => whnf)))
  all_goals first
    | (exfalso; simp_all; done)
    | exact fin_int rfl
theorem z_fSign (x : Rat) (lx : rl x ≤ 60000) : ACall Tryz.prog 35 [frS (fz x)] [] (intS .i64 (sgR x)) [] := by
  have r1 := z_fRight x (by omega)
  (refine acall_of tab_ok Tryz.func35 rfl (by decide) ?_; (conv => whnf); repeat (first | (refine LitB.data ?_; conv => whnf) | (refine BoxB.own ?_; conv => whnf)))
  (repeat' (first | ((refine DecB.mk (fun h => ?_) (fun h => ?_)) <;> first | (exfalso; omega) | (conv => whnf)) | ((refine BoolB.mk (fun h => ?_) (fun h => ?_)) <;> first | (exact absurd h (by decide)) | (conv => whnf)) | ((first | refine ⟨_, wrap_ok (by omega) (by omega), ?_⟩ | refine and_idx (by omega) (by omega) ?_ | refine reg_ok (by decide +kernel) ?_ | refine bar_ok (by decide +kernel) (by decide +kernel) ?_ | refine late_ok rfl rfl ?_ | refine src_ok rfl ?_ | refine .inl ⟨_, _, qcall_pure (r1) rfl rfl, ?_⟩ | refine LitB.data ?_ | refine BoxB.own ?_); conv => whnf)))
  all_goals first
    | (exfalso; simp_all; done)
    | exact fin_int (sign_num x)
theorem z_fOf (p q : Int) (hq : q ≠ 0) (p0 : -9223372036854775808 ≤ p) (p1 : p ≤ 9223372036854775807) (q0 : -9223372036854775808 ≤ q) (q1 : q ≤ 9223372036854775807) :
    ACall Tryz.prog 113 [intS .i64 p, intS .i64 q] [] (.tup [frS (fz (Rat.divInt p q)), intS .i64 0]) [] := by
  have l1 := bl_int p0 p1
  have l2 := bl_int q0 q1
  have o1 := z_bOf p p0 p1
  have o2 := z_bOf q q0 q1
  have n := z_fNew p q hq (by omega) (by omega)
  (refine acall_of tab_ok Tryz.func113 rfl (by decide) ?_; (conv => whnf); repeat (first | (refine LitB.data ?_; conv => whnf) | (refine BoxB.own ?_; conv => whnf)))
  (repeat' (first | ((refine DecB.mk (fun h => ?_) (fun h => ?_)) <;> first | (exfalso; omega) | (conv => whnf)) | ((refine BoolB.mk (fun h => ?_) (fun h => ?_)) <;> first | (exact absurd h (by decide)) | (conv => whnf)) | ((first | refine ⟨_, wrap_ok (by omega) (by omega), ?_⟩ | refine and_idx (by omega) (by omega) ?_ | refine reg_ok (by decide +kernel) ?_ | refine bar_ok (by decide +kernel) (by decide +kernel) ?_ | refine late_ok rfl rfl ?_ | refine src_ok rfl ?_ | refine .inl ⟨_, _, qcall_pure (o1) rfl rfl, ?_⟩ | refine .inl ⟨_, _, qcall_pure (o2) rfl rfl, ?_⟩ | refine .inl ⟨_, _, qcall_pure (n) rfl rfl, ?_⟩ | refine LitB.data ?_ | refine BoxB.own ?_); conv => whnf)))
  all_goals exact fin_fe rfl
theorem fz_int (n : Int) : fz (n : Rat) = ⟨bz n, bz 1⟩ := by unfold fz; rw [Rat.num_intCast, Rat.den_intCast]; rfl
theorem z_fInt (n : Int) (p0 : -9223372036854775808 ≤ n) (p1 : n ≤ 9223372036854775807) : ACall Tryz.prog 20 [intS .i64 n] [] (frS (fz (n : Rat))) [] := by
  have o1 := z_bOf n p0 p1
  have o2 := z_bOf 1 (by decide) (by decide)
  rw [fz_int]
  (refine acall_of tab_ok Tryz.func20 rfl (by decide) ?_; (conv => whnf); repeat (first | (refine LitB.data ?_; conv => whnf) | (refine BoxB.own ?_; conv => whnf)))
  (repeat' (first | ((refine DecB.mk (fun h => ?_) (fun h => ?_)) <;> first | (exfalso; omega) | (conv => whnf)) | ((refine BoolB.mk (fun h => ?_) (fun h => ?_)) <;> first | (exact absurd h (by decide)) | (conv => whnf)) | ((first | refine ⟨_, wrap_ok (by omega) (by omega), ?_⟩ | refine and_idx (by omega) (by omega) ?_ | refine reg_ok (by decide +kernel) ?_ | refine bar_ok (by decide +kernel) (by decide +kernel) ?_ | refine late_ok rfl rfl ?_ | refine src_ok rfl ?_ | refine .inl ⟨_, _, qcall_pure (o1) rfl rfl, ?_⟩ | refine .inl ⟨_, _, qcall_pure (o2) rfl rfl, ?_⟩ | refine LitB.data ?_ | refine BoxB.own ?_); conv => whnf)))
  all_goals exact fin_t ⟨rfl, rfl, rfl, rfl, trivial⟩
theorem z_slim (x : Int) (lx : bl x ≤ 200000) : ACall Tryz.prog 126 [bgS (bz x)] [] (bgS (bz x)) [] := by
  have n1 := z_bNeg x (by omega)
  have n2 := z_bNeg (-x) (by rw [bl_neg]; omega)
  rw [Int.neg_neg] at n2
  (refine acall_of tab_ok Tryz.func126 rfl (by decide) ?_; (conv => whnf); repeat (first | (refine LitB.data ?_; conv => whnf) | (refine BoxB.own ?_; conv => whnf)))
  (repeat' (first | ((refine DecB.mk (fun h => ?_) (fun h => ?_)) <;> first | (exfalso; omega) | (conv => whnf)) | ((refine BoolB.mk (fun h => ?_) (fun h => ?_)) <;> first | (exact absurd h (by decide)) | (conv => whnf)) | ((first | refine ⟨_, wrap_ok (by omega) (by omega), ?_⟩ | refine and_idx (by omega) (by omega) ?_ | refine reg_ok (by decide +kernel) ?_ | refine bar_ok (by decide +kernel) (by decide +kernel) ?_ | refine late_ok rfl rfl ?_ | refine src_ok rfl ?_ | refine .inl ⟨_, _, qcall_pure (n1) rfl rfl, ?_⟩ | refine .inl ⟨_, _, qcall_pure (n2) rfl rfl, ?_⟩ | refine LitB.data ?_ | refine BoxB.own ?_); conv => whnf)))
  all_goals exact fin_t ⟨rfl, rfl, trivial⟩
end Go.Proofs.YtomfnfbijgjfeaaGreat
/- Chapters 13 and 15 in plain Lean: intervals of scales, stocks, what history.Check computes. No program is in sight. -/
namespace Go.Proofs.YtomfnfbijgjfeaaGreat
set_option linter.unusedVariables false
set_option linter.unusedSimpArgs false

def certRight (c : Cert) : Bool :=
  decide (0 ≤ c.since) && decide (c.since ≤ c.till) && decide (c.till ≤ 100000) && idx c.scale 30 && btw c.grams 0 1099511627776 && btw c.permille 0 1000 && btw c.drift 0 10000000
def covers (c : Cert) (day : Int) : Bool := certRight c && btw day c.since c.till
def sinceAt (cs : List Cert) (i : Nat) : Int := ((cs[i]?).map (·.since)).getD 0
def later (cs : List Cert) (o : Option Nat) (c : Cert) : Bool := match o with
  | none => true
  | some b => decide (sinceAt cs b ≤ c.since)
/-- the certificate in force, among the first k -/
def findTo (cs : List Cert) (scale day : Int) : Nat → Option Nat
  | 0 => none
  | k + 1 => match cs[k]? with
    | none => findTo cs scale day k
    | some c => if decide (c.scale = scale) && covers c day && later cs (findTo cs scale day k) c then some k else findTo cs scale day k
theorem findTo_some {cs : List Cert} {scale day : Int} : ∀ {k b : Nat}, findTo cs scale day k = some b → b < k ∧ ∃ c, cs[b]? = some c ∧ c.scale = scale ∧ covers c day = true
  | 0, b, h => by simp [findTo] at h
  | k + 1, b, h => by
    unfold findTo at h
    split at h
    · obtain ⟨h1, h2⟩ := findTo_some h; exact ⟨by omega, h2⟩
    · rename_i c hc
      split at h
      · rename_i hcc
        injection h with h
        subst h
        simp only [Bool.and_eq_true, decide_eq_true_eq] at hcc
        exact ⟨by omega, c, hc, hcc.1.1, hcc.1.2⟩
      · obtain ⟨h1, h2⟩ := findTo_some h; exact ⟨by omega, h2⟩
def recalled (rs : List Recall) (scale day : Int) : Bool := rs.any fun r => decide (r.scale = scale) && decide (r.since ≤ day)
def errR (c : Cert) (reading day : Int) : Rat := Rat.divInt (c.permille * reading) 1000 + ((c.grams + c.drift * (day - c.since) : Int) : Rat)
def maxR (x y : Rat) : Rat := if x < y then y else x
def zeroCert : Cert := ⟨0, 0, 0, 0, 0, 0⟩
def certAt (cs : List Cert) (i : Nat) : Cert := (cs[i]?).getD zeroCert
def interval (cs : List Cert) (rs : List Recall) (scale reading day : Int) : Option (Rat × Rat) :=
  match findTo cs scale day cs.length with
  | none => none
  | some i => if recalled rs scale day then none else if btw reading 0 1099511627776 then
      some (maxR ((reading : Rat) - errR (certAt cs i) reading day) ((0 : Int) : Rat), (reading : Rat) + errR (certAt cs i) reading day) else none

def sumR (l : List Rat) : Rat := l.foldl (· + ·) ((0 : Int) : Rat)
def hz (H : List (List Rat)) : List (List Fr) := H.map (·.map fz)
theorem right_rats {l : List Fr} (h : l.all rightF = true) : ∃ L : List Rat, l = L.map fz := by
  induction l with
  | nil => exact ⟨[], rfl⟩
  | cons f r ih =>
    simp only [List.all_cons, Bool.and_eq_true] at h
    obtain ⟨L, rfl⟩ := ih h.2
    exact ⟨fv f :: L, by simp [← fz_fv h.1]⟩
structure Shape (e : Ev) (H : List (List Rat)) : Prop where
  len : H.length = e.moves.length
  wid : ∀ l ∈ H, (l.length : Int) = e.mats
def hAt (H : List (List Rat)) (k m : Nat) : Rat := (H.getD k []).getD m 0
/-- what a move makes of the stocks -/
def carryF (x : Move) (v : Nat → Rat) (f : Nat → Nat → Rat) : Nat → Nat → Rat := fun p m => if x.src = (p : Int) then f p m - v m else if x.dst = (p : Int) then f p m + v m else f p m
/-- the stocks after k moves -/
def stk (e : Ev) (H : List (List Rat)) : Nat → Nat → Nat → Rat
  | 0 => fun _ _ => ((0 : Int) : Rat)
  | k + 1 => match e.moves[k]? with
    | none => stk e H k
    | some x => carryF x (hAt H k) (stk e H k)
/-- the error of what a move takes -/
def takenF (f : Nat → Rat) (all : Bool) : List Rat → Nat → Bool → Int
  | [], _, rest => if rest && all then 7 else 0
  | v :: r, m, rest => if f m < v then 4 else takenF f all r (m + 1) (rest || decide (v < f m))
def takenE (e : Ev) (f : Nat → Nat → Rat) (x : Move) (l : List Rat) : Int := if kindAt e x.src = 0 then 0 else takenF (f x.src.toNat) x.all l 0 false
def inB (iv : Option (Rat × Rat)) (mass : Rat) : Bool := match iv with
  | none => true
  | some (lo, hi) => decide (lo ≤ mass) && decide (mass ≤ hi)
def weighedB (e : Ev) (x : Move) (mass : Rat) : Bool := if x.scale = -1 then true else inB (interval e.certs e.recalls x.scale x.reading x.day) mass
def pureOne (p : Purity) (l : List Rat) (mass : Rat) : Bool :=
  decide ((p.least : Rat) * mass ≤ ((1000 : Int) : Rat) * l.getD p.mat.toNat 0) && decide (((1000 : Int) : Rat) * l.getD p.mat.toNat 0 ≤ (p.most : Rat) * mass)
def pureB (ps : List Purity) (i : Nat) (l : List Rat) (mass : Rat) : Bool := ps.all fun p => decide (p.move ≠ (i : Int)) || pureOne p l mass
theorem rl_carryF {x : Move} {v : Nat → Rat} {f : Nat → Nat → Rat} {B C : Nat} (hv : ∀ m, rl (v m) ≤ B) (hf : ∀ p m, rl (f p m) ≤ C) (p m : Nat) : rl (carryF x v f p m) ≤ C + (B + 1) := by
  unfold carryF
  have h1 := hf p m
  have h2 := hv m
  have h3 := rl_sub (f p m) (v m)
  have h4 := rl_add (f p m) (v m)
  split
  · omega
  · split <;> omega
theorem rl_zero : rl ((0 : Int) : Rat) = 1 := by rw [rl_int]; rfl
theorem rl_hAt {H : List (List Rat)} {B : Nat} (hB : ∀ l ∈ H, ∀ x ∈ l, rl x ≤ B) (h1 : 1 ≤ B) (k m : Nat) : rl (hAt H k m) ≤ B := by
  unfold hAt
  rw [List.getD_eq_getElem?_getD, List.getD_eq_getElem?_getD]
  cases hk : H[k]? with
  | none =>
    have : rl 0 = 1 := rl_zero
    simp only [Option.getD_none, List.getElem?_nil]
    omega
  | some l =>
    simp only [Option.getD_some]
    cases hm : l[m]? with
    | none =>
      have : rl 0 = 1 := rl_zero
      simp only [Option.getD_none]
      omega
    | some x => exact hB l (List.mem_of_getElem? hk) x (List.mem_of_getElem? hm)
theorem rl_stk {e : Ev} {H : List (List Rat)} {B : Nat} (hB : ∀ l ∈ H, ∀ x ∈ l, rl x ≤ B) (h1 : 1 ≤ B) : ∀ k p m, rl (stk e H k p m) ≤ k * (B + 1) + 1
  | 0, p, m => by unfold stk; rw [rl_zero]; omega
  | k + 1, p, m => by
    have ih := rl_stk hB h1 (e := e) k
    unfold stk
    cases hx : e.moves[k]? with
    | none => have := ih p m; rw [Nat.succ_mul]; simp only; omega
    | some x =>
      simp only
      have := rl_carryF (x := x) (rl_hAt hB h1 k) ih p m
      rw [Nat.succ_mul]; omega
end Go.Proofs.YtomfnfbijgjfeaaGreat
/- frac.Max; scale: Right, covers, Find, Recalled, Error, Interval. -/
namespace Go.Proofs.YtomfnfbijgjfeaaGreat
open Go.RowKit
set_option linter.unusedVariables false
set_option linter.unusedSimpArgs false
set_option maxRecDepth 100000

theorem cmpR_lt {x y : Rat} : cmpR x y < 0 ↔ x < y := by unfold cmpR; split <;> (try split) <;> simp_all
theorem cmpR_rng (x y : Rat) : -1 ≤ cmpR x y ∧ cmpR x y ≤ 1 := by unfold cmpR; split <;> (try split) <;> omega
theorem z_fMax (x y : Rat) (lx : rl x ≤ 60000) (ly : rl y ≤ 60000) : ACall Tryz.prog 80 [frS (fz x), frS (fz y)] [] (.tup [frS (fz (maxR x y)), intS .i64 0]) [] := by
  have e : ACall Tryz.prog 114 [frS (fz x), frS (fz y), intS .i64 1] [] (.tup [frS (fz (maxR x y)), intS .i64 0]) [] := by
    have r1 := z_fRight x (by omega)
    have r2 := z_fRight y (by omega)
    have x1 := rl_num x
    have x2 := rl_den x
    have y1 := rl_num y
    have y2 := rl_den y
    have c := z_fCompare x y lx ly
    have hr := cmpR_rng x y
    have s1 := z_slim x.num (by omega)
    have s2 := z_slim x.den (by omega)
    have s3 := z_slim y.num (by omega)
    have s4 := z_slim y.den (by omega)
    (refine acall_of tab_ok Tryz.func114 rfl (by decide) ?_; (conv => whnf); repeat (first | (refine LitB.data ?_; conv => whnf) | (refine BoxB.own ?_; conv => whnf)))
    (repeat' (first | ((refine DecB.mk (fun h => ?_) (fun h => ?_)) <;> first | (exfalso; omega) | (conv => whnf)) | ((refine BoolB.mk (fun h => ?_) (fun h => ?_)) <;> first | (exact absurd h (by decide)) | (conv => whnf)) | ((first | refine ⟨_, wrap_ok (by omega) (by omega), ?_⟩ | refine and_idx (by omega) (by omega) ?_ | refine reg_ok (by decide +kernel) ?_ | refine bar_ok (by decide +kernel) (by decide +kernel) ?_ | refine late_ok rfl rfl ?_ | refine src_ok rfl ?_ | refine .inl ⟨_, _, qcall_pure (r1) rfl rfl, ?_⟩ | refine .inl ⟨_, _, qcall_pure (r2) rfl rfl, ?_⟩ | refine .inl ⟨_, _, qcall_pure (c) rfl rfl, ?_⟩ | refine .inl ⟨_, _, qcall_pure (s1) rfl rfl, ?_⟩ | refine .inl ⟨_, _, qcall_pure (s2) rfl rfl, ?_⟩ | refine .inl ⟨_, _, qcall_pure (s3) rfl rfl, ?_⟩ | refine .inl ⟨_, _, qcall_pure (s4) rfl rfl, ?_⟩ | refine LitB.data ?_ | refine BoxB.own ?_); conv => whnf)))
    · have h : cmpR x y < 0 := by omega
      refine fin_fe (f := fz y) ?_
      unfold maxR; rw [if_pos (cmpR_lt.1 h)]
    · have h : ¬ cmpR x y < 0 := by omega
      refine fin_fe (f := fz x) ?_
      unfold maxR; rw [if_neg (fun h' => h (cmpR_lt.2 h'))]
  (refine acall_of tab_ok Tryz.func80 rfl (by decide) ?_; (conv => whnf); repeat (first | (refine LitB.data ?_; conv => whnf) | (refine BoxB.own ?_; conv => whnf)))
  (repeat' (first | ((refine DecB.mk (fun h => ?_) (fun h => ?_)) <;> first | (exfalso; omega) | (conv => whnf)) | ((refine BoolB.mk (fun h => ?_) (fun h => ?_)) <;> first | (exact absurd h (by decide)) | (conv => whnf)) | ((first | refine ⟨_, wrap_ok (by omega) (by omega), ?_⟩ | refine and_idx (by omega) (by omega) ?_ | refine reg_ok (by decide +kernel) ?_ | refine bar_ok (by decide +kernel) (by decide +kernel) ?_ | refine late_ok rfl rfl ?_ | refine src_ok rfl ?_ | refine .inl ⟨_, _, qcall_pure (e) rfl rfl, ?_⟩ | refine LitB.data ?_ | refine BoxB.own ?_); conv => whnf)))
  all_goals exact fin_fe rfl
theorem a_within (n m : Int) : ACall Tryz.prog 112 [intS .i64 n, intS .i64 m] [] (boolS (btw n 0 m)) [] := by
  (refine acall_of tab_ok Tryz.func112 rfl (by decide) ?_; (conv => whnf); repeat (first | (refine LitB.data ?_; conv => whnf) | (refine BoxB.own ?_; conv => whnf)))
  (repeat' (first | ((refine DecB.mk (fun h => ?_) (fun h => ?_)) <;> first | (exfalso; omega) | (conv => whnf)) | ((refine BoolB.mk (fun h => ?_) (fun h => ?_)) <;> first | (exact absurd h (by decide)) | (conv => whnf)) | ((first | refine ⟨_, wrap_ok (by omega) (by omega), ?_⟩ | refine and_idx (by omega) (by omega) ?_ | refine reg_ok (by decide +kernel) ?_ | refine bar_ok (by decide +kernel) (by decide +kernel) ?_ | refine late_ok rfl rfl ?_ | refine src_ok rfl ?_ | refine LitB.data ?_ | refine BoxB.own ?_); conv => whnf)))
  all_goals (refine fin_bool ?_; unfold btw; simp; omega)
abbrev certS (c : Cert) : S := .agg (c.row.map .t)
theorem btw_idx30 (n : Int) : btw n 0 29 = idx n 30 := btw_idx n 30
theorem a_certRight (c : Cert) : ACall Tryz.prog 124 [certS c] [] (boolS (certRight c)) [] := by
  have w1 := a_within c.scale 29
  have w2 := a_within c.grams 1099511627776
  have w3 := a_within c.permille 1000
  have w4 := a_within c.drift 10000000
  rw [btw_idx30] at w1
  unfold certRight
  cases h1 : idx c.scale 30 <;> cases h2 : btw c.grams 0 1099511627776 <;> cases h3 : btw c.permille 0 1000 <;> cases h4 : btw c.drift 0 10000000 <;> rw [h1] at w1 <;> rw [h2] at w2 <;> rw [h3] at w3 <;> rw [h4] at w4 <;>
  · (refine acall_of tab_ok Tryz.func124 rfl (by decide) ?_; (conv => whnf); repeat (first | (refine LitB.data ?_; conv => whnf) | (refine BoxB.own ?_; conv => whnf)))
    (repeat' (first | ((refine DecB.mk (fun h => ?_) (fun h => ?_)) <;> first | (exfalso; omega) | (conv => whnf)) | ((refine BoolB.mk (fun h => ?_) (fun h => ?_)) <;> first | (exact absurd h (by decide)) | (conv => whnf)) | ((first | refine ⟨_, wrap_ok (by omega) (by omega), ?_⟩ | refine and_idx (by omega) (by omega) ?_ | refine reg_ok (by decide +kernel) ?_ | refine bar_ok (by decide +kernel) (by decide +kernel) ?_ | refine late_ok rfl rfl ?_ | refine src_ok rfl ?_ | refine .inl ⟨_, _, qcall_pure (w1) rfl rfl, ?_⟩ | refine .inl ⟨_, _, qcall_pure (w2) rfl rfl, ?_⟩ | refine .inl ⟨_, _, qcall_pure (w3) rfl rfl, ?_⟩ | refine .inl ⟨_, _, qcall_pure (w4) rfl rfl, ?_⟩ | refine LitB.data ?_ | refine BoxB.own ?_); conv => whnf)))
    all_goals (refine fin_bool ?_; simp; try omega)
theorem a_covers (c : Cert) (day : Int) : ACall Tryz.prog 109 [certS c, intS .i64 day] [] (boolS (covers c day)) [] := by
  have w1 := a_certRight c
  unfold covers
  cases h1 : certRight c <;> rw [h1] at w1 <;>
  · (refine acall_of tab_ok Tryz.func109 rfl (by decide) ?_; (conv => whnf); repeat (first | (refine LitB.data ?_; conv => whnf) | (refine BoxB.own ?_; conv => whnf)))
    (repeat' (first | ((refine DecB.mk (fun h => ?_) (fun h => ?_)) <;> first | (exfalso; omega) | (conv => whnf)) | ((refine BoolB.mk (fun h => ?_) (fun h => ?_)) <;> first | (exact absurd h (by decide)) | (conv => whnf)) | ((first | refine ⟨_, wrap_ok (by omega) (by omega), ?_⟩ | refine and_idx (by omega) (by omega) ?_ | refine reg_ok (by decide +kernel) ?_ | refine bar_ok (by decide +kernel) (by decide +kernel) ?_ | refine late_ok rfl rfl ?_ | refine src_ok rfl ?_ | refine .inl ⟨_, _, qcall_pure (w1) rfl rfl, ?_⟩ | refine LitB.data ?_ | refine BoxB.own ?_); conv => whnf)))
    all_goals (refine fin_bool ?_; simp [btw]; try omega)
theorem cert_get {cs : List Cert} {k : Nat} {c : Cert} (h : cs[k]? = some c) : sinceAt cs k = c.since := by unfold sinceAt; rw [h]; rfl
abbrev boxT (n : Int) : T := .ptr [ti n]
theorem ent_b {a b : Bool} {ρ : List (Option Nat)} {H : Hp} (h : a = b) : EntS ρ H (boolS a) (boolS b) := by subst h; exact rfl
def bestOf (o : Option Nat) : Nat := o.getD 0
theorem a_Find (cs : List Cert) (scale day : Int) (hl : cs.length ≤ 1000000) :
    ACall Tryz.prog 77 [.c (.t (certsT cs)), intS .i64 scale, intS .i64 day] [] (.tup [intS .i64 (bestOf (findTo cs scale day cs.length)), boolS (findTo cs scale day cs.length).isSome]) [] := by
  have l1 : (cs.map Cert.row).length = cs.length := by simp
  (refine acall_of tab_ok Tryz.func77 rfl (by decide) ?_; (conv => whnf); repeat (first | (refine LitB.data ?_; conv => whnf) | (refine BoxB.own ?_; conv => whnf)))
  (repeat' (first | ((refine DecB.mk (fun h => ?_) (fun h => ?_)) <;> first | (exfalso; omega) | (conv => whnf)) | ((refine BoolB.mk (fun h => ?_) (fun h => ?_)) <;> first | (exact absurd h (by decide)) | (conv => whnf)) | ((first | refine ⟨_, wrap_ok (by omega) (by omega), ?_⟩ | refine and_idx (by omega) (by omega) ?_ | refine reg_ok (by decide +kernel) ?_ | refine bar_ok (by decide +kernel) (by decide +kernel) ?_ | refine late_ok rfl rfl ?_ | refine src_ok rfl ?_ | refine LitB.data ?_ | refine BoxB.own ?_); conv => whnf)))
  refine awp_for tab_ok (fun k => ([S.c (C.t (certsT cs)), intS .i64 scale, intS .i64 day, J, J, J, J, J, intS .i64 (bestOf (findTo cs scale day k)), boolS (findTo cs scale day k).isSome, J, J, S.c (C.t (certsT cs)), intS .i64 cs.length, intS .i64 k, J, J, J, J, J, J, J, J, J, J, J, J, J, J, J, J, J, J, J, J, J, J, J, J, J, J, J, J, J, J, J], [])) cs.length (fun _ => True) [] trivial
    ⟨rfl, rfl, trivial, ⟨ent_t rfl, rfl, rfl, rfl, rfl, ent_t rfl, ent_i (by simp), rfl, trivial⟩⟩ ?_
  intro k hk _
  by_cases hlt : k < cs.length
  · obtain ⟨c, hc⟩ : ∃ c, cs[k]? = some c := ⟨_, List.getElem?_eq_getElem hlt⟩
    have cv := a_covers c day
    have hst : findTo cs scale day (k + 1) = if decide (c.scale = scale) && covers c day && later cs (findTo cs scale day k) c then some k else findTo cs scale day k := by
      conv => lhs; unfold findTo
      rw [hc]
    cases hcv : covers c day with
    | false =>
      rw [hcv] at cv hst
      simp only [Bool.and_false, Bool.false_and, Bool.false_eq_true, if_false] at hst
      rw [← hst]
      conv => whnf
      (repeat' (first | ((refine DecB.mk (fun h => ?_) (fun h => ?_)) <;> first | (exfalso; omega) | (conv => whnf)) | ((refine BoolB.mk (fun h => ?_) (fun h => ?_)) <;> first | (exact absurd h (by decide)) | (conv => whnf)) | ((first | refine ⟨_, wrap_ok (by omega) (by omega), ?_⟩ | refine and_idx (by omega) (by omega) ?_ | refine reg_ok (by decide +kernel) ?_ | refine bar_ok (by decide +kernel) (by decide +kernel) ?_ | refine late_ok rfl rfl ?_ | refine src_ok rfl ?_ | refine .inl ⟨_, _, qcall_pure (cv) rfl rfl, ?_⟩ | refine ex_row hc ?_ | refine LitB.data ?_ | refine BoxB.own ?_); conv => whnf)))
      all_goals first
        | (exfalso; omega)
        | exact ⟨hlt, trivial, [], rfl, rfl, trivial, ⟨rfl, rfl, rfl, rfl, rfl, rfl, rfl, rfl, trivial⟩⟩
    | true =>
      rw [hcv] at cv hst
      cases hf : findTo cs scale day k with
      | none =>
        rw [hf] at hst
        conv => whnf
        (repeat' (first | ((refine DecB.mk (fun h => ?_) (fun h => ?_)) <;> first | (exfalso; omega) | (conv => whnf)) | ((refine BoolB.mk (fun h => ?_) (fun h => ?_)) <;> first | (exact absurd h (by decide)) | (conv => whnf)) | ((first | refine ⟨_, wrap_ok (by omega) (by omega), ?_⟩ | refine and_idx (by omega) (by omega) ?_ | refine reg_ok (by decide +kernel) ?_ | refine bar_ok (by decide +kernel) (by decide +kernel) ?_ | refine late_ok rfl rfl ?_ | refine src_ok rfl ?_ | refine .inl ⟨_, _, qcall_pure (cv) rfl rfl, ?_⟩ | refine ex_row hc ?_ | refine LitB.data ?_ | refine BoxB.own ?_); conv => whnf)))
        · exact ⟨hlt, trivial, [], rfl, rfl, trivial, ⟨rfl, rfl, rfl, ent_i (by rw [hst]; simp [*, later, bestOf]), ent_b (by rw [hst]; simp [*, later]), rfl, rfl, rfl, trivial⟩⟩
        · exact ⟨hlt, trivial, [], rfl, rfl, trivial, ⟨rfl, rfl, rfl, ent_i (by rw [hst]; simp [*, later, bestOf]), ent_b (by rw [hst]; simp [*, later]), rfl, rfl, rfl, trivial⟩⟩
      | some b =>
        rw [hf] at hst
        obtain ⟨hb, cb, hcb, _⟩ := findTo_some hf
        have hsb := cert_get hcb
        conv => whnf
        (repeat' (first | ((refine DecB.mk (fun h => ?_) (fun h => ?_)) <;> first | (exfalso; omega) | (conv => whnf)) | ((refine BoolB.mk (fun h => ?_) (fun h => ?_)) <;> first | (exact absurd h (by decide)) | (conv => whnf)) | ((first | refine ⟨_, wrap_ok (by omega) (by omega), ?_⟩ | refine and_idx (by omega) (by omega) ?_ | refine reg_ok (by decide +kernel) ?_ | refine bar_ok (by decide +kernel) (by decide +kernel) ?_ | refine late_ok rfl rfl ?_ | refine src_ok rfl ?_ | refine .inl ⟨_, _, qcall_pure (cv) rfl rfl, ?_⟩ | refine ex_row hc ?_ | refine ex_row hcb ?_ | refine LitB.data ?_ | refine BoxB.own ?_); conv => whnf)))
        all_goals first
          | exact ⟨hlt, trivial, [], rfl, rfl, trivial, ⟨rfl, rfl, rfl, ent_i (by rw [hst]; simp [*, later, bestOf]), ent_b (by rw [hst]; simp [*, later]), rfl, rfl, rfl, trivial⟩⟩
          | (exfalso; simp_all; done)
  · have hke : k = cs.length := by omega
    subst hke
    conv => whnf
    (repeat' (first | ((refine DecB.mk (fun h => ?_) (fun h => ?_)) <;> first | (exfalso; omega) | (conv => whnf)) | ((refine BoolB.mk (fun h => ?_) (fun h => ?_)) <;> first | (exact absurd h (by decide)) | (conv => whnf)) | ((first | refine ⟨_, wrap_ok (by omega) (by omega), ?_⟩ | refine and_idx (by omega) (by omega) ?_ | refine reg_ok (by decide +kernel) ?_ | refine bar_ok (by decide +kernel) (by decide +kernel) ?_ | refine late_ok rfl rfl ?_ | refine src_ok rfl ?_ | refine LitB.data ?_ | refine BoxB.own ?_); conv => whnf)))
    all_goals first
      | (exfalso; omega)
      | exact fin_t ⟨rfl, rfl, trivial⟩
theorem a_RecalledIs (r : Recall) (scale day : Int) : ACall Tryz.prog 111 (.agg (r.row.map .t) :: [boxT scale, boxT day].map fun x => .c (.t x)) [] (boolS (decide (r.scale = scale) && decide (r.since ≤ day))) [] := by
  (refine acall_of tab_ok Tryz.func111 rfl (by decide) ?_; (conv => whnf); repeat (first | (refine LitB.data ?_; conv => whnf) | (refine BoxB.own ?_; conv => whnf)))
  (repeat' (first | ((refine DecB.mk (fun h => ?_) (fun h => ?_)) <;> first | (exfalso; omega) | (conv => whnf)) | ((refine BoolB.mk (fun h => ?_) (fun h => ?_)) <;> first | (exact absurd h (by decide)) | (conv => whnf)) | ((first | refine ⟨_, wrap_ok (by omega) (by omega), ?_⟩ | refine and_idx (by omega) (by omega) ?_ | refine reg_ok (by decide +kernel) ?_ | refine bar_ok (by decide +kernel) (by decide +kernel) ?_ | refine late_ok rfl rfl ?_ | refine src_ok rfl ?_ | refine LitB.data ?_ | refine BoxB.own ?_); conv => whnf)))
  all_goals (refine fin_bool ?_; simp [*]; try omega)
abbrev recS (r : Recall) : S := .agg (r.row.map .t)
def indexI {α : Type} (q : α → Bool) : List α → Nat → Int
  | [], _ => -1
  | x :: r, k => if q x then k else indexI q r (k + 1)
theorem indexI_any {α : Type} (q : α → Bool) : ∀ (l : List α) (k : Nat), decide (0 ≤ indexI q l k) = l.any q
  | [], k => by simp [indexI]
  | x :: r, k => by
    unfold indexI
    rw [List.any_cons]
    cases h : q x with
    | true => simp
    | false => simpa using indexI_any q r (k + 1)
theorem a_IndexRec (rs : List Recall) (hl : rs.length ≤ 1000000) (g : FuncId) (caps : List T) (q : Recall → Bool) (hg : ∀ r ∈ rs, ACall Tryz.prog g (recS r :: caps.map fun x => .c (.t x)) [] (boolS (q r)) []) :
    ACall Tryz.prog 125 [.c (.t (recallsT rs)), .c (.t (.fn (.func g) caps))] [] (intS .i64 (indexI q rs 0)) [] := by
  have l1 : (rs.map Recall.row).length = rs.length := by simp
  (refine acall_of tab_ok Tryz.func125 rfl (by decide) ?_; (conv => whnf); repeat (first | (refine LitB.data ?_; conv => whnf) | (refine BoxB.own ?_; conv => whnf)))
  (repeat' (first | ((refine DecB.mk (fun h => ?_) (fun h => ?_)) <;> first | (exfalso; omega) | (conv => whnf)) | ((refine BoolB.mk (fun h => ?_) (fun h => ?_)) <;> first | (exact absurd h (by decide)) | (conv => whnf)) | ((first | refine ⟨_, wrap_ok (by omega) (by omega), ?_⟩ | refine and_idx (by omega) (by omega) ?_ | refine reg_ok (by decide +kernel) ?_ | refine bar_ok (by decide +kernel) (by decide +kernel) ?_ | refine late_ok rfl rfl ?_ | refine src_ok rfl ?_ | refine LitB.data ?_ | refine BoxB.own ?_); conv => whnf)))
  refine awp_for tab_ok (fun k => ([S.c (C.t (recallsT rs)), S.c (C.t (T.fn (.func g) caps)), J, J, J, J, J, intS .i64 rs.length, intS .i64 k, J, J, J, J, J, J, J, J, J, J], [])) rs.length (fun k => indexI q (rs.drop k) k = indexI q rs 0) [] rfl
    ⟨rfl, rfl, trivial, ⟨ent_t rfl, ent_t rfl, ent_i (by simp), rfl, trivial⟩⟩ ?_
  intro k hk hI
  by_cases hlt : k < rs.length
  · obtain ⟨r, hr⟩ : ∃ r, rs[k]? = some r := ⟨_, List.getElem?_eq_getElem hlt⟩
    have hd : rs.drop k = r :: rs.drop (k + 1) := by
      rw [List.drop_eq_getElem_cons hlt]
      rw [List.getElem?_eq_getElem hlt] at hr
      injection hr with hr
      rw [hr]
    have hgr := hg r (List.mem_of_getElem? hr)
    have ha : (recS r :: caps.map fun x => S.c (C.t x)).all S.isT = true := by simp [S.isT, C.isT, Recall.row]
    rw [hd] at hI
    have hI : (if q r then (k : Int) else indexI q (rs.drop (k + 1)) (k + 1)) = indexI q rs 0 := hI
    cases hq : q r with
    | true =>
      rw [hq] at hgr hI
      conv => whnf
      (repeat' (first | ((refine DecB.mk (fun h => ?_) (fun h => ?_)) <;> first | (exfalso; omega) | (conv => whnf)) | ((refine BoolB.mk (fun h => ?_) (fun h => ?_)) <;> first | (exact absurd h (by decide)) | (conv => whnf)) | ((first | refine ⟨_, wrap_ok (by omega) (by omega), ?_⟩ | refine and_idx (by omega) (by omega) ?_ | refine reg_ok (by decide +kernel) ?_ | refine bar_ok (by decide +kernel) (by decide +kernel) ?_ | refine late_ok rfl rfl ?_ | refine src_ok rfl ?_ | refine .inl ⟨_, _, qcall_pure hgr ha rfl, ?_⟩ | refine ex_row hr ?_ | refine LitB.data ?_ | refine BoxB.own ?_); conv => whnf)))
      all_goals first
        | (exfalso; omega)
        | exact fin_int hI
    | false =>
      rw [hq] at hgr hI
      conv => whnf
      (repeat' (first | ((refine DecB.mk (fun h => ?_) (fun h => ?_)) <;> first | (exfalso; omega) | (conv => whnf)) | ((refine BoolB.mk (fun h => ?_) (fun h => ?_)) <;> first | (exact absurd h (by decide)) | (conv => whnf)) | ((first | refine ⟨_, wrap_ok (by omega) (by omega), ?_⟩ | refine and_idx (by omega) (by omega) ?_ | refine reg_ok (by decide +kernel) ?_ | refine bar_ok (by decide +kernel) (by decide +kernel) ?_ | refine late_ok rfl rfl ?_ | refine src_ok rfl ?_ | refine .inl ⟨_, _, qcall_pure hgr ha rfl, ?_⟩ | refine ex_row hr ?_ | refine LitB.data ?_ | refine BoxB.own ?_); conv => whnf)))
      all_goals first
        | (exfalso; omega)
        | exact ⟨hlt, by simpa using hI, [], rfl, rfl, trivial, ⟨rfl, rfl, rfl, rfl, trivial⟩⟩
  · have hke : k = rs.length := by omega
    subst hke
    rw [List.drop_of_length_le (Nat.le_refl _)] at hI
    conv => whnf
    (repeat' (first | ((refine DecB.mk (fun h => ?_) (fun h => ?_)) <;> first | (exfalso; omega) | (conv => whnf)) | ((refine BoolB.mk (fun h => ?_) (fun h => ?_)) <;> first | (exact absurd h (by decide)) | (conv => whnf)) | ((first | refine ⟨_, wrap_ok (by omega) (by omega), ?_⟩ | refine and_idx (by omega) (by omega) ?_ | refine reg_ok (by decide +kernel) ?_ | refine bar_ok (by decide +kernel) (by decide +kernel) ?_ | refine late_ok rfl rfl ?_ | refine src_ok rfl ?_ | refine LitB.data ?_ | refine BoxB.own ?_); conv => whnf)))
    all_goals first
      | (exfalso; omega)
      | exact fin_int hI
theorem a_ContainsRec (rs : List Recall) (hl : rs.length ≤ 1000000) (g : FuncId) (caps : List T) (q : Recall → Bool) (hg : ∀ r ∈ rs, ACall Tryz.prog g (recS r :: caps.map fun x => .c (.t x)) [] (boolS (q r)) []) :
    ACall Tryz.prog 110 [.c (.t (recallsT rs)), .c (.t (.fn (.func g) caps))] [] (boolS (rs.any q)) [] := by
  have ix := a_IndexRec rs hl g caps q hg
  (refine acall_of tab_ok Tryz.func110 rfl (by decide) ?_; (conv => whnf); repeat (first | (refine LitB.data ?_; conv => whnf) | (refine BoxB.own ?_; conv => whnf)))
  (repeat' (first | ((refine DecB.mk (fun h => ?_) (fun h => ?_)) <;> first | (exfalso; omega) | (conv => whnf)) | ((refine BoolB.mk (fun h => ?_) (fun h => ?_)) <;> first | (exact absurd h (by decide)) | (conv => whnf)) | ((first | refine ⟨_, wrap_ok (by omega) (by omega), ?_⟩ | refine and_idx (by omega) (by omega) ?_ | refine reg_ok (by decide +kernel) ?_ | refine bar_ok (by decide +kernel) (by decide +kernel) ?_ | refine late_ok rfl rfl ?_ | refine src_ok rfl ?_ | refine .inl ⟨_, _, qcall_pure (ix) rfl rfl, ?_⟩ | refine LitB.data ?_ | refine BoxB.own ?_); conv => whnf)))
  all_goals (refine fin_bool ?_; rw [← indexI_any q rs 0]; simp; omega)
theorem a_Recalled (rs : List Recall) (hl : rs.length ≤ 1000000) (scale day : Int) : ACall Tryz.prog 78 [.c (.t (recallsT rs)), intS .i64 scale, intS .i64 day] [] (boolS (recalled rs scale day)) [] := by
  have ct := a_ContainsRec rs hl 111 [boxT scale, boxT day] _ (fun r _ => a_RecalledIs r scale day)
  (refine acall_of tab_ok Tryz.func78 rfl (by decide) ?_; (conv => whnf); repeat (first | (refine LitB.data ?_; conv => whnf) | (refine BoxB.data ?_; conv => whnf)))
  (repeat' (first | ((refine DecB.mk (fun h => ?_) (fun h => ?_)) <;> first | (exfalso; omega) | (conv => whnf)) | ((refine BoolB.mk (fun h => ?_) (fun h => ?_)) <;> first | (exact absurd h (by decide)) | (conv => whnf)) | ((first | refine ⟨_, wrap_ok (by omega) (by omega), ?_⟩ | refine and_idx (by omega) (by omega) ?_ | refine reg_ok (by decide +kernel) ?_ | refine bar_ok (by decide +kernel) (by decide +kernel) ?_ | refine late_ok rfl rfl ?_ | refine src_ok rfl ?_ | refine .inl ⟨_, _, qcall_pure (ct) rfl rfl, ?_⟩ | refine LitB.data ?_ | refine BoxB.own ?_); conv => whnf)))
  all_goals (refine fin_bool ?_; symm; assumption)
end Go.Proofs.YtomfnfbijgjfeaaGreat
/- scale: Error, Interval. -/
namespace Go.Proofs.YtomfnfbijgjfeaaGreat
open Go.RowKit
set_option linter.unusedVariables false
set_option linter.unusedSimpArgs false
set_option maxRecDepth 100000

theorem covers_iff {c : Cert} {day : Int} (h : covers c day = true) : 0 ≤ c.since ∧ c.since ≤ day ∧ day ≤ c.till ∧ c.till ≤ 100000 ∧ 0 ≤ c.grams ∧ c.grams ≤ 1099511627776 ∧ 0 ≤ c.permille ∧ c.permille ≤ 1000 ∧ 0 ≤ c.drift ∧ c.drift ≤ 10000000 := by
  unfold covers certRight btw at h
  simp only [Bool.and_eq_true, decide_eq_true_eq] at h
  omega
abbrev zeroF : Fr := ⟨⟨0, []⟩, ⟨0, []⟩⟩
theorem fin_fb {f f' : Fr} {b b' : Bool} {H1 : Hp} (h : f = f') (h2 : b = b') : Fin 0 (.tup [frS f, boolS b]) H1 (.tup [frS f', boolS b']) [] := by
  subst h h2; exact fin_t ⟨⟨rfl, rfl, rfl, rfl, trivial⟩, rfl, trivial⟩
structure ErrI (c : Cert) (reading day : Int) : Prop where
  p0 : 0 ≤ c.permille * reading
  p1 : c.permille * reading ≤ 1000 * 1099511627776
  d0 : 0 ≤ c.drift * (day - c.since)
  d1 : c.drift * (day - c.since) ≤ 10000000 * 100000
theorem ErrI.of {c : Cert} {reading day : Int} (h : covers c day = true) (hr : btw reading 0 1099511627776 = true) : ErrI c reading day := by
  have hc := covers_iff h
  rw [btw_iff] at hr
  exact ⟨Int.mul_nonneg (by omega) (by omega), Int.mul_le_mul (by omega) (by omega) (by omega) (by omega), Int.mul_nonneg (by omega) (by omega), Int.mul_le_mul (by omega) (by omega) (by omega) (by omega)⟩
theorem rl_err {c : Cert} {reading day : Int} (h : covers c day = true) (hr : btw reading 0 1099511627776 = true) : rl (errR c reading day) ≤ 9 := by
  have i := ErrI.of h hr
  have hc := covers_iff h
  obtain ⟨p0, p1, d0, d1⟩ := i
  unfold errR
  have h1 := rl_add (Rat.divInt (c.permille * reading) 1000) ((c.grams + c.drift * (day - c.since) : Int) : Rat)
  have h2 : rl (Rat.divInt (c.permille * reading) 1000) ≤ 4 := Nat.le_trans (rl_divInt (by decide)) (by have := bl_int (x := c.permille * reading) (by omega) (by omega); have := bl_int (x := 1000) (by decide) (by decide); omega)
  have h3 : rl ((c.grams + c.drift * (day - c.since) : Int) : Rat) ≤ 4 := by rw [rl_int]; have := bl_int (x := c.grams + c.drift * (day - c.since)) (by omega) (by omega); omega
  omega
theorem a_Error (c : Cert) (reading day : Int) (h : covers c day = true) : ACall Tryz.prog 79 [certS c, intS .i64 reading, intS .i64 day] []
    (.tup [frS (if btw reading 0 1099511627776 then fz (errR c reading day) else zeroF), boolS (btw reading 0 1099511627776)]) [] := by
  have cv := a_covers c day
  have wi := a_within reading 1099511627776
  rw [h] at cv
  have hc := covers_iff h
  cases hr : btw reading 0 1099511627776 with
  | false =>
    rw [hr] at wi
    (refine acall_of tab_ok Tryz.func79 rfl (by decide) ?_; (conv => whnf); repeat (first | (refine LitB.data ?_; conv => whnf) | (refine BoxB.own ?_; conv => whnf)))
    (repeat' (first | ((refine DecB.mk (fun h => ?_) (fun h => ?_)) <;> first | (exfalso; omega) | (conv => whnf)) | ((refine BoolB.mk (fun h => ?_) (fun h => ?_)) <;> first | (exact absurd h (by decide)) | (conv => whnf)) | ((first | refine ⟨_, wrap_ok (by omega) (by omega), ?_⟩ | refine and_idx (by omega) (by omega) ?_ | refine reg_ok (by decide +kernel) ?_ | refine bar_ok (by decide +kernel) (by decide +kernel) ?_ | refine late_ok rfl rfl ?_ | refine src_ok rfl ?_ | refine .inl ⟨_, _, qcall_pure (cv) rfl rfl, ?_⟩ | refine .inl ⟨_, _, qcall_pure (wi) rfl rfl, ?_⟩ | refine LitB.data ?_ | refine BoxB.own ?_); conv => whnf)))
    all_goals first
      | (exfalso; simp_all; done)
      | exact fin_t ⟨⟨rfl, rfl, rfl, rfl, trivial⟩, rfl, trivial⟩
  | true =>
    rw [hr] at wi
    obtain ⟨p0, p1, d0, d1⟩ := ErrI.of h hr
    rw [btw_iff] at hr
    have fo := z_fOf (c.permille * reading) 1000 (by decide) (by omega) (by omega) (by decide) (by decide)
    have fi := z_fInt (c.grams + c.drift * (day - c.since)) (by omega) (by omega)
    have h2 : rl (Rat.divInt (c.permille * reading) 1000) ≤ 4 := Nat.le_trans (rl_divInt (by decide)) (by have := bl_int (x := c.permille * reading) (by omega) (by omega); have := bl_int (x := 1000) (by decide) (by decide); omega)
    have h3 : rl ((c.grams + c.drift * (day - c.since) : Int) : Rat) ≤ 4 := by rw [rl_int]; have := bl_int (x := c.grams + c.drift * (day - c.since)) (by omega) (by omega); omega
    have ad := z_fAdd (Rat.divInt (c.permille * reading) 1000) ((c.grams + c.drift * (day - c.since) : Int) : Rat) (by omega) (by omega)
    (refine acall_of tab_ok Tryz.func79 rfl (by decide) ?_; (conv => whnf); repeat (first | (refine LitB.data ?_; conv => whnf) | (refine BoxB.own ?_; conv => whnf)))
    (repeat' (first | ((refine DecB.mk (fun h => ?_) (fun h => ?_)) <;> first | (exfalso; omega) | (conv => whnf)) | ((refine BoolB.mk (fun h => ?_) (fun h => ?_)) <;> first | (exact absurd h (by decide)) | (conv => whnf)) | ((first | refine ⟨_, wrap_ok (by omega) (by omega), ?_⟩ | refine and_idx (by omega) (by omega) ?_ | refine reg_ok (by decide +kernel) ?_ | refine bar_ok (by decide +kernel) (by decide +kernel) ?_ | refine late_ok rfl rfl ?_ | refine src_ok rfl ?_ | refine .inl ⟨_, _, qcall_pure (cv) rfl rfl, ?_⟩ | refine .inl ⟨_, _, qcall_pure (wi) rfl rfl, ?_⟩ | refine .inl ⟨_, _, qcall_pure (fo) rfl rfl, ?_⟩ | refine .inl ⟨_, _, qcall_pure (fi) rfl rfl, ?_⟩ | refine .inl ⟨_, _, qcall_pure (ad) rfl rfl, ?_⟩ | refine .inl ⟨_, _, qcall_pure (7) rfl rfl, ?_⟩ | refine .inl ⟨_, _, qcall_pure (15) rfl rfl, ?_⟩ | refine bar_late [7] (by decide +kernel) (by decide +kernel) ?_ | refine bar_late [15] (by decide +kernel) (by decide +kernel) ?_ | refine LitB.data ?_ | refine BoxB.own ?_); conv => whnf)))
    all_goals first
      | (exfalso; simp_all; done)
      | exact fin_fb rfl rfl
abbrev ivL (o : Option (Rat × Rat)) : List S := match o with
  | some (lo, hi) => [frS (fz lo), frS (fz hi), boolS true]
  | none => [frS zeroF, frS zeroF, boolS false]
theorem rl_maxR {x y : Rat} {n : Nat} (h1 : rl x ≤ n) (h2 : rl y ≤ n) : rl (maxR x y) ≤ n := by unfold maxR; split <;> assumption
theorem rl_interval {cs : List Cert} {rs : List Recall} {scale reading day : Int} {lo hi : Rat} (h : interval cs rs scale reading day = some (lo, hi)) : rl lo ≤ 20 ∧ rl hi ≤ 20 := by
  unfold interval at h
  split at h
  · cases h
  · rename_i i hi
    obtain ⟨hb, c, hc, _, hcv⟩ := findTo_some hi
    have e : certAt cs i = c := by unfold certAt; rw [hc]; rfl
    rw [e] at h
    split at h
    · cases h
    · split at h
      · rename_i hr
        injection h with h
        injection h with h1 h2
        have l1 := rl_err hcv hr
        rw [btw_iff] at hr
        have l2 : rl (reading : Rat) ≤ 4 := by rw [rl_int]; have := bl_int (x := reading) (by omega) (by omega); omega
        have l3 := rl_add (reading : Rat) (errR c reading day)
        have l4 := rl_sub (reading : Rat) (errR c reading day)
        refine ⟨?_, by rw [← h2]; omega⟩
        rw [← h1]
        exact rl_maxR (by omega) (by rw [rl_zero]; omega)
      · cases h
theorem a_Interval (cs : List Cert) (rs : List Recall) (hl : cs.length ≤ 1000000) (hl2 : rs.length ≤ 1000000) (scale reading day : Int) :
    ACall Tryz.prog 49 [.c (.t (certsT cs)), .c (.t (recallsT rs)), intS .i64 scale, intS .i64 reading, intS .i64 day] [] (.tup (ivL (interval cs rs scale reading day))) [] := by
  have f := a_Find cs scale day hl
  have r := a_Recalled rs hl2 scale day
  unfold interval
  cases hf : findTo cs scale day cs.length with
  | none =>
    rw [hf] at f
    (refine acall_of tab_ok Tryz.func49 rfl (by decide) ?_; (conv => whnf); repeat (first | (refine LitB.data ?_; conv => whnf) | (refine BoxB.own ?_; conv => whnf)))
    (repeat' (first | ((refine DecB.mk (fun h => ?_) (fun h => ?_)) <;> first | (exfalso; omega) | (conv => whnf)) | ((refine BoolB.mk (fun h => ?_) (fun h => ?_)) <;> first | (exact absurd h (by decide)) | (conv => whnf)) | ((first | refine ⟨_, wrap_ok (by omega) (by omega), ?_⟩ | refine and_idx (by omega) (by omega) ?_ | refine reg_ok (by decide +kernel) ?_ | refine bar_ok (by decide +kernel) (by decide +kernel) ?_ | refine late_ok rfl rfl ?_ | refine src_ok rfl ?_ | refine .inl ⟨_, _, qcall_pure (f) rfl rfl, ?_⟩ | refine .inl ⟨_, _, qcall_pure (r) rfl rfl, ?_⟩ | refine .inl ⟨_, _, qcall_pure (1) rfl rfl, ?_⟩ | refine .inl ⟨_, _, qcall_pure (6) rfl rfl, ?_⟩ | refine bar_late [1] (by decide +kernel) (by decide +kernel) ?_ | refine bar_late [6] (by decide +kernel) (by decide +kernel) ?_ | refine LitB.data ?_ | refine BoxB.own ?_); conv => whnf)))
    all_goals first
      | (exfalso; simp_all; done)
      | exact fin_t ⟨⟨rfl, rfl, rfl, rfl, trivial⟩, ⟨rfl, rfl, rfl, rfl, trivial⟩, rfl, trivial⟩
  | some i =>
    rw [hf] at f
    obtain ⟨hb, c, hc, _, hcv⟩ := findTo_some hf
    have e : certAt cs i = c := by unfold certAt; rw [hc]; rfl
    have er := a_Error c reading day hcv
    simp only [e]
    cases hrec : recalled rs scale day with
    | true =>
      rw [hrec] at r
      (refine acall_of tab_ok Tryz.func49 rfl (by decide) ?_; (conv => whnf); repeat (first | (refine LitB.data ?_; conv => whnf) | (refine BoxB.own ?_; conv => whnf)))
      (repeat' (first | ((refine DecB.mk (fun h => ?_) (fun h => ?_)) <;> first | (exfalso; omega) | (conv => whnf)) | ((refine BoolB.mk (fun h => ?_) (fun h => ?_)) <;> first | (exact absurd h (by decide)) | (conv => whnf)) | ((first | refine ⟨_, wrap_ok (by omega) (by omega), ?_⟩ | refine and_idx (by omega) (by omega) ?_ | refine reg_ok (by decide +kernel) ?_ | refine bar_ok (by decide +kernel) (by decide +kernel) ?_ | refine late_ok rfl rfl ?_ | refine src_ok rfl ?_ | refine .inl ⟨_, _, qcall_pure (f) rfl rfl, ?_⟩ | refine .inl ⟨_, _, qcall_pure (r) rfl rfl, ?_⟩ | refine .inl ⟨_, _, qcall_pure (1) rfl rfl, ?_⟩ | refine .inl ⟨_, _, qcall_pure (6) rfl rfl, ?_⟩ | refine bar_late [1] (by decide +kernel) (by decide +kernel) ?_ | refine bar_late [6] (by decide +kernel) (by decide +kernel) ?_ | refine LitB.data ?_ | refine BoxB.own ?_); conv => whnf)))
      all_goals first
        | (exfalso; simp_all; done)
        | exact fin_t ⟨⟨rfl, rfl, rfl, rfl, trivial⟩, ⟨rfl, rfl, rfl, rfl, trivial⟩, rfl, trivial⟩
    | false =>
      rw [hrec] at r
      cases hr : btw reading 0 1099511627776 with
      | false =>
        rw [hr] at er
        (refine acall_of tab_ok Tryz.func49 rfl (by decide) ?_; (conv => whnf); repeat (first | (refine LitB.data ?_; conv => whnf) | (refine BoxB.own ?_; conv => whnf)))
        (repeat' (first | ((refine DecB.mk (fun h => ?_) (fun h => ?_)) <;> first | (exfalso; omega) | (conv => whnf)) | ((refine BoolB.mk (fun h => ?_) (fun h => ?_)) <;> first | (exact absurd h (by decide)) | (conv => whnf)) | ((first | refine ⟨_, wrap_ok (by omega) (by omega), ?_⟩ | refine and_idx (by omega) (by omega) ?_ | refine reg_ok (by decide +kernel) ?_ | refine bar_ok (by decide +kernel) (by decide +kernel) ?_ | refine late_ok rfl rfl ?_ | refine src_ok rfl ?_ | refine .inl ⟨_, _, qcall_pure (f) rfl rfl, ?_⟩ | refine .inl ⟨_, _, qcall_pure (r) rfl rfl, ?_⟩ | refine .inl ⟨_, _, qcall_pure (er) rfl rfl, ?_⟩ | refine .inl ⟨_, _, qcall_pure (1) rfl rfl, ?_⟩ | refine .inl ⟨_, _, qcall_pure (9) rfl rfl, ?_⟩ | refine ex_row hc ?_ | refine bar_late [1] (by decide +kernel) (by decide +kernel) ?_ | refine bar_late [9] (by decide +kernel) (by decide +kernel) ?_ | refine LitB.data ?_ | refine BoxB.own ?_); conv => whnf)))
        all_goals first
          | exact fin_t ⟨⟨rfl, rfl, rfl, rfl, trivial⟩, ⟨rfl, rfl, rfl, rfl, trivial⟩, rfl, trivial⟩
          | (exfalso; simp_all; done)
      | true =>
        have l1 := rl_err hcv hr
        rw [hr] at er
        rw [btw_iff] at hr
        have l2 : rl (reading : Rat) ≤ 4 := by rw [rl_int]; have := bl_int (x := reading) (by omega) (by omega); omega
        have fi := z_fInt reading (by omega) (by omega)
        have f0 := z_fInt 0 (by omega) (by omega)
        have sb := z_fSub (reading : Rat) (errR c reading day) (by omega) (by omega)
        have ad := z_fAdd (reading : Rat) (errR c reading day) (by omega) (by omega)
        have l4 := rl_sub (reading : Rat) (errR c reading day)
        have mx := z_fMax ((reading : Rat) - errR c reading day) ((0 : Int) : Rat) (by omega) (by rw [rl_zero]; omega)
        (refine acall_of tab_ok Tryz.func49 rfl (by decide) ?_; (conv => whnf); repeat (first | (refine LitB.data ?_; conv => whnf) | (refine BoxB.own ?_; conv => whnf)))
        (repeat' (first | ((refine DecB.mk (fun h => ?_) (fun h => ?_)) <;> first | (exfalso; omega) | (conv => whnf)) | ((refine BoolB.mk (fun h => ?_) (fun h => ?_)) <;> first | (exact absurd h (by decide)) | (conv => whnf)) | ((first | refine ⟨_, wrap_ok (by omega) (by omega), ?_⟩ | refine and_idx (by omega) (by omega) ?_ | refine reg_ok (by decide +kernel) ?_ | refine bar_ok (by decide +kernel) (by decide +kernel) ?_ | refine late_ok rfl rfl ?_ | refine src_ok rfl ?_ | refine .inl ⟨_, _, qcall_pure (f) rfl rfl, ?_⟩ | refine .inl ⟨_, _, qcall_pure (r) rfl rfl, ?_⟩ | refine .inl ⟨_, _, qcall_pure (er) rfl rfl, ?_⟩ | refine .inl ⟨_, _, qcall_pure (fi) rfl rfl, ?_⟩ | refine .inl ⟨_, _, qcall_pure (f0) rfl rfl, ?_⟩ | refine .inl ⟨_, _, qcall_pure (sb) rfl rfl, ?_⟩ | refine .inl ⟨_, _, qcall_pure (ad) rfl rfl, ?_⟩ | refine .inl ⟨_, _, qcall_pure (mx) rfl rfl, ?_⟩ | refine .inl ⟨_, _, qcall_pure (1) rfl rfl, ?_⟩ | refine .inl ⟨_, _, qcall_pure (9) rfl rfl, ?_⟩ | refine .inl ⟨_, _, qcall_pure (5) rfl rfl, ?_⟩ | refine ex_row hc ?_ | refine bar_late [1] (by decide +kernel) (by decide +kernel) ?_ | refine bar_late [9] (by decide +kernel) (by decide +kernel) ?_ | refine bar_late [5] (by decide +kernel) (by decide +kernel) ?_ | refine LitB.data ?_ | refine BoxB.own ?_); conv => whnf)))
        all_goals first
          | exact fin_t ⟨⟨rfl, rfl, rfl, rfl, trivial⟩, ⟨rfl, rfl, rfl, rfl, trivial⟩, rfl, trivial⟩
          | (exfalso; simp_all; done)
end Go.Proofs.YtomfnfbijgjfeaaGreat
/- history: shaped, sum, negative, weighed, pure. -/
namespace Go.Proofs.YtomfnfbijgjfeaaGreat
open Go.RowKit
set_option linter.unusedVariables false
set_option linter.unusedSimpArgs false
set_option maxRecDepth 100000

def frRow (f : Fr) : List T := [ti f.p.sg, intsT f.p.dl, ti f.q.sg, intsT f.q.dl]
abbrev fracsT (l : List Fr) : T := .sl 4 .any (l.map frRow)
abbrev fracsS (l : List Fr) : S := .c (.t (fracsT l))
/-- small enough to be calculated with -/
structure SmallH (n : Nat) (h : List (List Fr)) : Prop where
  l1 : h.length ≤ 1000000
  l2 : ∀ l ∈ h, l.length ≤ 1000000
  l3 : ∀ l ∈ h, ∀ f ∈ l, f.p.dl.length ≤ n ∧ f.q.dl.length ≤ n
theorem zero_get (l : List Rat) {k : Nat} {x : Rat} (h : l[k]? = some x) : (l.map fz)[k]? = some (fz x) := by rw [List.getElem?_map, h]; rfl
theorem sgR_neg {x : Rat} : sgR x < 0 ↔ x < 0 := by unfold sgR; split <;> (try split) <;> simp_all
theorem cmpR_le {x y : Rat} : cmpR x y ≤ 0 ↔ x ≤ y := by
  unfold cmpR
  split
  · simp; grind
  · split
    · simp; grind
    · simp; grind
theorem cmpR_lt' {x y : Rat} : cmpR x y > 0 ↔ y < x := by
  have := cmpR_le (x := x) (y := y)
  constructor
  · intro h; have h2 : ¬ x ≤ y := fun h' => by have := this.2 h'; omega
    grind
  · intro h; have h2 : ¬ cmpR x y ≤ 0 := fun h' => by have := this.1 h'; grind
    omega
end Go.Proofs.YtomfnfbijgjfeaaGreat
/- Chapter 15 in plain Lean: what the statements say of histories. No program is in sight. -/
namespace Go.Proofs.YtomfnfbijgjfeaaGreat
set_option linter.unusedVariables false
set_option linter.unusedSimpArgs false

structure StepOk (e : Ev) (x : Move) (l : List Rat) (f : Nat → Nat → Rat) (i : Nat) : Prop where
  pos : ∀ v ∈ l, ¬ v < 0
  tak : takenE e f x l = 0
  wei : weighedB e x (sumR l) = true
  pur : pureB e.purities i l (sumR l) = true
end Go.Proofs.YtomfnfbijgjfeaaGreat
/- Chapter 15 in plain Lean: a mixture of two histories that the evidence allows is one that it allows. No program is in sight. -/
namespace Go.Proofs.YtomfnfbijgjfeaaGreat
set_option linter.unusedVariables false
set_option linter.unusedSimpArgs false

theorem getD_some {l : List Rat} {m : Nat} (h : m < l.length) : l[m]? = some (l.getD m 0) := by rw [List.getD_eq_getElem?_getD, List.getElem?_eq_getElem h]; rfl
end Go.Proofs.YtomfnfbijgjfeaaGreat
/- FlowOnce in plain Lean: the counts. -/
namespace Go.Proofs.YtomfnfbijgjfeaaGreat
set_option linter.unusedSimpArgs false
set_option linter.unusedVariables false

/-- the count of each move: 1 if it is before 'up' and its place d is below p, or it is among S -/
def Cnt (l : List Move) (d : Move → Int) (up : Int) (p : Nat) (S : List Int) (L : List Int) : Prop :=
  L.length = l.length ∧ ∀ (j : Nat) (m : Move), l[j]? = some m → L[j]? = some (if (j : Int) ∈ S ∨ ((j : Int) < up ∧ d m < (p : Int)) then 1 else 0)
theorem Cnt.zero {l : List Move} {d : Move → Int} {up : Int} (hd : ∀ m ∈ l, 0 ≤ d m) : Cnt l d up 0 [] (List.replicate l.length 0) := by
  refine ⟨by simp, fun j m hm => ?_⟩
  have hl := (List.getElem?_eq_some_iff.1 hm).1
  have := hd m (List.mem_of_getElem? hm)
  rw [if_neg (by simp; omega)]
  simp [List.getElem?_replicate, hl]
/-- one more of the picked ones is counted -/
theorem Cnt.step {l : List Move} {d : Move → Int} {up : Int} {p : Nat} {a L : List Int} {i j : Nat} {m : Move} (h : Cnt l d up p (a.take i) L) (hs : a.Pairwise (· < ·)) (hx : a[i]? = some (j : Int)) (hm : l[j]? = some m) (hdm : d m = (p : Int)) :
    L[j]? = some 0 ∧ Cnt l d up p (a.take (i + 1)) (L.set j 1) := by
  obtain ⟨hi, hxi⟩ := List.getElem?_eq_some_iff.1 hx
  have hnot : (j : Int) ∉ a.take i := by
    intro hmem
    obtain ⟨k, hk, e⟩ := List.getElem_of_mem hmem
    have hk' : k < i := by simp at hk; omega
    rw [List.getElem_take] at e
    have := List.pairwise_iff_getElem.1 hs k i (by omega) hi hk'
    omega
  refine ⟨?_, by simpa using h.1, fun j' m' hm' => ?_⟩
  · rw [h.2 j m hm, if_neg]
    rintro (h1 | ⟨_, h2⟩)
    · exact hnot h1
    · omega
  · have hmem : (j' : Int) ∈ a.take (i + 1) ↔ (j' : Int) ∈ a.take i ∨ j' = j := by
      rw [List.take_succ_eq_append_getElem hi, List.mem_append, hxi, List.mem_singleton]
      constructor
      · rintro (h1 | h1)
        · exact .inl h1
        · exact .inr (by omega)
      · rintro (h1 | h1)
        · exact .inl h1
        · exact .inr (by omega)
    by_cases hj : j' = j
    · subst hj
      rw [List.getElem?_set_self (by rw [h.1]; exact (List.getElem?_eq_some_iff.1 hm').1), if_pos (.inl (hmem.2 (.inr rfl)))]
    · rw [List.getElem?_set_ne (by omega), h.2 j' m' hm']
      have : (j' : Int) ∈ a.take (i + 1) ↔ (j' : Int) ∈ a.take i := by rw [hmem]; simp [hj]
      simp only [this]
/-- all of them are counted: on to the next place -/
theorem Cnt.next {l : List Move} {d : Move → Int} {up : Int} {p : Nat} {a L : List Int} (h : Cnt l d up p a L) (ha : ∀ (j : Nat) (m : Move), l[j]? = some m → ((j : Int) ∈ a ↔ (j : Int) < up ∧ d m = (p : Int))) : Cnt l d up (p + 1) [] L := by
  refine ⟨h.1, fun j m hm => ?_⟩
  rw [h.2 j m hm]
  have hj := ha j m hm
  have hiff : ((j : Int) ∈ a ∨ ((j : Int) < up ∧ d m < (p : Int))) ↔ ((j : Int) ∈ ([] : List Int) ∨ ((j : Int) < up ∧ d m < ((p + 1 : Nat) : Int))) := by
    rw [hj]
    constructor
    · rintro (h1 | h1)
      · exact .inr ⟨h1.1, by omega⟩
      · exact .inr ⟨h1.1, by omega⟩
    · rintro (h1 | h1)
      · cases h1
      · by_cases h2 : d m = (p : Int)
        · exact .inl ⟨h1.1, h2⟩
        · exact .inr ⟨h1.1, by omega⟩
  by_cases h : (j : Int) ∈ a ∨ ((j : Int) < up ∧ d m < (p : Int))
  · rw [if_pos h, if_pos (hiff.1 h)]
  · rw [if_neg h, if_neg (fun h' => h (hiff.2 h'))]
theorem Cnt.last {l : List Move} {d : Move → Int} {up : Int} {p : Nat} {L : List Int} (h : Cnt l d up p [] L) (hd : ∀ m ∈ l, d m < (p : Int)) {j : Nat} {m : Move} (hm : l[j]? = some m) : L[j]? = some (if (j : Int) < up then 1 else 0) := by
  rw [h.2 j m hm]
  have := hd m (List.mem_of_getElem? hm)
  congr 1
  by_cases h1 : (j : Int) < up
  · rw [if_pos (.inr ⟨h1, this⟩), if_pos h1]
  · rw [if_neg (by simp; omega), if_neg h1]
end Go.Proofs.YtomfnfbijgjfeaaGreat
/- Chapter 15 in plain Lean: no place but a bin has less than nothing; at a buyer there is never less later on. No program is in sight. -/
namespace Go.Proofs.YtomfnfbijgjfeaaGreat
set_option linter.unusedVariables false
set_option linter.unusedSimpArgs false

theorem stk_succ {e : Ev} {G : List (List Rat)} {k : Nat} {x : Move} (hx : e.moves[k]? = some x) : stk e G (k + 1) = carryF x (hAt G k) (stk e G k) := by
  conv => lhs; unfold stk
  rw [hx]
theorem stk_end {e : Ev} {G : List (List Rat)} {k : Nat} (hx : e.moves[k]? = none) : stk e G (k + 1) = stk e G k := by
  conv => lhs; unfold stk
  rw [hx]
end Go.Proofs.YtomfnfbijgjfeaaGreat
/- Chapter 15 in plain Lean: at a buyer there is never less later on; after a move with All nothing is left; masses of mixtures. No program is in sight. -/
namespace Go.Proofs.YtomfnfbijgjfeaaGreat
set_option linter.unusedVariables false
set_option linter.unusedSimpArgs false

theorem moveOk_all {e : Ev} {x : Move} (h : moveOk e x = true) (ha : x.all = true) : kindAt e x.src ≠ 0 := by
  unfold moveOk at h
  simp only [Bool.and_eq_true, decide_eq_true_eq] at h
  have := h.1.1.2
  rw [ha] at this
  simpa using this
end Go.Proofs.YtomfnfbijgjfeaaGreat
/- The reference of chapter 15 in plain Lean: stocks that are summed anew, what a move takes. No program is in sight. -/
namespace Go.Proofs.YtomfnfbijgjfeaaGreat
set_option linter.unusedVariables false
set_option linter.unusedSimpArgs false

/-- the interval of a move -/
def ivOf (e : Ev) (x : Move) : Option (Rat × Rat) := if x.scale = -1 then none else interval e.certs e.recalls x.scale x.reading x.day
end Go.Proofs.YtomfnfbijgjfeaaGreat
/- Chapter 21 in plain Lean: traces, what taint.Check and taint.Matter compute, and what the statements say of them. No program is in sight. -/
namespace Go.Proofs.YtomfnfbijgjfeaaGreat
set_option linter.unusedVariables false
set_option linter.unusedSimpArgs false

structure Find where
  mv : Int
  kind : Int
  grams : Int
structure Clean where
  mv : Int
  kind : Int
structure Trace where
  ev : Ev
  finds : List Find
  cleans : List Clean
def markE (e : Ev) (mv kind : Int) : Int := if mv < 0 ∨ (e.moves.length : Int) ≤ mv then 4 else if kind < 0 ∨ 8 ≤ kind then 1 else 0
def findsE (e : Ev) : List Find → Int
  | [] => 0
  | f :: r => if markE e f.mv f.kind ≠ 0 then markE e f.mv f.kind else if f.grams < 1 ∨ 1099511627776 < f.grams then 3 else findsE e r
def cleansE (e : Ev) : List Clean → Int
  | [] => 0
  | c :: r => if markE e c.mv c.kind ≠ 0 then markE e c.mv c.kind else cleansE e r
def traceE (t : Trace) : Int :=
  if check t.ev ≠ 0 then check t.ev else if 20 < t.finds.length ∨ 50 < t.cleans.length then 6
  else if findsE t.ev t.finds ≠ 0 then findsE t.ev t.finds else cleansE t.ev t.cleans
def gramsOf (l : List Find) (kind : Int) (i : Nat) : List Int := (l.filter fun f => decide (f.kind = kind) && decide (f.mv = (i : Int))).map (·.grams)
def cleansOf (l : List Clean) (kind : Int) (i : Nat) : Nat := (l.filter fun c => decide (c.kind = kind) && decide (c.mv = (i : Int))).length
def col (z : List Rat) : List (List Rat) := z.map fun v => [v]
theorem hAt_col (z : List Rat) (k : Nat) : hAt (col z) k 0 = z.getD k 0 := by
  unfold hAt col
  cases h : z[k]? <;> simp [List.getD_eq_getElem?_getD, h]
/-- the matter at a place after k moves -/
def tstk (e : Ev) (z : List Rat) (k p : Nat) : Rat := stk e (col z) k p 0
def capB (iv : Option (Rat × Rat)) (v : Rat) : Bool := match iv with
  | none => true
  | some (_, hi) => decide (v ≤ hi)
def allowsE (t : Trace) (kind : Int) (i : Nat) (x : Move) (v : Rat) : Int :=
  if capB (ivOf t.ev x) v = false then 20 else if (gramsOf t.finds kind i).any (fun g => decide (v < (g : Rat))) then 24
  else if 0 < cleansOf t.cleans kind i ∧ v ≠ 0 then 13 else 0
/-- what matter a move takes of what is there -/
def tookE (e : Ev) (x : Move) (v f : Rat) : Int := if v < 0 then 3 else if kindAt e x.src ≠ 0 ∧ f < v then 4 else if x.all = true ∧ v ≠ f then 7 else 0
def tstepE (t : Trace) (kind : Int) (i : Nat) (x : Move) (v f : Rat) : Int := if tookE t.ev x v f ≠ 0 then tookE t.ev x v f else allowsE t kind i x v
def tAt (t : Trace) (kind : Int) (z : List Rat) (i : Nat) (x : Move) : Int := tstepE t kind i x (z.getD i 0) (tstk t.ev z i x.src.toNat)
def tmovesE (t : Trace) (kind : Int) (z : List Rat) : Nat → List Move → Int
  | _, [] => 0
  | k, x :: r => if tAt t kind z k x ≠ 0 then tAt t kind z k x else tmovesE t kind z (k + 1) r
def matterE (t : Trace) (kind : Int) (z : List Fr) : Int :=
  if traceE t ≠ 0 ∨ kind < 0 ∨ 8 ≤ kind then 1 else if z.length ≠ t.ev.moves.length then 2
  else if z.all rightF then tmovesE t kind (z.map fv) 0 t.ev.moves else 2
structure Took (e : Ev) (x : Move) (v f : Rat) : Prop where
  pos : 0 ≤ v
  most : kindAt e x.src ≠ 0 → v ≤ f
  all : x.all = true → v = f
structure Allows (t : Trace) (kind : Int) (i : Nat) (x : Move) (v : Rat) : Prop where
  cap : capB (ivOf t.ev x) v = true
  fin : ∀ g ∈ gramsOf t.finds kind i, (g : Rat) ≤ v
  cln : 0 < cleansOf t.cleans kind i → v = 0
/-- matter that is possible -/
structure Poss (t : Trace) (kind : Int) (z : List Rat) : Prop where
  tr : traceE t = 0
  k0 : 0 ≤ kind
  k1 : kind < 8
  len : z.length = t.ev.moves.length
  step : ∀ i x, t.ev.moves[i]? = some x → Took t.ev x (z.getD i 0) (tstk t.ev z i x.src.toNat) ∧ Allows t kind i x (z.getD i 0)
theorem fv_map (z : List Rat) : (z.map fz).map fv = z := by
  rw [List.map_map]
  conv => rhs; rw [← List.map_id z]
  exact List.map_congr_left fun x _ => fv_fz x
theorem traceE_zero {t : Trace} (h : traceE t = 0) : check t.ev = 0 ∧ t.finds.length ≤ 20 ∧ t.cleans.length ≤ 50 ∧ findsE t.ev t.finds = 0 ∧ cleansE t.ev t.cleans = 0 := by
  unfold traceE at h
  by_cases h1 : check t.ev ≠ 0
  · rw [if_pos h1] at h; exact absurd h h1
  rw [if_neg h1] at h
  by_cases h2 : 20 < t.finds.length ∨ 50 < t.cleans.length
  · rw [if_pos h2] at h; cases h
  rw [if_neg h2] at h
  by_cases h3 : findsE t.ev t.finds ≠ 0
  · rw [if_pos h3] at h; exact absurd h h3
  rw [if_neg h3] at h
  exact ⟨by simpa using h1, by omega, by omega, by simpa using h3, h⟩
theorem findsE_get {e : Ev} : ∀ {l : List Find}, findsE e l = 0 → ∀ f ∈ l, 0 ≤ f.mv ∧ f.mv < e.moves.length ∧ 0 ≤ f.kind ∧ f.kind < 8 ∧ 1 ≤ f.grams ∧ f.grams ≤ 1099511627776
  | [], _, f, hf => by cases hf
  | g :: r, h, f, hf => by
    unfold findsE at h
    by_cases h1 : markE e g.mv g.kind ≠ 0
    · rw [if_pos h1] at h; exact absurd h h1
    rw [if_neg h1] at h
    by_cases h2 : g.grams < 1 ∨ 1099511627776 < g.grams
    · rw [if_pos h2] at h; cases h
    rw [if_neg h2] at h
    rcases List.mem_cons.1 hf with rfl | hf
    · unfold markE at h1
      by_cases h3 : f.mv < 0 ∨ (e.moves.length : Int) ≤ f.mv
      · rw [if_pos h3] at h1; exact absurd (by decide) h1
      rw [if_neg h3] at h1
      by_cases h4 : f.kind < 0 ∨ 8 ≤ f.kind
      · rw [if_pos h4] at h1; exact absurd (by decide) h1
      omega
    · exact findsE_get h f hf
theorem gramsOf_more (l : List Find) (f : Find) (kind : Int) (i : Nat) : gramsOf (l ++ [f]) kind i = gramsOf l kind i ++ (if f.kind = kind ∧ f.mv = (i : Int) then [f.grams] else []) := by
  unfold gramsOf
  rw [List.filter_append, List.map_append]
  by_cases h : f.kind = kind ∧ f.mv = (i : Int)
  · rw [if_pos h]; simp [h.1, h.2]
  · rw [if_neg h]
    have : (decide (f.kind = kind) && decide (f.mv = (i : Int))) = false := by
      rw [← Bool.not_eq_true]; simp only [Bool.and_eq_true, decide_eq_true_eq]; exact h
    simp [this]
theorem cleansOf_more (l : List Clean) (c : Clean) (kind : Int) (i : Nat) : cleansOf (l ++ [c]) kind i = cleansOf l kind i + (if c.kind = kind ∧ c.mv = (i : Int) then 1 else 0) := by
  unfold cleansOf
  rw [List.filter_append, List.length_append]
  by_cases h : c.kind = kind ∧ c.mv = (i : Int)
  · rw [if_pos h]; simp [h.1, h.2]
  · rw [if_neg h]
    have : (decide (c.kind = kind) && decide (c.mv = (i : Int))) = false := by
      rw [← Bool.not_eq_true]; simp only [Bool.and_eq_true, decide_eq_true_eq]; exact h
    simp [this]
end Go.Proofs.YtomfnfbijgjfeaaGreat
/- Chapter 21 in plain Lean: mixtures of matter, parts of it, what left the bins. No program is in sight. -/
namespace Go.Proofs.YtomfnfbijgjfeaaGreat
set_option linter.unusedVariables false
set_option linter.unusedSimpArgs false

theorem tstk_succ {e : Ev} {z : List Rat} {k : Nat} {x : Move} (hx : e.moves[k]? = some x) (p : Nat) : tstk e z (k + 1) p = if x.src = (p : Int) then tstk e z k p - z.getD k 0 else if x.dst = (p : Int) then tstk e z k p + z.getD k 0 else tstk e z k p := by
  unfold tstk
  rw [stk_succ hx]
  unfold carryF
  rw [hAt_col]
theorem tstk_end {e : Ev} {z : List Rat} {k : Nat} (hx : e.moves[k]? = none) (p : Nat) : tstk e z (k + 1) p = tstk e z k p := by
  unfold tstk
  rw [stk_end hx]
structure MassOk (t : Trace) (w : List Rat) (i : Nat) (x : Move) : Prop where
  took : Took t.ev x (w.getD i 0) (tstk t.ev w i x.src.toNat)
  cap : capB (ivOf t.ev x) (w.getD i 0) = true
end Go.Proofs.YtomfnfbijgjfeaaGreat
/- Chapter 21 in plain Lean: the system of a kind of foreign matter, and its solutions. No program is in sight. -/
namespace Go.Proofs.YtomfnfbijgjfeaaGreat
set_option linter.unusedVariables false
set_option linter.unusedSimpArgs false

structure RowP where
  terms : List (Int × Rat)
  kind : Int
  value : Rat
structure SysP where
  n : Int
  rows : List RowP
/-- the value of terms -/
def valT (l : List (Int × Rat)) (z : List Rat) : Rat := l.foldl (fun a t => a + t.2 * z.getD t.1.toNat 0) ((0 : Int) : Rat)
theorem valT_snoc (l : List (Int × Rat)) (t : Int × Rat) (z : List Rat) : valT (l ++ [t]) z = valT l z + t.2 * z.getD t.1.toNat 0 := by unfold valT; rw [List.foldl_append]; rfl
/-- right terms: the variables ascend -/
def rightT : Int → Int → List (Int × Rat) → Bool
  | _, _, [] => true
  | last, n, t :: r => decide (last < t.1) && decide (t.1 < n) && decide (t.2 ≠ 0) && rightT t.1 n r
def rightRow (n : Int) (w : RowP) : Bool := rightT (-1) n w.terms && decide (0 ≤ w.kind) && decide (w.kind < 3)
def rightSys (s : SysP) : Bool := decide (0 ≤ s.n) && decide (s.n ≤ 1500) && decide (s.rows.length ≤ 6000) && s.rows.all (rightRow s.n)
def rowB3 (w : RowP) (z : List Rat) : Bool := !((decide (valT w.terms z < w.value) && decide (w.kind ≠ 1)) || (decide (w.value < valT w.terms z) && decide (w.kind ≠ 0)))
def holdsSys (s : SysP) (z : List Rat) : Bool := rightSys s && decide ((z.length : Int) = s.n) && z.all (fun v => decide (0 ≤ v)) && s.rows.all (fun w => rowB3 w z)
def termsTo (e : Ev) (p : Int) : Nat → List (Int × Rat)
  | 0 => []
  | k + 1 => match e.moves[k]? with
    | none => termsTo e p k
    | some y => if y.dst = p then termsTo e p k ++ [((k : Int), ((1 : Int) : Rat))] else if y.src = p then termsTo e p k ++ [((k : Int), ((-1 : Int) : Rat))] else termsTo e p k
def stockRow (e : Ev) (i : Nat) (x : Move) : RowP := ⟨termsTo e x.src i ++ [((i : Int), ((-1 : Int) : Rat))], if x.all then 2 else 0, ((0 : Int) : Rat)⟩
def oneRow (i : Nat) (kind : Int) (v : Rat) : RowP := ⟨[((i : Int), ((1 : Int) : Rat))], kind, v⟩
def capRows (iv : Option (Rat × Rat)) (i : Nat) : List RowP := match iv with
  | none => []
  | some (_, hi) => [oneRow i 1 hi]
def moveRows (t : Trace) (kind : Int) (i : Nat) (x : Move) : List RowP :=
  (if kindAt t.ev x.src = 0 then [] else [stockRow t.ev i x]) ++ capRows (ivOf t.ev x) i ++ (gramsOf t.finds kind i).map (fun g : Int => oneRow i 0 (g : Rat)) ++ List.replicate (cleansOf t.cleans kind i) (oneRow i 2 ((0 : Int) : Rat))
def sysRows (t : Trace) (kind : Int) : Nat → List RowP
  | 0 => []
  | k + 1 => match t.ev.moves[k]? with
    | none => sysRows t kind k
    | some x => sysRows t kind k ++ moveRows t kind k x
def sysOf (t : Trace) (kind : Int) : SysP := ⟨t.ev.moves.length, sysRows t kind t.ev.moves.length⟩
theorem valT_terms {e : Ev} (h0 : check e = 0) (z : List Rat) (p : Nat) : ∀ k, valT (termsTo e p k) z = tstk e z k p
  | 0 => rfl
  | k + 1 => by
    have ih := valT_terms h0 z p k
    unfold termsTo
    cases hx : e.moves[k]? with
    | none => rw [tstk_end hx]; exact ih
    | some y =>
      have hm := check_move h0 (List.mem_of_getElem? hx)
      have hne : y.src ≠ y.dst := by unfold moveOk at hm; simp only [Bool.and_eq_true, decide_eq_true_eq] at hm; exact hm.1.1.1.1.1.2
      rw [tstk_succ hx]
      simp only
      by_cases c1 : y.dst = (p : Int)
      · rw [if_pos c1, if_neg (by omega), if_pos c1, valT_snoc, ih]
        simp only [Int.toNat_natCast]
        have : ((1 : Int) : Rat) = 1 := rfl
        rw [this]; grind
      · rw [if_neg c1]
        by_cases c2 : y.src = (p : Int)
        · rw [if_pos c2, if_pos c2, valT_snoc, ih]
          simp only [Int.toNat_natCast]
          have : ((-1 : Int) : Rat) = -1 := rfl
          rw [this]; grind
        · rw [if_neg c2, if_neg c2, if_neg c1]; exact ih
theorem rowB3_iff {w : RowP} {z : List Rat} : rowB3 w z = true ↔ (valT w.terms z < w.value → w.kind = 1) ∧ (w.value < valT w.terms z → w.kind = 0) := by
  unfold rowB3
  simp only [Bool.not_eq_true', Bool.or_eq_false_iff, Bool.and_eq_false_iff, decide_eq_false_iff_not, Classical.not_not]
  constructor
  · rintro ⟨h1, h2⟩
    exact ⟨fun h => h1.resolve_left (fun h' => h' h), fun h => h2.resolve_left (fun h' => h' h)⟩
  · rintro ⟨h1, h2⟩
    refine ⟨?_, ?_⟩
    · by_cases h : valT w.terms z < w.value
      · exact .inr (h1 h)
      · exact .inl h
    · by_cases h : w.value < valT w.terms z
      · exact .inr (h2 h)
      · exact .inl h
theorem one_val (i : Nat) (kind : Int) (v : Rat) (z : List Rat) : valT (oneRow i kind v).terms z = z.getD i 0 := by
  show ((0 : Int) : Rat) + ((1 : Int) : Rat) * z.getD ((i : Int)).toNat 0 = _
  rw [Int.toNat_natCast]
  have h0 : ((0 : Int) : Rat) = 0 := rfl
  have h1 : ((1 : Int) : Rat) = 1 := rfl
  rw [h0, h1]; grind
theorem one_most {i : Nat} {v : Rat} {z : List Rat} : rowB3 (oneRow i 1 v) z = true ↔ z.getD i 0 ≤ v := by
  rw [rowB3_iff, one_val]
  show (_ → (1 : Int) = 1) ∧ (v < z.getD i 0 → (1 : Int) = 0) ↔ _
  constructor
  · rintro ⟨_, h⟩; exact Rat.not_lt.1 fun h' => absurd (h h') (by decide)
  · intro h; exact ⟨fun _ => rfl, fun h' => absurd h' (Rat.not_lt.2 h)⟩
theorem one_least {i : Nat} {v : Rat} {z : List Rat} : rowB3 (oneRow i 0 v) z = true ↔ v ≤ z.getD i 0 := by
  rw [rowB3_iff, one_val]
  show (z.getD i 0 < v → (0 : Int) = 1) ∧ (_ → (0 : Int) = 0) ↔ _
  constructor
  · rintro ⟨h, _⟩; exact Rat.not_lt.1 fun h' => absurd (h h') (by decide)
  · intro h; exact ⟨fun h' => absurd h' (Rat.not_lt.2 h), fun _ => rfl⟩
theorem one_equal {i : Nat} {v : Rat} {z : List Rat} : rowB3 (oneRow i 2 v) z = true ↔ z.getD i 0 = v := by
  rw [rowB3_iff, one_val]
  show (z.getD i 0 < v → (2 : Int) = 1) ∧ (v < z.getD i 0 → (2 : Int) = 0) ↔ _
  constructor
  · rintro ⟨h, h2⟩
    have q1 : ¬ z.getD i 0 < v := fun h' => absurd (h h') (by decide)
    have q2 : ¬ v < z.getD i 0 := fun h' => absurd (h2 h') (by decide)
    grind
  · intro h; exact ⟨fun h' => by grind, fun h' => by grind⟩
theorem stock_holds {e : Ev} (h0 : check e = 0) {i : Nat} {x : Move} (hx : e.moves[i]? = some x) {z : List Rat} : rowB3 (stockRow e i x) z = true ↔ z.getD i 0 ≤ tstk e z i x.src.toNat ∧ (x.all = true → z.getD i 0 = tstk e z i x.src.toNat) := by
  have hm := check_move h0 (List.mem_of_getElem? hx)
  have ms := moveOk_src hm
  have hv : valT (stockRow e i x).terms z = tstk e z i x.src.toNat - z.getD i 0 := by
    unfold stockRow
    simp only
    rw [valT_snoc, show termsTo e x.src i = termsTo e ((x.src.toNat : Nat) : Int) i by rw [show ((x.src.toNat : Nat) : Int) = x.src by omega], valT_terms h0]
    simp only [Int.toNat_natCast]
    have : ((-1 : Int) : Rat) = -1 := rfl
    rw [this]; grind
  have hz : (stockRow e i x).value = 0 := rfl
  have hk : (stockRow e i x).kind = if x.all then 2 else 0 := rfl
  rw [rowB3_iff, hv, hz, hk]
  cases hal : x.all with
  | true =>
    simp only [if_true]
    constructor
    · rintro ⟨h, h2⟩
      have q1 : ¬ tstk e z i x.src.toNat - z.getD i 0 < 0 := fun h' => absurd (h h') (by decide)
      have q2 : ¬ 0 < tstk e z i x.src.toNat - z.getD i 0 := fun h' => absurd (h2 h') (by decide)
      exact ⟨by grind, fun _ => by grind⟩
    · rintro ⟨h, h2⟩
      have h2 := h2 trivial
      exact ⟨fun h' => by grind, fun h' => by grind⟩
  | false =>
    simp only [Bool.false_eq_true, if_false]
    constructor
    · rintro ⟨h, h2⟩
      have q1 : ¬ tstk e z i x.src.toNat - z.getD i 0 < 0 := fun h' => absurd (h h') (by decide)
      exact ⟨by grind, fun h => (by cases h)⟩
    · rintro ⟨h, _⟩
      exact ⟨fun h' => by grind, fun _ => trivial⟩
theorem move_holds {t : Trace} {kind : Int} (h0 : check t.ev = 0) {i : Nat} {x : Move} (hx : t.ev.moves[i]? = some x) {z : List Rat} (hz : 0 ≤ z.getD i 0) :
    (moveRows t kind i x).all (fun w => rowB3 w z) = true ↔ Took t.ev x (z.getD i 0) (tstk t.ev z i x.src.toNat) ∧ Allows t kind i x (z.getD i 0) := by
  have hmo := check_move h0 (List.mem_of_getElem? hx)
  unfold moveRows
  simp only [List.all_append, Bool.and_eq_true, List.all_map]
  have e1 : (if kindAt t.ev x.src = 0 then ([] : List RowP) else [stockRow t.ev i x]).all (fun w => rowB3 w z) = true ↔ (kindAt t.ev x.src ≠ 0 → z.getD i 0 ≤ tstk t.ev z i x.src.toNat ∧ (x.all = true → z.getD i 0 = tstk t.ev z i x.src.toNat)) := by
    by_cases hb : kindAt t.ev x.src = 0
    · rw [if_pos hb]; exact ⟨fun _ h => absurd hb h, fun _ => rfl⟩
    · rw [if_neg hb]
      simp only [List.all_cons, List.all_nil, Bool.and_true]
      rw [stock_holds h0 hx]
      exact ⟨fun h _ => h, fun h => h hb⟩
  have e2 : (capRows (ivOf t.ev x) i).all (fun w => rowB3 w z) = true ↔ capB (ivOf t.ev x) (z.getD i 0) = true := by
    cases hiv : ivOf t.ev x with
    | none => exact ⟨fun _ => rfl, fun _ => rfl⟩
    | some p =>
      obtain ⟨lo, hi⟩ := p
      simp only [capRows, capB, List.all_cons, List.all_nil, Bool.and_true, decide_eq_true_eq]
      exact one_most
  have e3 : (gramsOf t.finds kind i).all ((fun w => rowB3 w z) ∘ fun g : Int => oneRow i 0 (g : Rat)) = true ↔ ∀ g ∈ gramsOf t.finds kind i, (g : Rat) ≤ z.getD i 0 := by
    rw [List.all_eq_true]
    exact ⟨fun h g hg => one_least.1 (h g hg), fun h g hg => one_least.2 (h g hg)⟩
  have e4 : (List.replicate (cleansOf t.cleans kind i) (oneRow i 2 ((0 : Int) : Rat))).all (fun w => rowB3 w z) = true ↔ (0 < cleansOf t.cleans kind i → z.getD i 0 = 0) := by
    rw [List.all_eq_true]
    constructor
    · intro h hc; exact one_equal.1 (h _ (List.mem_replicate.2 ⟨by omega, rfl⟩))
    · intro h w hw
      obtain ⟨h1, rfl⟩ := List.mem_replicate.1 hw
      exact one_equal.2 (h (by omega))
  rw [e1, e2, e3, e4]
  constructor
  · rintro ⟨⟨⟨q1, q2⟩, q3⟩, q4⟩
    exact ⟨⟨hz, fun h => (q1 h).1, fun h => (q1 (moveOk_all hmo h)).2 h⟩, ⟨q2, q3, q4⟩⟩
  · rintro ⟨p1, p2⟩
    exact ⟨⟨⟨fun h => ⟨p1.most h, p1.all⟩, p2.cap⟩, p2.fin⟩, p2.cln⟩
theorem sysRows_all {t : Trace} {kind : Int} {q : RowP → Bool} : ∀ n, n ≤ t.ev.moves.length → ((sysRows t kind n).all q = true ↔ ∀ i x, i < n → t.ev.moves[i]? = some x → (moveRows t kind i x).all q = true)
  | 0, _ => ⟨fun _ i x h => by omega, fun _ => rfl⟩
  | n + 1, h => by
    obtain ⟨y, hy⟩ : ∃ y, t.ev.moves[n]? = some y := ⟨_, List.getElem?_eq_getElem (by omega)⟩
    unfold sysRows
    rw [hy]
    simp only [List.all_append, Bool.and_eq_true]
    rw [sysRows_all n (by omega)]
    constructor
    · rintro ⟨h1, h2⟩ i x hi hx
      rcases Nat.lt_or_ge i n with h3 | h3
      · exact h1 i x h3 hx
      · obtain rfl : i = n := by omega
        rw [hy] at hx; injection hx with hx; subst hx; exact h2
    · intro h1
      exact ⟨fun i x hi hx => h1 i x (by omega) hx, h1 n y (by omega) hy⟩
theorem rightT_one {last n i : Int} {c : Rat} (h1 : last < i) (h2 : i < n) (h3 : c ≠ 0) : rightT last n [(i, c)] = true := by
  unfold rightT
  simp [h1, h2, h3, rightT]
theorem rightT_snoc {n : Int} {c : Rat} {i : Int} (h2 : i < n) (h3 : c ≠ 0) : ∀ {l : List (Int × Rat)} {last : Int}, rightT last n l = true → last < i → (∀ t ∈ l, t.1 < i) → rightT last n (l ++ [(i, c)]) = true
  | [], last, _, h, _ => rightT_one h h2 h3
  | t :: r, last, h, h1, ht => by
    unfold rightT at h
    simp only [Bool.and_eq_true, decide_eq_true_eq] at h
    show rightT last n (t :: (r ++ [(i, c)])) = true
    unfold rightT
    simp only [Bool.and_eq_true, decide_eq_true_eq]
    exact ⟨h.1, rightT_snoc h2 h3 h.2 (ht t (by simp)) fun u hu => ht u (by simp [hu])⟩
theorem rat_one_ne : ((1 : Int) : Rat) ≠ 0 := by decide
theorem rat_mone_ne : ((-1 : Int) : Rat) ≠ 0 := by decide
theorem termsTo_right {e : Ev} {p : Int} {n : Int} : ∀ k : Nat, (k : Int) ≤ n → rightT (-1) n (termsTo e p k) = true ∧ ∀ t ∈ termsTo e p k, t.1 < (k : Int)
  | 0, _ => ⟨rfl, fun t ht => by cases ht⟩
  | k + 1, h => by
    obtain ⟨h1, h2⟩ := termsTo_right (e := e) (p := p) (n := n) k (by omega)
    have h3 : ∀ c : Rat, c ≠ 0 → rightT (-1) n (termsTo e p k ++ [((k : Int), c)]) = true ∧ ∀ t ∈ termsTo e p k ++ [((k : Int), c)], t.1 < ((k + 1 : Nat) : Int) := fun c hc =>
      ⟨rightT_snoc (by omega) hc h1 (by omega) h2, fun t ht => by
        rcases List.mem_append.1 ht with ht | ht
        · have := h2 t ht; omega
        · simp at ht; subst ht; simp; omega⟩
    unfold termsTo
    cases hx : e.moves[k]? with
    | none => exact ⟨h1, fun t ht => by have := h2 t ht; omega⟩
    | some y =>
      simp only
      split
      · exact h3 _ rat_one_ne
      · split
        · exact h3 _ rat_mone_ne
        · exact ⟨h1, fun t ht => by have := h2 t ht; omega⟩
theorem move_right {t : Trace} {kind : Int} {i : Nat} {x : Move} {n : Int} (hi : (i : Int) < n) : (moveRows t kind i x).all (rightRow n) = true := by
  have ho : ∀ (k : Int) (v : Rat), 0 ≤ k → k < 3 → rightRow n (oneRow i k v) = true := fun k v h1 h2 => by
    unfold rightRow oneRow
    simp only [Bool.and_eq_true, decide_eq_true_eq]
    exact ⟨⟨rightT_one (by omega) hi rat_one_ne, h1⟩, h2⟩
  unfold moveRows
  simp only [List.all_append, Bool.and_eq_true, List.all_eq_true]
  refine ⟨⟨⟨fun w hw => ?_, fun w hw => ?_⟩, fun w hw => ?_⟩, fun w hw => ?_⟩
  · by_cases hb : kindAt t.ev x.src = 0
    · rw [if_pos hb] at hw; cases hw
    · rw [if_neg hb] at hw
      simp at hw
      subst hw
      obtain ⟨h1, h2⟩ := termsTo_right (e := t.ev) (p := x.src) (n := n) i (by omega)
      unfold rightRow stockRow
      simp only [Bool.and_eq_true, decide_eq_true_eq]
      refine ⟨⟨rightT_snoc hi rat_mone_ne h1 (by omega) h2, ?_⟩, ?_⟩ <;> split <;> decide
  · cases hiv : ivOf t.ev x with
    | none => rw [hiv] at hw; cases hw
    | some p =>
      obtain ⟨lo, hi⟩ := p
      rw [hiv] at hw
      simp [capRows] at hw
      subst hw
      exact ho 1 hi (by decide) (by decide)
  · obtain ⟨g, _, rfl⟩ := List.mem_map.1 hw
    exact ho 0 _ (by decide) (by decide)
  · obtain ⟨_, rfl⟩ := List.mem_replicate.1 hw
    exact ho 2 _ (by decide) (by decide)
theorem moveRows_len {t : Trace} {kind : Int} {i : Nat} {x : Move} : (moveRows t kind i x).length ≤ 2 + t.finds.length + t.cleans.length := by
  unfold moveRows
  have h1 : (capRows (ivOf t.ev x) i).length ≤ 1 := by unfold capRows; split <;> simp
  have h2 : (gramsOf t.finds kind i).length ≤ t.finds.length := by unfold gramsOf; rw [List.length_map]; exact List.length_filter_le _ _
  have h3 : cleansOf t.cleans kind i ≤ t.cleans.length := List.length_filter_le _ _
  have h4 : (if kindAt t.ev x.src = 0 then ([] : List RowP) else [stockRow t.ev i x]).length ≤ 1 := by split <;> simp
  simp only [List.length_append, List.length_map, List.length_replicate]
  omega
theorem sysRows_len {t : Trace} {kind : Int} : ∀ n, (sysRows t kind n).length ≤ n * (2 + t.finds.length + t.cleans.length)
  | 0 => by simp [sysRows]
  | n + 1 => by
    have ih := sysRows_len (t := t) (kind := kind) n
    unfold sysRows
    rw [Nat.succ_mul]
    cases hx : t.ev.moves[n]? with
    | none => simp only; omega
    | some x =>
      have := moveRows_len (t := t) (kind := kind) (i := n) (x := x)
      simp only [List.length_append]
      omega
theorem sys_right {t : Trace} {kind : Int} (hm : t.ev.moves.length ≤ 14) (hf : t.finds.length ≤ 20) (hc : t.cleans.length ≤ 50) : rightSys (sysOf t kind) = true := by
  unfold rightSys sysOf
  have h1 := sysRows_len (t := t) (kind := kind) t.ev.moves.length
  have h2 : t.ev.moves.length * (2 + t.finds.length + t.cleans.length) ≤ 14 * 72 := Nat.mul_le_mul hm (by omega)
  simp only [Bool.and_eq_true, decide_eq_true_eq]
  refine ⟨⟨⟨by omega, by omega⟩, by omega⟩, ?_⟩
  rw [sysRows_all _ (Nat.le_refl _)]
  intro i x hi hx
  exact move_right (by omega)
/-- the matter is possible exactly if it is a solution of the system -/
theorem sys_holds {t : Trace} {kind : Int} {z : List Rat} (ht : traceE t = 0) (k0 : 0 ≤ kind) (k1 : kind < 8) (hm : t.ev.moves.length ≤ 14) : holdsSys (sysOf t kind) z = true ↔ Poss t kind z := by
  obtain ⟨q1, q2, q3, q4, q5⟩ := traceE_zero ht
  unfold holdsSys
  rw [sys_right hm q2 q3]
  simp only [Bool.true_and, Bool.and_eq_true, decide_eq_true_eq]
  constructor
  · rintro ⟨⟨h1, h2⟩, h3⟩
    have hl : z.length = t.ev.moves.length := by have : (z.length : Int) = t.ev.moves.length := h1; omega
    refine ⟨ht, k0, k1, hl, fun i x hx => ?_⟩
    have hi : i < t.ev.moves.length := (List.getElem?_eq_some_iff.1 hx).1
    have hz : 0 ≤ z.getD i 0 := of_decide_eq_true (List.all_eq_true.1 h2 _ (List.mem_of_getElem? (getD_some (by omega))))
    exact (move_holds q1 hx hz).1 ((sysRows_all _ (Nat.le_refl _)).1 h3 i x hi hx)
  · intro h
    refine ⟨⟨?_, ?_⟩, ?_⟩
    · show (z.length : Int) = t.ev.moves.length
      rw [h.len]
    · rw [List.all_eq_true]
      intro v hv
      obtain ⟨i, hi, rfl⟩ := List.getElem_of_mem hv
      obtain ⟨x, hx⟩ : ∃ x, t.ev.moves[i]? = some x := ⟨_, List.getElem?_eq_getElem (by rw [← h.len]; exact hi)⟩
      have := (h.step i x hx).1.pos
      rw [List.getD_eq_getElem?_getD, List.getElem?_eq_getElem hi] at this
      exact decide_eq_true this
    · show (sysRows t kind t.ev.moves.length).all _ = true
      rw [sysRows_all _ (Nat.le_refl _)]
      intro i x hi hx
      obtain ⟨a, b⟩ := h.step i x hx
      exact (move_holds q1 hx a.pos).2 ⟨a, b⟩
end Go.Proofs.YtomfnfbijgjfeaaGreat
/- taint: mark, Check, bin, stock. -/
namespace Go.Proofs.YtomfnfbijgjfeaaGreat
open Go.RowKit
set_option linter.unusedVariables false
set_option linter.unusedSimpArgs false
set_option maxRecDepth 100000

def Find.row (f : Find) : List T := [ti f.mv, ti f.kind, ti f.grams]
def Clean.row (c : Clean) : List T := [ti c.mv, ti c.kind]
abbrev findsT (l : List Find) : T := .sl 3 .any (l.map Find.row)
abbrev cleansT (l : List Clean) : T := .sl 2 .any (l.map Clean.row)
def trT (t : Trace) : List T := [ti t.ev.mats, ti t.ev.hhs, ti t.ev.scs, placesT t.ev.places, movesT t.ev.moves, certsT t.ev.certs, recallsT t.ev.recalls, puritiesT t.ev.purities, findsT t.finds, cleansT t.cleans]
def trC (t : Trace) : List C := [.t (ti t.ev.mats), .t (ti t.ev.hhs), .t (ti t.ev.scs), .t (placesT t.ev.places), .t (movesT t.ev.moves), .t (certsT t.ev.certs), .t (recallsT t.ev.recalls), .t (puritiesT t.ev.purities), .t (findsT t.finds), .t (cleansT t.cleans)]
abbrev trS (t : Trace) : S := .agg (trC t)
structure Trace.Sized (t : Trace) : Prop where
  ev : t.ev.Sized
  f : t.finds.length ≤ 1000000
  c : t.cleans.length ≤ 1000000
theorem sgR_zero {x : Rat} : sgR x = 0 ↔ x = 0 := by unfold sgR; split <;> (try split) <;> simp_all <;> grind
theorem a_mark (e : Ev) (mv kind : Int) : ACall Tryz.prog 30 [evS e, intS .i64 mv, intS .i64 kind] [] (intS .i64 (markE e mv kind)) [] := by
  have l2 : (e.moves.map Move.row).length = e.moves.length := by simp
  (refine acall_of tab_ok Tryz.func30 rfl (by decide) ?_; (conv => whnf); repeat (first | (refine LitB.data ?_; conv => whnf) | (refine BoxB.data ?_; conv => whnf)))
  (repeat' (first | ((refine DecB.mk (fun h => ?_) (fun h => ?_)) <;> first | (exfalso; omega) | (conv => whnf)) | ((refine BoolB.mk (fun h => ?_) (fun h => ?_)) <;> first | (exact absurd h (by decide)) | (conv => whnf)) | ((first | refine ⟨_, wrap_ok (by omega) (by omega), ?_⟩ | refine and_idx (by omega) (by omega) ?_ | refine reg_ok (by decide +kernel) ?_ | refine bar_ok (by decide +kernel) (by decide +kernel) ?_ | refine late_ok rfl rfl ?_ | refine src_ok rfl ?_ | refine LitB.data ?_ | refine BoxB.own ?_); conv => whnf)))
  all_goals (refine fin_int ?_; unfold markE; (repeat' split) <;> first | rfl | omega)
theorem a_TCheck (t : Trace) (hs : t.Sized) : ACall Tryz.prog 9 [trS t] [] (intS .i64 (traceE t)) [] := by
  have l1 := hs.f
  have l2 := hs.c
  have ck := a_Check t.ev hs.ev
  have m1 : (t.finds.map Find.row).length = t.finds.length := by simp
  have m2 : (t.cleans.map Clean.row).length = t.cleans.length := by simp
  by_cases h0 : check t.ev ≠ 0
  · have e1 : traceE t = check t.ev := by unfold traceE; rw [if_pos h0]
    rw [e1]
    (refine acall_of tab_ok Tryz.func9 rfl (by decide) ?_; (conv => whnf); repeat (first | (refine LitB.data ?_; conv => whnf) | (refine BoxB.data ?_; conv => whnf)))
    (repeat' (first | ((refine DecB.mk (fun h => ?_) (fun h => ?_)) <;> first | (exfalso; omega) | (conv => whnf)) | ((refine BoolB.mk (fun h => ?_) (fun h => ?_)) <;> first | (exact absurd h (by decide)) | (conv => whnf)) | ((first | refine ⟨_, wrap_ok (by omega) (by omega), ?_⟩ | refine and_idx (by omega) (by omega) ?_ | refine reg_ok (by decide +kernel) ?_ | refine bar_ok (by decide +kernel) (by decide +kernel) ?_ | refine late_ok rfl rfl ?_ | refine src_ok rfl ?_ | refine .inl ⟨_, _, qcall_pure (ck) rfl rfl, ?_⟩ | refine LitB.data ?_ | refine BoxB.own ?_); conv => whnf)))
    all_goals first
      | (exfalso; omega)
      | exact fin_int rfl
  have h0 : check t.ev = 0 := by omega
  rw [h0] at ck
  by_cases h1 : 20 < t.finds.length ∨ 50 < t.cleans.length
  · have e1 : traceE t = 6 := by unfold traceE; rw [if_neg (by omega), if_pos h1]
    rw [e1]
    (refine acall_of tab_ok Tryz.func9 rfl (by decide) ?_; (conv => whnf); repeat (first | (refine LitB.data ?_; conv => whnf) | (refine BoxB.data ?_; conv => whnf)))
    (repeat' (first | ((refine DecB.mk (fun h => ?_) (fun h => ?_)) <;> first | (exfalso; omega) | (conv => whnf)) | ((refine BoolB.mk (fun h => ?_) (fun h => ?_)) <;> first | (exact absurd h (by decide)) | (conv => whnf)) | ((first | refine ⟨_, wrap_ok (by omega) (by omega), ?_⟩ | refine and_idx (by omega) (by omega) ?_ | refine reg_ok (by decide +kernel) ?_ | refine bar_ok (by decide +kernel) (by decide +kernel) ?_ | refine late_ok rfl rfl ?_ | refine src_ok rfl ?_ | refine .inl ⟨_, _, qcall_pure (ck) rfl rfl, ?_⟩ | refine LitB.data ?_ | refine BoxB.own ?_); conv => whnf)))
    all_goals first
      | (exfalso; omega)
      | exact fin_int rfl
  have e1 : traceE t = if findsE t.ev t.finds ≠ 0 then findsE t.ev t.finds else cleansE t.ev t.cleans := by unfold traceE; rw [if_neg (by omega), if_neg h1]
  rw [e1]
  (refine acall_of tab_ok Tryz.func9 rfl (by decide) ?_; (conv => whnf); repeat (first | (refine LitB.data ?_; conv => whnf) | (refine BoxB.data ?_; conv => whnf)))
  (repeat' (first | ((refine DecB.mk (fun h => ?_) (fun h => ?_)) <;> first | (exfalso; omega) | (conv => whnf)) | ((refine BoolB.mk (fun h => ?_) (fun h => ?_)) <;> first | (exact absurd h (by decide)) | (conv => whnf)) | ((first | refine ⟨_, wrap_ok (by omega) (by omega), ?_⟩ | refine and_idx (by omega) (by omega) ?_ | refine reg_ok (by decide +kernel) ?_ | refine bar_ok (by decide +kernel) (by decide +kernel) ?_ | refine late_ok rfl rfl ?_ | refine src_ok rfl ?_ | refine .inl ⟨_, _, qcall_pure (ck) rfl rfl, ?_⟩ | refine LitB.data ?_ | refine BoxB.own ?_); conv => whnf)))
  all_goals try (exfalso; omega)
  refine awp_for tab_ok (fun k => ([J, S.c (C.t (T.ptr (trT t))), J, J, J, J, J, J, J, J, J, J, J, J, J, J, J, J, J, J, J, J, J, J, J, J, J, S.c (C.t (findsT t.finds)), intS .i64 t.finds.length, intS .i64 k, J, J, J, J, J, J, J, J, J, J, J, J, J, J, J, J, J, J, J, J, J, J, J, J, J, J, J, J, J, J, J, J, J, J, J, J, J, J, J, J], [])) t.finds.length (fun k => findsE t.ev t.finds = findsE t.ev (t.finds.drop k)) [] rfl
    ⟨rfl, rfl, trivial, ⟨rfl, rfl, ent_i (by simp), rfl, trivial⟩⟩ ?_
  intro k hk hI
  by_cases hlt : k < t.finds.length
  · obtain ⟨f, hf⟩ : ∃ f, t.finds[k]? = some f := ⟨_, List.getElem?_eq_getElem hlt⟩
    have mk := a_mark t.ev f.mv f.kind
    rw [drop_get hf, findsE] at hI
    by_cases hm : markE t.ev f.mv f.kind ≠ 0
    · rw [if_pos hm] at hI
      rw [hI, if_pos hm]
      conv => whnf
      (repeat' (first | ((refine DecB.mk (fun h => ?_) (fun h => ?_)) <;> first | (exfalso; omega) | (conv => whnf)) | ((refine BoolB.mk (fun h => ?_) (fun h => ?_)) <;> first | (exact absurd h (by decide)) | (conv => whnf)) | ((first | refine ⟨_, wrap_ok (by omega) (by omega), ?_⟩ | refine and_idx (by omega) (by omega) ?_ | refine reg_ok (by decide +kernel) ?_ | refine bar_ok (by decide +kernel) (by decide +kernel) ?_ | refine late_ok rfl rfl ?_ | refine src_ok rfl ?_ | refine .inl ⟨_, _, qcall_pure (mk) rfl rfl, ?_⟩ | refine ex_row hf ?_ | refine LitB.data ?_ | refine BoxB.own ?_); conv => whnf)))
      all_goals first
        | (exfalso; omega)
        | exact fin_int rfl
    · rw [if_neg hm] at hI
      by_cases hg : f.grams < 1 ∨ 1099511627776 < f.grams
      · rw [if_pos hg] at hI
        rw [hI]
        conv => whnf
        (repeat' (first | ((refine DecB.mk (fun h => ?_) (fun h => ?_)) <;> first | (exfalso; omega) | (conv => whnf)) | ((refine BoolB.mk (fun h => ?_) (fun h => ?_)) <;> first | (exact absurd h (by decide)) | (conv => whnf)) | ((first | refine ⟨_, wrap_ok (by omega) (by omega), ?_⟩ | refine and_idx (by omega) (by omega) ?_ | refine reg_ok (by decide +kernel) ?_ | refine bar_ok (by decide +kernel) (by decide +kernel) ?_ | refine late_ok rfl rfl ?_ | refine src_ok rfl ?_ | refine .inl ⟨_, _, qcall_pure (mk) rfl rfl, ?_⟩ | refine ex_row hf ?_ | refine LitB.data ?_ | refine BoxB.own ?_); conv => whnf)))
        all_goals first
          | (exfalso; omega)
          | exact fin_int rfl
      · rw [if_neg hg] at hI
        conv => whnf
        (repeat' (first | ((refine DecB.mk (fun h => ?_) (fun h => ?_)) <;> first | (exfalso; omega) | (conv => whnf)) | ((refine BoolB.mk (fun h => ?_) (fun h => ?_)) <;> first | (exact absurd h (by decide)) | (conv => whnf)) | ((first | refine ⟨_, wrap_ok (by omega) (by omega), ?_⟩ | refine and_idx (by omega) (by omega) ?_ | refine reg_ok (by decide +kernel) ?_ | refine bar_ok (by decide +kernel) (by decide +kernel) ?_ | refine late_ok rfl rfl ?_ | refine src_ok rfl ?_ | refine .inl ⟨_, _, qcall_pure (mk) rfl rfl, ?_⟩ | refine ex_row hf ?_ | refine LitB.data ?_ | refine BoxB.own ?_); conv => whnf)))
        all_goals first
          | (exfalso; omega)
          | exact ⟨hlt, hI, [], rfl, rfl, trivial, ⟨rfl, rfl, rfl, rfl, trivial⟩⟩
  · rw [List.drop_of_length_le (by omega)] at hI
    have hI : findsE t.ev t.finds = 0 := hI
    rw [hI, if_neg (by omega)]
    conv => whnf
    (repeat' (first | ((refine DecB.mk (fun h => ?_) (fun h => ?_)) <;> first | (exfalso; omega) | (conv => whnf)) | ((refine BoolB.mk (fun h => ?_) (fun h => ?_)) <;> first | (exact absurd h (by decide)) | (conv => whnf)) | ((first | refine ⟨_, wrap_ok (by omega) (by omega), ?_⟩ | refine and_idx (by omega) (by omega) ?_ | refine reg_ok (by decide +kernel) ?_ | refine bar_ok (by decide +kernel) (by decide +kernel) ?_ | refine late_ok rfl rfl ?_ | refine src_ok rfl ?_ | refine LitB.data ?_ | refine BoxB.own ?_); conv => whnf)))
    all_goals try (exfalso; omega)
    refine awp_for tab_ok (fun k => ([J, S.c (C.t (T.ptr (trT t))), J, J, J, J, J, J, J, J, J, J, J, J, J, J, J, J, J, J, J, J, J, J, J, J, J, J, J, J, J, J, J, J, J, J, J, J, J, J, J, J, J, J, J, J, J, J, J, J, J, J, J, S.c (C.t (cleansT t.cleans)), intS .i64 t.cleans.length, intS .i64 k, J, J, J, J, J, J, J, J, J, J, J, J, J, J], [])) t.cleans.length (fun k => cleansE t.ev t.cleans = cleansE t.ev (t.cleans.drop k)) [] rfl
      ⟨rfl, rfl, trivial, ⟨rfl, rfl, ent_i (by simp), rfl, trivial⟩⟩ ?_
    intro j hj hJ
    by_cases hjt : j < t.cleans.length
    · obtain ⟨c, hc⟩ : ∃ c, t.cleans[j]? = some c := ⟨_, List.getElem?_eq_getElem hjt⟩
      have mk := a_mark t.ev c.mv c.kind
      rw [drop_get hc, cleansE] at hJ
      by_cases hm : markE t.ev c.mv c.kind ≠ 0
      · rw [if_pos hm] at hJ
        rw [hJ]
        conv => whnf
        (repeat' (first | ((refine DecB.mk (fun h => ?_) (fun h => ?_)) <;> first | (exfalso; omega) | (conv => whnf)) | ((refine BoolB.mk (fun h => ?_) (fun h => ?_)) <;> first | (exact absurd h (by decide)) | (conv => whnf)) | ((first | refine ⟨_, wrap_ok (by omega) (by omega), ?_⟩ | refine and_idx (by omega) (by omega) ?_ | refine reg_ok (by decide +kernel) ?_ | refine bar_ok (by decide +kernel) (by decide +kernel) ?_ | refine late_ok rfl rfl ?_ | refine src_ok rfl ?_ | refine .inl ⟨_, _, qcall_pure (mk) rfl rfl, ?_⟩ | refine ex_row hc ?_ | refine LitB.data ?_ | refine BoxB.own ?_); conv => whnf)))
        all_goals first
          | (exfalso; omega)
          | exact fin_int rfl
      · rw [if_neg hm] at hJ
        conv => whnf
        (repeat' (first | ((refine DecB.mk (fun h => ?_) (fun h => ?_)) <;> first | (exfalso; omega) | (conv => whnf)) | ((refine BoolB.mk (fun h => ?_) (fun h => ?_)) <;> first | (exact absurd h (by decide)) | (conv => whnf)) | ((first | refine ⟨_, wrap_ok (by omega) (by omega), ?_⟩ | refine and_idx (by omega) (by omega) ?_ | refine reg_ok (by decide +kernel) ?_ | refine bar_ok (by decide +kernel) (by decide +kernel) ?_ | refine late_ok rfl rfl ?_ | refine src_ok rfl ?_ | refine .inl ⟨_, _, qcall_pure (mk) rfl rfl, ?_⟩ | refine ex_row hc ?_ | refine LitB.data ?_ | refine BoxB.own ?_); conv => whnf)))
        all_goals first
          | (exfalso; omega)
          | exact ⟨hjt, hJ, [], rfl, rfl, trivial, ⟨rfl, rfl, rfl, rfl, trivial⟩⟩
    · rw [List.drop_of_length_le (by omega)] at hJ
      have hJ : cleansE t.ev t.cleans = 0 := hJ
      rw [hJ]
      conv => whnf
      (repeat' (first | ((refine DecB.mk (fun h => ?_) (fun h => ?_)) <;> first | (exfalso; omega) | (conv => whnf)) | ((refine BoolB.mk (fun h => ?_) (fun h => ?_)) <;> first | (exact absurd h (by decide)) | (conv => whnf)) | ((first | refine ⟨_, wrap_ok (by omega) (by omega), ?_⟩ | refine and_idx (by omega) (by omega) ?_ | refine reg_ok (by decide +kernel) ?_ | refine bar_ok (by decide +kernel) (by decide +kernel) ?_ | refine late_ok rfl rfl ?_ | refine src_ok rfl ?_ | refine LitB.data ?_ | refine BoxB.own ?_); conv => whnf)))
      all_goals first
        | (exfalso; omega)
        | exact fin_int rfl
theorem a_bin (e : Ev) {i : Nat} {x : Move} (h0 : check e = 0) (hx : e.moves[i]? = some x) : ACall Tryz.prog 22 [evS e, intS .i64 i] [] (boolS (decide (kindAt e x.src = 0))) [] := by
  have hm := check_move h0 (List.mem_of_getElem? hx)
  have ms := moveOk_src hm
  obtain ⟨s, hsn⟩ : ∃ s : Nat, x.src = s := ⟨x.src.toNat, by omega⟩
  obtain ⟨pl, hpl⟩ : ∃ pl, e.places[s]? = some pl := ⟨_, List.getElem?_eq_getElem (by omega)⟩
  have hkd : kindAt e x.src = pl.kind := by rw [hsn]; exact kindAt_of hpl
  rw [hkd]
  (refine acall_of tab_ok Tryz.func22 rfl (by decide) ?_; (conv => whnf); repeat (first | (refine LitB.data ?_; conv => whnf) | (refine BoxB.data ?_; conv => whnf)))
  (repeat' (first | ((refine DecB.mk (fun h => ?_) (fun h => ?_)) <;> first | (exfalso; omega) | (conv => whnf)) | ((refine BoolB.mk (fun h => ?_) (fun h => ?_)) <;> first | (exact absurd h (by decide)) | (conv => whnf)) | ((first | refine ⟨_, wrap_ok (by omega) (by omega), ?_⟩ | refine and_idx (by omega) (by omega) ?_ | refine reg_ok (by decide +kernel) ?_ | refine bar_ok (by decide +kernel) (by decide +kernel) ?_ | refine late_ok rfl rfl ?_ | refine src_ok rfl ?_ | refine ex_row hx ?_ | refine ex_rowE hsn hpl ?_ | refine LitB.data ?_ | refine BoxB.own ?_); conv => whnf)))
  all_goals (refine fin_bool ?_; simp [*])
def termRow (x : Int × Rat) : List T := ti x.1 :: frRow (fz x.2)
abbrev termsT (l : List (Int × Rat)) : T := .sl 5 .any (l.map termRow)
def rowRow (w : RowP) : List T := termsT w.terms :: ti w.kind :: frRow (fz w.value)
def rowC (w : RowP) : List C := .t (termsT w.terms) :: .t (ti w.kind) :: frC (fz w.value)
abbrev rowS (w : RowP) : S := .agg (rowC w)
abbrev rowsTT (l : List RowP) : T := .sl 6 .any (l.map rowRow)
abbrev sysS (s : SysP) : S := .agg [.t (ti s.n), .t (rowsTT s.rows)]
end Go.Proofs.YtomfnfbijgjfeaaGreat
/- Heaps whose last part is symbolic: steps by lemma, views of nested blocks, calls over a first part of the heap. -/
namespace Go.Proofs.YtomfnfbijgjfeaaGreat
open Go.RowKit
set_option linter.unusedVariables false
set_option linter.unusedSimpArgs false

section
variable {α β : Type}
theorem getK_ok {l : List α} : ∀ {i : Nat} {x : α} {k : α → Prop}, l[i]? = some x → k x → getK i l k := by
  induction l with
  | nil => intro i x k h; simp at h
  | cons a r ih =>
    intro i x k h hk
    cases i with
    | zero => simp at h; subst h; exact hk
    | succ i => exact ih (by simpa using h) hk
theorem setK_ok {v : α} {l : List α} {i : Nat} {k : List α → Prop} (h : k (l.set i v)) : setK i v l k := setK_iff.2 h
theorem appK_ok {r l : List α} {k : List α → Prop} (h : k (l ++ r)) : appK l r k := appK_iff.2 h
theorem appK_nil {l : List α} {k : List α → Prop} (h : k l) : appK l [] k := appK_ok (by rw [List.append_nil]; exact h)
theorem lenK_ok {l : List α} {n : Nat} {k : Nat → Prop} (h : k (l.length + n)) : lenK l n k := lenK_iff.2 (by rw [Nat.add_comm]; exact h)
theorem lenK_map {f : β → α} {M : List β} {N n : Nat} {k : Nat → Prop} (h : M.length = N) (hk : k (N + n)) : lenK (M.map f) n k := lenK_ok (by simpa [h] using hk)
theorem lenK_mapA {f : β → α} {M : List β} {T : List α} {N n : Nat} {k : Nat → Prop} (h : M.length = N) (hk : lenK T n fun m => k (N + m)) : lenK (M.map f ++ T) n k := by
  refine lenK_ok ?_
  have := (lenK_iff (k := fun m => k (N + m))).1 hk
  simpa [h, Nat.add_assoc, Nat.add_comm n] using this
theorem getK_map {f : β → α} {M : List β} {i : Nat} {x : β} {k : α → Prop} (h : M[i]? = some x) (hk : k (f x)) : getK i (M.map f) k := getK_ok (by rw [List.getElem?_map, h]; rfl) hk
theorem getK_mapA {f : β → α} {M : List β} {T : List α} {i : Nat} {x : β} {k : α → Prop} (h : M[i]? = some x) (hk : k (f x)) : getK i (M.map f ++ T) k :=
  getK_ok (by rw [List.getElem?_append_left (by simpa using (List.getElem?_eq_some_iff.1 h).1), List.getElem?_map, h]; rfl) hk
theorem getK_mapT {f : β → α} {M : List β} {T : List α} {N t : Nat} {k : α → Prop} (h : M.length = N) (hk : getK t T k) : getK (N + t) (M.map f ++ T) k := by
  obtain ⟨x, h1, h2⟩ := getK_iff hk
  exact getK_ok (by rw [List.getElem?_append_right (by simp [h])]; simpa [h] using h1) h2
theorem getK_map0 {f : β → α} {M : List β} {T : List α} {N : Nat} {k : α → Prop} (h : M.length = N) (hk : getK 0 T k) : getK N (M.map f ++ T) k := getK_mapT (t := 0) h hk
theorem setK_mapT {f : β → α} {M : List β} {T : List α} {N t : Nat} {v : α} {k : List α → Prop} (h : M.length = N) (hk : setK t v T fun q => k (M.map f ++ q)) : setK (N + t) v (M.map f ++ T) k := by
  refine setK_ok ?_
  rw [List.set_append_right _ _ (by simp [h])]
  simpa [h] using (setK_iff (k := fun q => k (M.map f ++ q))).1 hk
theorem setK_map0 {f : β → α} {M : List β} {T : List α} {N : Nat} {v : α} {k : List α → Prop} (h : M.length = N) (hk : setK 0 v T fun q => k (M.map f ++ q)) : setK N v (M.map f ++ T) k := setK_mapT (t := 0) h hk
end

/-- nothing renamed -/
def idR (n : Nat) : List (Option Nat) := (List.range n).map some
theorem idR_len (n : Nat) : (idR n).length = n := by simp [idR]
theorem idR_get {n i : Nat} (h : i < n) : (idR n)[i]? = some (some i) := by simp [idR, h]
theorem idR_inv {n i j : Nat} (h : (idR n)[i]? = some (some j)) : i = j := by
  obtain ⟨h1, h2⟩ := List.getElem?_eq_some_iff.1 h
  simp [idR] at h2
  exact h2
theorem idR_keeps {n : Nat} : ∀ {m : Nat}, m ≤ n → keepsB (idR n) m = true
  | 0, _ => rfl
  | m + 1, h => by
    unfold keepsB
    rw [idR_get (by omega), idR_keeps (by omega)]
    simp
theorem sameL_no : ∀ {r : List (Option Nat)} {H : Hp} {n : Nat}, (∀ j : Nat, r[j]? ≠ some (some n)) → sameL n r H = false
  | [], H, n, _ => by cases H <;> rfl
  | x :: r, [], n, _ => by cases x <;> rfl
  | x :: r, k :: H, n, h => by
    unfold sameL
    rw [sameL_no (r := r) (H := H) (n := n) (fun j => by simpa using h (j + 1)), Bool.or_false]
    split
    · rfl
    · rename_i m _
      have : m ≠ n := by rintro rfl; exact h 0 rfl
      cases hb : Nat.beq m n with
      | false => rfl
      | true => exact absurd (Nat.eq_of_beq_eq_true hb) this
    · rfl
theorem nodupH_ok : ∀ {r : List (Option Nat)} {H : Hp}, (∀ i j n : Nat, r[i]? = some (some n) → r[j]? = some (some n) → i = j) → nodupH r H = true
  | [], H, _ => by cases H <;> rfl
  | x :: r, [], _ => by cases x <;> rfl
  | none :: r, k :: H, h => nodupH_ok (r := r) fun i j n h1 h2 => by have := h (i + 1) (j + 1) n (by simpa using h1) (by simpa using h2); omega
  | some n :: r, k :: H, h => by
    unfold nodupH
    rw [nodupH_ok (r := r) (H := H) fun i j n h1 h2 => by have := h (i + 1) (j + 1) n (by simpa using h1) (by simpa using h2); omega]
    rw [sameL_no (r := r) (n := n) (fun j hj => by have := h 0 (j + 1) n rfl (by simpa using hj); omega)]
    cases k.mode <;> rfl
theorem idR_nodup {n : Nat} {H : Hp} : nodupH (idR n) H = true := nodupH_ok fun i j n h1 h2 => by rw [idR_inv h1, idR_inv h2]
theorem entH_ok {ρ : List (Option Nat)} {H : Hp} : ∀ {r : List (Option Nat)} {H' : Hp}, r.length = H'.length → (∀ (i : Nat) (k' : Blk), H'[i]? = some k' → ∃ (j : Nat) (k : Blk), r[i]? = some (some j) ∧ H[j]? = some k ∧ EntB ρ H k k') → EntH ρ H r H'
  | [], [], _, _ => trivial
  | [], _ :: _, h, _ => by simp at h
  | _ :: _, [], h, _ => by simp at h
  | x :: r, k' :: H', hl, h => by
    obtain ⟨j, k, h1, h2, h3⟩ := h 0 k' rfl
    simp at h1
    subst h1
    refine ⟨?_, entH_ok (by simpa using hl) fun i k1 hk => by simpa using h (i + 1) k1 (by simpa using hk)⟩
    simp only [h2]
    exact h3
theorem entL_refl {n : Nat} {H : Hp} : ∀ {l : List C}, (∀ c ∈ l, match c with | .t _ => True | .ptr id _ _ => id < n | .own id _ _ _ => id < n | .fn _ _ => False) → EntL (idR n) H l l
  | [], _ => trivial
  | c :: r, h => by
    refine ⟨?_, entL_refl fun c hc => h c (by simp [hc])⟩
    have h0 := h c (by simp)
    cases c with
    | t x => exact weak_refl x
    | ptr id r o => exact ⟨idR_get h0, rfl, rfl⟩
    | own id lo len app => exact ⟨idR_get h0, rfl, rfl, fun h => h⟩
    | fn f caps => exact h0.elim
/-- a block all of whose handles are below n -/
def okB (n : Nat) (k : Blk) : Prop := ∀ r ∈ k.rows, ∀ c ∈ r, match c with | .t _ => True | .ptr id _ _ => id < n | .own id _ _ _ => id < n | .fn _ _ => False
theorem okB_toC {n : Nat} {k : Blk} {rows : List (List T)} (h : k.rows = toC rows) : okB n k := by
  intro r hr c hc
  rw [h] at hr
  obtain ⟨r0, _, rfl⟩ := List.mem_map.1 hr
  obtain ⟨t, _, rfl⟩ := List.mem_map.1 hc
  trivial
theorem entR_refl {n : Nat} {H : Hp} : ∀ {l : List (List C)}, (∀ r ∈ l, ∀ c ∈ r, match c with | .t _ => True | .ptr id _ _ => id < n | .own id _ _ _ => id < n | .fn _ _ => False) → EntR (idR n) H l l
  | [], _ => trivial
  | r :: l, h => ⟨entL_refl (h r (by simp)), entR_refl fun r hr => h r (by simp [hr])⟩
theorem entB_refl {n : Nat} {H : Hp} {k : Blk} (h : okB n k) : EntB (idR n) H k k := ⟨by unfold leMode; cases k.mode <;> simp, rfl, rfl, .inr (entR_refl h)⟩
/-- the first blocks stay, the others are dropped -/
theorem ent_first {n0 n : Nat} {env env' : Env} {H H' : Hp} (hn : H'.length = n) (h0 : n0 ≤ n) (hok : ∀ k ∈ H', okB n k) (hH : ∀ i, i < n → H[i]? = H'[i]?) (hE : EntE (idR n) H env env') : Ent n0 (idR n) env H env' H' :=
  ⟨idR_keeps h0, idR_nodup, entH_ok (by rw [idR_len, hn]) fun i k' hk => by
    have hi : i < n := by rw [← hn]; exact (List.getElem?_eq_some_iff.1 hk).1
    exact ⟨i, k', idR_get hi, by rw [hH i hi]; exact hk, entB_refl (hok k' (List.mem_of_getElem? hk))⟩, hE⟩
theorem ent_firstA {n0 n : Nat} {env env' : Env} {H' T : Hp} (hn : H'.length = n) (h0 : n0 ≤ n) (hok : ∀ k ∈ H', okB n k) (hE : EntE (idR n) (H' ++ T) env env') : Ent n0 (idR n) env (H' ++ T) env' H' :=
  ent_first hn h0 hok (fun i hi => by rw [List.getElem?_append_left (by omega)]) hE

/-- cells of nested blocks as data -/
inductive VX (H : Hp) (p : Nat → Prop) : C → T → Prop
  | vc {x : C} {y : T} (h : VC H p x y) : VX H p x y
  | own {id lo len : Nat} {app : Bool} {size : Nat} {k : Blk} {rows : List (List T)} (hp : p id) (hk : H[id]? = some k) (hd : ¬ k.mode.gone) (hs : k.size = size) (hl : rows.length = len)
      (hw : ∀ r ∈ rows, r.length = size) (g : Nat → Nat → C) (hc : ∀ i j c, at2 rows i j = some c → at2 k.rows (lo + i) j = some (g i j))
      (hx : ∀ i j c, at2 rows i j = some c → VX H p (g i j) c) : VX H p (.own id lo len app) (.sl size .any rows)
theorem VX.rt {H : Hp} {p : Nat → Prop} {w : World} {ι : Io} {M M' : Ms} (hH : HeapRel w ι M H) (hM : ∀ b, M' b → M b) (hp : ∀ id k b cap size, p id → H[id]? = some k → ¬ k.mode.gone → ι id = some (.blk b cap size) → ¬ M' b)
    {x : C} {y : T} (h : VX H p x y) : ∀ {v : Value}, RC w ι M x v → RT w M' y v := by
  induction h with
  | vc h => intro v hr; exact VC.rt hH hM hp _ _ _ h hr
  | @own id lo len app size k rows hpi hk hd hs hl hw g hc hx ih =>
    intro v hr
    cases hr with
    | @own _ _ _ _ b cap sz A cap' hi q1 q2 q3 q4 q5 =>
      subst hl
      have hbr := hH.blk id k hk (fun e => hd (by rw [e]; trivial)) _ hi
      obtain ⟨r1, r2, r3, r4, r5, cur, r6, r7, r8⟩ := hbr
      have hnm := hp id k b cap sz hpi hk hd hi
      have hse : sz = size := by rw [← hs, r1]
      subst hse
      have hat : ∀ (i j : Nat) (c : T), at2 rows i j = some c → ∃ u, cur[(lo + i) * sz + j]? = some u ∧ RT w M' c u := fun i j c hij => by
        obtain ⟨u, t1, t2⟩ := r8 _ _ _ (hc i j c hij)
        exact ⟨u, t1, ih i j c hij t2⟩
      refine .sl (b := b) (off := lo * sz) (fun i j => cur.getD ((lo + i) * sz + j) undef) hw q3 q4 (by intro h; cases h) (by intro h; cases h) (fun hne => q2 (List.length_pos_iff.2 hne)) ?_ ?_
      · intro i j c hc'
        obtain ⟨u, s1, s2⟩ := hat i j c hc'
        refine ⟨?_, hnm⟩
        have e : lo * sz + (i * sz + j) = (lo + i) * sz + j := by rw [Nat.add_mul, Nat.add_assoc]
        simp only [World.cell?]
        rw [r6, e]
        simp [s1]
      · intro i j c hc'
        obtain ⟨u, s1, s2⟩ := hat i j c hc'
        have : cur.getD ((lo + i) * sz + j) undef = u := by simp [s1]
        rw [this]; exact s2
    | nil hi =>
      have hr0 : rows = [] := List.eq_nil_of_length_eq_zero hl
      subst hr0
      exact .sl (b := 0) (off := 0) (fun _ _ => undef) (by simp) (by simp) (by unfold maxLen; omega) (by simp) (by simp) (by simp) (by simp [at2]) (by simp [at2])

/-- arguments seen as data, nested blocks too -/
def VXS (H : Hp) (p : Nat → Prop) (s s' : S) : Prop :=
  (∃ x y, s = .c x ∧ s' = .c (.t y) ∧ VX H p x y) ∨ VS H p s s'
def VXArgs (H : Hp) (p : Nat → Prop) : List S → List S → Prop
  | [], [] => True
  | s :: r, s' :: r' => VXS H p s s' ∧ VXArgs H p r r'
  | _, _ => False
theorem VXArgs.get {H : Hp} {p : Nat → Prop} : ∀ {l l' : List S}, VXArgs H p l l' → l.length = l'.length ∧ ∀ (j : Nat) (s' : S), l'[j]? = some s' → ∃ s, l[j]? = some s ∧ VXS H p s s'
  | [], [], _ => ⟨rfl, by simp⟩
  | s :: r, s' :: r', h => by
    obtain ⟨h1, h2⟩ := VXArgs.get h.2
    refine ⟨by simp [h1], fun j t ht => ?_⟩
    cases j with
    | zero => simp at ht; subst ht; exact ⟨s, rfl, h.1⟩
    | succ j => simpa using h2 j t (by simpa using ht)
  | [], _ :: _, h => h.elim
  | _ :: _, [], h => h.elim
end Go.Proofs.YtomfnfbijgjfeaaGreat
/- A block whose rows each hold a growing list of numbers of their own: lists of any number of blocks. -/
namespace Go.Proofs.YtomfnfbijgjfeaaGreat
open Go.RowKit
set_option linter.unusedVariables false
set_option linter.unusedSimpArgs false

/-- the rows: some data, the list of one's own, some data -/
def gRow (A : Nat → List T) (g : Nat → List Int) (B : Nat → List T) (id : Nat) (i : Nat) : List C := (A i).map .t ++ .own id 0 (g i).length true :: (B i).map .t
def gRows (n : Nat) (A : Nat → List T) (g : Nat → List Int) (B : Nat → List T) : List (List C) := (List.range n).map fun i => gRow A g B (i + 1) i
def gBlk (el : TypeId) (size n : Nat) (A : Nat → List T) (g : Nat → List Int) (B : Nat → List T) : Blk := { mode := .live, elem := el, size := size, rows := gRows n A g B, box := false }
def gHeap (el : TypeId) (size n : Nat) (A : Nat → List T) (g : Nat → List Int) (B : Nat → List T) : Hp := gBlk el size n A g B :: (List.range n).map fun i => intsB (g i)
theorem gRows_len {n : Nat} {A : Nat → List T} {g : Nat → List Int} {B : Nat → List T} : (gRows n A g B).length = n := by simp [gRows]
theorem gRows_get {n i : Nat} {A : Nat → List T} {g : Nat → List Int} {B : Nat → List T} (h : i < n) : (gRows n A g B)[i]? = some (gRow A g B (i + 1) i) := by simp [gRows, h]
theorem gHeap_len {el : TypeId} {size n : Nat} {A : Nat → List T} {g : Nat → List Int} {B : Nat → List T} : (gHeap el size n A g B).length = n + 1 := by simp [gHeap]
/-- the block of list j is now the block N -/
def growR (n j N : Nat) : List (Option Nat) := (List.range (n + 1)).map fun i => some (if i = j + 1 then N else i)
theorem growR_get {n j N i : Nat} (h : i < n + 1) : (growR n j N)[i]? = some (some (if i = j + 1 then N else i)) := by simp [growR, h]
theorem growR_len {n j N : Nat} : (growR n j N).length = n + 1 := by simp [growR]
theorem entL_data {ρ : List (Option Nat)} {H : Hp} : ∀ l : List T, EntL ρ H (l.map C.t) (l.map C.t)
  | [] => trivial
  | x :: r => ⟨weak_refl x, entL_data r⟩
theorem entL_app {ρ : List (Option Nat)} {H : Hp} : ∀ {a b c d : List C}, EntL ρ H a b → EntL ρ H c d → EntL ρ H (a ++ c) (b ++ d)
  | [], [], _, _, _, h => h
  | x :: a, y :: b, _, _, h1, h2 => ⟨h1.1, entL_app h1.2 h2⟩
  | [], _ :: _, _, _, h, _ => h.elim
  | _ :: _, [], _, _, h, _ => h.elim
theorem entR_of {ρ : List (Option Nat)} {H : Hp} : ∀ {xs ys : List (List C)}, xs.length = ys.length → (∀ (i : Nat) (x y : List C), xs[i]? = some x → ys[i]? = some y → EntL ρ H x y) → EntR ρ H xs ys
  | [], [], _, _ => trivial
  | [], _ :: _, h, _ => by simp at h
  | _ :: _, [], h, _ => by simp at h
  | x :: xs, y :: ys, h, hh => ⟨hh 0 x y rfl rfl, entR_of (by simpa using h) fun i a b ha hb => hh (i + 1) a b (by simpa using ha) (by simpa using hb)⟩
def updG (g : Nat → List Int) (j : Nat) (l : List Int) : Nat → List Int := fun i => if i = j then l else g i
theorem ent_grow {el : TypeId} {size n j N : Nat} {A : Nat → List T} {g : Nat → List Int} {B : Nat → List T} {l : List Int} {env env' : Env} {H : Hp} {k0 : Blk} (hj : j < n) (hnN : n < N)
    (h0 : H[0]? = some k0) (hk0 : k0.mode = .live ∧ k0.app = false ∧ k0.elem = el ∧ k0.size = size) (hr : k0.rows = (gRows n A g B).set j ((A j).map .t ++ .own N 0 l.length true :: (B j).map .t))
    (hm : ∀ m, m < n → m ≠ j → H[m + 1]? = some (intsB (g m))) (hN : H[N]? = some (intsB l)) (hE : EntE (growR n j N) H env env') : Ent 0 (growR n j N) env H env' (gHeap el size n A (updG g j l) B) := by
  refine ⟨rfl, nodupH_ok fun a b m h1 h2 => ?_, entH_ok (by rw [growR_len, gHeap_len]) fun i k' hk => ?_, hE⟩
  · have ha := (List.getElem?_eq_some_iff.1 h1).1
    have hb := (List.getElem?_eq_some_iff.1 h2).1
    rw [growR_len] at ha hb
    rw [growR_get ha] at h1
    rw [growR_get hb] at h2
    simp only [Option.some.injEq] at h1 h2
    split at h1 <;> split at h2 <;> omega
  · have hi := (List.getElem?_eq_some_iff.1 hk).1
    rw [gHeap_len] at hi
    refine ⟨if i = j + 1 then N else i, ?_⟩
    cases i with
    | zero =>
      refine ⟨k0, growR_get hi, by simpa using h0, ?_⟩
      simp [gHeap] at hk
      subst hk
      obtain ⟨q1, q2, q3, q4⟩ := hk0
      refine ⟨by unfold leMode; rw [q1, q2]; rfl, q3, q4, .inr ?_⟩
      rw [hr]
      refine entR_of (by rw [List.length_set, gRows_len]; exact gRows_len.symm) fun a x y hx hy => ?_
      have han : a < n := by have := (List.getElem?_eq_some_iff.1 hy).1; rw [show (gBlk el size n A (updG g j l) B).rows = gRows n A (updG g j l) B from rfl, gRows_len] at this; exact this
      have hy : (gRows n A (updG g j l) B)[a]? = some y := hy
      rw [gRows_get han] at hy
      injection hy with hy
      subst hy
      rw [List.getElem?_set, gRows_len] at hx
      by_cases haj : j = a
      · subst haj
        rw [if_pos rfl, if_pos hj] at hx
        injection hx with hx
        subst hx
        unfold gRow
        have e1 : updG g j l j = l := by simp [updG]
        rw [e1]
        refine entL_app (entL_data _) ⟨⟨?_, rfl, rfl, fun h => h⟩, entL_data _⟩
        rw [growR_get (by omega), if_pos rfl]
      · rw [if_neg haj, gRows_get han] at hx
        injection hx with hx
        subst hx
        unfold gRow
        have e1 : updG g j l a = g a := by unfold updG; rw [if_neg (fun h => haj h.symm)]
        rw [e1]
        refine entL_app (entL_data _) ⟨⟨?_, rfl, rfl, fun h => h⟩, entL_data _⟩
        rw [growR_get (by omega), if_neg (by omega)]
    | succ i =>
      have hin : i < n := by omega
      have hk : ((List.range n).map fun i => intsB (updG g j l i))[i]? = some k' := hk
      rw [List.getElem?_map, List.getElem?_range hin] at hk
      injection hk with hk
      subst hk
      by_cases hij : i = j
      · subst hij
        refine ⟨intsB l, growR_get hi, by rw [if_pos rfl]; exact hN, ?_⟩
        have e1 : updG g i l i = l := by simp [updG]
        show EntB _ _ _ (intsB (updG g i l i))
        rw [e1]
        exact ⟨rfl, rfl, rfl, .inl ⟨rfl, rowsT_toC _⟩⟩
      · refine ⟨intsB (g i), growR_get hi, by rw [if_neg (by omega)]; exact hm i hin hij, ?_⟩
        have e1 : updG g j l i = g i := by unfold updG; rw [if_neg hij]
        show EntB _ _ _ (intsB (updG g j l i))
        rw [e1]
        exact ⟨rfl, rfl, rfl, .inl ⟨rfl, rowsT_toC _⟩⟩
/-- all lists are nil yet -/
def newR (id n : Nat) : List (Option Nat) := some id :: List.replicate n none
theorem entH_new {ρ : List (Option Nat)} {H : Hp} : ∀ {n : Nat} {R : List Blk}, R.length = n → (∀ k ∈ R, k.rows = [] ∧ k.mode = .live) → EntH ρ H (List.replicate n none) R
  | 0, [], _, _ => trivial
  | n + 1, k :: R, h, hh => ⟨hh k (by simp), entH_new (by simpa using h) fun k hk => hh k (by simp [hk])⟩
  | 0, _ :: _, h, _ => by simp at h
  | n + 1, [], h, _ => by simp at h
theorem nodup_none {H : Hp} : ∀ {n : Nat}, nodupH (List.replicate n none) H = true
  | 0 => by cases H <;> rfl
  | n + 1 => by
    rw [List.replicate_succ]
    cases H with
    | nil => rfl
    | cons k H => exact nodup_none (H := H)
theorem same_none {m : Nat} : ∀ {n : Nat} {H : Hp}, sameL m (List.replicate n none) H = false
  | 0, H => by cases H <;> rfl
  | n + 1, [] => rfl
  | n + 1, k :: H => by
    rw [List.replicate_succ]
    unfold sameL
    rw [same_none]
    cases k.mode <;> rfl
theorem ent_new {el : TypeId} {size n id : Nat} {A B : Nat → List T} {env env' : Env} {H : Hp} {k0 : Blk} {s : Nat}
    (h0 : H[id]? = some k0) (hk0 : k0.mode = .live ∧ k0.app = false ∧ k0.elem = el ∧ k0.size = size) (hr : k0.rows = (List.range n).map fun i => (A i).map .t ++ .t (.sl s .nil []) :: (B i).map .t)
    (hE : EntE (newR id n) H env env') : Ent 0 (newR id n) env H env' (gHeap el size n A (fun _ => []) B) := by
  obtain ⟨q1, q2, q3, q4⟩ := hk0
  refine ⟨rfl, ?_, ⟨?_, ?_⟩, hE⟩
  · unfold newR gHeap nodupH
    rw [same_none, nodup_none]
    rfl
  · simp only [h0]
    refine ⟨by unfold leMode; rw [q1, q2]; rfl, q3, q4, .inr ?_⟩
    rw [hr]
    refine entR_of (by rw [show (gBlk el size n A (fun _ => []) B).rows = gRows n A (fun _ => []) B from rfl, gRows_len]; simp) fun a x y hx hy => ?_
    have han : a < n := by have := (List.getElem?_eq_some_iff.1 hx).1; simpa using this
    have hy : (gRows n A (fun _ => []) B)[a]? = some y := hy
    rw [gRows_get han] at hy
    injection hy with hy
    subst hy
    rw [List.getElem?_map, List.getElem?_range han] at hx
    injection hx with hx
    subst hx
    unfold gRow
    refine entL_app (entL_data _) ⟨⟨?_, rfl, rfl⟩, entL_data _⟩
    show (newR id n)[a + 1]? = some none
    unfold newR
    rw [List.getElem?_cons_succ, List.getElem?_replicate, if_pos han]
  · refine entH_new (by simp) fun k hk => ?_
    obtain ⟨i, _, rfl⟩ := List.mem_map.1 hk
    exact ⟨rfl, rfl⟩
/-- the lists become data -/
theorem ent_ripe {el : TypeId} {size n : Nat} {A : Nat → List T} {g : Nat → List Int} {B : Nat → List T} {env env' : Env}
    (hE : EntE [some 0] (gHeap el size n A g B) env env') : Ent 0 [some 0] env (gHeap el size n A g B) env' [{ mode := .live, elem := el, size := size, rows := toC ((List.range n).map fun i => A i ++ intsT (g i) :: B i), box := false }] := by
  refine ⟨rfl, rfl, ⟨⟨rfl, rfl, rfl, .inr ?_⟩, trivial⟩, hE⟩
  show EntR _ _ (gRows n A g B) (toC _)
  refine entR_of (by rw [gRows_len]; simp [toC]) fun a x y hx hy => ?_
  have han : a < n := by have := (List.getElem?_eq_some_iff.1 hx).1; rw [gRows_len] at this; exact this
  rw [gRows_get han] at hx
  injection hx with hx
  subst hx
  have hy : (((List.range n).map fun i => A i ++ intsT (g i) :: B i).map (·.map C.t))[a]? = some y := hy
  rw [List.getElem?_map, List.getElem?_map, List.getElem?_range han] at hy
  injection hy with hy
  subst hy
  show EntL _ _ _ ((A a ++ intsT (g a) :: B a).map C.t)
  rw [List.map_append, List.map_cons]
  unfold gRow
  refine entL_app (entL_data _) ⟨?_, entL_data _⟩
  have hk : (gHeap el size n A g B)[a + 1]? = some (intsB (g a)) := by simp [gHeap, han]
  exact show VC _ _ _ _ from vc_all (by simp [notIn]; rfl) hk (by intro h; cases h) rfl rfl (by simp)
theorem ok_gHeap {el : TypeId} {size n : Nat} {A : Nat → List T} {g : Nat → List Int} {B : Nat → List T} : ∀ k ∈ gHeap el size n A g B, okB (n + 1) k := by
  intro k hk
  rcases List.mem_cons.1 hk with rfl | hk
  · intro r hr c hc
    obtain ⟨i, hi, rfl⟩ := List.mem_map.1 hr
    have hi := List.mem_range.1 hi
    unfold gRow at hc
    rcases List.mem_append.1 hc with hc | hc
    · obtain ⟨x, _, rfl⟩ := List.mem_map.1 hc; trivial
    · rcases List.mem_cons.1 hc with rfl | hc
      · show i + 1 < n + 1; omega
      · obtain ⟨x, _, rfl⟩ := List.mem_map.1 hc; trivial
  · obtain ⟨i, _, rfl⟩ := List.mem_map.1 hk
    exact okB_toC rfl
/-- nothing turned, further blocks are dropped -/
theorem ent_gsame {el : TypeId} {size n : Nat} {A : Nat → List T} {g : Nat → List Int} {B : Nat → List T} {env env' : Env} {R : Hp} (hE : EntE (idR (n + 1)) (gHeap el size n A g B ++ R) env env') : Ent 0 (idR (n + 1)) env (gHeap el size n A g B ++ R) env' (gHeap el size n A g B) :=
  ent_firstA gHeap_len (Nat.zero_le _) ok_gHeap hE
end Go.Proofs.YtomfnfbijgjfeaaGreat
/- history: none, carry, taken. -/
namespace Go.Proofs.YtomfnfbijgjfeaaGreat
open Go.RowKit
set_option linter.unusedVariables false
set_option linter.unusedSimpArgs false
set_option maxRecDepth 100000

def rowF (w : Nat) (g : Nat → Rat) : List Fr := (List.range w).map fun m => fz (g m)
theorem rowF_len (w : Nat) (g : Nat → Rat) : (rowF w g).length = w := by simp [rowF]
theorem rowF_get {w : Nat} {g : Nat → Rat} {m : Nat} (h : m < w) : (rowF w g)[m]? = some (fz (g m)) := by simp [rowF, h]
theorem rowF_set {w : Nat} {g : Nat → Rat} {m : Nat} {v : Rat} (h : m < w) : (rowF w g).set m (fz v) = rowF w (fun j => if j = m then v else g j) := by
  apply List.ext_getElem?
  intro j
  by_cases hj : j < w
  · rw [rowF_get hj, List.getElem?_set, rowF_len]
    by_cases hjm : m = j
    · subst hjm; simp [h]
    · rw [if_neg hjm, rowF_get hj, if_neg (by omega)]
  · rw [List.getElem?_eq_none (by simp [rowF_len]; omega), List.getElem?_eq_none (by simp [rowF_len]; omega)]
abbrev rowB (l : List Fr) : Blk := { mode := .live, elem := 52, size := 4, rows := toC (l.map frRow), box := false }
theorem rowB_set {row : List Fr} {i n : Nat} {y : Fr} (h : n = i) : setRows (rowB row) ((toC (row.map frRow)).set n (frC y)) = rowB (row.set i y) := by
  subst h
  unfold setRows
  simp [toC, List.map_set, frRow]
end Go.Proofs.YtomfnfbijgjfeaaGreat
/- history: none. -/
namespace Go.Proofs.YtomfnfbijgjfeaaGreat
open Go.RowKit
set_option linter.unusedVariables false
set_option linter.unusedSimpArgs false
set_option maxRecDepth 100000

abbrev zR : Rat := ((0 : Int) : Rat)
def partF (m w : Nat) : List Fr := (List.range w).map fun j => if j < m then fz zR else zeroF
theorem partF_len (m w : Nat) : (partF m w).length = w := by simp [partF]
theorem partF_get {m w j : Nat} (h : j < w) : (partF m w)[j]? = some (if j < m then fz zR else zeroF) := by simp [partF, h]
theorem partF_set {m w : Nat} (h : m < w) : (partF m w).set m (fz zR) = partF (m + 1) w := by
  apply List.ext_getElem?
  intro j
  by_cases hj : j < w
  · rw [partF_get hj, List.getElem?_set, partF_len]
    by_cases hjk : m = j
    · subst hjk; simp [h]
    · rw [if_neg hjk, partF_get hj]
      have : (j < m + 1) ↔ (j < m) := by omega
      simp only [this]
  · rw [List.getElem?_eq_none (by simp [partF_len]; omega), List.getElem?_eq_none (by simp [partF_len]; omega)]
theorem partF_all (w : Nat) : partF w w = rowF w (fun _ => zR) := by
  unfold partF rowF
  refine List.map_congr_left fun j hj => ?_
  rw [if_pos (List.mem_range.1 hj)]
theorem partF_zero (w : Nat) : partF 0 w = List.replicate w zeroF := by
  apply List.ext_getElem?
  intro j
  by_cases hj : j < w
  · rw [partF_get hj]; simp [hj]
  · rw [List.getElem?_eq_none (by simp [partF_len]; omega), List.getElem?_eq_none (by simp; omega)]
end Go.Proofs.YtomfnfbijgjfeaaGreat
/- history: Check. -/
namespace Go.Proofs.YtomfnfbijgjfeaaGreat
open Go.RowKit
set_option linter.unusedVariables false
set_option linter.unusedSimpArgs false
set_option maxRecDepth 100000

theorem check_bounds {e : Ev} (h : check e = 0) : 1 ≤ e.mats ∧ e.mats ≤ 6 ∧ e.places.length ≤ 100 ∧ e.moves.length ≤ 200 := by
  obtain ⟨h1, h2, _⟩ := check_zero h
  unfold fullB at h1
  simp only [Bool.or_eq_false_iff, decide_eq_false_iff_not] at h1
  omega
end Go.Proofs.YtomfnfbijgjfeaaGreat
/- taint: what is known of a move, what it allows. -/
namespace Go.Proofs.YtomfnfbijgjfeaaGreat
open Go.RowKit
set_option linter.unusedVariables false
set_option linter.unusedSimpArgs false
set_option maxRecDepth 100000

/-- what is known about the matter in a move -/
def aboutT (h : Fr) (b : Bool) (gs : List Int) (n : Int) : List T := [ti h.p.sg, intsT h.p.dl, ti h.q.sg, intsT h.q.dl, tb b, intsT gs, ti n]
abbrev aboutS (h : Fr) (b : Bool) (gs : List Int) (n : Int) : S := .agg ((aboutT h b gs n).map .t)
def hiF (o : Option (Rat × Rat)) : Fr := match o with
  | some (_, hi) => fz hi
  | none => zeroF
def ivAt (e : Ev) (i : Nat) : Option (Rat × Rat) := match e.moves[i]? with
  | some x => ivOf e x
  | none => none
theorem ivAt_of {e : Ev} {i : Nat} {x : Move} (h : e.moves[i]? = some x) : ivAt e i = ivOf e x := by unfold ivAt; rw [h]
def aboutAt (t : Trace) (kind : Int) (i : Nat) : List T := aboutT (hiF (ivAt t.ev i)) (ivAt t.ev i).isSome (gramsOf t.finds kind i) (cleansOf t.cleans kind i)
abbrev knownT (t : Trace) (kind : Int) : T := .sl 7 .any ((List.range t.ev.moves.length).map (aboutAt t kind))
def allowE (b : Bool) (hi : Rat) (gs : List Int) (n : Int) (z : Rat) : Int := if b = true ∧ hi < z then 20 else if gs.any (fun g => decide (z < (g : Rat))) then 24 else if 0 < n ∧ z ≠ 0 then 13 else 0
set_option maxHeartbeats 2000000 in
theorem a_allows0 (H : Fr) (b : Bool) (hi : Rat) (gs : List Int) (n : Int) (z : Rat) (hH : b = true → H = fz hi ∧ rl hi ≤ 200) (hz : rl z ≤ 200) (hg : ∀ g ∈ gs, 1 ≤ g ∧ g ≤ 1099511627776) (hl : gs.length ≤ 1000000) :
    ACall Tryz.prog 36 [aboutS H b gs n, frS (fz z)] [] (intS .i64 (allowE b hi gs n z)) [] := by
  have m1 : (gs.map intRow).length = gs.length := by simp
  have c : b = true → ACall Tryz.prog 34 [frS (fz z), frS H] [] (intS .i64 (cmpR z hi)) [] := fun hb => by
    rw [(hH hb).1]; have := (hH hb).2; exact z_fCompare z hi (by omega) (by omega)
  have cg := cmpR_lt' (x := z) (y := hi)
  have sg := z_fSign z (by omega)
  have sz := sgR_zero (x := z)
  by_cases hcap : b = true ∧ hi < z
  · have e1 : allowE b hi gs n z = 20 := by unfold allowE; rw [if_pos hcap]
    have c1 := c hcap.1
    rw [e1]
    have h1 : cmpR z hi > 0 := cg.2 hcap.2
    clear c
    obtain ⟨rfl, _⟩ := hcap
    (refine acall_of tab_ok Tryz.func36 rfl (by decide) ?_; (conv => whnf); repeat (first | (refine LitB.data ?_; conv => whnf) | (refine BoxB.data ?_; conv => whnf)))
    (repeat' (first | ((refine DecB.mk (fun h => ?_) (fun h => ?_)) <;> first | (exfalso; omega) | (conv => whnf)) | ((refine BoolB.mk (fun h => ?_) (fun h => ?_)) <;> first | (exact absurd h (by decide)) | (conv => whnf)) | ((first | refine ⟨_, wrap_ok (by omega) (by omega), ?_⟩ | refine and_idx (by omega) (by omega) ?_ | refine reg_ok (by decide +kernel) ?_ | refine bar_ok (by decide +kernel) (by decide +kernel) ?_ | refine late_ok rfl rfl ?_ | refine src_ok rfl ?_ | refine .inl ⟨_, _, qcall_pure (c1) rfl rfl, ?_⟩ | refine LitB.data ?_ | refine BoxB.own ?_); conv => whnf)))
    all_goals first
      | (exfalso; omega)
      | exact fin_int rfl
  have e1 : allowE b hi gs n z = if gs.any (fun g => decide (z < (g : Rat))) then 24 else if 0 < n ∧ z ≠ 0 then 13 else 0 := by unfold allowE; rw [if_neg hcap]
  rw [e1]
  clear e1
  have h1 : b = true → ¬ cmpR z hi > 0 := fun hb h => hcap ⟨hb, cg.1 h⟩
  clear cg hcap
  cases b
  case' true =>
    have c1 := c rfl
    have h2 := h1 rfl
  case' false =>
    have c1 := sg
    have h2 := True.intro
  all_goals
    clear c h1
    (refine acall_of tab_ok Tryz.func36 rfl (by decide) ?_; (conv => whnf); repeat (first | (refine LitB.data ?_; conv => whnf) | (refine BoxB.data ?_; conv => whnf)))
    (repeat' (first | ((refine DecB.mk (fun h => ?_) (fun h => ?_)) <;> first | (exfalso; omega) | (conv => whnf)) | ((refine BoolB.mk (fun h => ?_) (fun h => ?_)) <;> first | (exact absurd h (by decide)) | (conv => whnf)) | ((first | refine ⟨_, wrap_ok (by omega) (by omega), ?_⟩ | refine and_idx (by omega) (by omega) ?_ | refine reg_ok (by decide +kernel) ?_ | refine bar_ok (by decide +kernel) (by decide +kernel) ?_ | refine late_ok rfl rfl ?_ | refine src_ok rfl ?_ | refine .inl ⟨_, _, qcall_pure (c1) rfl rfl, ?_⟩ | refine LitB.data ?_ | refine BoxB.own ?_); conv => whnf)))
    all_goals try (exfalso; omega)
    refine awp_for tab_ok (fun k => ([J, J, S.c (C.t (T.ptr (aboutT H _ gs n))), S.c (C.t (T.ptr (frRow (fz z)))), J, J, J, J, J, J, J, J, J, J, J, J, J, S.c (C.t (intsT gs)), intS .i64 gs.length, intS .i64 k, J, J, J, J, J, J, J, J, J, J, J, J, J, J, J, J, J], [])) gs.length (fun k => (gs.take k).any (fun g => decide (z < (g : Rat))) = false) [] rfl
      ⟨rfl, rfl, trivial, ⟨rfl, rfl, rfl, ent_i (by simp), rfl, trivial⟩⟩ ?_
    intro k hk hI
    by_cases hlt : k < gs.length
    · obtain ⟨g, hgk⟩ : ∃ g, gs[k]? = some g := ⟨_, List.getElem?_eq_getElem hlt⟩
      have bg := hg g (List.mem_of_getElem? hgk)
      have fi := z_fInt g (by omega) (by omega)
      have rg : rl (g : Rat) ≤ 4 := by rw [rl_int]; have := bl_int (x := g) (by omega) (by omega); omega
      have cm := z_fCompare z (g : Rat) (by omega) (by omega)
      have cl := cmpR_lt (x := z) (y := (g : Rat))
      by_cases hzg : z < (g : Rat)
      · have h2 := cl.2 hzg
        rw [any_of_get hgk (by simpa using hzg), if_pos rfl]
        conv => whnf
        (repeat' (first | ((refine DecB.mk (fun h => ?_) (fun h => ?_)) <;> first | (exfalso; omega) | (conv => whnf)) | ((refine BoolB.mk (fun h => ?_) (fun h => ?_)) <;> first | (exact absurd h (by decide)) | (conv => whnf)) | ((first | refine ⟨_, wrap_ok (by omega) (by omega), ?_⟩ | refine and_idx (by omega) (by omega) ?_ | refine reg_ok (by decide +kernel) ?_ | refine bar_ok (by decide +kernel) (by decide +kernel) ?_ | refine late_ok rfl rfl ?_ | refine src_ok rfl ?_ | refine .inl ⟨_, _, qcall_pure (fi) rfl rfl, ?_⟩ | refine .inl ⟨_, _, qcall_pure (cm) rfl rfl, ?_⟩ | refine ex_row hgk ?_ | refine LitB.data ?_ | refine BoxB.own ?_); conv => whnf)))
        all_goals first
          | (exfalso; omega)
          | exact fin_int rfl
      · have h2 : ¬ cmpR z (g : Rat) < 0 := fun h => hzg (cl.1 h)
        conv => whnf
        (repeat' (first | ((refine DecB.mk (fun h => ?_) (fun h => ?_)) <;> first | (exfalso; omega) | (conv => whnf)) | ((refine BoolB.mk (fun h => ?_) (fun h => ?_)) <;> first | (exact absurd h (by decide)) | (conv => whnf)) | ((first | refine ⟨_, wrap_ok (by omega) (by omega), ?_⟩ | refine and_idx (by omega) (by omega) ?_ | refine reg_ok (by decide +kernel) ?_ | refine bar_ok (by decide +kernel) (by decide +kernel) ?_ | refine late_ok rfl rfl ?_ | refine src_ok rfl ?_ | refine .inl ⟨_, _, qcall_pure (fi) rfl rfl, ?_⟩ | refine .inl ⟨_, _, qcall_pure (cm) rfl rfl, ?_⟩ | refine ex_row hgk ?_ | refine LitB.data ?_ | refine BoxB.own ?_); conv => whnf)))
        all_goals first
          | (exfalso; omega)
          | exact ⟨hlt, by rw [any_take_succ hgk, hI]; simpa using hzg, [], rfl, rfl, trivial, ⟨rfl, rfl, rfl, rfl, rfl, trivial⟩⟩
    · rw [List.take_of_length_le (by omega)] at hI
      rw [hI, if_neg (by simp)]
      by_cases h3 : 0 < n ∧ z ≠ 0
      · rw [if_pos h3]
        have h4 : sgR z ≠ 0 := fun h => h3.2 (sz.1 h)
        obtain ⟨h5, _⟩ := h3
        conv => whnf
        (repeat' (first | ((refine DecB.mk (fun h => ?_) (fun h => ?_)) <;> first | (exfalso; omega) | (conv => whnf)) | ((refine BoolB.mk (fun h => ?_) (fun h => ?_)) <;> first | (exact absurd h (by decide)) | (conv => whnf)) | ((first | refine ⟨_, wrap_ok (by omega) (by omega), ?_⟩ | refine and_idx (by omega) (by omega) ?_ | refine reg_ok (by decide +kernel) ?_ | refine bar_ok (by decide +kernel) (by decide +kernel) ?_ | refine late_ok rfl rfl ?_ | refine src_ok rfl ?_ | refine .inl ⟨_, _, qcall_pure (sg) rfl rfl, ?_⟩ | refine LitB.data ?_ | refine BoxB.own ?_); conv => whnf)))
        all_goals first
          | (exfalso; omega)
          | exact fin_int rfl
      · rw [if_neg h3]
        have h4 : n ≤ 0 ∨ sgR z = 0 := by
          by_cases h5 : 0 < n
          · refine .inr (sz.2 ?_)
            by_cases h6 : z = 0
            · exact h6
            · exact absurd ⟨h5, h6⟩ h3
          · exact .inl (by omega)
        conv => whnf
        (repeat' (first | ((refine DecB.mk (fun h => ?_) (fun h => ?_)) <;> first | (exfalso; omega) | (conv => whnf)) | ((refine BoolB.mk (fun h => ?_) (fun h => ?_)) <;> first | (exact absurd h (by decide)) | (conv => whnf)) | ((first | refine ⟨_, wrap_ok (by omega) (by omega), ?_⟩ | refine and_idx (by omega) (by omega) ?_ | refine reg_ok (by decide +kernel) ?_ | refine bar_ok (by decide +kernel) (by decide +kernel) ?_ | refine late_ok rfl rfl ?_ | refine src_ok rfl ?_ | refine .inl ⟨_, _, qcall_pure (sg) rfl rfl, ?_⟩ | refine LitB.data ?_ | refine BoxB.own ?_); conv => whnf)))
        all_goals first
          | (exfalso; omega)
          | exact fin_int rfl
theorem allow_eq {t : Trace} {kind : Int} {i : Nat} {x : Move} (hx : t.ev.moves[i]? = some x) {z hi : Rat} (hh : ∀ lo hi', ivAt t.ev i = some (lo, hi') → hi' = hi) :
    allowE (ivAt t.ev i).isSome hi (gramsOf t.finds kind i) (cleansOf t.cleans kind i) z = allowsE t kind i x z := by
  unfold allowE allowsE
  rw [ivAt_of hx] at hh ⊢
  cases hiv : ivOf t.ev x with
  | none =>
    simp only [Option.isSome_none, Bool.false_eq_true, false_and, if_false, capB, reduceCtorEq]
    have : (0 < (cleansOf t.cleans kind i : Int)) ↔ 0 < cleansOf t.cleans kind i := by omega
    simp only [this]
  | some p =>
    obtain ⟨lo, hi'⟩ := p
    have := hh lo hi' hiv
    subst this
    have e1 : (capB (some (lo, hi')) z = false) ↔ hi' < z := by
      unfold capB
      rw [decide_eq_false_iff_not]; exact Rat.not_le
    have e2 : (0 < (cleansOf t.cleans kind i : Int)) ↔ 0 < cleansOf t.cleans kind i := by omega
    simp only [Option.isSome_some, true_and, e1, e2]
end Go.Proofs.YtomfnfbijgjfeaaGreat
/- taint: known. -/
namespace Go.Proofs.YtomfnfbijgjfeaaGreat
open Go.RowKit
set_option linter.unusedVariables false
set_option linter.unusedSimpArgs false
set_option maxRecDepth 100000

/-- the rows while the intervals are found -/
def kn1 (e : Ev) (k i : Nat) : List T :=
  let h := if i < k then hiF (ivAt e i) else zeroF
  [ti h.p.sg, intsT h.p.dl, ti h.q.sg, intsT h.q.dl, tb (decide (i < k) && (ivAt e i).isSome), .sl 0 .nil [], ti 0]
abbrev knB (rows : List (List T)) : Blk := { mode := .live, elem := 66, size := 7, rows := toC rows, box := false }
theorem kn1_same {e : Ev} {k i : Nat} (h : i ≠ k) : kn1 e (k + 1) i = kn1 e k i := by
  unfold kn1
  by_cases h1 : i < k
  · simp only [if_pos h1, if_pos (show i < k + 1 by omega), h1, show i < k + 1 by omega]
  · simp only [if_neg h1, if_neg (show ¬ i < k + 1 by omega), h1, show ¬ i < k + 1 by omega]
theorem kn1_set {e : Ev} {k n : Nat} (h : k < n) : (toC ((List.range n).map (kn1 e k))).set k ((kn1 e (k + 1) k).map C.t) = toC ((List.range n).map (kn1 e (k + 1))) := by
  apply List.ext_getElem?
  intro i
  unfold toC
  rw [List.getElem?_set, List.getElem?_map, List.getElem?_map, List.getElem?_map]
  by_cases hi : k = i
  · subst hi
    rw [if_pos rfl]
    simp [h]
  · rw [if_neg hi, List.getElem?_map]
    cases hr : (List.range n)[i]? with
    | none => rfl
    | some j =>
      have : j = i := by
        obtain ⟨h1, h2⟩ := List.getElem?_eq_some_iff.1 hr
        simp at h2; omega
      subst this
      show some ((kn1 e k j).map C.t) = some ((kn1 e (k + 1) j).map C.t)
      rw [kn1_same (fun h => hi h.symm)]
theorem kn1_none {e : Ev} {k : Nat} (h : ivAt e k = none) : kn1 e (k + 1) k = kn1 e k k := by
  unfold kn1
  simp only [if_pos (show k < k + 1 by omega), if_neg (show ¬ k < k by omega), h]
  simp [hiF]
theorem kn1_none_all {e : Ev} {k n : Nat} (h : ivAt e k = none) : (List.range n).map (kn1 e (k + 1)) = (List.range n).map (kn1 e k) := List.map_congr_left fun i _ => by
  by_cases hi : i = k
  · subst hi; exact kn1_none h
  · exact kn1_same hi
theorem kn1_zero {e : Ev} {n : Nat} {ρ : List (Option Nat)} {H : Hp} : EntR ρ H (List.replicate n [C.t (ti 0), C.t (.sl 0 .nil []), C.t (ti 0), C.t (.sl 0 .nil []), C.t (tb false), C.t (.sl 0 .nil []), C.t (ti 0)]) (toC ((List.range n).map (kn1 e 0))) := by
  refine entR_of (by simp [toC]) fun i x y hx hy => ?_
  have hi : i < n := by have := (List.getElem?_eq_some_iff.1 hx).1; simpa using this
  rw [List.getElem?_replicate, if_pos hi] at hx
  injection hx with hx
  subst hx
  unfold toC at hy
  rw [List.getElem?_map, List.getElem?_map, List.getElem?_range hi] at hy
  injection hy with hy
  subst hy
  show EntL _ _ _ ((kn1 e 0 i).map C.t)
  unfold kn1
  simp only [if_neg (show ¬ i < 0 by omega)]
  exact ⟨rfl, rfl, rfl, rfl, rfl, rfl, rfl, trivial⟩
/-- the part of a row before the finds -/
def knA (e : Ev) (i : Nat) : List T := [ti (hiF (ivAt e i)).p.sg, intsT (hiF (ivAt e i)).p.dl, ti (hiF (ivAt e i)).q.sg, intsT (hiF (ivAt e i)).q.dl, tb (ivAt e i).isSome]
def gramsTo (t : Trace) (kind : Int) (k i : Nat) : List Int := gramsOf (t.finds.take k) kind i
theorem gramsOf_snoc (l : List Find) (f : Find) (kind : Int) (i : Nat) : gramsOf (l ++ [f]) kind i = if f.kind = kind ∧ f.mv = (i : Int) then gramsOf l kind i ++ [f.grams] else gramsOf l kind i := by
  rw [gramsOf_more]; split <;> simp
theorem take_succ_get {α : Type} {l : List α} {k : Nat} {x : α} (h : l[k]? = some x) : l.take (k + 1) = l.take k ++ [x] := by rw [List.take_add_one, h]; rfl
/-- the rows while the cleans are counted -/
def kn3 (t : Trace) (kind : Int) (k i : Nat) : List T := knA t.ev i ++ intsT (gramsOf t.finds kind i) :: [ti (cleansOf (t.cleans.take k) kind i)]
theorem kn3_le (t : Trace) (kind : Int) (k i : Nat) : cleansOf (t.cleans.take k) kind i ≤ t.cleans.length := Nat.le_trans (List.length_filter_le _ _) (by simp; omega)
theorem kn3_all {t : Trace} {kind : Int} {n : Nat} : (List.range n).map (kn3 t kind t.cleans.length) = (List.range n).map (aboutAt t kind) := List.map_congr_left fun i _ => by
  unfold kn3; rw [List.take_of_length_le (Nat.le_refl _)]; rfl
theorem kn3_same {t : Trace} {kind : Int} {n k : Nat} {c : Clean} (h : t.cleans[k]? = some c) (hk : c.kind ≠ kind) : (List.range n).map (kn3 t kind (k + 1)) = (List.range n).map (kn3 t kind k) := List.map_congr_left fun i _ => by
  unfold kn3
  rw [take_succ_get h, cleansOf_more, if_neg (fun h => hk h.1)]; rfl
theorem kn3_set {t : Trace} {kind : Int} {n k m : Nat} {c : Clean} (hm : m < n) (h : t.cleans[k]? = some c) (hk : c.kind = kind) (hmv : c.mv = m) :
    (toC ((List.range n).map (kn3 t kind k))).set m ((knA t.ev m ++ intsT (gramsOf t.finds kind m) :: [ti ((cleansOf (t.cleans.take k) kind m : Int) + 1)]).map C.t) = toC ((List.range n).map (kn3 t kind (k + 1))) := by
  have key : ∀ i, i < n → i ≠ m → kn3 t kind (k + 1) i = kn3 t kind k i := fun i _ hi => by
    unfold kn3
    rw [take_succ_get h, cleansOf_more, if_neg (fun h => hi (by omega))]; rfl
  have own : kn3 t kind (k + 1) m = knA t.ev m ++ intsT (gramsOf t.finds kind m) :: [ti ((cleansOf (t.cleans.take k) kind m : Int) + 1)] := by
    unfold kn3
    rw [take_succ_get h, cleansOf_more, if_pos ⟨hk, hmv⟩]; rfl
  rw [← own]
  unfold toC
  rw [← List.map_set]
  congr 1
  apply List.ext_getElem?
  intro i
  simp only [List.getElem?_set, List.getElem?_map, List.length_map, List.length_range]
  by_cases hi : m = i
  · subst hi; simp [hm]
  · rw [if_neg hi]
    by_cases hin : i < n
    · rw [List.getElem?_range hin]
      show some _ = some _
      rw [key i hin (fun h => hi h.symm)]
    · rw [List.getElem?_eq_none (by simp; omega)]; rfl
theorem ext_ints {l : List Int} {x : Int} : List.take l.length (toC (l.map intRow)) ++ toC [[ti x]] = toC ((l ++ [x]).map intRow) := by
  rw [List.take_of_length_le (by simp [toC])]
  simp [toC, intRow]
set_option maxHeartbeats 4000000 in
theorem a_known (t : Trace) (kind : Int) (hs : t.Sized) (h0 : check t.ev = 0) (hf : ∀ f ∈ t.finds, 0 ≤ f.mv ∧ f.mv < t.ev.moves.length) (hc : ∀ c ∈ t.cleans, 0 ≤ c.mv ∧ c.mv < t.ev.moves.length) :
    ACall Tryz.prog 21 [trS t, intS .i64 kind] [] (.c (.t (knownT t kind))) [] := by
  obtain ⟨b1, b2, b3, b4⟩ := check_bounds h0
  have l1 := hs.f
  have l2 := hs.c
  have m0 : (t.ev.moves.map Move.row).length = t.ev.moves.length := by simp
  have m1 : (t.finds.map Find.row).length = t.finds.length := by simp
  have m2 : (t.cleans.map Clean.row).length = t.cleans.length := by simp
  have s3 := hs.ev.s3
  have s4 := hs.ev.s4
  (refine acall_of tab_ok Tryz.func21 rfl (by decide) ?_; (conv => whnf); repeat (first | (refine LitB.data ?_; conv => whnf) | (refine BoxB.data ?_; conv => whnf)))
  (repeat' (first | ((refine DecB.mk (fun h => ?_) (fun h => ?_)) <;> first | (exfalso; omega) | (conv => whnf)) | ((refine BoolB.mk (fun h => ?_) (fun h => ?_)) <;> first | (exact absurd h (by decide)) | (conv => whnf)) | ((first | refine ⟨_, wrap_ok (by omega) (by omega), ?_⟩ | refine and_idx (by omega) (by omega) ?_ | refine reg_ok (by decide +kernel) ?_ | refine bar_ok (by decide +kernel) (by decide +kernel) ?_ | refine late_ok rfl rfl ?_ | refine src_ok rfl ?_ | refine mk_ok (by omega) (by omega) (by omega) (by decide) ?_ | refine LitB.data ?_ | refine BoxB.own ?_); conv => whnf)))
  refine awp_for tab_ok (fun k => ([J, intS .i64 kind, S.c (C.t (T.ptr (trT t))), J, J, S.c (C.ptr 0 0 0), S.c (C.own 1 0 t.ev.moves.length true), J, J, J, J, J, J, J, J, J, J, J, J, J, S.c (C.t (movesT t.ev.moves)), intS .i64 t.ev.moves.length, intS .i64 k, J, J, J, J, J, J, J, J, J, J, J, J, J, J, J, J, J, J, J, J, J, J, J, J, J, J, J, J, J, J, J, J, J, J, J, J, J, J, J, J, J, J, J, J, J, J, J, J, J, J, J, J, J, J, J, J, J, J, J, J, J, J, J, J, J, J, J, J, J, J, J, J, J, J, J, J, J, J, J, J], [evB t.ev, knB ((List.range t.ev.moves.length).map (kn1 t.ev k))])) t.ev.moves.length (fun _ => True) [some 0, some 1] trivial ?_ ?_
  · refine ⟨rfl, rfl, ⟨⟨rfl, rfl, rfl, .inl ⟨rfl, rowsT_ev _⟩⟩, ⟨rfl, rfl, rfl, .inr ?_⟩, trivial⟩, ⟨rfl, rfl, ⟨rfl, rfl, rfl⟩, ⟨rfl, rfl, ?_, fun h => h⟩, rfl, ent_i (by simp), rfl, trivial⟩⟩
    · have e9 : ((((t.ev.moves.map Move.row).length : Nat) : Int)).toNat = t.ev.moves.length := by omega
      rw [← e9]
      exact kn1_zero
    · omega
  intro k hk _
  by_cases hlt : k < t.ev.moves.length
  · obtain ⟨x, hx⟩ : ∃ x, t.ev.moves[k]? = some x := ⟨_, List.getElem?_eq_getElem hlt⟩
    have iv := a_Interval t.ev.certs t.ev.recalls (by omega) (by omega) x.scale x.reading x.day
    have eK : 0 + (k : Int).toNat = k := by omega
    have hk0 : (List.range t.ev.moves.length)[0 + (k : Int).toNat]? = some k := by rw [eK, List.getElem?_range hlt]
    have gs : ∀ c, ((knB ((List.range t.ev.moves.length).map (kn1 t.ev k))).rows.set (0 + (k : Int).toNat) c)[0 + (k : Int).toNat]? = some c := fun c => by
      rw [List.getElem?_set_self]
      show _ < (toC _).length
      simp [toC]; omega
    by_cases hsc : x.scale = -1
    · have hn : ivAt t.ev k = none := by rw [ivAt_of hx]; unfold ivOf; rw [if_pos hsc]
      have e1 := kn1_none_all (n := t.ev.moves.length) hn
      conv => whnf
      (repeat' (first | ((refine DecB.mk (fun h => ?_) (fun h => ?_)) <;> first | (exfalso; omega) | (conv => whnf)) | ((refine BoolB.mk (fun h => ?_) (fun h => ?_)) <;> first | (exact absurd h (by decide)) | (conv => whnf)) | ((first | refine ⟨_, wrap_ok (by omega) (by omega), ?_⟩ | refine and_idx (by omega) (by omega) ?_ | refine reg_ok (by decide +kernel) ?_ | refine bar_ok (by decide +kernel) (by decide +kernel) ?_ | refine late_ok rfl rfl ?_ | refine src_ok rfl ?_ | refine ex_row hx ?_ | refine LitB.data ?_ | refine BoxB.own ?_); conv => whnf)))
      all_goals try (exfalso; omega)
      refine ⟨hlt, trivial, [some 0, some 1], rfl, rfl, ⟨⟨rfl, rfl, rfl, .inl ⟨rfl, rowsT_ev _⟩⟩, entB_rows rfl rfl rfl ?_ rfl, trivial⟩, ⟨rfl, rfl, ⟨rfl, rfl, rfl⟩, ⟨rfl, rfl, rfl, fun h => h⟩, rfl, rfl, rfl, trivial⟩⟩
      rw [e1]
    · have hiv : ivAt t.ev k = interval t.ev.certs t.ev.recalls x.scale x.reading x.day := by rw [ivAt_of hx]; unfold ivOf; rw [if_neg hsc]
      rw [← hiv] at iv
      cases hi : ivAt t.ev k with
      | none =>
        rw [hi] at iv
        have er : (kn1 t.ev (k + 1) k).map C.t = frC zeroF ++ [C.t (tb false), C.t (.sl 0 .nil []), C.t (ti 0)] := by rw [kn1_none hi]; simp [kn1]
        conv => whnf
        (repeat' (first | ((refine DecB.mk (fun h => ?_) (fun h => ?_)) <;> first | (exfalso; omega) | (conv => whnf)) | ((refine BoolB.mk (fun h => ?_) (fun h => ?_)) <;> first | (exact absurd h (by decide)) | (conv => whnf)) | ((first | refine ⟨_, wrap_ok (by omega) (by omega), ?_⟩ | refine and_idx (by omega) (by omega) ?_ | refine reg_ok (by decide +kernel) ?_ | refine bar_ok (by decide +kernel) (by decide +kernel) ?_ | refine late_ok rfl rfl ?_ | refine src_ok rfl ?_ | refine .inl ⟨_, _, qcall_pure (iv) rfl rfl, ?_⟩ | refine .inl ⟨_, _, qcall_pure (2, 3, 18) rfl rfl, ?_⟩ | refine ex_row hx ?_ | refine ex_own hk0 ?_ | refine ⟨_, gs _, ?_⟩ | refine bar_late [2, 3, 18] (by decide +kernel) (by decide +kernel) ?_ | refine LitB.data ?_ | refine BoxB.own ?_); conv => whnf)))
        all_goals try (exfalso; omega)
        refine ⟨hlt, trivial, [some 0, some 1], rfl, rfl, ⟨⟨rfl, rfl, rfl, .inl ⟨rfl, rowsT_ev _⟩⟩, entB_rows rfl rfl rfl ?_ rfl, trivial⟩, ⟨rfl, rfl, ⟨rfl, rfl, rfl⟩, ⟨rfl, rfl, rfl, fun h => h⟩, rfl, rfl, rfl, trivial⟩⟩
        have e2 := kn1_set (e := t.ev) hlt
        rw [er] at e2
        rw [← e2]
        show ((toC _).set (0 + (k : Int).toNat) _).set (0 + (k : Int).toNat) _ = _
        rw [List.set_set, eK]
        rfl
      | some p =>
        obtain ⟨lo, hi'⟩ := p
        rw [hi] at iv
        have er : (kn1 t.ev (k + 1) k).map C.t = frC (fz hi') ++ [C.t (tb true), C.t (.sl 0 .nil []), C.t (ti 0)] := by simp [kn1, hi, hiF]
        conv => whnf
        (repeat' (first | ((refine DecB.mk (fun h => ?_) (fun h => ?_)) <;> first | (exfalso; omega) | (conv => whnf)) | ((refine BoolB.mk (fun h => ?_) (fun h => ?_)) <;> first | (exact absurd h (by decide)) | (conv => whnf)) | ((first | refine ⟨_, wrap_ok (by omega) (by omega), ?_⟩ | refine and_idx (by omega) (by omega) ?_ | refine reg_ok (by decide +kernel) ?_ | refine bar_ok (by decide +kernel) (by decide +kernel) ?_ | refine late_ok rfl rfl ?_ | refine src_ok rfl ?_ | refine .inl ⟨_, _, qcall_pure (iv) rfl rfl, ?_⟩ | refine .inl ⟨_, _, qcall_pure (2, 3, 18) rfl rfl, ?_⟩ | refine ex_row hx ?_ | refine ex_own hk0 ?_ | refine ⟨_, gs _, ?_⟩ | refine bar_late [2, 3, 18] (by decide +kernel) (by decide +kernel) ?_ | refine LitB.data ?_ | refine BoxB.own ?_); conv => whnf)))
        all_goals try (exfalso; omega)
        refine ⟨hlt, trivial, [some 0, some 1], rfl, rfl, ⟨⟨rfl, rfl, rfl, .inl ⟨rfl, rowsT_ev _⟩⟩, entB_rows rfl rfl rfl ?_ rfl, trivial⟩, ⟨rfl, rfl, ⟨rfl, rfl, rfl⟩, ⟨rfl, rfl, rfl, fun h => h⟩, rfl, rfl, rfl, trivial⟩⟩
        have e2 := kn1_set (e := t.ev) hlt
        rw [er] at e2
        rw [← e2]
        show ((toC _).set (0 + (k : Int).toNat) _).set (0 + (k : Int).toNat) _ = _
        rw [List.set_set, eK]
        rfl
  · conv => whnf
    (repeat' (first | ((refine DecB.mk (fun h => ?_) (fun h => ?_)) <;> first | (exfalso; omega) | (conv => whnf)) | ((refine BoolB.mk (fun h => ?_) (fun h => ?_)) <;> first | (exact absurd h (by decide)) | (conv => whnf)) | ((first | refine ⟨_, wrap_ok (by omega) (by omega), ?_⟩ | refine and_idx (by omega) (by omega) ?_ | refine reg_ok (by decide +kernel) ?_ | refine bar_ok (by decide +kernel) (by decide +kernel) ?_ | refine late_ok rfl rfl ?_ | refine src_ok rfl ?_ | refine LitB.data ?_ | refine BoxB.own ?_); conv => whnf)))
    all_goals try (exfalso; omega)
    have e0 : gramsTo t kind 0 = fun _ => [] := by funext i; simp [gramsTo, gramsOf]
    refine awp_for tab_ok (fun k => ([J, intS .i64 kind, S.c (C.t (T.ptr (trT t))), J, J, J, S.c (C.own 0 0 t.ev.moves.length true), J, J, J, J, J, J, J, J, J, J, J, J, J, J, J, J, J, J, J, J, J, J, J, J, J, J, J, J, J, J, J, J, J, J, J, J, J, J, J, J, J, J, J, J, J, J, J, J, S.c (C.t (findsT t.finds)), intS .i64 t.finds.length, intS .i64 k, J, J, J, J, J, J, J, J, J, J, J, J, J, J, J, J, J, J, J, J, J, J, J, J, J, J, J, J, J, J, J, J, J, J, J, J, J, J, J, J, J, J, J, J, J], gHeap 66 7 t.ev.moves.length (knA t.ev) (gramsTo t kind k) (fun _ => [ti 0]))) t.finds.length (fun _ => True) (newR 1 t.ev.moves.length) trivial ?_ ?_
    · have hke : k = t.ev.moves.length := by omega
      subst hke
      refine (?_ : Ent 0 (newR 1 t.ev.moves.length) _ _ _ (gHeap 66 7 t.ev.moves.length (knA t.ev) (gramsTo t kind 0) (fun _ => [ti 0])))
      rw [e0]
      refine ent_new (k0 := knB ((List.range t.ev.moves.length).map (kn1 t.ev t.ev.moves.length))) (s := 0) rfl ⟨rfl, rfl, rfl, rfl⟩ ?_ ?_
      · show toC _ = _
        unfold toC
        rw [List.map_map]
        refine List.map_congr_left fun i hi => ?_
        have := List.mem_range.1 hi
        simp [kn1, knA, this]
      · exact ⟨rfl, rfl, ⟨rfl, rfl, rfl, fun h => h⟩, ent_t rfl, ent_i (by simp), rfl, trivial⟩
    intro j hj _
    by_cases hjt : j < t.finds.length
    · obtain ⟨f, hfj⟩ : ∃ f, t.finds[j]? = some f := ⟨_, List.getElem?_eq_getElem hjt⟩
      obtain ⟨f1, f2⟩ := hf f (List.mem_of_getElem? hfj)
      obtain ⟨m, hm⟩ : ∃ m : Nat, f.mv = m := ⟨f.mv.toNat, by omega⟩
      have hmn : m < t.ev.moves.length := by omega
      have eM : 0 + f.mv.toNat = m := by omega
      have rL : (List.range t.ev.moves.length).length = t.ev.moves.length := by simp
      have rG : (List.range t.ev.moves.length)[m]? = some m := List.getElem?_range hmn
      have gR : (gRows t.ev.moves.length (knA t.ev) (gramsTo t kind j) (fun _ => [ti 0]))[0 + f.mv.toNat]? = some (gRow (knA t.ev) (gramsTo t kind j) (fun _ => [ti 0]) (m + 1) m) := by rw [eM]; exact gRows_get hmn
      have gl : (gramsTo t kind j m).length ≤ t.finds.length := by
        unfold gramsTo gramsOf
        rw [List.length_map]
        exact Nat.le_trans (List.length_filter_le _ _) (by simp; omega)
      have hbox : ∀ (fB : Nat → Blk) (dead nb fb : Blk), (((((List.range t.ev.moves.length).map fB ++ [fb]).set m dead) ++ [nb])[t.ev.moves.length]?) = some fb := fun fB dead nb fb => by
        rw [List.getElem?_append_left (by simp), List.getElem?_set, if_neg (by omega), List.getElem?_append_right (by simp)]
        simp
      have hnew : ∀ (fB : Nat → Blk) (dead nb fb : Blk), (((((List.range t.ev.moves.length).map fB ++ [fb]).set m dead) ++ [nb])[t.ev.moves.length + 1]?) = some nb := fun fB dead nb fb => by
        rw [List.getElem?_append_right (by simp)]
        simp
      have hold : ∀ (fB : Nat → Blk) (dead nb fb : Blk) (p : Nat), p < t.ev.moves.length → p ≠ m → (((((List.range t.ev.moves.length).map fB ++ [fb]).set m dead) ++ [nb])[p]?) = some (fB p) := fun fB dead nb fb p hp hpm => by
        rw [List.getElem?_append_left (by simp; omega), List.getElem?_set, if_neg (by omega), List.getElem?_append_left (by simpa using hp), List.getElem?_map, List.getElem?_range hp]; rfl
      by_cases hkd : f.kind = kind
      · conv => whnf
        (repeat' (first | ((refine DecB.mk (fun h => ?_) (fun h => ?_)) <;> first | (exfalso; omega) | (conv => whnf)) | ((refine BoolB.mk (fun h => ?_) (fun h => ?_)) <;> first | (exact absurd h (by decide)) | (conv => whnf)) | ((first | refine ⟨_, wrap_ok (by omega) (by omega), ?_⟩ | refine and_idx (by omega) (by omega) ?_ | refine reg_ok (by decide +kernel) ?_ | refine bar_ok (by decide +kernel) (by decide +kernel) ?_ | refine late_ok rfl rfl ?_ | refine src_ok rfl ?_ | refine .inl ⟨_, _, qcall_pure (toC) rfl rfl, ?_⟩ | refine .inl ⟨_, _, qcall_pure (toC) rfl rfl, ?_⟩ | refine .inl ⟨_, _, qcall_pure (0, 1, 2) rfl rfl, ?_⟩ | refine ex_row hfj ?_ | refine lenK_mapA rL ?_ | refine lenK_map rL ?_ | refine appK_nil ?_ | refine appK_ok ?_ | refine ⟨_, gR, ?_⟩ | refine getK_ok (hbox _ _ _ _) ?_ | refine getK_mapA rG ?_ | refine getK_map rG ?_ | refine getK_map0 rL ?_ | refine getK_mapT rL ?_ | refine setK_map0 rL ?_ | refine setK_mapT rL ?_ | refine setK_ok ?_ | refine app_ok (by simp [toC]) (by simp [toC]; omega) ?_ | refine bar_late [0, 1, 2] (by decide +kernel) (by decide +kernel) ?_ | refine LitB.data ?_ | refine BoxB.own ?_); conv => whnf)))
        all_goals try (exfalso; omega)
        refine ⟨hjt, trivial, growR t.ev.moves.length m (t.ev.moves.length + 2), ?_⟩
        refine (?_ : Ent 0 (growR t.ev.moves.length m (t.ev.moves.length + 2)) _ _ _ (gHeap 66 7 t.ev.moves.length (knA t.ev) (gramsTo t kind (j + 1)) (fun _ => [ti 0])))
        have eg : gramsTo t kind (j + 1) = updG (gramsTo t kind j) m (gramsTo t kind j m ++ [f.grams]) := by
          funext i
          unfold gramsTo updG
          rw [take_succ_get hfj, gramsOf_snoc]
          by_cases hi : i = m
          · subst hi; rw [if_pos ⟨hkd, hm⟩, if_pos rfl]
          · rw [if_neg (fun h => hi (by omega)), if_neg hi]
        rw [eg]
        refine ent_grow hmn (by omega) rfl ⟨rfl, rfl, rfl, rfl⟩ ?_ ?_ ?_ ?_
        · show (gRows _ _ _ _).set (0 + f.mv.toNat) _ = _
          rw [eM, List.length_append]
          rfl
        · intro p hp hpm
          exact hold _ _ _ _ p hp hpm
        · refine (hnew _ _ _ _).trans ?_
          show some (Blk.mk .live _ 1 (List.take _ (toC ((gramsTo t kind j m).map intRow)) ++ toC [[ti f.grams]]) false false) = _
          rw [ext_ints]
        · exact ⟨rfl, rfl, ⟨by rw [growR_get (by omega)]; rfl, rfl, rfl, fun h => h⟩, rfl, rfl, rfl, trivial⟩
      · conv => whnf
        (repeat' (first | ((refine DecB.mk (fun h => ?_) (fun h => ?_)) <;> first | (exfalso; omega) | (conv => whnf)) | ((refine BoolB.mk (fun h => ?_) (fun h => ?_)) <;> first | (exact absurd h (by decide)) | (conv => whnf)) | ((first | refine ⟨_, wrap_ok (by omega) (by omega), ?_⟩ | refine and_idx (by omega) (by omega) ?_ | refine reg_ok (by decide +kernel) ?_ | refine bar_ok (by decide +kernel) (by decide +kernel) ?_ | refine late_ok rfl rfl ?_ | refine src_ok rfl ?_ | refine ex_row hfj ?_ | refine lenK_mapA rL ?_ | refine lenK_map rL ?_ | refine appK_nil ?_ | refine appK_ok ?_ | refine getK_map0 rL ?_ | refine getK_mapT rL ?_ | refine setK_map0 rL ?_ | refine setK_mapT rL ?_ | refine LitB.data ?_ | refine BoxB.own ?_); conv => whnf)))
        all_goals try (exfalso; omega)
        refine ⟨hjt, trivial, idR (t.ev.moves.length + 1), ?_⟩
        refine (?_ : Ent 0 (idR (t.ev.moves.length + 1)) _ (gHeap 66 7 t.ev.moves.length (knA t.ev) (gramsTo t kind j) (fun _ => [ti 0]) ++ _) _ (gHeap 66 7 t.ev.moves.length (knA t.ev) (gramsTo t kind (j + 1)) (fun _ => [ti 0])))
        have eg : gramsTo t kind (j + 1) = gramsTo t kind j := by
          funext i
          unfold gramsTo
          rw [take_succ_get hfj, gramsOf_snoc, if_neg (fun h => hkd h.1)]
        rw [eg]
        exact ent_gsame ⟨rfl, rfl, ⟨idR_get (by omega), rfl, rfl, fun h => h⟩, rfl, rfl, rfl, trivial⟩
    · have hje : j = t.finds.length := by omega
      subst hje
      have rL : (List.range t.ev.moves.length).length = t.ev.moves.length := by simp
      conv => whnf
      (repeat' (first | ((refine DecB.mk (fun h => ?_) (fun h => ?_)) <;> first | (exfalso; omega) | (conv => whnf)) | ((refine BoolB.mk (fun h => ?_) (fun h => ?_)) <;> first | (exact absurd h (by decide)) | (conv => whnf)) | ((first | refine ⟨_, wrap_ok (by omega) (by omega), ?_⟩ | refine and_idx (by omega) (by omega) ?_ | refine reg_ok (by decide +kernel) ?_ | refine bar_ok (by decide +kernel) (by decide +kernel) ?_ | refine late_ok rfl rfl ?_ | refine src_ok rfl ?_ | refine appK_nil ?_ | refine appK_ok ?_ | refine lenK_map rL ?_ | refine LitB.data ?_ | refine BoxB.own ?_); conv => whnf)))
      all_goals try (exfalso; omega)
      have eg : gramsTo t kind t.finds.length = gramsOf t.finds kind := by funext i; unfold gramsTo; rw [List.take_of_length_le (Nat.le_refl _)]
      rw [eg]
      refine awp_for tab_ok (fun k => ([J, intS .i64 kind, J, J, J, J, S.c (C.own 0 0 t.ev.moves.length true), J, J, J, J, J, J, J, J, J, J, J, J, J, J, J, J, J, J, J, J, J, J, J, J, J, J, J, J, J, J, J, J, J, J, J, J, J, J, J, J, J, J, J, J, J, J, J, J, J, J, J, J, J, J, J, J, J, J, J, J, J, J, J, J, J, J, J, J, J, J, J, J, J, J, J, S.c (C.t (cleansT t.cleans)), intS .i64 t.cleans.length, intS .i64 k, J, J, J, J, J, J, J, J, J, J, J, J, J, J, J, J, J, J], [knB ((List.range t.ev.moves.length).map (kn3 t kind k))])) t.cleans.length (fun _ => True) [some 0] trivial ?_ ?_
      · exact ent_ripe (g := gramsOf t.finds kind) ⟨rfl, ⟨rfl, rfl, rfl, fun h => h⟩, ent_t rfl, ent_i (by simp), rfl, trivial⟩
      intro q hq _
      by_cases hqt : q < t.cleans.length
      · obtain ⟨c, hcq⟩ : ∃ c, t.cleans[q]? = some c := ⟨_, List.getElem?_eq_getElem hqt⟩
        obtain ⟨g1, g2⟩ := hc c (List.mem_of_getElem? hcq)
        obtain ⟨m, hm⟩ : ∃ m : Nat, c.mv = m := ⟨c.mv.toNat, by omega⟩
        have hmn : m < t.ev.moves.length := by omega
        have eM : 0 + c.mv.toNat = m := by omega
        have hk0 : (List.range t.ev.moves.length)[0 + c.mv.toNat]? = some m := by rw [eM]; exact List.getElem?_range hmn
        have cb := kn3_le t kind q m
        by_cases hkd : c.kind = kind
        · conv => whnf
          (repeat' (first | ((refine DecB.mk (fun h => ?_) (fun h => ?_)) <;> first | (exfalso; omega) | (conv => whnf)) | ((refine BoolB.mk (fun h => ?_) (fun h => ?_)) <;> first | (exact absurd h (by decide)) | (conv => whnf)) | ((first | refine ⟨_, wrap_ok (by omega) (by omega), ?_⟩ | refine and_idx (by omega) (by omega) ?_ | refine reg_ok (by decide +kernel) ?_ | refine bar_ok (by decide +kernel) (by decide +kernel) ?_ | refine late_ok rfl rfl ?_ | refine src_ok rfl ?_ | refine ex_row hcq ?_ | refine ex_own hk0 ?_ | refine LitB.data ?_ | refine BoxB.own ?_); conv => whnf)))
          all_goals try (exfalso; omega)
          refine ⟨hqt, trivial, [some 0], rfl, rfl, ⟨entB_rows rfl rfl rfl ?_ rfl, trivial⟩, ⟨rfl, ⟨rfl, rfl, rfl, fun h => h⟩, rfl, rfl, rfl, trivial⟩⟩
          show (toC _).set (0 + c.mv.toNat) _ = _
          rw [eM, ← kn3_set hmn hcq hkd hm]
          rfl
        · have e3 := kn3_same (t := t) (kind := kind) (n := t.ev.moves.length) hcq hkd
          conv => whnf
          (repeat' (first | ((refine DecB.mk (fun h => ?_) (fun h => ?_)) <;> first | (exfalso; omega) | (conv => whnf)) | ((refine BoolB.mk (fun h => ?_) (fun h => ?_)) <;> first | (exact absurd h (by decide)) | (conv => whnf)) | ((first | refine ⟨_, wrap_ok (by omega) (by omega), ?_⟩ | refine and_idx (by omega) (by omega) ?_ | refine reg_ok (by decide +kernel) ?_ | refine bar_ok (by decide +kernel) (by decide +kernel) ?_ | refine late_ok rfl rfl ?_ | refine src_ok rfl ?_ | refine ex_row hcq ?_ | refine ex_own hk0 ?_ | refine LitB.data ?_ | refine BoxB.own ?_); conv => whnf)))
          all_goals try (exfalso; omega)
          refine ⟨hqt, trivial, [some 0], rfl, rfl, ⟨entB_rows rfl rfl rfl ?_ rfl, trivial⟩, ⟨rfl, ⟨rfl, rfl, rfl, fun h => h⟩, rfl, rfl, rfl, trivial⟩⟩
          rw [e3]
      · have hqe : q = t.cleans.length := by omega
        subst hqe
        conv => whnf
        (repeat' (first | ((refine DecB.mk (fun h => ?_) (fun h => ?_)) <;> first | (exfalso; omega) | (conv => whnf)) | ((refine BoolB.mk (fun h => ?_) (fun h => ?_)) <;> first | (exact absurd h (by decide)) | (conv => whnf)) | ((first | refine ⟨_, wrap_ok (by omega) (by omega), ?_⟩ | refine and_idx (by omega) (by omega) ?_ | refine reg_ok (by decide +kernel) ?_ | refine bar_ok (by decide +kernel) (by decide +kernel) ?_ | refine late_ok rfl rfl ?_ | refine src_ok rfl ?_ | refine LitB.data ?_ | refine BoxB.own ?_); conv => whnf)))
        all_goals try (exfalso; omega)
        rw [kn3_all]
        exact fin_own (k := knB ((List.range t.ev.moves.length).map (aboutAt t kind))) rfl (by intro h; cases h) rfl rfl (by simp)
end Go.Proofs.YtomfnfbijgjfeaaGreat
/- taint: stock, the closure of System, System. -/
namespace Go.Proofs.YtomfnfbijgjfeaaGreat
open Go.RowKit
set_option linter.unusedVariables false
set_option linter.unusedSimpArgs false
set_option maxRecDepth 100000

abbrev termsB (l : List (Int × Rat)) : Blk := { mode := .live, elem := 61, size := 5, rows := toC (l.map termRow), box := false }
abbrev rowsB (l : List RowP) : Blk := { mode := .live, elem := 54, size := 6, rows := toC (l.map rowRow), box := false }
abbrev sysB (n : Int) (id len : Nat) : Blk := { mode := .live, elem := 38, size := 2, rows := [[.t (ti n), .own id 0 len true]], box := true }
/-- a row whose terms grow yet -/
abbrev growB (id len : Nat) (kind : Int) : Blk := { mode := .live, elem := 54, size := 6, rows := [.own id 0 len true :: .t (ti kind) :: frC (fz zR)], box := true }
abbrev moveB24 (x : Move) : Blk := { mode := .live, elem := 73, size := 6, rows := [x.row.map .t], box := true }
theorem rowsT_mv24 (x : Move) : rowsT [x.row.map C.t] := by simp [rowsT, Move.row, C.isT]
abbrev rowZB : Blk := { mode := .live, elem := 54, size := 6, rows := [.t (termsT []) :: .t (ti 0) :: frC zeroF], box := true }
abbrev deadB (el : TypeId) (size : Nat) : Blk := ⟨.dead, el, size, [], false, false⟩
theorem ext_rowsN {l : List RowP} {w : RowP} {n : Nat} (h : n = l.length) : List.take n (toC (l.map rowRow)) ++ toC [rowRow w] = toC ((l ++ [w]).map rowRow) := by
  rw [List.take_of_length_le (by simp [toC, h])]
  simp [toC]
set_option maxHeartbeats 4000000 in
theorem a_row1 (n : Int) (rows : List RowP) (hr : rows.length ≤ 1000000) (mv : Nat) (kind : Int) (v : Rat) :
    ACall Tryz.prog 19 [intS .i64 mv, intS .i64 kind, frS (fz v), .c (.ptr 0 0 0)] [sysB n 1 rows.length, rowsB rows] (.tup []) [sysB n 2 (rows.length + 1), deadB 54 6, rowsB (rows ++ [oneRow mv kind v])] := by
  have i1 := z_fInt 1 (by decide) (by decide)
  (refine acall_of tab_ok Tryz.func19 rfl (by decide) ?_; (conv => whnf); repeat (first | (refine LitB.data ?_; conv => whnf) | (refine BoxB.data ?_; conv => whnf)))
  (repeat' (first | ((refine DecB.mk (fun h => ?_) (fun h => ?_)) <;> first | (exfalso; omega) | (conv => whnf)) | ((refine BoolB.mk (fun h => ?_) (fun h => ?_)) <;> first | (exact absurd h (by decide)) | (conv => whnf)) | ((first | refine ⟨_, wrap_ok (by omega) (by omega), ?_⟩ | refine and_idx (by omega) (by omega) ?_ | refine reg_ok (by decide +kernel) ?_ | refine bar_ok (by decide +kernel) (by decide +kernel) ?_ | refine late_ok rfl rfl ?_ | refine src_ok rfl ?_ | refine .inl ⟨_, _, qcall_pure (i1) rfl rfl, ?_⟩ | refine .inl ⟨_, _, qcall_pure (toC) rfl rfl, ?_⟩ | refine .inl ⟨_, _, qcall_pure (toC) rfl rfl, ?_⟩ | refine LitB.weak ?_ | refine app_ok (by simp [toC]) (by simp [toC]; omega) ?_ | refine LitB.data ?_ | refine BoxB.own ?_); conv => whnf)))
  refine ⟨⟨[some 0, some 1, some 2], rfl, rfl, ⟨⟨rfl, rfl, rfl, .inr ⟨⟨rfl, ⟨rfl, rfl, rfl, fun h => h⟩, trivial⟩, trivial⟩⟩, ⟨rfl, rfl, rfl, .inl ⟨rfl, by simp [rowsT]⟩⟩, entB_rows rfl rfl rfl ?_ rfl, trivial⟩, trivial⟩⟩
  show List.take rows.length (toC (rows.map rowRow)) ++ toC [rowRow (oneRow mv kind v)] = _
  exact ext_rowsN rfl
/-- the closure called in a greater heap: s is the block 2, its rows the block id -/
theorem a_push {H : Hp} {id : Nat} {n : Int} {rows : List RowP} (hs : H[2]? = some (sysB n id rows.length)) (hid : H[id]? = some (rowsB rows)) (hne : id ≠ 2) (hr : rows.length ≤ 1000000) (mv : Nat) (kind : Int) (v : Rat) :
    ACall Tryz.prog 19 [intS .i64 mv, intS .i64 kind, frS (fz v), .c (.ptr 2 0 0)] H (.tup []) (((H.set 2 (sysB n H.length (rows.length + 1))).set id (deadB 54 6)) ++ [rowsB (rows ++ [oneRow mv kind v])]) := by
  have h2 : 2 < H.length := (List.getElem?_eq_some_iff.1 hs).1
  have hi : id < H.length := (List.getElem?_eq_some_iff.1 hid).1
  have ex : extR [2, id] H.length 1 = [2, id, H.length] := by simp [extR]
  refine acall_frame [2, id] (a_row1 n rows hr mv kind v) rfl rfl rfl (by simp; omega) ?_ ?_ (by simp) rfl rfl (by simp) ?_ ?_
  · intro i k hk
    match i, hk with
    | 0, hk =>
      injection hk with hk
      subst hk
      exact ⟨rfl, rfl, by simp [okL, okC], _, hs, ⟨rfl, rfl, rfl, rfl, by simp [renR, renL, renC]⟩⟩
    | 1, hk =>
      injection hk with hk
      subst hk
      exact ⟨rfl, rfl, okRows_toC _, _, hid, renB_data rfl⟩
  · intro k hk
    simp at hk
    rcases hk with rfl | rfl | rfl <;> (intro h; cases h)
  · intro i k hk
    show ∃ k', _[(extR [2, id] H.length 1).getD i 0]? = some k' ∧ RenB (extR [2, id] H.length 1) k k'
    rw [ex]
    match i, hk with
    | 0, hk =>
      injection hk with hk
      subst hk
      refine ⟨sysB n H.length (rows.length + 1), ?_, ⟨rfl, rfl, rfl, rfl, by simp [renR, renL, renC]⟩⟩
      show (_ ++ _)[2]? = _
      rw [List.getElem?_append_left (by simp; omega), List.getElem?_set, if_neg (by omega), List.getElem?_set, if_pos rfl, if_pos h2]
    | 1, hk =>
      injection hk with hk
      subst hk
      refine ⟨deadB 54 6, ?_, ⟨rfl, rfl, rfl, rfl, rfl⟩⟩
      show (_ ++ _)[id]? = _
      rw [List.getElem?_append_left (by simp; omega), List.getElem?_set, if_pos rfl, if_pos (by simp; omega)]
    | 2, hk =>
      injection hk with hk
      subst hk
      refine ⟨rowsB (rows ++ [oneRow mv kind v]), ?_, renB_data rfl⟩
      show (_ ++ _)[H.length]? = _
      rw [List.getElem?_append_right (by simp)]
      simp
  · intro j hj hjn
    simp at hjn
    rw [List.getElem?_append_left (by simp; omega), List.getElem?_set, if_neg (by omega), List.getElem?_set, if_neg (by omega)]
theorem ext_terms {l : List (Int × Rat)} {w : Int × Rat} {n : Nat} (h : n = l.length) : List.take n (toC (l.map termRow)) ++ toC [termRow w] = toC ((l ++ [w]).map termRow) := by
  rw [List.take_of_length_le (by simp [toC, h])]
  simp [toC]
theorem termsTo_succ {e : Ev} {p : Int} {k : Nat} {y : Move} (h : e.moves[k]? = some y) : termsTo e p (k + 1) = if y.dst = p then termsTo e p k ++ [((k : Int), ((1 : Int) : Rat))] else if y.src = p then termsTo e p k ++ [((k : Int), ((-1 : Int) : Rat))] else termsTo e p k := by rw [termsTo, h]
theorem termsTo_len {e : Ev} {p : Int} : ∀ k, (termsTo e p k).length ≤ k
  | 0 => by simp [termsTo]
  | k + 1 => by
    have ih := termsTo_len (e := e) (p := p) k
    unfold termsTo
    cases e.moves[k]? with
    | none => simp only; omega
    | some y =>
      simp only
      split
      · simp; omega
      · split
        · simp; omega
        · omega
set_option maxHeartbeats 4000000 in
theorem a_stock (e : Ev) (h0 : check e = 0) {i : Nat} {x : Move} (hx : e.moves[i]? = some x) : ACall Tryz.prog 23 [evS e, intS .i64 i] [] (rowS (stockRow e i x)) [] := by
  obtain ⟨b1, b2, b3, b4⟩ := check_bounds h0
  have hi : i < e.moves.length := (List.getElem?_eq_some_iff.1 hx).1
  have m0 : (e.moves.map Move.row).length = e.moves.length := by simp
  have i0 := z_fInt 0 (by decide) (by decide)
  have i1 := z_fInt 1 (by decide) (by decide)
  have im := z_fInt (-1) (by decide) (by decide)
  have tk : (e.moves.map Move.row).take i = (e.moves.take i).map Move.row := (List.map_take ..).symm
  have tl : (e.moves.take i).length = i := by simp; omega
  have mt : ((e.moves.take i).map Move.row).length = i := by simp; omega
  cases hal : x.all
  case' false => have hK : (stockRow e i x).kind = 0 := by unfold stockRow; rw [hal]; rfl
  case' true => have hK : (stockRow e i x).kind = 2 := by unfold stockRow; rw [hal]; rfl
  all_goals
    (refine acall_of tab_ok Tryz.func23 rfl (by decide) ?_; (conv => whnf); repeat (first | (refine LitB.data ?_; conv => whnf) | (refine BoxB.data ?_; conv => whnf)))
    (repeat' (first | ((refine DecB.mk (fun h => ?_) (fun h => ?_)) <;> first | (exfalso; omega) | (conv => whnf)) | ((refine BoolB.mk (fun h => ?_) (fun h => ?_)) <;> first | (exact absurd h (by decide)) | (conv => whnf)) | ((first | refine ⟨_, wrap_ok (by omega) (by omega), ?_⟩ | refine and_idx (by omega) (by omega) ?_ | refine reg_ok (by decide +kernel) ?_ | refine bar_ok (by decide +kernel) (by decide +kernel) ?_ | refine late_ok rfl rfl ?_ | refine src_ok rfl ?_ | refine .inl ⟨_, _, qcall_pure (i0) rfl rfl, ?_⟩ | refine ex_row hx ?_ | refine sl_ok (by omega) (by omega) (by omega) ?_ | refine LitB.data ?_ | refine BoxB.own ?_); conv => whnf)))
    all_goals first
      | (exfalso; omega)
      | (exfalso; simp_all; done)
      | skip
    refine awp_for tab_ok (fun k => ([J, intS .i64 i, J, J, S.c (C.ptr 0 0 0), S.c (C.ptr 1 0 0), S.c (C.ptr 2 0 0), J, J, J, J, J, J, J, J, J, J, J, J, J, J, J, S.c (C.t (movesT (e.moves.take i))), intS .i64 i, intS .i64 k, J, J, J, J, J, J, J, J, J, J, J, J, J, J, J, J, J, J, J, J, J, J, J, J, J, J, J, J, J, J, J, J, J, J, J, J, J, J, J, J], [rowZB, moveB24 x, growB 3 (termsTo e x.src k).length (stockRow e i x).kind, termsB (termsTo e x.src k)])) i (fun _ => True) [some 0, some 1, some 2, none] trivial ?_ ?_
    · rw [hK]
      refine ⟨rfl, rfl, ⟨⟨rfl, rfl, rfl, .inr ⟨⟨rfl, rfl, rfl, rfl, rfl, rfl, trivial⟩, trivial⟩⟩, ⟨rfl, rfl, rfl, .inl ⟨rfl, rowsT_mv24 x⟩⟩, ⟨rfl, rfl, rfl, .inr ⟨⟨⟨rfl, rfl, rfl⟩, rfl, rfl, rfl, rfl, rfl, trivial⟩, trivial⟩⟩, ⟨rfl, rfl⟩, trivial⟩, ⟨rfl, ⟨rfl, rfl, rfl⟩, ⟨rfl, rfl, rfl⟩, ⟨rfl, rfl, rfl⟩, ent_t ?_, ent_i ?_, rfl, trivial⟩⟩
      · show T.sl 6 _ (((e.moves.map Move.row).take ((i : Int)).toNat).drop 0) = _
        rw [Int.toNat_natCast, tk]; rfl
      · show ((((e.moves.map Move.row).take ((i : Int)).toNat).drop 0).length : Int) = i
        rw [Int.toNat_natCast, tk, List.drop_zero, mt]
    intro k hk _
    have kl := termsTo_len (e := e) (p := x.src) k
    by_cases hlt : k < i
    · obtain ⟨y, hy⟩ : ∃ y, e.moves[k]? = some y := ⟨_, List.getElem?_eq_getElem (by omega)⟩
      have hyt : (e.moves.take i)[k]? = some y := by rw [List.getElem?_take, if_pos hlt]; exact hy
      by_cases c1 : y.dst = x.src
      · have et : termsTo e x.src (k + 1) = termsTo e x.src k ++ [((k : Int), ((1 : Int) : Rat))] := by rw [termsTo_succ hy, if_pos c1]
        conv => whnf
        (repeat' (first | ((refine DecB.mk (fun h => ?_) (fun h => ?_)) <;> first | (exfalso; omega) | (conv => whnf)) | ((refine BoolB.mk (fun h => ?_) (fun h => ?_)) <;> first | (exact absurd h (by decide)) | (conv => whnf)) | ((first | refine ⟨_, wrap_ok (by omega) (by omega), ?_⟩ | refine and_idx (by omega) (by omega) ?_ | refine reg_ok (by decide +kernel) ?_ | refine bar_ok (by decide +kernel) (by decide +kernel) ?_ | refine late_ok rfl rfl ?_ | refine src_ok rfl ?_ | refine .inl ⟨_, _, qcall_pure (i1) rfl rfl, ?_⟩ | refine .inl ⟨_, _, qcall_pure (toC) rfl rfl, ?_⟩ | refine .inl ⟨_, _, qcall_pure (toC) rfl rfl, ?_⟩ | refine ex_row hyt ?_ | refine app_ok (by simp [toC]) (by simp [toC]; omega) ?_ | refine LitB.data ?_ | refine BoxB.own ?_); conv => whnf)))
        all_goals try (exfalso; omega)
        refine ⟨hlt, trivial, [some 0, some 1, some 2, some 5], rfl, rfl, ⟨⟨rfl, rfl, rfl, .inr ⟨⟨rfl, rfl, rfl, rfl, rfl, rfl, trivial⟩, trivial⟩⟩, ⟨rfl, rfl, rfl, .inl ⟨rfl, rowsT_mv24 x⟩⟩, ⟨rfl, rfl, rfl, .inr ⟨⟨⟨rfl, rfl, ?_, fun h => h⟩, rfl, rfl, rfl, rfl, rfl, trivial⟩, trivial⟩⟩, entB_rows rfl rfl rfl ?_ rfl, trivial⟩, ⟨rfl, ⟨rfl, rfl, rfl⟩, ⟨rfl, rfl, rfl⟩, ⟨rfl, rfl, rfl⟩, rfl, rfl, rfl, trivial⟩⟩
        · rw [et, List.length_append]; rfl
        · rw [et]
          show List.take (termsTo e x.src k).length (toC ((termsTo e x.src k).map termRow)) ++ toC [termRow ((k : Int), ((1 : Int) : Rat))] = _
          exact ext_terms rfl
      · by_cases c2 : y.src = x.src
        · have et : termsTo e x.src (k + 1) = termsTo e x.src k ++ [((k : Int), ((-1 : Int) : Rat))] := by rw [termsTo_succ hy, if_neg c1, if_pos c2]
          conv => whnf
          (repeat' (first | ((refine DecB.mk (fun h => ?_) (fun h => ?_)) <;> first | (exfalso; omega) | (conv => whnf)) | ((refine BoolB.mk (fun h => ?_) (fun h => ?_)) <;> first | (exact absurd h (by decide)) | (conv => whnf)) | ((first | refine ⟨_, wrap_ok (by omega) (by omega), ?_⟩ | refine and_idx (by omega) (by omega) ?_ | refine reg_ok (by decide +kernel) ?_ | refine bar_ok (by decide +kernel) (by decide +kernel) ?_ | refine late_ok rfl rfl ?_ | refine src_ok rfl ?_ | refine .inl ⟨_, _, qcall_pure (im) rfl rfl, ?_⟩ | refine .inl ⟨_, _, qcall_pure (toC) rfl rfl, ?_⟩ | refine .inl ⟨_, _, qcall_pure (toC) rfl rfl, ?_⟩ | refine ex_row hyt ?_ | refine app_ok (by simp [toC]) (by simp [toC]; omega) ?_ | refine LitB.data ?_ | refine BoxB.own ?_); conv => whnf)))
          all_goals try (exfalso; omega)
          refine ⟨hlt, trivial, [some 0, some 1, some 2, some 5], rfl, rfl, ⟨⟨rfl, rfl, rfl, .inr ⟨⟨rfl, rfl, rfl, rfl, rfl, rfl, trivial⟩, trivial⟩⟩, ⟨rfl, rfl, rfl, .inl ⟨rfl, rowsT_mv24 x⟩⟩, ⟨rfl, rfl, rfl, .inr ⟨⟨⟨rfl, rfl, ?_, fun h => h⟩, rfl, rfl, rfl, rfl, rfl, trivial⟩, trivial⟩⟩, entB_rows rfl rfl rfl ?_ rfl, trivial⟩, ⟨rfl, ⟨rfl, rfl, rfl⟩, ⟨rfl, rfl, rfl⟩, ⟨rfl, rfl, rfl⟩, rfl, rfl, rfl, trivial⟩⟩
          · rw [et, List.length_append]; rfl
          · rw [et]
            show List.take (termsTo e x.src k).length (toC ((termsTo e x.src k).map termRow)) ++ toC [termRow ((k : Int), ((-1 : Int) : Rat))] = _
            exact ext_terms rfl
        · have et : termsTo e x.src (k + 1) = termsTo e x.src k := by rw [termsTo_succ hy, if_neg c1, if_neg c2]
          conv => whnf
          (repeat' (first | ((refine DecB.mk (fun h => ?_) (fun h => ?_)) <;> first | (exfalso; omega) | (conv => whnf)) | ((refine BoolB.mk (fun h => ?_) (fun h => ?_)) <;> first | (exact absurd h (by decide)) | (conv => whnf)) | ((first | refine ⟨_, wrap_ok (by omega) (by omega), ?_⟩ | refine and_idx (by omega) (by omega) ?_ | refine reg_ok (by decide +kernel) ?_ | refine bar_ok (by decide +kernel) (by decide +kernel) ?_ | refine late_ok rfl rfl ?_ | refine src_ok rfl ?_ | refine ex_row hyt ?_ | refine LitB.data ?_ | refine BoxB.own ?_); conv => whnf)))
          all_goals try (exfalso; omega)
          refine ⟨hlt, trivial, [some 0, some 1, some 2, some 3], rfl, rfl, ⟨⟨rfl, rfl, rfl, .inr ⟨⟨rfl, rfl, rfl, rfl, rfl, rfl, trivial⟩, trivial⟩⟩, ⟨rfl, rfl, rfl, .inl ⟨rfl, rowsT_mv24 x⟩⟩, ⟨rfl, rfl, rfl, .inr ⟨⟨⟨rfl, rfl, ?_, fun h => h⟩, rfl, rfl, rfl, rfl, rfl, trivial⟩, trivial⟩⟩, entB_rows rfl rfl rfl ?_ rfl, trivial⟩, ⟨rfl, ⟨rfl, rfl, rfl⟩, ⟨rfl, rfl, rfl⟩, ⟨rfl, rfl, rfl⟩, rfl, rfl, rfl, trivial⟩⟩
          · rw [et]
          · rw [et]
    · have hke : k = i := by omega
      subst hke
      conv => whnf
      (repeat' (first | ((refine DecB.mk (fun h => ?_) (fun h => ?_)) <;> first | (exfalso; omega) | (conv => whnf)) | ((refine BoolB.mk (fun h => ?_) (fun h => ?_)) <;> first | (exact absurd h (by decide)) | (conv => whnf)) | ((first | refine ⟨_, wrap_ok (by omega) (by omega), ?_⟩ | refine and_idx (by omega) (by omega) ?_ | refine reg_ok (by decide +kernel) ?_ | refine bar_ok (by decide +kernel) (by decide +kernel) ?_ | refine late_ok rfl rfl ?_ | refine src_ok rfl ?_ | refine .inl ⟨_, _, qcall_pure (im) rfl rfl, ?_⟩ | refine .inl ⟨_, _, qcall_pure (toC) rfl rfl, ?_⟩ | refine .inl ⟨_, _, qcall_pure (toC) rfl rfl, ?_⟩ | refine app_ok (by simp [toC]) (by simp [toC]; omega) ?_ | refine LitB.data ?_ | refine BoxB.own ?_); conv => whnf)))
      all_goals try (exfalso; omega)
      refine fin_t ⟨show VC _ (fun id => notIn [] id = true) _ _ from vc_all rfl rfl (by intro h; cases h) rfl (rows := (termsTo e x.src k ++ [((k : Int), ((-1 : Int) : Rat))]).map termRow) ?_ ?_, rfl, rfl, rfl, rfl, rfl, trivial⟩
      · show List.take (termsTo e x.src k).length (toC ((termsTo e x.src k).map termRow)) ++ toC [termRow ((k : Int), ((-1 : Int) : Rat))] = _
        exact ext_terms rfl
      · rw [List.length_map, List.length_append]; rfl
end Go.Proofs.YtomfnfbijgjfeaaGreat
/- linear: RightTerms, Right, point, value, Holds; what is equal, what is short. -/
namespace Go.Proofs.YtomfnfbijgjfeaaGreat
open Go.RowKit
set_option linter.unusedVariables false
set_option linter.unusedSimpArgs false
set_option maxRecDepth 100000

structure SysB (s : SysP) : Prop where
  n0 : s.rows.length ≤ 1000000
  t : ∀ w ∈ s.rows, w.terms.length ≤ 100 ∧ (∀ t ∈ w.terms, rl t.2 ≤ 200) ∧ rl w.value ≤ 200
end Go.Proofs.YtomfnfbijgjfeaaGreat
/- taint: Matter. -/
namespace Go.Proofs.YtomfnfbijgjfeaaGreat
open Go.RowKit
set_option linter.unusedVariables false
set_option linter.unusedSimpArgs false
set_option maxRecDepth 100000

theorem cleansE_get {e : Ev} : ∀ {l : List Clean}, cleansE e l = 0 → ∀ c ∈ l, 0 ≤ c.mv ∧ c.mv < e.moves.length
  | [], _, c, hc => by cases hc
  | g :: r, h, c, hc => by
    unfold cleansE at h
    by_cases h1 : markE e g.mv g.kind ≠ 0
    · rw [if_pos h1] at h; exact absurd h h1
    rw [if_neg h1] at h
    rcases List.mem_cons.1 hc with rfl | hc
    · unfold markE at h1
      by_cases h3 : c.mv < 0 ∨ (e.moves.length : Int) ≤ c.mv
      · rw [if_pos h3] at h1; exact absurd (by decide) h1
      omega
    · exact cleansE_get h c hc
theorem rl_tstk {e : Ev} {Z : List Rat} (hZ : ∀ v ∈ Z, rl v ≤ 200) (hm : e.moves.length ≤ 200) {k : Nat} (hk : k ≤ 200) (p : Nat) : rl (tstk e Z k p) ≤ 50000 := by
  have hB : ∀ l ∈ col Z, ∀ x ∈ l, rl x ≤ 200 := fun l hl x hx => by
    obtain ⟨v, hv, rfl⟩ := List.mem_map.1 hl
    simp at hx
    subst hx
    exact hZ x hv
  have := rl_stk (e := e) hB (by decide) k p 0
  have h2 := Nat.mul_le_mul_right (200 + 1) hk
  unfold tstk
  omega
def hiR (o : Option (Rat × Rat)) : Rat := match o with
  | some (_, hi) => hi
  | none => 0
theorem hiR_some {o : Option (Rat × Rat)} {lo hi : Rat} (h : o = some (lo, hi)) : hi = hiR o := by rw [h]; rfl
theorem hiF_some {e : Ev} {x : Move} (h : (ivOf e x).isSome = true) : hiF (ivOf e x) = fz (hiR (ivOf e x)) ∧ rl (hiR (ivOf e x)) ≤ 200 := by
  cases hiv : ivOf e x with
  | none => rw [hiv] at h; cases h
  | some p =>
    obtain ⟨lo, hi⟩ := p
    refine ⟨rfl, ?_⟩
    show rl hi ≤ 200
    unfold ivOf at hiv
    by_cases hs : x.scale = -1
    · rw [if_pos hs] at hiv; cases hiv
    · rw [if_neg hs] at hiv
      have := (rl_interval hiv).2
      omega
theorem a_allows {t : Trace} {kind : Int} {i : Nat} {x : Move} (hx : t.ev.moves[i]? = some x) (ht : findsE t.ev t.finds = 0) (hl : t.finds.length ≤ 1000000) (z : Rat) (hz : rl z ≤ 200) :
    ACall Tryz.prog 36 [.agg ((aboutAt t kind i).map .t), frS (fz z)] [] (intS .i64 (allowsE t kind i x z)) [] := by
  have h := a_allows0 (hiF (ivAt t.ev i)) (ivAt t.ev i).isSome (hiR (ivAt t.ev i)) (gramsOf t.finds kind i) (cleansOf t.cleans kind i) z
    (by rw [ivAt_of hx]; exact hiF_some) hz (fun g hg => by
      unfold gramsOf at hg
      obtain ⟨f, hf, rfl⟩ := List.mem_map.1 hg
      have := findsE_get ht f (List.mem_filter.1 hf).1
      omega) (by unfold gramsOf; rw [List.length_map]; exact Nat.le_trans (List.length_filter_le _ _) hl)
  rw [allow_eq hx (fun lo hi' h => (hiR_some h))] at h
  exact h
theorem toC_fset {l : List Fr} {i : Nat} {y : Fr} : (toC (l.map frRow)).set i (frC y) = toC ((l.set i y).map frRow) := by simp [toC, List.map_set, frRow]
theorem zero_fracs {n : Nat} {ρ : List (Option Nat)} {H : Hp} : EntR ρ H (List.replicate n [C.t (ti 0), C.t (.sl 0 .nil []), C.t (ti 0), C.t (.sl 0 .nil [])]) (toC ((partF 0 n).map frRow)) := by
  rw [partF_zero]
  refine entR_of (by simp [toC]) fun i x y hx hy => ?_
  have hi : i < n := by have := (List.getElem?_eq_some_iff.1 hx).1; simpa using this
  rw [List.getElem?_replicate, if_pos hi] at hx
  injection hx with hx
  subst hx
  unfold toC at hy
  rw [List.getElem?_map, List.getElem?_map, List.getElem?_replicate, if_pos hi] at hy
  injection hy with hy
  subst hy
  exact ⟨rfl, rfl, rfl, rfl, trivial⟩
theorem tstk_rows {e : Ev} {Z : List Rat} {j k s d : Nat} {x : Move} {v : Rat} (hx : e.moves[j]? = some x) (hv : Z.getD j 0 = v) (hs : x.src = s) (hd : x.dst = d) (hsk : s < k) (hdk : d < k) (hsd : s ≠ d) :
    ((rowF k (tstk e Z j)).set s (fz (tstk e Z j s - v))).set d (fz (tstk e Z j d + v)) = rowF k (tstk e Z (j + 1)) := by
  rw [rowF_set hsk, rowF_set hdk]
  congr 1
  funext p
  rw [tstk_succ hx, hv]
  have c1 : (x.src = (p : Int)) ↔ p = s := by omega
  have c2 : (x.dst = (p : Int)) ↔ p = d := by omega
  simp only [c1, c2]
  by_cases h1 : p = d
  · subst h1
    rw [if_pos rfl, if_neg (fun h => hsd h.symm), if_pos rfl]
  · rw [if_neg h1]
    by_cases h2 : p = s
    · subst h2; rw [if_pos rfl, if_pos rfl]
    · rw [if_neg h2, if_neg h2, if_neg h1]
theorem cmpR_zero {x y : Rat} : cmpR x y = 0 ↔ x = y := by
  have h1 := cmpR_le (x := x) (y := y)
  have h2 := cmpR_lt (x := x) (y := y)
  constructor
  · intro h
    have q1 : x ≤ y := h1.1 (by omega)
    have q2 : ¬ x < y := fun h' => by have := h2.2 h'; omega
    grind
  · intro h
    have q1 : cmpR x y ≤ 0 := h1.2 (by grind)
    have q2 : ¬ cmpR x y < 0 := fun h' => by have := h2.1 h'; grind
    omega
set_option maxHeartbeats 4000000 in
theorem a_Matter (t : Trace) (kind : Int) (z : List Fr) (hs : t.Sized) (hl : z.length ≤ 1000000) (hd : ∀ f ∈ z, f.p.dl.length ≤ 200 ∧ f.q.dl.length ≤ 200) :
    ACall Tryz.prog 11 [trS t, intS .i64 kind, fracsS z] [] (intS .i64 (matterE t kind z)) [] := by
  have ck := a_TCheck t hs
  have m1 : (z.map frRow).length = z.length := by simp
  have m2 : (t.ev.moves.map Move.row).length = t.ev.moves.length := by simp
  have m3 : (t.ev.places.map Place.row).length = t.ev.places.length := by simp
  by_cases h1 : traceE t ≠ 0 ∨ kind < 0 ∨ 8 ≤ kind
  · have e1 : matterE t kind z = 1 := by unfold matterE; rw [if_pos h1]
    rw [e1]
    (refine acall_of tab_ok Tryz.func11 rfl (by decide) ?_; (conv => whnf); repeat (first | (refine LitB.data ?_; conv => whnf) | (refine BoxB.data ?_; conv => whnf)))
    (repeat' (first | ((refine DecB.mk (fun h => ?_) (fun h => ?_)) <;> first | (exfalso; omega) | (conv => whnf)) | ((refine BoolB.mk (fun h => ?_) (fun h => ?_)) <;> first | (exact absurd h (by decide)) | (conv => whnf)) | ((first | refine ⟨_, wrap_ok (by omega) (by omega), ?_⟩ | refine and_idx (by omega) (by omega) ?_ | refine reg_ok (by decide +kernel) ?_ | refine bar_ok (by decide +kernel) (by decide +kernel) ?_ | refine late_ok rfl rfl ?_ | refine src_ok rfl ?_ | refine .inl ⟨_, _, qcall_pure (ck) rfl rfl, ?_⟩ | refine LitB.data ?_ | refine BoxB.own ?_); conv => whnf)))
    all_goals first
      | (exfalso; omega)
      | exact fin_int rfl
  obtain ⟨k1, k2, k3⟩ : traceE t = 0 ∧ 0 ≤ kind ∧ kind < 8 := by omega
  rw [k1] at ck
  by_cases h2 : z.length ≠ t.ev.moves.length
  · have e1 : matterE t kind z = 2 := by unfold matterE; rw [if_neg h1, if_pos h2]
    rw [e1]
    (refine acall_of tab_ok Tryz.func11 rfl (by decide) ?_; (conv => whnf); repeat (first | (refine LitB.data ?_; conv => whnf) | (refine BoxB.data ?_; conv => whnf)))
    (repeat' (first | ((refine DecB.mk (fun h => ?_) (fun h => ?_)) <;> first | (exfalso; omega) | (conv => whnf)) | ((refine BoolB.mk (fun h => ?_) (fun h => ?_)) <;> first | (exact absurd h (by decide)) | (conv => whnf)) | ((first | refine ⟨_, wrap_ok (by omega) (by omega), ?_⟩ | refine and_idx (by omega) (by omega) ?_ | refine reg_ok (by decide +kernel) ?_ | refine bar_ok (by decide +kernel) (by decide +kernel) ?_ | refine late_ok rfl rfl ?_ | refine src_ok rfl ?_ | refine .inl ⟨_, _, qcall_pure (ck) rfl rfl, ?_⟩ | refine LitB.data ?_ | refine BoxB.own ?_); conv => whnf)))
    all_goals first
      | (exfalso; omega)
      | exact fin_int rfl
  have h2 : z.length = t.ev.moves.length := by omega
  have e1 : matterE t kind z = if z.all rightF then tmovesE t kind (z.map fv) 0 t.ev.moves else 2 := by unfold matterE; rw [if_neg h1, if_neg (by omega)]
  rw [e1]
  clear e1 h1
  obtain ⟨q1, q2, q3, q4, q5⟩ := traceE_zero k1
  obtain ⟨b1, b2, b3, b4⟩ := check_bounds q1
  have kn := a_known t kind hs q1 (fun f hf => by have := findsE_get q4 f hf; omega) (fun c hc => cleansE_get q5 c hc)
  have i0 := z_fInt 0 (by decide) (by decide)
  (refine acall_of tab_ok Tryz.func11 rfl (by decide) ?_; (conv => whnf); repeat (first | (refine LitB.data ?_; conv => whnf) | (refine BoxB.data ?_; conv => whnf)))
  (repeat' (first | ((refine DecB.mk (fun h => ?_) (fun h => ?_)) <;> first | (exfalso; omega) | (conv => whnf)) | ((refine BoolB.mk (fun h => ?_) (fun h => ?_)) <;> first | (exact absurd h (by decide)) | (conv => whnf)) | ((first | refine ⟨_, wrap_ok (by omega) (by omega), ?_⟩ | refine and_idx (by omega) (by omega) ?_ | refine reg_ok (by decide +kernel) ?_ | refine bar_ok (by decide +kernel) (by decide +kernel) ?_ | refine late_ok rfl rfl ?_ | refine src_ok rfl ?_ | refine .inl ⟨_, _, qcall_pure (ck) rfl rfl, ?_⟩ | refine LitB.data ?_ | refine BoxB.own ?_); conv => whnf)))
  all_goals try (exfalso; omega)
  refine awp_for tab_ok (fun k => ([J, intS .i64 kind, fracsS z, S.c (C.t (T.ptr (trT t))), J, J, J, S.c (C.ptr 0 0 0), J, J, J, J, J, J, J, J, J, J, J, J, J, J, J, J, J, J, J, J, J, J, J, J, J, J, J, J, fracsS z, intS .i64 z.length, intS .i64 k, J, J, J, J, J, J, J, J, J, J, J, J, J, J, J, J, J, J, J, J, J, J, J, J, J, J, J, J, J, J, J, J, J, J, J, J, J, J, J, J, J, J, J, J, J, J, J, J, J, J, J, J, J, J, J, J, J, J, J, J, J, J, J, J, J, J, J, J, J, J, J, J, J, J, J, J, J, J, J, J, J, J, J, J, J, J, J, J, J, J, J, J, J, J, J, J, J, J, J, J, J, J, J, J, J, J, J, J, J, J, J, J], [evB t.ev])) z.length (fun k => (z.take k).all rightF = true) [some 0] rfl
    ⟨rfl, rfl, ⟨⟨rfl, rfl, rfl, .inl ⟨rfl, rowsT_ev _⟩⟩, trivial⟩, ⟨rfl, rfl, rfl, ⟨rfl, rfl, rfl⟩, rfl, ent_i (by simp), rfl, trivial⟩⟩ ?_
  intro k hk hI
  by_cases hlt : k < z.length
  · obtain ⟨f, hf⟩ : ∃ f, z[k]? = some f := ⟨_, List.getElem?_eq_getElem hlt⟩
    obtain ⟨d1, d2⟩ := hd f (List.mem_of_getElem? hf)
    have r := a_fRight f (by omega) (by omega)
    cases hr : rightF f with
    | true =>
      rw [hr] at r
      conv => whnf
      (repeat' (first | ((refine DecB.mk (fun h => ?_) (fun h => ?_)) <;> first | (exfalso; omega) | (conv => whnf)) | ((refine BoolB.mk (fun h => ?_) (fun h => ?_)) <;> first | (exact absurd h (by decide)) | (conv => whnf)) | ((first | refine ⟨_, wrap_ok (by omega) (by omega), ?_⟩ | refine and_idx (by omega) (by omega) ?_ | refine reg_ok (by decide +kernel) ?_ | refine bar_ok (by decide +kernel) (by decide +kernel) ?_ | refine late_ok rfl rfl ?_ | refine src_ok rfl ?_ | refine .inl ⟨_, _, qcall_pure (r) rfl rfl, ?_⟩ | refine ex_row hf ?_ | refine LitB.data ?_ | refine BoxB.own ?_); conv => whnf)))
      all_goals first
        | (exfalso; omega)
        | exact ⟨hlt, by rw [all_take_succ hf, hI, hr]; rfl, [some 0], rfl, rfl, ⟨⟨rfl, rfl, rfl, .inl ⟨rfl, rowsT_ev _⟩⟩, trivial⟩, ⟨rfl, rfl, rfl, ⟨rfl, rfl, rfl⟩, rfl, rfl, rfl, trivial⟩⟩
    | false =>
      rw [hr] at r
      rw [all_of_get hf hr]
      conv => whnf
      (repeat' (first | ((refine DecB.mk (fun h => ?_) (fun h => ?_)) <;> first | (exfalso; omega) | (conv => whnf)) | ((refine BoolB.mk (fun h => ?_) (fun h => ?_)) <;> first | (exact absurd h (by decide)) | (conv => whnf)) | ((first | refine ⟨_, wrap_ok (by omega) (by omega), ?_⟩ | refine and_idx (by omega) (by omega) ?_ | refine reg_ok (by decide +kernel) ?_ | refine bar_ok (by decide +kernel) (by decide +kernel) ?_ | refine late_ok rfl rfl ?_ | refine src_ok rfl ?_ | refine .inl ⟨_, _, qcall_pure (r) rfl rfl, ?_⟩ | refine ex_row hf ?_ | refine LitB.data ?_ | refine BoxB.own ?_); conv => whnf)))
      all_goals first
        | (exfalso; omega)
        | exact fin_int rfl
  have hz : z.all rightF = true := by rw [← hI, List.take_of_length_le (by omega)]
  rw [if_pos hz]
  obtain ⟨Z, rfl⟩ := right_rats hz
  rw [fv_map]
  have hZ : ∀ v ∈ Z, rl v ≤ 200 := fun v hv => by
    have := hd (fz v) (List.mem_map.2 ⟨v, hv, rfl⟩)
    exact Nat.max_le.2 this
  have zl : Z.length = t.ev.moves.length := by simpa using h2
  generalize hN : t.ev.places.length = N at *
  conv => whnf
  (repeat' (first | ((refine DecB.mk (fun h => ?_) (fun h => ?_)) <;> first | (exfalso; omega) | (conv => whnf)) | ((refine BoolB.mk (fun h => ?_) (fun h => ?_)) <;> first | (exact absurd h (by decide)) | (conv => whnf)) | ((first | refine ⟨_, wrap_ok (by omega) (by omega), ?_⟩ | refine and_idx (by omega) (by omega) ?_ | refine reg_ok (by decide +kernel) ?_ | refine bar_ok (by decide +kernel) (by decide +kernel) ?_ | refine late_ok rfl rfl ?_ | refine src_ok rfl ?_ | refine mk_ok (by omega) (by omega) (by omega) (by decide) ?_ | refine LitB.data ?_ | refine BoxB.own ?_); conv => whnf)))
  all_goals try (exfalso; omega)
  clear hI hlt hk
  refine awp_for tab_ok (fun k => ([J, intS .i64 kind, fracsS (Z.map fz), S.c (C.t (T.ptr (trT t))), J, J, J, S.c (C.ptr 0 0 0), J, J, S.c (C.own 1 0 N true), J, J, J, J, J, J, J, J, J, J, J, J, J, J, J, J, J, J, J, J, J, J, J, J, J, J, J, J, J, J, J, J, J, J, J, J, J, J, J, J, intS .i64 N, intS .i64 k, J, J, J, J, J, J, J, J, J, J, J, J, J, J, J, J, J, J, J, J, J, J, J, J, J, J, J, J, J, J, J, J, J, J, J, J, J, J, J, J, J, J, J, J, J, J, J, J, J, J, J, J, J, J, J, J, J, J, J, J, J, J, J, J, J, J, J, J, J, J, J, J, J, J, J, J, J, J, J, J, J, J, J, J, J, J, J, J, J, J, J, J, J, J, J, J, J, J], [evB t.ev, rowB (partF k N)])) N (fun _ => True) [some 0, some 1] trivial ?_ ?_
  · refine ⟨rfl, rfl, ⟨⟨rfl, rfl, rfl, .inl ⟨rfl, rowsT_ev _⟩⟩, ⟨rfl, rfl, rfl, .inr ?_⟩, trivial⟩, ⟨rfl, rfl, rfl, ⟨rfl, rfl, rfl⟩, ⟨rfl, rfl, ?_, fun h => h⟩, ent_i (by omega), rfl, trivial⟩⟩
    · have e9 : ((((t.ev.places.map Place.row).length : Nat) : Int)).toNat = N := by omega
      show EntR _ _ (List.replicate ((((t.ev.places.map Place.row).length : Nat) : Int)).toNat _) _
      rw [e9]
      exact zero_fracs
    · omega
  intro k hk _
  by_cases hlt : k < N
  · have eM : 0 + (k : Int).toNat = k := by omega
    obtain ⟨pf, hpf⟩ : ∃ pf, (partF k N)[k]? = some pf := ⟨_, partF_get hlt⟩
    have gp : (partF k N)[0 + (k : Int).toNat]? = some pf := by rw [eM]; exact hpf
    conv => whnf
    (repeat' (first | ((refine DecB.mk (fun h => ?_) (fun h => ?_)) <;> first | (exfalso; omega) | (conv => whnf)) | ((refine BoolB.mk (fun h => ?_) (fun h => ?_)) <;> first | (exact absurd h (by decide)) | (conv => whnf)) | ((first | refine ⟨_, wrap_ok (by omega) (by omega), ?_⟩ | refine and_idx (by omega) (by omega) ?_ | refine reg_ok (by decide +kernel) ?_ | refine bar_ok (by decide +kernel) (by decide +kernel) ?_ | refine late_ok rfl rfl ?_ | refine src_ok rfl ?_ | refine .inl ⟨_, _, qcall_pure (i0) rfl rfl, ?_⟩ | refine ex_own gp ?_ | refine LitB.data ?_ | refine BoxB.own ?_); conv => whnf)))
    all_goals try (exfalso; omega)
    refine ⟨hlt, trivial, [some 0, some 1], rfl, rfl, ⟨⟨rfl, rfl, rfl, .inl ⟨rfl, rowsT_ev _⟩⟩, entB_rows rfl rfl rfl ?_ rfl, trivial⟩, ⟨rfl, rfl, rfl, ⟨rfl, rfl, rfl⟩, ⟨rfl, rfl, rfl, fun h => h⟩, rfl, rfl, trivial⟩⟩
    have e := rowB_set (row := partF k N) (y := fz zR) eM
    rw [partF_set hlt] at e
    exact congrArg Blk.rows e
  have hke : k = N := by omega
  subst hke
  conv => whnf
  (repeat' (first | ((refine DecB.mk (fun h => ?_) (fun h => ?_)) <;> first | (exfalso; omega) | (conv => whnf)) | ((refine BoolB.mk (fun h => ?_) (fun h => ?_)) <;> first | (exact absurd h (by decide)) | (conv => whnf)) | ((first | refine ⟨_, wrap_ok (by omega) (by omega), ?_⟩ | refine and_idx (by omega) (by omega) ?_ | refine reg_ok (by decide +kernel) ?_ | refine bar_ok (by decide +kernel) (by decide +kernel) ?_ | refine late_ok rfl rfl ?_ | refine src_ok rfl ?_ | refine .inl ⟨_, _, qcall_pure (kn) rfl rfl, ?_⟩ | refine LitB.data ?_ | refine BoxB.own ?_); conv => whnf)))
  all_goals try (exfalso; omega)
  clear hlt hk
  refine awp_for tab_ok (fun j => ([J, J, fracsS (Z.map fz), J, J, J, J, S.c (C.ptr 0 0 0), J, J, S.c (C.own 1 0 k true), J, J, J, J, J, J, J, J, J, J, J, J, J, J, J, J, J, J, J, J, J, J, J, J, J, J, J, J, J, J, J, J, J, J, J, J, J, J, J, J, J, J, J, J, J, J, J, J, J, J, J, S.c (C.t (knownT t kind)), intS .i64 t.ev.moves.length, intS .i64 j, J, J, J, J, J, J, J, J, J, J, J, J, J, J, J, J, J, J, J, J, J, J, J, J, J, J, J, J, J, J, J, J, J, J, J, J, J, J, J, J, J, J, J, J, J, J, J, J, J, J, J, J, J, J, J, J, J, J, J, J, J, J, J, J, J, J, J, J, J, J, J, J, J, J, J, J, J, J, J, J, J, J, J, J, J, J], [evB t.ev, rowB (rowF k (tstk t.ev Z j))])) t.ev.moves.length (fun j => tmovesE t kind Z j (t.ev.moves.drop j) = tmovesE t kind Z 0 t.ev.moves) [some 0, some 1] rfl ?_ ?_
  · refine ⟨rfl, rfl, ⟨⟨rfl, rfl, rfl, .inl ⟨rfl, rowsT_ev _⟩⟩, entB_rows rfl rfl rfl ?_ rfl, trivial⟩, ⟨rfl, ⟨rfl, rfl, rfl⟩, ⟨rfl, rfl, rfl, fun h => h⟩, rfl, ent_i (by simp), rfl, trivial⟩⟩
    rw [partF_all]
    rfl
  intro j hj hI
  by_cases hlt : j < t.ev.moves.length
  · obtain ⟨x, hx⟩ : ∃ x, t.ev.moves[j]? = some x := ⟨_, List.getElem?_eq_getElem hlt⟩
    have hmo := check_move q1 (List.mem_of_getElem? hx)
    have ms := moveOk_src hmo
    have md := moveOk_dst hmo
    have hne : x.src ≠ x.dst := by unfold moveOk at hmo; simp only [Bool.and_eq_true, decide_eq_true_eq] at hmo; exact hmo.1.1.1.1.1.2
    obtain ⟨s, hsn⟩ : ∃ s : Nat, x.src = s := ⟨x.src.toNat, by omega⟩
    obtain ⟨d, hdn⟩ : ∃ d : Nat, x.dst = d := ⟨x.dst.toNat, by omega⟩
    have hsk : s < k := by omega
    have hdk : d < k := by omega
    have hsd : s ≠ d := by omega
    obtain ⟨v, hv⟩ : ∃ v, Z[j]? = some v := ⟨_, List.getElem?_eq_getElem (by omega)⟩
    have hvd : Z.getD j 0 = v := by rw [List.getD_eq_getElem?_getD, hv]; rfl
    have bv := hZ v (List.mem_of_getElem? hv)
    have bs := rl_tstk (e := t.ev) hZ b4 (k := j) (by omega) s
    have bd := rl_tstk (e := t.ev) hZ b4 (k := j) (by omega) d
    have cm := z_fCompare v (tstk t.ev Z j s) (by omega) (by omega)
    have sg := z_fSign v (by omega)
    have sb := z_fSub (tstk t.ev Z j s) v (by omega) (by omega)
    have ad := z_fAdd (tstk t.ev Z j d) v (by omega) (by omega)
    have bn := a_bin t.ev q1 hx
    have al := a_allows (kind := kind) hx q4 hs.f v bv
    have gk : (List.range t.ev.moves.length)[j]? = some j := List.getElem?_range hlt
    have zk := zero_get Z hv
    have eS : 0 + x.src.toNat = s := by omega
    have eD : 0 + x.dst.toNat = d := by omega
    have xs : (rowF k (tstk t.ev Z j))[0 + x.src.toNat]? = some (fz (tstk t.ev Z j s)) := by rw [eS]; exact rowF_get hsk
    have xd : (rowF k (tstk t.ev Z j))[0 + x.dst.toNat]? = some (fz (tstk t.ev Z j d)) := by rw [eD]; exact rowF_get hdk
    have cg := cmpR_lt' (x := v) (y := tstk t.ev Z j s)
    have cz := cmpR_zero (x := v) (y := tstk t.ev Z j s)
    have sn := sgR_neg (x := v)
    rw [drop_get hx] at hI
    have hI : (if tAt t kind Z j x ≠ 0 then tAt t kind Z j x else tmovesE t kind Z (j + 1) (t.ev.moves.drop (j + 1))) = tmovesE t kind Z 0 t.ev.moves := hI
    have hta : tAt t kind Z j x = tstepE t kind j x v (tstk t.ev Z j s) := by unfold tAt; rw [hvd, show x.src.toNat = s by omega]
    rw [hta] at hI
    have fin3 : ∀ (c : Int) (H1 : Hp), tstepE t kind j x v (tstk t.ev Z j s) = c → c ≠ 0 → Fin 0 (intS .i64 c) H1 (intS .i64 (tmovesE t kind Z 0 t.ev.moves)) [] := fun c H1 h hc => fin_int (by rw [← hI, h, if_pos hc])
    generalize cmpR v (tstk t.ev Z j s) = U at cm cg cz
    generalize sgR v = W at sg sn
    have hse : 0 + x.src.toNat ≠ 0 + x.dst.toNat := by omega
    have e0 : tookE t.ev x v (tstk t.ev Z j s) = if v < 0 then 3 else if kindAt t.ev x.src ≠ 0 ∧ tstk t.ev Z j s < v then 4 else if x.all = true ∧ v ≠ tstk t.ev Z j s then 7 else 0 := rfl
    by_cases c1 : v < 0
    · have e3 : tstepE t kind j x v (tstk t.ev Z j s) = 3 := by unfold tstepE; rw [e0, if_pos c1]; rfl
      have w1 : W < 0 := sn.2 c1
      conv => whnf
      (repeat' (first | ((refine DecB.mk (fun h => ?_) (fun h => ?_)) <;> first | (exfalso; omega) | (conv => whnf)) | ((refine BoolB.mk (fun h => ?_) (fun h => ?_)) <;> first | (exact absurd h (by decide)) | (conv => whnf)) | ((first | refine ⟨_, wrap_ok (by omega) (by omega), ?_⟩ | refine and_idx (by omega) (by omega) ?_ | refine reg_ok (by decide +kernel) ?_ | refine bar_ok (by decide +kernel) (by decide +kernel) ?_ | refine late_ok rfl rfl ?_ | refine src_ok rfl ?_ | refine .inl ⟨_, _, qcall_pure (cm) rfl rfl, ?_⟩ | refine .inl ⟨_, _, qcall_pure (sg) rfl rfl, ?_⟩ | refine .inl ⟨_, _, qcall_pure (bn) rfl rfl, ?_⟩ | refine .inl ⟨_, _, qcall_pure (al) rfl rfl, ?_⟩ | refine .inl ⟨_, _, qcall_pure (sb) rfl rfl, ?_⟩ | refine .inl ⟨_, _, qcall_pure (ad) rfl rfl, ?_⟩ | refine .inl ⟨_, _, qcall_pure (15) rfl rfl, ?_⟩ | refine ex_row hx ?_ | refine ex_row gk ?_ | refine ex_row zk ?_ | refine ex_own xs ?_ | refine ex_setne hse xd ?_ | refine bar_late [15] (by decide +kernel) (by decide +kernel) ?_ | refine LitB.data ?_ | refine BoxB.own ?_); conv => whnf)))
      all_goals first
        | (exfalso; omega)
        | exact fin3 3 _ e3 (by decide)
    have w1 : ¬ W < 0 := fun h => c1 (sn.1 h)
    rw [if_neg c1] at e0
    by_cases c2 : kindAt t.ev x.src ≠ 0 ∧ tstk t.ev Z j s < v
    · have e3 : tstepE t kind j x v (tstk t.ev Z j s) = 4 := by unfold tstepE; rw [e0, if_pos c2]; rfl
      have w2 : U > 0 := cg.2 c2.2
      rw [decide_eq_false c2.1] at bn
      conv => whnf
      (repeat' (first | ((refine DecB.mk (fun h => ?_) (fun h => ?_)) <;> first | (exfalso; omega) | (conv => whnf)) | ((refine BoolB.mk (fun h => ?_) (fun h => ?_)) <;> first | (exact absurd h (by decide)) | (conv => whnf)) | ((first | refine ⟨_, wrap_ok (by omega) (by omega), ?_⟩ | refine and_idx (by omega) (by omega) ?_ | refine reg_ok (by decide +kernel) ?_ | refine bar_ok (by decide +kernel) (by decide +kernel) ?_ | refine late_ok rfl rfl ?_ | refine src_ok rfl ?_ | refine .inl ⟨_, _, qcall_pure (cm) rfl rfl, ?_⟩ | refine .inl ⟨_, _, qcall_pure (sg) rfl rfl, ?_⟩ | refine .inl ⟨_, _, qcall_pure (bn) rfl rfl, ?_⟩ | refine .inl ⟨_, _, qcall_pure (al) rfl rfl, ?_⟩ | refine .inl ⟨_, _, qcall_pure (sb) rfl rfl, ?_⟩ | refine .inl ⟨_, _, qcall_pure (ad) rfl rfl, ?_⟩ | refine .inl ⟨_, _, qcall_pure (15) rfl rfl, ?_⟩ | refine ex_row hx ?_ | refine ex_row gk ?_ | refine ex_row zk ?_ | refine ex_own xs ?_ | refine ex_setne hse xd ?_ | refine bar_late [15] (by decide +kernel) (by decide +kernel) ?_ | refine LitB.data ?_ | refine BoxB.own ?_); conv => whnf)))
      all_goals first
        | (exfalso; omega)
        | exact fin3 4 _ e3 (by decide)
    rw [if_neg c2] at e0
    have w2 : kindAt t.ev x.src = 0 ∨ ¬ U > 0 := by
      by_cases h : kindAt t.ev x.src = 0
      · exact .inl h
      · exact .inr fun h' => c2 ⟨h, cg.1 h'⟩
    by_cases c3 : x.all = true ∧ v ≠ tstk t.ev Z j s
    · have e3 : tstepE t kind j x v (tstk t.ev Z j s) = 7 := by unfold tstepE; rw [e0, if_pos c3]; rfl
      have w3 : U ≠ 0 := fun h => c3.2 (cz.1 h)
      have w4 := c3.1
      by_cases hb : kindAt t.ev x.src = 0
      · rw [decide_eq_true hb] at bn
        conv => whnf
        (repeat' (first | ((refine DecB.mk (fun h => ?_) (fun h => ?_)) <;> first | (exfalso; omega) | (conv => whnf)) | ((refine BoolB.mk (fun h => ?_) (fun h => ?_)) <;> first | (exact absurd h (by decide)) | (conv => whnf)) | ((first | refine ⟨_, wrap_ok (by omega) (by omega), ?_⟩ | refine and_idx (by omega) (by omega) ?_ | refine reg_ok (by decide +kernel) ?_ | refine bar_ok (by decide +kernel) (by decide +kernel) ?_ | refine late_ok rfl rfl ?_ | refine src_ok rfl ?_ | refine .inl ⟨_, _, qcall_pure (cm) rfl rfl, ?_⟩ | refine .inl ⟨_, _, qcall_pure (sg) rfl rfl, ?_⟩ | refine .inl ⟨_, _, qcall_pure (bn) rfl rfl, ?_⟩ | refine .inl ⟨_, _, qcall_pure (al) rfl rfl, ?_⟩ | refine .inl ⟨_, _, qcall_pure (sb) rfl rfl, ?_⟩ | refine .inl ⟨_, _, qcall_pure (ad) rfl rfl, ?_⟩ | refine .inl ⟨_, _, qcall_pure (15) rfl rfl, ?_⟩ | refine ex_row hx ?_ | refine ex_row gk ?_ | refine ex_row zk ?_ | refine ex_own xs ?_ | refine ex_setne hse xd ?_ | refine bar_late [15] (by decide +kernel) (by decide +kernel) ?_ | refine LitB.data ?_ | refine BoxB.own ?_); conv => whnf)))
        all_goals first
          | (exfalso; omega)
          | exact fin3 7 _ e3 (by decide)
          | (exfalso; simp_all; done)
      · rw [decide_eq_false hb] at bn
        conv => whnf
        (repeat' (first | ((refine DecB.mk (fun h => ?_) (fun h => ?_)) <;> first | (exfalso; omega) | (conv => whnf)) | ((refine BoolB.mk (fun h => ?_) (fun h => ?_)) <;> first | (exact absurd h (by decide)) | (conv => whnf)) | ((first | refine ⟨_, wrap_ok (by omega) (by omega), ?_⟩ | refine and_idx (by omega) (by omega) ?_ | refine reg_ok (by decide +kernel) ?_ | refine bar_ok (by decide +kernel) (by decide +kernel) ?_ | refine late_ok rfl rfl ?_ | refine src_ok rfl ?_ | refine .inl ⟨_, _, qcall_pure (cm) rfl rfl, ?_⟩ | refine .inl ⟨_, _, qcall_pure (sg) rfl rfl, ?_⟩ | refine .inl ⟨_, _, qcall_pure (bn) rfl rfl, ?_⟩ | refine .inl ⟨_, _, qcall_pure (al) rfl rfl, ?_⟩ | refine .inl ⟨_, _, qcall_pure (sb) rfl rfl, ?_⟩ | refine .inl ⟨_, _, qcall_pure (ad) rfl rfl, ?_⟩ | refine .inl ⟨_, _, qcall_pure (15) rfl rfl, ?_⟩ | refine ex_row hx ?_ | refine ex_row gk ?_ | refine ex_row zk ?_ | refine ex_own xs ?_ | refine ex_setne hse xd ?_ | refine bar_late [15] (by decide +kernel) (by decide +kernel) ?_ | refine LitB.data ?_ | refine BoxB.own ?_); conv => whnf)))
        all_goals first
          | (exfalso; omega)
          | exact fin3 7 _ e3 (by decide)
          | (exfalso; simp_all; done)
    rw [if_neg c3] at e0
    have w3 : x.all = false ∨ U = 0 := by
      cases h : x.all with
      | false => exact .inl rfl
      | true =>
        refine .inr (cz.2 ?_)
        by_cases h' : v = tstk t.ev Z j s
        · exact h'
        · exact absurd ⟨h, h'⟩ c3
    have e3 : tstepE t kind j x v (tstk t.ev Z j s) = allowsE t kind j x v := by unfold tstepE; rw [e0, if_neg (by simp)]
    have er := tstk_rows hx hvd hsn hdn hsk hdk hsd
    have bnx : ACall Tryz.prog 22 [evS t.ev, intS .i64 j] [] (boolS (decide (kindAt t.ev x.src = 0))) [] := bn
    by_cases ha : allowsE t kind j x v ≠ 0
    · have fa := fun H1 => fin3 _ H1 e3 ha
      generalize allowsE t kind j x v = Q at al ha fa
      rcases w3 with w3 | w3
      all_goals
        by_cases hb : kindAt t.ev x.src = 0
        case' pos => rw [decide_eq_true hb] at bn
        case' neg => rw [decide_eq_false hb] at bn
        all_goals
          conv => whnf
          (repeat' (first | ((refine DecB.mk (fun h => ?_) (fun h => ?_)) <;> first | (exfalso; omega) | (conv => whnf)) | ((refine BoolB.mk (fun h => ?_) (fun h => ?_)) <;> first | (exact absurd h (by decide)) | (conv => whnf)) | ((first | refine ⟨_, wrap_ok (by omega) (by omega), ?_⟩ | refine and_idx (by omega) (by omega) ?_ | refine reg_ok (by decide +kernel) ?_ | refine bar_ok (by decide +kernel) (by decide +kernel) ?_ | refine late_ok rfl rfl ?_ | refine src_ok rfl ?_ | refine .inl ⟨_, _, qcall_pure (cm) rfl rfl, ?_⟩ | refine .inl ⟨_, _, qcall_pure (sg) rfl rfl, ?_⟩ | refine .inl ⟨_, _, qcall_pure (bn) rfl rfl, ?_⟩ | refine .inl ⟨_, _, qcall_pure (al) rfl rfl, ?_⟩ | refine .inl ⟨_, _, qcall_pure (sb) rfl rfl, ?_⟩ | refine .inl ⟨_, _, qcall_pure (ad) rfl rfl, ?_⟩ | refine .inl ⟨_, _, qcall_pure (15) rfl rfl, ?_⟩ | refine ex_row hx ?_ | refine ex_row gk ?_ | refine ex_row zk ?_ | refine ex_own xs ?_ | refine ex_setne hse xd ?_ | refine bar_late [15] (by decide +kernel) (by decide +kernel) ?_ | refine LitB.data ?_ | refine BoxB.own ?_); conv => whnf)))
          all_goals first
            | (exfalso; omega)
            | exact fa _
            | (exfalso; simp_all; done)
    · have ha : allowsE t kind j x v = 0 := by omega
      rw [e3, ha, if_neg (by simp)] at hI
      rw [ha] at al
      have nxt : ((toC ((rowF k (tstk t.ev Z j)).map frRow)).set (0 + x.src.toNat) (frC (fz (tstk t.ev Z j s - v)))).set (0 + x.dst.toNat) (frC (fz (tstk t.ev Z j d + v))) = toC ((rowF k (tstk t.ev Z (j + 1))).map frRow) := by
        rw [toC_fset, toC_fset, eS, eD, er]
      rcases w3 with w3 | w3
      all_goals
        by_cases hb : kindAt t.ev x.src = 0
        case' pos => rw [decide_eq_true hb] at bn
        case' neg => rw [decide_eq_false hb] at bn
        all_goals
          conv => whnf
          (repeat' (first | ((refine DecB.mk (fun h => ?_) (fun h => ?_)) <;> first | (exfalso; omega) | (conv => whnf)) | ((refine BoolB.mk (fun h => ?_) (fun h => ?_)) <;> first | (exact absurd h (by decide)) | (conv => whnf)) | ((first | refine ⟨_, wrap_ok (by omega) (by omega), ?_⟩ | refine and_idx (by omega) (by omega) ?_ | refine reg_ok (by decide +kernel) ?_ | refine bar_ok (by decide +kernel) (by decide +kernel) ?_ | refine late_ok rfl rfl ?_ | refine src_ok rfl ?_ | refine .inl ⟨_, _, qcall_pure (cm) rfl rfl, ?_⟩ | refine .inl ⟨_, _, qcall_pure (sg) rfl rfl, ?_⟩ | refine .inl ⟨_, _, qcall_pure (bn) rfl rfl, ?_⟩ | refine .inl ⟨_, _, qcall_pure (al) rfl rfl, ?_⟩ | refine .inl ⟨_, _, qcall_pure (sb) rfl rfl, ?_⟩ | refine .inl ⟨_, _, qcall_pure (ad) rfl rfl, ?_⟩ | refine .inl ⟨_, _, qcall_pure (15) rfl rfl, ?_⟩ | refine ex_row hx ?_ | refine ex_row gk ?_ | refine ex_row zk ?_ | refine ex_own xs ?_ | refine ex_setne hse xd ?_ | refine bar_late [15] (by decide +kernel) (by decide +kernel) ?_ | refine LitB.data ?_ | refine BoxB.own ?_); conv => whnf)))
          all_goals first
            | (exfalso; omega)
            | exact ⟨hlt, hI, [some 0, some 1], rfl, rfl, ⟨⟨rfl, rfl, rfl, .inl ⟨rfl, rowsT_ev _⟩⟩, entB_rows rfl rfl rfl nxt rfl, trivial⟩, ⟨rfl, ⟨rfl, rfl, rfl⟩, ⟨rfl, rfl, rfl, fun h => h⟩, rfl, rfl, rfl, trivial⟩⟩
            | (exfalso; simp_all; done)
  · rw [List.drop_of_length_le (by omega)] at hI
    have hI : 0 = tmovesE t kind Z 0 t.ev.moves := hI
    conv => whnf
    (repeat' (first | ((refine DecB.mk (fun h => ?_) (fun h => ?_)) <;> first | (exfalso; omega) | (conv => whnf)) | ((refine BoolB.mk (fun h => ?_) (fun h => ?_)) <;> first | (exact absurd h (by decide)) | (conv => whnf)) | ((first | refine ⟨_, wrap_ok (by omega) (by omega), ?_⟩ | refine and_idx (by omega) (by omega) ?_ | refine reg_ok (by decide +kernel) ?_ | refine bar_ok (by decide +kernel) (by decide +kernel) ?_ | refine late_ok rfl rfl ?_ | refine src_ok rfl ?_ | refine LitB.data ?_ | refine BoxB.own ?_); conv => whnf)))
    all_goals first
      | (exfalso; omega)
      | exact fin_int hI
end Go.Proofs.YtomfnfbijgjfeaaGreat
