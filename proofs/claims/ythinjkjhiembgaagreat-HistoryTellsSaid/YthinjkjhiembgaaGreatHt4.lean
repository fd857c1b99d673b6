/- big: Add, Sub, Neg, Mul, Compare, Div at right integers. -/
import Derived.Test.YthinjkjhiembgaaGreatHt3
namespace Go.Proofs.YthinjkjhiembgaaGreat
open Go.RowKit
set_option linter.unusedVariables false
set_option linter.unusedSimpArgs false
set_option maxRecDepth 100000

theorem sgm (x : Int) : x.sign * x.natAbs = x := Int.sign_mul_natAbs x
theorem z_bRight (x : Int) (lx : bl x ≤ 300000) : ACall Tryz.prog 41 [bgS (bz x)] [] (boolS true) [] := r_bRight _ _ (sg_bz x) lx
theorem z_bAdd (x y : Int) (lx : bl x ≤ 200000) (ly : bl y ≤ 200000) : ACall Tryz.prog 44 [bgS (bz x), bgS (bz y)] [] (.tup [bgS (bz (x + y)), intS .i64 0]) [] := by
  have h := r_bAdd _ _ _ _ (sg_bz x) (sg_bz y) lx ly
  rw [sgm, sgm] at h
  exact h
theorem z_bNeg (x : Int) (lx : bl x ≤ 300000) : ACall Tryz.prog 82 [bgS (bz x)] [] (bgS (bz (-x))) [] := by
  have h := a_bNeg (bz x) (show bl x ≤ 1000000 by omega)
  unfold negB at h
  rw [bz_right, bv_bz] at h
  exact h
abbrev bg2 (s : Int) (l : List Int) : S := .agg [.t (ti s), .t (intsT l)]
theorem r_bMul (s t : Int) (m n : Nat) (hs : Sg s m) (ht : Sg t n) (lm : (dg m).length ≤ 200000) (ln : (dg n).length ≤ 200000) :
    ACall Tryz.prog 81 [bgS ⟨s, dg m⟩, bgS ⟨t, dg n⟩] [] (.tup [bgS (bz ((s * t) * (m * n : Nat))), intS .i64 0]) [] := by
  have r1 := r_bRight s m hs (by omega)
  have r2 := r_bRight t n ht (by omega)
  have mu := a_mulD m n (by omega) (by omega)
  have ls := dg_mul_len m n
  have hst : -1 ≤ s * t ∧ s * t ≤ 1 ∧ (s * t = 1 ∨ s * t = -1 ∨ m * n = 0) := by
    rcases hs with ⟨rfl, rfl⟩ | ⟨rfl, h1⟩ | ⟨rfl, h1⟩ <;> rcases ht with ⟨rfl, rfl⟩ | ⟨rfl, h2⟩ | ⟨rfl, h2⟩ <;> simp
  obtain ⟨q1, q2, q3⟩ := hst
  have sg := a_signedD (s * t) (m * n) q3 (by omega)
  have ck := a_checked true (bz ((s * t) * (m * n : Nat)))
  (refine acall_of tab_ok Tryz.func81 rfl (by decide) ?_; (conv => whnf); repeat (first | (refine LitB.data ?_; conv => whnf) | (refine BoxB.own ?_; conv => whnf)))
  (repeat' (first | ((refine DecB.mk (fun h => ?_) (fun h => ?_)) <;> first | (exfalso; omega) | (conv => whnf)) | ((refine BoolB.mk (fun h => ?_) (fun h => ?_)) <;> first | (exact absurd h (by decide)) | (conv => whnf)) | (refine ⟨_, wrap_ok (by omega) (by omega), ?_⟩; conv => whnf) | (refine and_idx (by omega) (by omega) ?_; conv => whnf) | (refine reg_ok (by decide +kernel) ?_; conv => whnf) | (refine bar_ok (by decide +kernel) (by decide +kernel) ?_; conv => whnf) | (refine late_ok rfl rfl ?_; conv => whnf) | (refine src_ok rfl ?_; conv => whnf) | (refine .inl ⟨_, _, qcall_pure (r1) rfl rfl, ?_⟩; conv => whnf) | (refine .inl ⟨_, _, qcall_pure (r2) rfl rfl, ?_⟩; conv => whnf) | (refine .inl ⟨_, _, qcall_pure (mu) rfl rfl, ?_⟩; conv => whnf) | (refine .inl ⟨_, _, qcall_pure (sg) rfl rfl, ?_⟩; conv => whnf) | (refine .inl ⟨_, _, qcall_pure (ck) rfl rfl, ?_⟩; conv => whnf) | (refine ⟨_, wrap_eq (y := s * t) rfl (by omega) (by omega), ?_⟩; conv => whnf) | (refine LitB.data ?_; conv => whnf) | (refine BoxB.own ?_; conv => whnf)))
  all_goals first | (exfalso; simp_all; done) | exact fin_be rfl
theorem z_bMul (x y : Int) (lx : bl x ≤ 200000) (ly : bl y ≤ 200000) : ACall Tryz.prog 81 [bgS (bz x), bgS (bz y)] [] (.tup [bgS (bz (x * y)), intS .i64 0]) [] := by
  have h := r_bMul _ _ _ _ (sg_bz x) (sg_bz y) lx ly
  have e : (x.sign * y.sign) * ((x.natAbs * y.natAbs : Nat) : Int) = x * y := by
    rw [Int.natCast_mul]
    have h1 := sgm x
    have h2 := sgm y
    grind
  rw [e] at h
  exact h
theorem z_bCompare (x y : Int) (lx : bl x ≤ 300000) (ly : bl y ≤ 300000) : ACall Tryz.prog 92 [bgS (bz x), bgS (bz y)] [] (intS .i64 (cmpI x y)) [] := by
  have h := a_bCompare (bz x) (bz y) (show bl x ≤ 1000000 by omega) (show bl y ≤ 1000000 by omega)
  unfold cmpB at h
  rw [bz_right, bz_right, bv_bz, bv_bz] at h
  exact h
theorem fin_be2 {b b' c c' : Bg} {e : Int} {H1 : Hp} (h : b = b') (h2 : c = c') : Fin 0 (.tup [bgS b, bgS c, intS .i64 e]) H1 (.tup [bgS b', bgS c', intS .i64 e]) [] := by
  subst h h2; exact fin_t ⟨⟨rfl, rfl, trivial⟩, ⟨rfl, rfl, trivial⟩, rfl, trivial⟩
theorem r_bDiv (s : Int) (m n : Nat) (hs : Sg s m) (hn : 0 < n) (lm : (dg m).length ≤ 200000) (ln : (dg n).length ≤ 200000) :
    ACall Tryz.prog 83 [bgS ⟨s, dg m⟩, bgS ⟨1, dg n⟩] [] (.tup [bgS (bz (s * m / n)), bgS (bz (s * m % n)), intS .i64 0]) [] := by
  show ACall Tryz.prog 83 [bg2 s (dg m), bg2 1 (dg n)] [] _ []
  have r1 := r_bRight s m hs (by omega)
  have r2 := r_bRight 1 n (.inr (.inl ⟨rfl, hn⟩)) (by omega)
  have dv := a_div m n hn (by omega) (by omega)
  have lq := dg_len_mono (Nat.div_le_self m n)
  have hr := Nat.mod_lt m hn
  have lr := dg_len_mono (Nat.le_of_lt hr)
  have lr2 : ((dg (m % n)).map intRow).length = (dg (m % n)).length := by simp
  have hz : (dg (m % n)).length = 0 ↔ m % n = 0 := by rw [List.length_eq_zero_iff, dg_eq_nil]
  have hm := Nat.div_add_mod m n
  have fin : ∀ (a b : Int) (H1 : Hp), a = s * m / n → b = s * m % n → Fin 0 (.tup [bgS (bz a), bgS (bz b), intS .i64 0]) H1 (.tup [bgS (bz (s * m / n)), bgS (bz (s * m % n)), intS .i64 0]) [] := fun a b H1 h1 h2 => fin_be2 (by rw [h1]) (by rw [h2])
  rcases hs with ⟨rfl, rfl⟩ | ⟨rfl, h1⟩ | ⟨rfl, h1⟩
  · have s1 := a_signedD 0 (0 / n) (by simp) (by omega)
    have s2 := a_signedD 0 (0 % n) (by simp) (by omega)
    (refine acall_of tab_ok Tryz.func83 rfl (by decide) ?_; (conv => whnf); repeat (first | (refine LitB.data ?_; conv => whnf) | (refine BoxB.own ?_; conv => whnf)))
    (repeat' (first | ((refine DecB.mk (fun h => ?_) (fun h => ?_)) <;> first | (exfalso; omega) | (conv => whnf)) | ((refine BoolB.mk (fun h => ?_) (fun h => ?_)) <;> first | (exact absurd h (by decide)) | (conv => whnf)) | (refine ⟨_, wrap_ok (by omega) (by omega), ?_⟩; conv => whnf) | (refine and_idx (by omega) (by omega) ?_; conv => whnf) | (refine reg_ok (by decide +kernel) ?_; conv => whnf) | (refine bar_ok (by decide +kernel) (by decide +kernel) ?_; conv => whnf) | (refine late_ok rfl rfl ?_; conv => whnf) | (refine src_ok rfl ?_; conv => whnf) | (refine .inl ⟨_, _, qcall_pure (r1) rfl rfl, ?_⟩; conv => whnf) | (refine .inl ⟨_, _, qcall_pure (r2) rfl rfl, ?_⟩; conv => whnf) | (refine .inl ⟨_, _, qcall_pure (dv) rfl rfl, ?_⟩; conv => whnf) | (refine .inl ⟨_, _, qcall_pure (s1) rfl rfl, ?_⟩; conv => whnf) | (refine .inl ⟨_, _, qcall_pure (s2) rfl rfl, ?_⟩; conv => whnf) | (refine ⟨_, wrap_eq (y := 0) rfl (by decide) (by decide), ?_⟩; conv => whnf) | (refine LitB.data ?_; conv => whnf) | (refine BoxB.own ?_; conv => whnf)))
    all_goals first | (exfalso; omega) | exact fin _ _ _ (by first | rfl | simp) (by first | rfl | simp)
  · have s1 := a_signedD 1 (m / n) (by simp) (by omega)
    have s2 := a_signedD 1 (m % n) (by simp) (by omega)
    (refine acall_of tab_ok Tryz.func83 rfl (by decide) ?_; (conv => whnf); repeat (first | (refine LitB.data ?_; conv => whnf) | (refine BoxB.own ?_; conv => whnf)))
    (repeat' (first | ((refine DecB.mk (fun h => ?_) (fun h => ?_)) <;> first | (exfalso; omega) | (conv => whnf)) | ((refine BoolB.mk (fun h => ?_) (fun h => ?_)) <;> first | (exact absurd h (by decide)) | (conv => whnf)) | (refine ⟨_, wrap_ok (by omega) (by omega), ?_⟩; conv => whnf) | (refine and_idx (by omega) (by omega) ?_; conv => whnf) | (refine reg_ok (by decide +kernel) ?_; conv => whnf) | (refine bar_ok (by decide +kernel) (by decide +kernel) ?_; conv => whnf) | (refine late_ok rfl rfl ?_; conv => whnf) | (refine src_ok rfl ?_; conv => whnf) | (refine .inl ⟨_, _, qcall_pure (r1) rfl rfl, ?_⟩; conv => whnf) | (refine .inl ⟨_, _, qcall_pure (r2) rfl rfl, ?_⟩; conv => whnf) | (refine .inl ⟨_, _, qcall_pure (dv) rfl rfl, ?_⟩; conv => whnf) | (refine .inl ⟨_, _, qcall_pure (s1) rfl rfl, ?_⟩; conv => whnf) | (refine .inl ⟨_, _, qcall_pure (s2) rfl rfl, ?_⟩; conv => whnf) | (refine ⟨_, wrap_eq (y := 1) rfl (by decide) (by decide), ?_⟩; conv => whnf) | (refine LitB.data ?_; conv => whnf) | (refine BoxB.own ?_; conv => whnf)))
    all_goals first | (exfalso; omega) | exact fin _ _ _ (by first | rfl | simp) (by first | rfl | simp)
  · by_cases h0 : m % n = 0
    · have hz0 := hz.2 h0
      have s1 := a_signedD (-1) (m / n) (by simp) (by omega)
      have s2 := a_signedD (-1) (m % n) (by simp) (by omega)
      have e1 : -1 * ((m / n : Nat) : Int) = -1 * (m : Int) / n := by
        have e : (m : Int) = n * (m / n : Nat) := by rw [← Int.natCast_mul]; congr 1; omega
        rw [e, show -1 * ((n : Int) * (m / n : Nat)) = n * (-1 * (m / n : Nat)) by grind, Int.mul_ediv_cancel_left _ (by omega)]
      have e2 : -1 * ((m % n : Nat) : Int) = -1 * (m : Int) % n := by
        have e : (m : Int) = n * (m / n : Nat) := by rw [← Int.natCast_mul]; congr 1; omega
        rw [h0, e, show -1 * ((n : Int) * (m / n : Nat)) = n * (-1 * (m / n : Nat)) by grind, Int.mul_emod_right]
        simp
      (refine acall_of tab_ok Tryz.func83 rfl (by decide) ?_; (conv => whnf); repeat (first | (refine LitB.data ?_; conv => whnf) | (refine BoxB.own ?_; conv => whnf)))
      (repeat' (first | ((refine DecB.mk (fun h => ?_) (fun h => ?_)) <;> first | (exfalso; omega) | (conv => whnf)) | ((refine BoolB.mk (fun h => ?_) (fun h => ?_)) <;> first | (exact absurd h (by decide)) | (conv => whnf)) | (refine ⟨_, wrap_ok (by omega) (by omega), ?_⟩; conv => whnf) | (refine and_idx (by omega) (by omega) ?_; conv => whnf) | (refine reg_ok (by decide +kernel) ?_; conv => whnf) | (refine bar_ok (by decide +kernel) (by decide +kernel) ?_; conv => whnf) | (refine late_ok rfl rfl ?_; conv => whnf) | (refine src_ok rfl ?_; conv => whnf) | (refine .inl ⟨_, _, qcall_pure (r1) rfl rfl, ?_⟩; conv => whnf) | (refine .inl ⟨_, _, qcall_pure (r2) rfl rfl, ?_⟩; conv => whnf) | (refine .inl ⟨_, _, qcall_pure (dv) rfl rfl, ?_⟩; conv => whnf) | (refine .inl ⟨_, _, qcall_pure (s1) rfl rfl, ?_⟩; conv => whnf) | (refine .inl ⟨_, _, qcall_pure (s2) rfl rfl, ?_⟩; conv => whnf) | (refine ⟨_, wrap_eq (y := -1) rfl (by decide) (by decide), ?_⟩; conv => whnf) | (refine LitB.data ?_; conv => whnf) | (refine BoxB.own ?_; conv => whnf)))
      all_goals first | (exfalso; omega) | exact fin _ _ _ e1 e2
    · have hz0 : (dg (m % n)).length ≠ 0 := fun h => h0 (hz.1 h)
      have one : dg 1 = [1] := rfl
      have ad := a_addD (m / n) 1 (by omega) (by simp [one])
      have sb := a_subD n (m % n) (by omega) (by omega)
      have l1 := dg_add_len (m / n) 1
      have l2 := dg_len_mono (Nat.sub_le n (m % n))
      have s1 := a_signedD (-1) (m / n + 1) (by simp) (by rw [one] at l1; simp at l1; omega)
      have s2 := a_signedD 1 (n - m % n) (by simp) (by omega)
      have key : (-1 * (m : Int)) = (n - m % n : Nat) + n * (-1 * ((m / n + 1 : Nat) : Int)) := by
        have e : (m : Int) = n * (m / n : Nat) + (m % n : Nat) := by rw [← Int.natCast_mul]; omega
        have e2 : ((n - m % n : Nat) : Int) = n - (m % n : Nat) := by omega
        have e3 : ((m / n + 1 : Nat) : Int) = (m / n : Nat) + 1 := by omega
        rw [e2, e3]
        grind
      have e1 : -1 * ((m / n + 1 : Nat) : Int) = -1 * (m : Int) / n := by
        rw [key, Int.add_mul_ediv_left _ _ (by omega), Int.ediv_eq_zero_of_lt (by omega) (by omega)]
        simp
      have e2 : 1 * ((n - m % n : Nat) : Int) = -1 * (m : Int) % n := by
        rw [key, Int.add_mul_emod_self_left, Int.emod_eq_of_lt (by omega) (by omega)]
        simp
      (refine acall_of tab_ok Tryz.func83 rfl (by decide) ?_; (conv => whnf); repeat (first | (refine LitB.data ?_; conv => whnf) | (refine BoxB.own ?_; conv => whnf)))
      (repeat' (first | ((refine DecB.mk (fun h => ?_) (fun h => ?_)) <;> first | (exfalso; omega) | (conv => whnf)) | ((refine BoolB.mk (fun h => ?_) (fun h => ?_)) <;> first | (exact absurd h (by decide)) | (conv => whnf)) | (refine ⟨_, wrap_ok (by omega) (by omega), ?_⟩; conv => whnf) | (refine and_idx (by omega) (by omega) ?_; conv => whnf) | (refine reg_ok (by decide +kernel) ?_; conv => whnf) | (refine bar_ok (by decide +kernel) (by decide +kernel) ?_; conv => whnf) | (refine late_ok rfl rfl ?_; conv => whnf) | (refine src_ok rfl ?_; conv => whnf) | (refine .inl ⟨_, _, qcall_pure (r1) rfl rfl, ?_⟩; conv => whnf) | (refine .inl ⟨_, _, qcall_pure (r2) rfl rfl, ?_⟩; conv => whnf) | (refine .inl ⟨_, _, qcall_pure (dv) rfl rfl, ?_⟩; conv => whnf) | (refine .inl ⟨_, _, qcall_pure (s1) rfl rfl, ?_⟩; conv => whnf) | (refine .inl ⟨_, _, qcall_pure (s2) rfl rfl, ?_⟩; conv => whnf) | (refine .inl ⟨_, _, qcall_pure (sb) rfl rfl, ?_⟩; conv => whnf) | (refine .inl ⟨_, _, qcall_data ad ⟨vs_t, vs_c (vc_t rfl), trivial⟩ rfl, ?_⟩; conv => whnf) | (refine ⟨_, wrap_eq (y := -1) rfl (by decide) (by decide), ?_⟩; conv => whnf) | (refine LitB.data ?_; conv => whnf) | (refine BoxB.own ?_; conv => whnf)))
      all_goals first | (exfalso; omega) | exact fin _ _ _ e1 e2
theorem z_bDiv (x y : Int) (hy : 0 < y) (lx : bl x ≤ 200000) (ly : bl y ≤ 200000) : ACall Tryz.prog 83 [bgS (bz x), bgS (bz y)] [] (.tup [bgS (bz (x / y)), bgS (bz (x % y)), intS .i64 0]) [] := by
  have h := r_bDiv _ _ y.natAbs (sg_bz x) (by omega) lx ly
  rw [sgm, show (y.natAbs : Int) = y by omega] at h
  unfold bz at *
  rw [Int.sign_eq_one_of_pos hy]
  exact h
end Go.Proofs.YthinjkjhiembgaaGreat
/- big: Gcd, Of, Int. -/
namespace Go.Proofs.YthinjkjhiembgaaGreat
open Go.RowKit
set_option linter.unusedVariables false
set_option linter.unusedSimpArgs false
set_option maxRecDepth 100000

abbrev zBox : Blk := { mode := .live, elem := 35, size := 2, rows := [[constC (.int .i64 0), constC (.slice none 0 0)]], box := true }
theorem rowsT_z : rowsT [[constC (.int .i64 0), constC (.slice none 0 0)]] := by
  intro r hr c hc
  simp at hr
  subst hr
  simp at hc
  rcases hc with rfl | rfl <;> rfl
structure GcdI (x y : Int) (X Y : Nat) : Prop where
  g : Nat.gcd X Y = Nat.gcd x.natAbs y.natAbs
  lx : (dg X).length ≤ 200000
  ly : (dg Y).length ≤ 200000
theorem z_bGcd (x y : Int) (lx : bl x ≤ 200000) (ly : bl y ≤ 200000) : ACall Tryz.prog 42 [bgS (bz x), bgS (bz y)] [] (.tup [bgS (bz (Int.gcd x y)), intS .i64 0]) [] := by
  have r1 := z_bRight x (by omega)
  have r2 := z_bRight y (by omega)
  have cl := a_Clone (bz x).dl (show bl x ≤ 1000000 by omega)
  (refine acall_of tab_ok Tryz.func42 rfl (by decide) ?_; (conv => whnf); repeat (first | (refine LitB.data ?_; conv => whnf) | (refine BoxB.own ?_; conv => whnf)))
  (repeat' (first | ((refine DecB.mk (fun h => ?_) (fun h => ?_)) <;> first | (exfalso; omega) | (conv => whnf)) | ((refine BoolB.mk (fun h => ?_) (fun h => ?_)) <;> first | (exact absurd h (by decide)) | (conv => whnf)) | (refine ⟨_, wrap_ok (by omega) (by omega), ?_⟩; conv => whnf) | (refine and_idx (by omega) (by omega) ?_; conv => whnf) | (refine reg_ok (by decide +kernel) ?_; conv => whnf) | (refine bar_ok (by decide +kernel) (by decide +kernel) ?_; conv => whnf) | (refine late_ok rfl rfl ?_; conv => whnf) | (refine src_ok rfl ?_; conv => whnf) | (refine .inl ⟨_, _, qcall_pure (r1) rfl rfl, ?_⟩; conv => whnf) | (refine .inl ⟨_, _, qcall_pure (r2) rfl rfl, ?_⟩; conv => whnf) | (refine .inl ⟨_, _, qcall_pure (cl) rfl rfl, ?_⟩; conv => whnf) | (refine LitB.data ?_; conv => whnf) | (refine BoxB.own ?_; conv => whnf)))
  all_goals first
    | (exfalso; simp_all; done)
    | skip
  refine awp_while tab_ok (σ := Nat × Nat) (fun | (X, Y) => ([S.junk, S.junk, S.junk, S.junk, S.c (C.ptr 0 0 0), S.junk, intsS (dg X), intsS (dg Y), S.junk, S.junk, S.junk, S.junk, S.junk, S.junk, S.junk, S.junk, S.junk, S.junk, S.junk, S.junk, S.junk, S.junk, S.junk, S.junk, S.junk, S.junk, S.junk, S.junk, S.junk, S.junk, S.junk, S.junk, S.junk, S.junk, S.junk, S.junk, S.junk, S.junk, S.junk, S.junk, S.junk, S.junk, S.junk, S.junk], [zBox])) (fun s => GcdI x y s.1 s.2) (fun s => s.2) (x.natAbs, y.natAbs) [some 2]
    ⟨rfl, lx, ly⟩ ⟨rfl, rfl, ⟨⟨rfl, rfl, rfl, .inl ⟨rfl, rowsT_z⟩⟩, trivial⟩, ⟨⟨rfl, rfl, rfl⟩, rfl, rfl, trivial⟩⟩ ?_
  rintro ⟨X, Y⟩ hI
  have hI : GcdI x y X Y := hI
  obtain ⟨g1, g2, g3⟩ := hI
  have l2 : ((dg Y).map intRow).length = (dg Y).length := by simp
  conv => whnf
  by_cases hY : 0 < Y
  · have hp : (dg Y).length ≠ 0 := by rw [Ne, List.length_eq_zero_iff, dg_eq_nil]; omega
    have dv := a_div X Y hY (by omega) (by omega)
    (repeat' (first | ((refine DecB.mk (fun h => ?_) (fun h => ?_)) <;> first | (exfalso; omega) | (conv => whnf)) | ((refine BoolB.mk (fun h => ?_) (fun h => ?_)) <;> first | (exact absurd h (by decide)) | (conv => whnf)) | (refine ⟨_, wrap_ok (by omega) (by omega), ?_⟩; conv => whnf) | (refine and_idx (by omega) (by omega) ?_; conv => whnf) | (refine reg_ok (by decide +kernel) ?_; conv => whnf) | (refine bar_ok (by decide +kernel) (by decide +kernel) ?_; conv => whnf) | (refine late_ok rfl rfl ?_; conv => whnf) | (refine src_ok rfl ?_; conv => whnf) | (refine .inl ⟨_, _, qcall_pure (dv) rfl rfl, ?_⟩; conv => whnf) | (refine LitB.data ?_; conv => whnf) | (refine BoxB.own ?_; conv => whnf)))
    all_goals first
      | (exfalso; omega)
      | skip
    exact ⟨[some 0], (Y, X % Y), ⟨rfl, rfl, ⟨⟨rfl, rfl, rfl, .inl ⟨rfl, rowsT_z⟩⟩, trivial⟩, ⟨⟨rfl, rfl, rfl⟩, rfl, rfl, trivial⟩⟩, ⟨by rw [← g1, Nat.gcd_comm Y, ← Nat.gcd_rec, Nat.gcd_comm], g3, Nat.le_trans (dg_len_mono (Nat.le_of_lt (Nat.mod_lt X hY))) g3⟩, Nat.mod_lt X hY⟩
  · have hY : Y = 0 := by omega
    subst hY
    have hp : (dg 0).length = 0 := rfl
    have c2 := a_Clone (dg X) (by omega)
    have s1 := a_signedD 1 X (by simp) (by omega)
    have ck := a_checked true (bz (1 * X))
    (repeat' (first | ((refine DecB.mk (fun h => ?_) (fun h => ?_)) <;> first | (exfalso; omega) | (conv => whnf)) | ((refine BoolB.mk (fun h => ?_) (fun h => ?_)) <;> first | (exact absurd h (by decide)) | (conv => whnf)) | (refine ⟨_, wrap_ok (by omega) (by omega), ?_⟩; conv => whnf) | (refine and_idx (by omega) (by omega) ?_; conv => whnf) | (refine reg_ok (by decide +kernel) ?_; conv => whnf) | (refine bar_ok (by decide +kernel) (by decide +kernel) ?_; conv => whnf) | (refine late_ok rfl rfl ?_; conv => whnf) | (refine src_ok rfl ?_; conv => whnf) | (refine .inl ⟨_, _, qcall_pure (c2) rfl rfl, ?_⟩; conv => whnf) | (refine .inl ⟨_, _, qcall_pure (s1) rfl rfl, ?_⟩; conv => whnf) | (refine .inl ⟨_, _, qcall_pure (ck) rfl rfl, ?_⟩; conv => whnf) | (refine LitB.data ?_; conv => whnf) | (refine BoxB.own ?_; conv => whnf)))
    all_goals first
      | (exfalso; omega)
      | skip
    refine fin_be ?_
    rw [Int.one_mul, show X = Int.gcd x y by rw [Int.gcd, ← g1, Nat.gcd_zero_right]]
    rfl
end Go.Proofs.YthinjkjhiembgaaGreat
/- big: Of, Int. -/
namespace Go.Proofs.YthinjkjhiembgaaGreat
open Go.RowKit
set_option linter.unusedVariables false
set_option linter.unusedSimpArgs false
set_option maxRecDepth 100000

theorem wrapu_mod {x y : Int} (h : x % 18446744073709551616 = y) : IsWrap .u64 x y := by
  unfold IsWrap
  simp only [IntKind.wrap, IntKind.bits, IntKind.signed]
  simp
  omega
theorem masku20 (a : Int) : IsBits .and .u64 a 1048575 (a % 1048576) := (and_mask_u64 (a := a) 20 (by decide)).symm
theorem shru20 (a : Int) : IsShr .u64 a 20 (a / 1048576) := by
  show a / 1048576 = a.fdiv 1048576
  exact (Int.fdiv_eq_ediv_of_nonneg _ (by decide)).symm
structure OfI (n : Int) (acc : List Int) (u : Nat) : Prop where
  eq : acc ++ dg u = dg n.natAbs
theorem OfI.len {n : Int} {acc : List Int} {u : Nat} (h : OfI n acc u) (h0 : -9223372036854775808 ≤ n) (h1 : n ≤ 9223372036854775807) : acc.length ≤ 4 := by
  have h2 : (dg n.natAbs).length ≤ 4 := dg_len_le (by simp only [pw]; omega)
  have h3 := congrArg List.length h.eq
  simp at h3
  omega
theorem OfI.step {n : Int} {acc : List Int} {u : Nat} (h : OfI n acc u) (hu : 0 < u) : OfI n (acc ++ [(u : Int) % 1048576]) (u / 1048576) := by
  refine ⟨?_⟩
  rw [← h.eq, dg_pos hu]
  simp
theorem OfI.le {n : Int} {acc : List Int} {u : Nat} (h : OfI n acc u) : u ≤ n.natAbs := by
  have h1 := congrArg val h.eq
  rw [val_append, val_dg, val_dg] at h1
  have h2 : Okd acc := fun x hx => okd_dg n.natAbs x (by rw [← h.eq]; simp [hx])
  have h3 := val_nonneg h2
  have h4 := pw_pos acc.length
  have h5 := Int.mul_le_mul_of_nonneg_right (a := 1) (b := pw acc.length) (c := (u : Int)) (by omega) (by omega)
  omega
theorem toC_app1 {xs : List Int} {x : Int} : (toC (xs.map intRow)).take xs.length ++ toC [[ti x]] = toC ((xs ++ [x]).map intRow) := toC_app (f := intRow)
theorem z_bOf (n : Int) (h0 : -9223372036854775808 ≤ n) (h1 : n ≤ 9223372036854775807) : ACall Tryz.prog 40 [intS .i64 n] [] (bgS (bz n)) [] := by
  by_cases hn : n < 0
  · (refine acall_of tab_ok Tryz.func40 rfl (by decide) ?_; (conv => whnf); repeat (first | (refine LitB.data ?_; conv => whnf) | (refine BoxB.own ?_; conv => whnf)))
    (repeat' (first | ((refine DecB.mk (fun h => ?_) (fun h => ?_)) <;> first | (exfalso; omega) | (conv => whnf)) | ((refine BoolB.mk (fun h => ?_) (fun h => ?_)) <;> first | (exact absurd h (by decide)) | (conv => whnf)) | (refine ⟨_, wrap_ok (by omega) (by omega), ?_⟩; conv => whnf) | (refine and_idx (by omega) (by omega) ?_; conv => whnf) | (refine reg_ok (by decide +kernel) ?_; conv => whnf) | (refine bar_ok (by decide +kernel) (by decide +kernel) ?_; conv => whnf) | (refine late_ok rfl rfl ?_; conv => whnf) | (refine src_ok rfl ?_; conv => whnf) | (refine ⟨_, wrapu_mod (y := n + 18446744073709551616) (by omega), ?_⟩; conv => whnf) | (refine ⟨_, wrapu_mod (y := (n.natAbs : Int)) (by omega), ?_⟩; conv => whnf) | (refine LitB.data ?_; conv => whnf) | (refine BoxB.own ?_; conv => whnf)))
    refine awp_while tab_ok (σ := List Int × Nat) (fun | (acc, u) => ([S.junk, S.junk, S.c (C.ptr 0 0 0), intS .i64 (-1), intS .u64 u, ownI 1 acc, S.junk, S.junk, S.junk, S.junk, S.junk, S.junk, S.junk, S.junk, S.junk, S.junk, S.junk, S.junk, S.junk, S.junk, S.junk, S.junk, S.junk, S.junk, S.junk], [zBox, intsB acc])) (fun s => OfI n s.1 s.2) (fun s => s.2) ([], n.natAbs) [some 0, none]
      ⟨rfl⟩ ⟨rfl, rfl, ⟨⟨rfl, rfl, rfl, .inl ⟨rfl, rowsT_z⟩⟩, ⟨rfl, rfl⟩, trivial⟩, ⟨⟨rfl, rfl, rfl⟩, rfl, ent_i (by omega), ⟨rfl, rfl, rfl⟩, trivial⟩⟩ ?_
    rintro ⟨acc, u⟩ hI
    have hI : OfI n acc u := hI
    have hl := hI.len h0 h1
    have hu := hI.le
    conv => whnf
    (repeat' (first | ((refine DecB.mk (fun h => ?_) (fun h => ?_)) <;> first | (exfalso; omega) | (conv => whnf)) | ((refine BoolB.mk (fun h => ?_) (fun h => ?_)) <;> first | (exact absurd h (by decide)) | (conv => whnf)) | (refine ⟨_, wrap_ok (by omega) (by omega), ?_⟩; conv => whnf) | (refine and_idx (by omega) (by omega) ?_; conv => whnf) | (refine reg_ok (by decide +kernel) ?_; conv => whnf) | (refine bar_ok (by decide +kernel) (by decide +kernel) ?_; conv => whnf) | (refine late_ok rfl rfl ?_; conv => whnf) | (refine src_ok rfl ?_; conv => whnf) | (refine .inl ⟨_, _, qcall_pure (toC) rfl rfl, ?_⟩; conv => whnf) | (refine .inl ⟨_, _, qcall_pure (toC) rfl rfl, ?_⟩; conv => whnf) | (refine ⟨_, masku20 _, ?_⟩; conv => whnf) | (refine ⟨by decide, _, shru20 _, ?_⟩; conv => whnf) | (refine app_ok (by simp [toC]) (by simp [toC]; omega) ?_; conv => whnf) | (refine ⟨_, wrapu_mod (by omega), ?_⟩; conv => whnf) | (refine LitB.data ?_; conv => whnf) | (refine BoxB.own ?_; conv => whnf)))
    · refine ⟨[some 0, some 2], (acc ++ [(u : Int) % 1048576], u / 1048576), ⟨rfl, rfl, ⟨⟨rfl, rfl, rfl, .inl ⟨rfl, rowsT_z⟩⟩, entB_rows rfl rfl rfl toC_app1 rfl, trivial⟩, ⟨⟨rfl, rfl, rfl⟩, rfl, ent_i (by simp), ent_own rfl (by simp [toC]), trivial⟩⟩, hI.step (by omega), by show u / 1048576 < u; omega⟩
    · have h0u : u = 0 := by omega
      subst h0u
      have e : acc = dg n.natAbs := by have := hI.eq; rw [dg_zero, List.append_nil] at this; exact this
      have sg := a_signedD (-1) n.natAbs (by omega) (by rw [← e]; omega)
      rw [← e, show (-1) * (n.natAbs : Int) = n by omega] at sg
      refine .inr ⟨_, _, acall_freeze [1] sg ⟨vs_t, vs_c (vc_all (by simp) rfl (by intro h; cases h) rfl rfl (by simp)), trivial⟩ rfl, ?_⟩
      conv => whnf
      exact fin_t ⟨rfl, rfl, trivial⟩
  · (refine acall_of tab_ok Tryz.func40 rfl (by decide) ?_; (conv => whnf); repeat (first | (refine LitB.data ?_; conv => whnf) | (refine BoxB.own ?_; conv => whnf)))
    (repeat' (first | ((refine DecB.mk (fun h => ?_) (fun h => ?_)) <;> first | (exfalso; omega) | (conv => whnf)) | ((refine BoolB.mk (fun h => ?_) (fun h => ?_)) <;> first | (exact absurd h (by decide)) | (conv => whnf)) | (refine ⟨_, wrap_ok (by omega) (by omega), ?_⟩; conv => whnf) | (refine and_idx (by omega) (by omega) ?_; conv => whnf) | (refine reg_ok (by decide +kernel) ?_; conv => whnf) | (refine bar_ok (by decide +kernel) (by decide +kernel) ?_; conv => whnf) | (refine late_ok rfl rfl ?_; conv => whnf) | (refine src_ok rfl ?_; conv => whnf) | (refine ⟨_, wrapu_mod (y := (n.natAbs : Int)) (by omega), ?_⟩; conv => whnf) | (refine LitB.data ?_; conv => whnf) | (refine BoxB.own ?_; conv => whnf)))
    refine awp_while tab_ok (σ := List Int × Nat) (fun | (acc, u) => ([S.junk, S.junk, S.c (C.ptr 0 0 0), intS .i64 1, intS .u64 u, ownI 1 acc, S.junk, S.junk, S.junk, S.junk, S.junk, S.junk, S.junk, S.junk, S.junk, S.junk, S.junk, S.junk, S.junk, S.junk, S.junk, S.junk, S.junk, S.junk, S.junk], [zBox, intsB acc])) (fun s => OfI n s.1 s.2) (fun s => s.2) ([], n.natAbs) [some 0, none]
      ⟨rfl⟩ ⟨rfl, rfl, ⟨⟨rfl, rfl, rfl, .inl ⟨rfl, rowsT_z⟩⟩, ⟨rfl, rfl⟩, trivial⟩, ⟨⟨rfl, rfl, rfl⟩, rfl, ent_i (by omega), ⟨rfl, rfl, rfl⟩, trivial⟩⟩ ?_
    rintro ⟨acc, u⟩ hI
    have hI : OfI n acc u := hI
    have hl := hI.len h0 h1
    have hu := hI.le
    conv => whnf
    (repeat' (first | ((refine DecB.mk (fun h => ?_) (fun h => ?_)) <;> first | (exfalso; omega) | (conv => whnf)) | ((refine BoolB.mk (fun h => ?_) (fun h => ?_)) <;> first | (exact absurd h (by decide)) | (conv => whnf)) | (refine ⟨_, wrap_ok (by omega) (by omega), ?_⟩; conv => whnf) | (refine and_idx (by omega) (by omega) ?_; conv => whnf) | (refine reg_ok (by decide +kernel) ?_; conv => whnf) | (refine bar_ok (by decide +kernel) (by decide +kernel) ?_; conv => whnf) | (refine late_ok rfl rfl ?_; conv => whnf) | (refine src_ok rfl ?_; conv => whnf) | (refine .inl ⟨_, _, qcall_pure (toC) rfl rfl, ?_⟩; conv => whnf) | (refine .inl ⟨_, _, qcall_pure (toC) rfl rfl, ?_⟩; conv => whnf) | (refine ⟨_, masku20 _, ?_⟩; conv => whnf) | (refine ⟨by decide, _, shru20 _, ?_⟩; conv => whnf) | (refine app_ok (by simp [toC]) (by simp [toC]; omega) ?_; conv => whnf) | (refine ⟨_, wrapu_mod (by omega), ?_⟩; conv => whnf) | (refine LitB.data ?_; conv => whnf) | (refine BoxB.own ?_; conv => whnf)))
    · refine ⟨[some 0, some 2], (acc ++ [(u : Int) % 1048576], u / 1048576), ⟨rfl, rfl, ⟨⟨rfl, rfl, rfl, .inl ⟨rfl, rowsT_z⟩⟩, entB_rows rfl rfl rfl toC_app1 rfl, trivial⟩, ⟨⟨rfl, rfl, rfl⟩, rfl, ent_i (by simp), ent_own rfl (by simp [toC]), trivial⟩⟩, hI.step (by omega), by show u / 1048576 < u; omega⟩
    · have h0u : u = 0 := by omega
      subst h0u
      have e : acc = dg n.natAbs := by have := hI.eq; rw [dg_zero, List.append_nil] at this; exact this
      have sg := a_signedD (1) n.natAbs (by omega) (by rw [← e]; omega)
      rw [← e, show (1) * (n.natAbs : Int) = n by omega] at sg
      refine .inr ⟨_, _, acall_freeze [1] sg ⟨vs_t, vs_c (vc_all (by simp) rfl (by intro h; cases h) rfl rfl (by simp)), trivial⟩ rfl, ?_⟩
      conv => whnf
      exact fin_t ⟨rfl, rfl, trivial⟩
end Go.Proofs.YthinjkjhiembgaaGreat
/- big: Int. -/
namespace Go.Proofs.YthinjkjhiembgaaGreat
open Go.RowKit
set_option linter.unusedVariables false
set_option linter.unusedSimpArgs false
set_option maxRecDepth 100000

theorem pw_two (i : Nat) : pw i = ((2 ^ (20 * i) : Nat) : Int) := by
  unfold pw; rw [show (1048576 : Int) = ((2 ^ 20 : Nat) : Int) by decide, ← Int.natCast_pow, ← Nat.pow_mul]
theorem shlu {d : Int} {i : Nat} {b : Int} (hi : i ≤ 3) (h : 0 ≤ d) (h2 : d * pw i < 18446744073709551616) (hb : b = 20 * i) : IsWrap .u64 (d * 2 ^ min b.toNat (IntKind.bits .u64)) (d * pw i) := by
  have e : min b.toNat (IntKind.bits .u64) = 20 * i := by show min b.toNat 64 = _; omega
  have hp := pw_pos i
  have h3 : 0 ≤ d * pw i := Int.mul_nonneg h (by omega)
  rw [e, show (2 : Int) ^ (20 * i) = pw i by rw [pw_two]; simp]
  exact wrapu_ok h3 h2
theorem oru {u d : Int} {i : Nat} (hu : 0 ≤ u) (hu2 : u < pw i) (h : 0 ≤ d) (h2 : u + d * pw i < 18446744073709551616) : IsBits .or .u64 u (d * pw i) (u + d * pw i) := by
  obtain ⟨U, rfl⟩ := Int.eq_ofNat_of_zero_le hu
  obtain ⟨D, rfl⟩ := Int.eq_ofNat_of_zero_le h
  have hp := pw_pos i
  have e2 : (U : Int) + D * pw i = ((U + 2 ^ (20 * i) * D : Nat) : Int) := by rw [pw_two]; simp [Int.mul_comm]
  have e3 : (D : Int) * pw i = ((2 ^ (20 * i) * D : Nat) : Int) := by rw [pw_two]; simp [Int.mul_comm]
  rw [e2] at h2
  have hU : U < 2 ^ (20 * i) := by rw [pw_two] at hu2; omega
  have k1 : (BitVec.ofInt (IntKind.bits .u64) (U : Int) ||| BitVec.ofInt (IntKind.bits .u64) ((2 ^ (20 * i) * D : Nat) : Int)).toNat = U + 2 ^ (20 * i) * D := by
    show (BitVec.ofInt 64 _ ||| BitVec.ofInt 64 _).toNat = _
    rw [BitVec.toNat_or, BitVec.toNat_ofInt, BitVec.toNat_ofInt]
    rw [Int.emod_eq_of_lt (by omega) (by omega), Int.emod_eq_of_lt (by omega) (by omega), Int.toNat_natCast, Int.toNat_natCast, Nat.or_comm, ← Nat.two_pow_add_eq_or_of_lt hU, Nat.add_comm]
  rw [e2, e3]
  unfold IsBits
  simp only
  rw [k1]
  exact (wrap_u64 (by omega) h2).symm
structure IntI (n : Nat) (k : Nat) (u : Int) : Prop where
  eq : u = val ((dg n).take k)
  le : k ≤ (dg n).length
  lt : k = 4 → u < 9 * 1152921504606846976
theorem IntI.rng {n k : Nat} {u : Int} (h : IntI n k u) : 0 ≤ u ∧ u < pw k := by
  have h1 := val_nonneg ((okd_dg n).take k)
  have h2 := val_lt ((okd_dg n).take k)
  rw [List.length_take, Nat.min_eq_left h.le, ← h.eq] at h2
  rw [← h.eq] at h1
  exact ⟨h1, h2⟩
theorem IntI.step {n k : Nat} {u : Int} (h : IntI n k u) (hk : k < (dg n).length) (hd : k = 3 → dat (dg n) k ≤ 8) : IntI n (k + 1) (u + dat (dg n) k * pw k) := by
  have hr := h.rng
  refine ⟨by rw [val_take_dat, h.eq, Int.mul_comm], hk, fun h4 => ?_⟩
  have : k = 3 := by omega
  subst this
  have := hd rfl
  simp only [pw] at hr ⊢
  omega
theorem pw_le3 {k : Nat} (h : k ≤ 3) : pw k ≤ 1152921504606846976 := by
  have := pw_mono h
  simp only [pw] at this ⊢
  omega
theorem pw_le2 {k : Nat} (h : k ≤ 2) : pw k ≤ 1099511627776 := by
  have := pw_mono h
  simp only [pw] at this ⊢
  omega
theorem fin_ib {a a' : Int} {b b' : Bool} {k : IntKind} {H1 : Hp} (h : a = a') (h2 : b = b') : Fin 0 (.tup [intS k a, boolS b]) H1 (.tup [intS k a', boolS b']) [] := by
  subst h h2; exact fin_t ⟨rfl, rfl, trivial⟩
theorem wrapi_high {x : Int} (h1 : 9223372036854775808 ≤ x) (h2 : x < 18446744073709551616) : IsWrap .i64 x (x - 18446744073709551616) := by
  unfold IsWrap
  simp only [IntKind.wrap, IntKind.bits, IntKind.signed]
  simp
  omega
abbrev fitI (x : Int) : Prop := -9223372036854775808 ≤ x ∧ x ≤ 9223372036854775807
theorem z_bInt (x : Int) (lx : bl x ≤ 200000) : ACall Tryz.prog 76 [bgS (bz x)] [] (.tup [intS .i64 (if fitI x then x else 0), boolS (decide (fitI x))]) [] := by
  have r1 := z_bRight x (by omega)
  have l1 : ((bz x).dl.map intRow).length = (dg x.natAbs).length := by simp [bz]
  have l2 : (bz x).dl = dg x.natAbs := rfl
  have hlast : ∀ k : Nat, k < (dg x.natAbs).length → pw k ≤ x.natAbs := fun k hk => Int.le_trans (pw_mono (by omega)) (dg_last (by
    rcases Nat.eq_zero_or_pos x.natAbs with h | h
    · rw [h, dg_zero] at hk; simp at hk
    · exact h))
  (refine acall_of tab_ok Tryz.func76 rfl (by decide) ?_; (conv => whnf); repeat (first | (refine LitB.data ?_; conv => whnf) | (refine BoxB.own ?_; conv => whnf)))
  (repeat' (first | ((refine DecB.mk (fun h => ?_) (fun h => ?_)) <;> first | (exfalso; omega) | (conv => whnf)) | ((refine BoolB.mk (fun h => ?_) (fun h => ?_)) <;> first | (exact absurd h (by decide)) | (conv => whnf)) | (refine ⟨_, wrap_ok (by omega) (by omega), ?_⟩; conv => whnf) | (refine and_idx (by omega) (by omega) ?_; conv => whnf) | (refine reg_ok (by decide +kernel) ?_; conv => whnf) | (refine bar_ok (by decide +kernel) (by decide +kernel) ?_; conv => whnf) | (refine late_ok rfl rfl ?_; conv => whnf) | (refine src_ok rfl ?_; conv => whnf) | (refine .inl ⟨_, _, qcall_pure (r1) rfl rfl, ?_⟩; conv => whnf) | (refine LitB.data ?_; conv => whnf) | (refine BoxB.own ?_; conv => whnf)))
  · have hl : 4 < (dg x.natAbs).length := by omega
    have := hlast 4 hl
    simp only [pw] at this
    have hn : ¬ fitI x := by unfold fitI; omega
    exact fin_ib (by rw [if_neg hn]) (by simp [hn])
  · refine awp_while tab_ok (σ := Nat × Int) (fun | (k, u) => ([S.junk, S.c (C.ptr 0 0 0), S.junk, S.junk, intS .u64 u, S.junk, S.junk, S.junk, S.junk, S.junk, S.junk, S.junk, S.junk, S.junk, S.junk, S.junk, S.junk, intsS (dg x.natAbs), intS .i64 (dg x.natAbs).length, intS .i64 k, S.junk, S.junk, S.junk, S.junk, S.junk, S.junk, S.junk, S.junk, S.junk, S.junk, S.junk, S.junk, S.junk, S.junk, S.junk, S.junk, S.junk, S.junk, S.junk, S.junk, S.junk, S.junk, S.junk, S.junk, S.junk, S.junk, S.junk, S.junk, S.junk, S.junk, S.junk, S.junk, S.junk, S.junk, S.junk, S.junk, S.junk, S.junk, S.junk], [bgB (bz x)])) (fun s => IntI x.natAbs s.1 s.2) (fun s => (dg x.natAbs).length - s.1) (0, 0) [some 0]
      ⟨by simp [val], by omega, by omega⟩ ⟨rfl, rfl, ⟨⟨rfl, rfl, rfl, .inl ⟨rfl, rowsT_bg _⟩⟩, trivial⟩, ⟨⟨rfl, rfl, rfl⟩, rfl, ent_t rfl, ent_i (by omega), rfl, trivial⟩⟩ ?_
    rintro ⟨k, u⟩ hI
    have hI : IntI x.natAbs k u := hI
    have hr := hI.rng
    have hle := hI.le
    have hd := (okd_dg x.natAbs).dat k
    have hp := pw_pos k
    have hp3 : k ≤ 3 → pw k ≤ 1152921504606846976 := pw_le3
    have hdm : 0 ≤ dat (dg x.natAbs) k * pw k := Int.mul_nonneg hd.1 (by omega)
    have l3 : ((dg x.natAbs).map intRow).length = (dg x.natAbs).length := by simp
    have hp2 : k ≤ 2 → pw k ≤ 1099511627776 := pw_le2
    have hA : k ≤ 3 → (k = 3 → dat (dg x.natAbs) k ≤ 8) → u + dat (dg x.natAbs) k * pw k < 18446744073709551616 := fun h3 h8 => by
      by_cases hk : k = 3
      · have := Int.mul_le_mul_of_nonneg_right (c := pw k) (h8 hk) (by omega)
        have := hp3 h3
        omega
      · have := Int.mul_le_mul_of_nonneg_right (c := pw k) (show dat (dg x.natAbs) k ≤ 1048575 by omega) (by omega)
        have := hp2 (by omega)
        omega
    have hE : k = (dg x.natAbs).length → u = x.natAbs := fun h => by
      have := hI.eq
      rw [h, List.take_of_length_le (Nat.le_refl _), val_dg] at this
      exact this
    have hs := sign_cases x
    have hsg : (bz x).sg = x.sign := rfl
    conv => whnf
    (repeat' (first | ((refine DecB.mk (fun h => ?_) (fun h => ?_)) <;> first | (exfalso; omega) | (conv => whnf)) | ((refine BoolB.mk (fun h => ?_) (fun h => ?_)) <;> first | (exact absurd h (by decide)) | (conv => whnf)) | (refine ⟨_, wrap_ok (by omega) (by omega), ?_⟩; conv => whnf) | (refine and_idx (by omega) (by omega) ?_; conv => whnf) | (refine reg_ok (by decide +kernel) ?_; conv => whnf) | (refine bar_ok (by decide +kernel) (by decide +kernel) ?_; conv => whnf) | (refine late_ok rfl rfl ?_; conv => whnf) | (refine src_ok rfl ?_; conv => whnf) | (refine ex_row (get_dat (by omega)) ?_; conv => whnf) | (refine ⟨_, wrapu_ok (by omega) (by omega), ?_⟩; conv => whnf) | (refine ⟨by omega, _, shlu (i := k) (by omega) (by omega) (by omega) (by omega), ?_⟩; conv => whnf) | (refine ⟨_, oru (by omega) (by omega) (by omega) (by omega), ?_⟩; conv => whnf) | (refine ⟨_, wrapu_mod (y := 18446744073709551616 - u) (by omega), ?_⟩; conv => whnf) | (refine ⟨_, wrapi_high (by omega) (by omega), ?_⟩; conv => whnf) | (refine LitB.data ?_; conv => whnf) | (refine BoxB.own ?_; conv => whnf)))
    · have hk : k = 3 := by omega
      have h8 : 9 ≤ dat (dg x.natAbs) k := by omega
      have h1 := val_take_dat (dg x.natAbs) k
      have h4 : val (dg x.natAbs) = val ((dg x.natAbs).take (k + 1)) := by rw [List.take_of_length_le (by omega)]
      rw [val_dg] at h4
      have h5 := val_nonneg ((okd_dg x.natAbs).take k)
      have h6 := Int.mul_le_mul_of_nonneg_left (a := 9) (b := dat (dg x.natAbs) k) (c := pw k) h8 (by omega)
      have h7 : pw k = 1152921504606846976 := by rw [hk]; rfl
      have hn : ¬ fitI x := by unfold fitI; omega
      exact fin_ib (by rw [if_neg hn]) (by simp [hn])
    · have hst := hI.step (by omega) (by omega)
      exact ⟨[some 0], (k + 1, u + dat (dg x.natAbs) k * pw k), ⟨rfl, rfl, ⟨⟨rfl, rfl, rfl, .inl ⟨rfl, rowsT_bg _⟩⟩, trivial⟩, ⟨⟨rfl, rfl, rfl⟩, rfl, rfl, rfl, ent_i (by omega), trivial⟩⟩, hst, by show (dg x.natAbs).length - (k + 1) < (dg x.natAbs).length - k; omega⟩
    · have hst := hI.step (by omega) (by omega)
      exact ⟨[some 0], (k + 1, u + dat (dg x.natAbs) k * pw k), ⟨rfl, rfl, ⟨⟨rfl, rfl, rfl, .inl ⟨rfl, rowsT_bg _⟩⟩, trivial⟩, ⟨⟨rfl, rfl, rfl⟩, rfl, rfl, rfl, ent_i (by omega), trivial⟩⟩, hst, by show (dg x.natAbs).length - (k + 1) < (dg x.natAbs).length - k; omega⟩
    all_goals
      have hu := hE (by omega)
      first
        | (have hn : fitI x := by unfold fitI; omega
           exact fin_ib (by rw [if_pos hn]; omega) (by simp [hn]))
        | (have hn : ¬ fitI x := by unfold fitI; omega
           exact fin_ib (by rw [if_neg hn]) (by simp [hn]))
end Go.Proofs.YthinjkjhiembgaaGreat
/- Reference of big: trim, made, digit, Right, Of. -/
namespace Go.Proofs.YthinjkjhiembgaaGreat
open Go.RowKit
set_option linter.unusedVariables false
set_option linter.unusedSimpArgs false
set_option maxRecDepth 100000

theorem r_trim (l : List Int) (hl : l.length ≤ 1000000) : ACall Tryz.prog 108 [intsS l] [] (intsS (trimL l)) [] := by
  have l2 : (l.map intRow).length = l.length := by simp
  (refine acall_of tab_ok Tryz.func108 rfl (by decide) ?_; (conv => whnf); repeat (first | (refine LitB.data ?_; conv => whnf) | (refine BoxB.own ?_; conv => whnf)))
  (repeat' (first | ((refine DecB.mk (fun h => ?_) (fun h => ?_)) <;> first | (exfalso; omega) | (conv => whnf)) | ((refine BoolB.mk (fun h => ?_) (fun h => ?_)) <;> first | (exact absurd h (by decide)) | (conv => whnf)) | (refine ⟨_, wrap_ok (by omega) (by omega), ?_⟩; conv => whnf) | (refine and_idx (by omega) (by omega) ?_; conv => whnf) | (refine reg_ok (by decide +kernel) ?_; conv => whnf) | (refine bar_ok (by decide +kernel) (by decide +kernel) ?_; conv => whnf) | (refine late_ok rfl rfl ?_; conv => whnf) | (refine src_ok rfl ?_; conv => whnf) | (refine LitB.data ?_; conv => whnf) | (refine BoxB.own ?_; conv => whnf)))
  refine awp_while tab_ok (σ := Nat) (fun n => ([intsS l, S.junk, S.junk, intS .i64 n, S.junk, S.junk, S.junk, S.junk, S.junk, S.junk, S.junk, S.junk, S.junk, S.junk, S.junk, S.junk, S.junk, S.junk, S.junk, S.junk, S.junk, S.junk, S.junk], [])) (fun n => n ≤ l.length ∧ ∀ j x, n ≤ j → l[j]? = some x → x = 0) (fun n => n) l.length []
    ⟨Nat.le_refl _, fun j x hj hx => by rw [List.getElem?_eq_none hj] at hx; cases hx⟩ ⟨rfl, rfl, trivial, ⟨ent_t rfl, ent_i (by simp), trivial⟩⟩ ?_
  rintro n ⟨hn, hz⟩
  have hn : n ≤ l.length := hn
  conv => whnf
  (repeat' (first | ((refine DecB.mk (fun h => ?_) (fun h => ?_)) <;> first | (exfalso; omega) | (conv => whnf)) | ((refine BoolB.mk (fun h => ?_) (fun h => ?_)) <;> first | (exact absurd h (by decide)) | (conv => whnf)) | (refine ⟨_, wrap_ok (by omega) (by omega), ?_⟩; conv => whnf) | (refine and_idx (by omega) (by omega) ?_; conv => whnf) | (refine reg_ok (by decide +kernel) ?_; conv => whnf) | (refine bar_ok (by decide +kernel) (by decide +kernel) ?_; conv => whnf) | (refine late_ok rfl rfl ?_; conv => whnf) | (refine src_ok rfl ?_; conv => whnf) | (refine .inl ⟨_, _, qcall_pure (toC) rfl rfl, ?_⟩; conv => whnf) | (refine .inl ⟨_, _, qcall_pure (toC) rfl rfl, ?_⟩; conv => whnf) | (refine LitB.own ?_; conv => whnf) | (refine ex_rowI (by omega) (get_pred (by omega) hn) ?_; conv => whnf) | (refine sl_ok (by omega) (by omega) (by omega) ?_; conv => whnf) | (refine app_ok (by simp [toC]) (by simp [toC]; omega) ?_; conv => whnf) | (refine LitB.data ?_; conv => whnf) | (refine BoxB.own ?_; conv => whnf)))
  · have h0 : dat l (n - 1) = 0 := by assumption
    have h1 : 0 < n := by omega
    refine ⟨[], n - 1, ⟨rfl, rfl, trivial, ⟨rfl, ent_i (by omega), trivial⟩⟩, ⟨by omega, fun j x hj hxj => ?_⟩, by show n - 1 < n; omega⟩
    by_cases hj2 : j = n - 1
    · subst hj2; rw [get_dat (by omega)] at hxj; injection hxj with hx; rw [← hx]; exact h0
    · exact hz j x (by omega) hxj
  all_goals
    have e : l.take n = trimL l := trimL_take hz (fun x h0 hx => by
      first
        | (exfalso; omega)
        | (rw [get_dat (by omega)] at hx; injection hx with hx; rw [← hx]; assumption)) hn
    rw [← e]
    refine fin_own rfl (by intro h; cases h) rfl ?_ ?_
    · simp [toC, newBlk, List.map_take]
    · simp [toC]
theorem r_made (s : Int) (l : List Int) (hl : l.length ≤ 1000000) : ACall Tryz.prog 85 [intS .i64 s, intsS l] [] (bgS (sgn s l)) [] := by
  (refine acall_of tab_ok Tryz.func85 rfl (by decide) ?_; (conv => whnf); repeat (first | (refine LitB.data ?_; conv => whnf) | (refine BoxB.own ?_; conv => whnf)))
  (repeat' (first | ((refine DecB.mk (fun h => ?_) (fun h => ?_)) <;> first | (exfalso; omega) | (conv => whnf)) | ((refine BoolB.mk (fun h => ?_) (fun h => ?_)) <;> first | (exact absurd h (by decide)) | (conv => whnf)) | (refine ⟨_, wrap_ok (by omega) (by omega), ?_⟩; conv => whnf) | (refine and_idx (by omega) (by omega) ?_; conv => whnf) | (refine reg_ok (by decide +kernel) ?_; conv => whnf) | (refine bar_ok (by decide +kernel) (by decide +kernel) ?_; conv => whnf) | (refine late_ok rfl rfl ?_; conv => whnf) | (refine src_ok rfl ?_; conv => whnf) | (refine .inl ⟨_, _, qcall_pure (r_trim l hl) rfl rfl, ?_⟩; conv => whnf) | (refine LitB.data ?_; conv => whnf) | (refine BoxB.own ?_; conv => whnf)))
  · have h0 : (trimL l).length = 0 := by simp at *; assumption
    unfold sgn
    rw [if_pos h0]
    exact fin_t ⟨rfl, rfl, trivial⟩
  · have h0 : ¬ (trimL l).length = 0 := by simp at *; assumption
    unfold sgn
    rw [if_neg h0]
    exact fin_t ⟨rfl, rfl, trivial⟩
theorem r_madeD (s : Int) (k : Nat) (h : s = 1 ∨ s = -1 ∨ k = 0) (lk : (dg k).length ≤ 700000) :
    ACall Tryz.prog 85 [intS .i64 s, intsS (dg k)] [] (bgS (bz (s * k))) [] := by
  have e := r_made s (dg k) (by omega)
  rw [sgn_bz (okd_dg k) (by rw [val_dg]; omega), val_dg] at e
  exact e
theorem r_digit (l : List Int) (i : Nat) (hl : l.length ≤ 1000000) : ACall Tryz.prog 111 [intsS l, intS .i64 i] [] (intS .i64 (dat l i)) [] := by
  have l2 : (l.map intRow).length = l.length := by simp
  (refine acall_of tab_ok Tryz.func111 rfl (by decide) ?_; (conv => whnf); repeat (first | (refine LitB.data ?_; conv => whnf) | (refine BoxB.own ?_; conv => whnf)))
  (repeat' (first | ((refine DecB.mk (fun h => ?_) (fun h => ?_)) <;> first | (exfalso; omega) | (conv => whnf)) | ((refine BoolB.mk (fun h => ?_) (fun h => ?_)) <;> first | (exact absurd h (by decide)) | (conv => whnf)) | (refine ⟨_, wrap_ok (by omega) (by omega), ?_⟩; conv => whnf) | (refine and_idx (by omega) (by omega) ?_; conv => whnf) | (refine reg_ok (by decide +kernel) ?_; conv => whnf) | (refine bar_ok (by decide +kernel) (by decide +kernel) ?_; conv => whnf) | (refine late_ok rfl rfl ?_; conv => whnf) | (refine src_ok rfl ?_; conv => whnf) | (refine ex_row (get_dat (by omega)) ?_; conv => whnf) | (refine LitB.data ?_; conv => whnf) | (refine BoxB.own ?_; conv => whnf)))
  all_goals first
    | exact fin_int rfl
    | exact fin_int (dat_none (by omega)).symm
end Go.Proofs.YthinjkjhiembgaaGreat
/- Digits, for the reference of big: less, minus, times, over. No program is in sight. -/
namespace Go.Proofs.YthinjkjhiembgaaGreat
set_option linter.unusedVariables false
set_option linter.unusedSimpArgs false

theorem drop_dat' (l : List Int) (i : Nat) : val (l.drop i) = dat l i + 1048576 * val (l.drop (i + 1)) := by
  by_cases h : i < l.length
  · exact drop_dat h
  · rw [List.drop_of_length_le (by omega), List.drop_of_length_le (by omega), dat_none (by omega)]; rfl
theorem val_split' (l : List Int) (i : Nat) : val l = val (l.take i) + pw i * val (l.drop i) := by
  by_cases h : i ≤ l.length
  · exact val_split l i h
  · rw [List.drop_of_length_le (by omega), List.take_of_length_le (by omega)]; simp [val]
theorem val_take_rng {l : List Int} (h : Okd l) (i : Nat) : 0 ≤ val (l.take i) ∧ val (l.take i) < pw i := by
  refine ⟨val_nonneg (h.take i), ?_⟩
  have h1 := val_lt (h.take i)
  have h2 := pw_mono (i := (l.take i).length) (j := i) (by simp; omega)
  omega
theorem less_top {a b : List Int} (ha : Okd a) (hb : Okd b) {i : Nat} (h : val (a.drop (i + 1)) = val (b.drop (i + 1))) (hd : dat a i < dat b i) : val a < val b := by
  rw [val_split' a i, val_split' b i, drop_dat' a i, drop_dat' b i, h]
  have h1 := val_take_rng ha i
  have h2 := val_take_rng hb i
  have hp := pw_pos i
  have h3 := Int.mul_le_mul_of_nonneg_left (a := dat a i + 1048576 * val (b.drop (i + 1)) + 1) (b := dat b i + 1048576 * val (b.drop (i + 1))) (c := pw i) (by omega) (by omega)
  rw [Int.mul_add _ _ (1 : Int)] at h3
  omega
theorem drop_zero_val (l : List Int) : val (l.drop 0) = val l := by rw [List.drop_zero]
/-- the difference, digit by digit, appended -/
structure MinI (a b : List Int) (i : Nat) (out : List Int) (c : Int) : Prop where
  len : out.length = i
  ok : Okd out
  le : i ≤ a.length
  c0 : 0 ≤ c
  c1 : c ≤ 1
  eq : val out - pw i * c = val (a.take i) - val (b.take i)
theorem MinI.init (a b : List Int) : MinI a b 0 [] 0 := ⟨rfl, .nil, Nat.zero_le _, by decide, by decide, by simp [val]⟩
theorem MinI.step {a b out : List Int} {i : Nat} {c n c' : Int} (h : MinI a b i out c) (ha : Okd a) (hb : Okd b) (hi : i < a.length) (hn : n = dat a i - dat b i - c + 1048576 * c') (h0 : 0 ≤ n ∧ n < 1048576) (hc : 0 ≤ c' ∧ c' ≤ 1) :
    MinI a b (i + 1) (out ++ [n]) c' := by
  refine ⟨by simp [h.len], h.ok.append (Okd.cons h0 .nil), hi, hc.1, hc.2, ?_⟩
  rw [val_append, h.len, val_take_dat, val_take_dat, pw_succ]
  have := h.eq
  simp only [val]
  rw [hn]
  grind
theorem MinI.fin {a b out : List Int} {c : Int} (h : MinI a b a.length out c) (ha : Okd a) (hb : Okd b) (hl : b.length ≤ a.length) (hv : val b ≤ val a) : trimL out = dg (val a - val b).toNat := by
  have h1 := h.eq
  rw [List.take_of_length_le (Nat.le_refl _), List.take_of_length_le hl] at h1
  have h2 := val_lt h.ok
  rw [h.len] at h2
  have hc : c = 0 := by
    have := h.c0
    have := h.c1
    rcases Int.lt_or_le 0 c with h3 | h3
    · have : c = 1 := by omega
      subst this
      omega
    · omega
  subst hc
  rw [trimL_dg h.ok]
  congr 2
  simp at h1
  exact h1
/-- the reference's product, its inner loop -/
structure TimK (a b : List Int) (i k : Nat) (out : List Int) (c : Int) : Prop where
  out : (MulK a b i k out c ∧ k ≤ b.length) ∨ (k = b.length + 1 ∧ c = 0 ∧ MulI a b (i + 1) out)
theorem set_dat {l : List Int} {i : Nat} : l.set i (dat l i) = l := by
  by_cases h : i < l.length
  · apply List.ext_getElem?
    intro j
    by_cases hj : i = j
    · subst hj; rw [List.getElem?_set_self h]; unfold dat; rw [List.getD_eq_getElem?_getD, List.getElem?_eq_getElem h]; rfl
    · rw [List.getElem?_set_ne hj]
  · rw [List.set_eq_of_length_le (by omega)]
theorem TimK.exit {a b out : List Int} {i k : Nat} {c : Int} (h : TimK a b i k out c) (ha : Okd a) (hb : Okd b) (hi : i < a.length) (hk : b.length ≤ k) (hc : c ≤ 0) : MulI a b (i + 1) out := by
  rcases h.out with ⟨h1, h2⟩ | ⟨h1, h2, h3⟩
  · have hk : k = b.length := by omega
    subst hk
    have hc : c = 0 := by have := h1.c0; omega
    subst hc
    have := h1.done ha hb hi
    rw [Int.add_zero, set_dat] at this
    exact this
  · exact h3
theorem over_val {r d : Nat} {x : Int} (hx : 0 ≤ x ∧ x < 1048576) : trimL (x :: dg r) = dg (r * 1048576 + x.toNat) := by
  rw [trimL_dg (Okd.cons hx (okd_dg r))]
  congr 1
  simp only [val, val_dg]
  omega
end Go.Proofs.YthinjkjhiembgaaGreat
/- Reference of big: less, minus, times. -/
namespace Go.Proofs.YthinjkjhiembgaaGreat
open Go.RowKit
set_option linter.unusedVariables false
set_option linter.unusedSimpArgs false
set_option maxRecDepth 100000

theorem r_less (a b : List Int) (ha : Okd a) (hb : Okd b) (la : a.length ≤ 1000000) (lb : b.length ≤ 1000000) : ACall Tryz.prog 87 [intsS a, intsS b] [] (boolS (decide (val a < val b))) [] := by
  have l1 : (a.map intRow).length = a.length := by simp
  have l2 : (b.map intRow).length = b.length := by simp
  (refine acall_of tab_ok Tryz.func87 rfl (by decide) ?_; (conv => whnf); repeat (first | (refine LitB.data ?_; conv => whnf) | (refine BoxB.own ?_; conv => whnf)))
  (repeat' (first | ((refine DecB.mk (fun h => ?_) (fun h => ?_)) <;> first | (exfalso; omega) | (conv => whnf)) | ((refine BoolB.mk (fun h => ?_) (fun h => ?_)) <;> first | (exact absurd h (by decide)) | (conv => whnf)) | (refine ⟨_, wrap_ok (by omega) (by omega), ?_⟩; conv => whnf) | (refine and_idx (by omega) (by omega) ?_; conv => whnf) | (refine reg_ok (by decide +kernel) ?_; conv => whnf) | (refine bar_ok (by decide +kernel) (by decide +kernel) ?_; conv => whnf) | (refine late_ok rfl rfl ?_; conv => whnf) | (refine src_ok rfl ?_; conv => whnf) | (refine .inl ⟨_, _, qcall_pure (cond) rfl rfl, ?_⟩; conv => whnf) | (refine ⟨_, wrap_eq (y := ((max a.length b.length : Nat) : Int) - 1) (by simp only [cond]; split <;> omega) (by omega) (by omega), ?_⟩; conv => whnf) | (refine LitB.data ?_; conv => whnf) | (refine BoxB.own ?_; conv => whnf)))
  refine awp_while tab_ok (σ := Nat) (fun k => ([intsS a, intsS b, S.junk, S.junk, S.junk, intS .i64 ((k : Int) - 1), S.junk, S.junk, S.junk, S.junk, S.junk, S.junk, S.junk, S.junk, S.junk, S.junk, S.junk, S.junk, S.junk, S.junk, S.junk, S.junk, S.junk, S.junk, S.junk, S.junk, S.junk, S.junk, S.junk, S.junk], [])) (fun k => k ≤ 1000000 ∧ val (a.drop k) = val (b.drop k)) (fun k => k) (max a.length b.length) []
    ⟨by omega, by rw [List.drop_of_length_le (by omega), List.drop_of_length_le (by omega)]⟩ ⟨rfl, rfl, trivial, ⟨ent_t rfl, ent_t rfl, rfl, trivial⟩⟩ ?_
  rintro k ⟨hk, hd⟩
  have hk : k ≤ 1000000 := hk
  have hd : val (a.drop k) = val (b.drop k) := hd
  by_cases h0 : 0 < k
  · obtain ⟨i, rfl⟩ : ∃ i, k = i + 1 := ⟨k - 1, by omega⟩
    have d1 := r_digit a i la
    have d2 := r_digit b i lb
    have ei : (((i + 1 : Nat) : Int) - 1) = i := by omega
    rw [ei]
    conv => whnf
    (repeat' (first | ((refine DecB.mk (fun h => ?_) (fun h => ?_)) <;> first | (exfalso; omega) | (conv => whnf)) | ((refine BoolB.mk (fun h => ?_) (fun h => ?_)) <;> first | (exact absurd h (by decide)) | (conv => whnf)) | (refine ⟨_, wrap_ok (by omega) (by omega), ?_⟩; conv => whnf) | (refine and_idx (by omega) (by omega) ?_; conv => whnf) | (refine reg_ok (by decide +kernel) ?_; conv => whnf) | (refine bar_ok (by decide +kernel) (by decide +kernel) ?_; conv => whnf) | (refine late_ok rfl rfl ?_; conv => whnf) | (refine src_ok rfl ?_; conv => whnf) | (refine .inl ⟨_, _, qcall_pure (d1) rfl rfl, ?_⟩; conv => whnf) | (refine .inl ⟨_, _, qcall_pure (d2) rfl rfl, ?_⟩; conv => whnf) | (refine LitB.data ?_; conv => whnf) | (refine BoxB.own ?_; conv => whnf)))
    · have h := less_top ha hb hd (by assumption)
      exact fin_bool (by simp [h])
    · have h := less_top hb ha hd.symm (by omega)
      exact fin_bool (by simp; omega)
    · have he : dat a i = dat b i := by omega
      refine ⟨[], i, ⟨rfl, rfl, trivial, ⟨rfl, rfl, rfl, trivial⟩⟩, ⟨by omega, ?_⟩, by show i < i + 1; omega⟩
      rw [drop_dat' a i, drop_dat' b i, he, hd]
  · obtain rfl : k = 0 := by omega
    rw [drop_zero_val, drop_zero_val] at hd
    conv => whnf
    (repeat' (first | ((refine DecB.mk (fun h => ?_) (fun h => ?_)) <;> first | (exfalso; omega) | (conv => whnf)) | ((refine BoolB.mk (fun h => ?_) (fun h => ?_)) <;> first | (exact absurd h (by decide)) | (conv => whnf)) | (refine ⟨_, wrap_ok (by omega) (by omega), ?_⟩; conv => whnf) | (refine and_idx (by omega) (by omega) ?_; conv => whnf) | (refine reg_ok (by decide +kernel) ?_; conv => whnf) | (refine bar_ok (by decide +kernel) (by decide +kernel) ?_; conv => whnf) | (refine late_ok rfl rfl ?_; conv => whnf) | (refine src_ok rfl ?_; conv => whnf) | (refine LitB.data ?_; conv => whnf) | (refine BoxB.own ?_; conv => whnf)))
    all_goals first
      | (exfalso; omega)
      | exact fin_bool (by simp; omega)
theorem r_minus (a b : List Int) (ha : Okd a) (hb : Okd b) (la : a.length ≤ 400000) (lb : b.length ≤ a.length) (hv : val b ≤ val a) :
    ACall Tryz.prog 110 [intsS a, intsS b] [] (intsS (dg (val a - val b).toNat)) [] := by
  have l1 : (a.map intRow).length = a.length := by simp
  have l2 : (b.map intRow).length = b.length := by simp
  (refine acall_of tab_ok Tryz.func110 rfl (by decide) ?_; (conv => whnf); repeat (first | (refine LitB.data ?_; conv => whnf) | (refine BoxB.own ?_; conv => whnf)))
  (repeat' (first | ((refine DecB.mk (fun h => ?_) (fun h => ?_)) <;> first | (exfalso; omega) | (conv => whnf)) | ((refine BoolB.mk (fun h => ?_) (fun h => ?_)) <;> first | (exact absurd h (by decide)) | (conv => whnf)) | (refine ⟨_, wrap_ok (by omega) (by omega), ?_⟩; conv => whnf) | (refine and_idx (by omega) (by omega) ?_; conv => whnf) | (refine reg_ok (by decide +kernel) ?_; conv => whnf) | (refine bar_ok (by decide +kernel) (by decide +kernel) ?_; conv => whnf) | (refine late_ok rfl rfl ?_; conv => whnf) | (refine src_ok rfl ?_; conv => whnf) | (refine LitB.data ?_; conv => whnf) | (refine BoxB.own ?_; conv => whnf)))
  refine awp_while tab_ok (σ := Nat × List Int × Int) (fun | (k, out, c) => ([intsS a, intsS b, S.junk, S.junk, S.junk, ownI 0 out, intS .i64 c, intS .i64 k, S.junk, S.junk, S.junk, S.junk, S.junk, S.junk, S.junk, S.junk, S.junk, S.junk, S.junk, S.junk, S.junk, S.junk, S.junk, S.junk, S.junk, S.junk, S.junk, S.junk, S.junk, S.junk, S.junk, S.junk, S.junk, S.junk, S.junk], [intsB out])) (fun x => MinI a b x.1 x.2.1 x.2.2) (fun x => a.length - x.1) (0, [], 0) [none]
    (MinI.init a b) ⟨rfl, rfl, ⟨⟨rfl, rfl⟩, trivial⟩, ⟨ent_t rfl, ent_t rfl, ⟨rfl, rfl, rfl⟩, rfl, rfl, trivial⟩⟩ ?_
  rintro ⟨k, out, c⟩ hI
  have hI : MinI a b k out c := hI
  have hlen := hI.len
  have hle := hI.le
  have hc0 := hI.c0
  have hc1 := hI.c1
  have hda := ha.dat k
  have hdb := hb.dat k
  have d2 := r_digit b k (by omega)
  conv => whnf
  (repeat' (first | ((refine DecB.mk (fun h => ?_) (fun h => ?_)) <;> first | (exfalso; omega) | (conv => whnf)) | ((refine BoolB.mk (fun h => ?_) (fun h => ?_)) <;> first | (exact absurd h (by decide)) | (conv => whnf)) | (refine ⟨_, wrap_ok (by omega) (by omega), ?_⟩; conv => whnf) | (refine and_idx (by omega) (by omega) ?_; conv => whnf) | (refine reg_ok (by decide +kernel) ?_; conv => whnf) | (refine bar_ok (by decide +kernel) (by decide +kernel) ?_; conv => whnf) | (refine late_ok rfl rfl ?_; conv => whnf) | (refine src_ok rfl ?_; conv => whnf) | (refine .inl ⟨_, _, qcall_pure (d2) rfl rfl, ?_⟩; conv => whnf) | (refine .inl ⟨_, _, qcall_pure (toC) rfl rfl, ?_⟩; conv => whnf) | (refine .inl ⟨_, _, qcall_pure (toC) rfl rfl, ?_⟩; conv => whnf) | (refine ex_row (get_dat (by omega)) ?_; conv => whnf) | (refine app_ok (by simp [toC]) (by simp [toC]; omega) ?_; conv => whnf) | (refine LitB.data ?_; conv => whnf) | (refine BoxB.own ?_; conv => whnf)))
  · have hst := hI.step ha hb (n := dat a k - dat b k - c + 1048576) (c' := 1) (by omega) (by omega) (by omega) (by omega)
    refine ⟨[some 1], (k + 1, out ++ [dat a k - dat b k - c + 1048576], 1), ⟨rfl, rfl, ⟨entB_rows rfl rfl rfl toC_app1 rfl, trivial⟩, ⟨rfl, rfl, ent_own rfl (by simp [toC]), rfl, ent_i (by omega), trivial⟩⟩, hst, ?_⟩
    show a.length - (k + 1) < a.length - k
    omega
  · have hst := hI.step ha hb (n := dat a k - dat b k - c) (c' := 0) (by omega) (by omega) (by omega) (by omega)
    refine ⟨[some 1], (k + 1, out ++ [dat a k - dat b k - c], 0), ⟨rfl, rfl, ⟨entB_rows rfl rfl rfl toC_app1 rfl, trivial⟩, ⟨rfl, rfl, ent_own rfl (by simp [toC]), rfl, ent_i (by omega), trivial⟩⟩, hst, ?_⟩
    show a.length - (k + 1) < a.length - k
    omega
  · have hk : k = a.length := by omega
    subst hk
    have hf := hI.fin ha hb lb hv
    have t := r_trim out (by omega)
    rw [hf] at t
    refine .inr ⟨_, _, acall_freeze [0] t ⟨vs_c (vc_all (by simp) rfl (by intro h; cases h) rfl rfl (by simp)), trivial⟩ rfl, ?_⟩
    conv => whnf
    exact fin_d rfl
end Go.Proofs.YthinjkjhiembgaaGreat
/- Reference of big: times. -/
namespace Go.Proofs.YthinjkjhiembgaaGreat
open Go.RowKit
set_option linter.unusedVariables false
set_option linter.unusedSimpArgs false
set_option maxRecDepth 100000

theorem tmodB {a : Int} (h : 0 ≤ a) : a.tmod 1048576 = a % 1048576 := Int.tmod_eq_emod_of_nonneg h
set_option maxHeartbeats 1000000 in
theorem r_times (a b : List Int) (ha : Okd a) (hb : Okd b) (la : a.length ≤ 400000) (lb : b.length ≤ 400000) :
    ACall Tryz.prog 109 [intsS a, intsS b] [] (intsS (dg (val a * val b).toNat)) [] := by
  have l1 : (a.map intRow).length = a.length := by simp
  have l2 : (b.map intRow).length = b.length := by simp
  (refine acall_of tab_ok Tryz.func109 rfl (by decide) ?_; (conv => whnf); repeat (first | (refine LitB.data ?_; conv => whnf) | (refine BoxB.own ?_; conv => whnf)))
  (repeat' (first | ((refine DecB.mk (fun h => ?_) (fun h => ?_)) <;> first | (exfalso; omega) | (conv => whnf)) | ((refine BoolB.mk (fun h => ?_) (fun h => ?_)) <;> first | (exact absurd h (by decide)) | (conv => whnf)) | (refine ⟨_, wrap_ok (by omega) (by omega), ?_⟩; conv => whnf) | (refine and_idx (by omega) (by omega) ?_; conv => whnf) | (refine reg_ok (by decide +kernel) ?_; conv => whnf) | (refine bar_ok (by decide +kernel) (by decide +kernel) ?_; conv => whnf) | (refine late_ok rfl rfl ?_; conv => whnf) | (refine src_ok rfl ?_; conv => whnf) | (refine mk_ok (by omega) (by omega) (by omega) (by decide) ?_; conv => whnf) | (refine LitB.data ?_; conv => whnf) | (refine BoxB.own ?_; conv => whnf)))
  refine awp_while tab_ok (σ := Nat × List Int) (fun | (i, out) => ([intsS a, intsS b, S.junk, S.junk, S.junk, ownI 0 out, intS .i64 i, S.junk, S.junk, S.junk, S.junk, S.junk, S.junk, S.junk, S.junk, S.junk, S.junk, S.junk, S.junk, S.junk, S.junk, S.junk, S.junk, S.junk, S.junk, S.junk, S.junk, S.junk, S.junk, S.junk, S.junk, S.junk, S.junk, S.junk, S.junk, S.junk, S.junk, S.junk, S.junk, S.junk, S.junk, S.junk, S.junk, S.junk, S.junk, S.junk, S.junk, S.junk, S.junk, S.junk, S.junk, S.junk, S.junk, S.junk, S.junk, S.junk, S.junk, S.junk, S.junk, S.junk], [intsB out])) (fun x => MulI a b x.1 x.2) (fun x => a.length - x.1) (0, List.replicate (a.length + b.length) 0) [some 0]
    (MulI.init a b) ⟨rfl, rfl, ⟨entB_rows rfl rfl rfl ?_ rfl, trivial⟩, ⟨ent_t rfl, ent_t rfl, ent_own rfl (by simp; omega), rfl, trivial⟩⟩ ?_
  · show List.replicate _ _ = _
    rw [show ((((a.map intRow).length : Nat) : Int) + ((b.map intRow).length : Nat)).toNat = a.length + b.length by omega]
    simp [toC, intRow, constC]
  rintro ⟨i, out⟩ hI
  have hI : MulI a b i out := hI
  have hlen := hI.len
  have hle := hI.le
  conv => whnf
  (repeat' (first | ((refine DecB.mk (fun h => ?_) (fun h => ?_)) <;> first | (exfalso; omega) | (conv => whnf)) | ((refine BoolB.mk (fun h => ?_) (fun h => ?_)) <;> first | (exact absurd h (by decide)) | (conv => whnf)) | (refine ⟨_, wrap_ok (by omega) (by omega), ?_⟩; conv => whnf) | (refine and_idx (by omega) (by omega) ?_; conv => whnf) | (refine reg_ok (by decide +kernel) ?_; conv => whnf) | (refine bar_ok (by decide +kernel) (by decide +kernel) ?_; conv => whnf) | (refine late_ok rfl rfl ?_; conv => whnf) | (refine src_ok rfl ?_; conv => whnf) | (refine LitB.data ?_; conv => whnf) | (refine BoxB.own ?_; conv => whnf)))
  · have hi : i < a.length := by omega
    refine awp_while tab_ok (σ := Nat × List Int × Int) (fun | (k, out, c) => ([intsS a, intsS b, S.junk, S.junk, S.junk, ownI 0 out, intS .i64 i, intS .i64 c, intS .i64 k, S.junk, S.junk, S.junk, S.junk, S.junk, S.junk, S.junk, S.junk, S.junk, S.junk, S.junk, S.junk, S.junk, S.junk, S.junk, S.junk, S.junk, S.junk, S.junk, S.junk, S.junk, S.junk, S.junk, S.junk, S.junk, S.junk, S.junk, S.junk, S.junk, S.junk, S.junk, S.junk, S.junk, S.junk, S.junk, S.junk, S.junk, S.junk, S.junk, S.junk, S.junk, S.junk, S.junk, S.junk, S.junk, S.junk, S.junk, S.junk, S.junk, S.junk, S.junk], [intsB out])) (fun x => TimK a b i x.1 x.2.1 x.2.2) (fun x => b.length + 1 - x.1) (0, out, 0) [some 0]
      ⟨.inl ⟨hI.start, Nat.zero_le _⟩⟩ ⟨rfl, rfl, ⟨entB_rows rfl rfl rfl rfl rfl, trivial⟩, ⟨ent_t rfl, ent_t rfl, ent_own rfl rfl, rfl, rfl, rfl, trivial⟩⟩ ?_
    rintro ⟨k, out, c⟩ hT
    have hT : TimK a b i k out c := hT
    have hdb := hb.dat k
    have hda := ha.dat i
    have hm := mul_rng (ha.dat i) (hb.dat k)
    have d2 := r_digit b k (by omega)
    have e1 : ((i : Int) + k).toNat = i + k := by omega
    rcases hT.out with ⟨hK, hkb⟩ | ⟨hk1, hc, hM⟩
    · have hlen := hK.len
      have hc0 := hK.c0
      have hc1 := hK.c1
      have hdo := hK.ok.dat (i + k)
      have hz : k = b.length → dat out (i + k) = 0 ∧ dat b k = 0 := fun h => ⟨hK.zero _ (by omega), dat_none (by omega)⟩
      have hzm : k = b.length → dat a i * dat b k = 0 := fun h => by rw [(hz h).2, Int.mul_zero]
      conv => whnf
      (repeat' (first | ((refine DecB.mk (fun h => ?_) (fun h => ?_)) <;> first | (exfalso; omega) | (conv => whnf)) | ((refine BoolB.mk (fun h => ?_) (fun h => ?_)) <;> first | (exact absurd h (by decide)) | (conv => whnf)) | (refine ⟨_, wrap_ok (by omega) (by omega), ?_⟩; conv => whnf) | (refine and_idx (by omega) (by omega) ?_; conv => whnf) | (refine reg_ok (by decide +kernel) ?_; conv => whnf) | (refine bar_ok (by decide +kernel) (by decide +kernel) ?_; conv => whnf) | (refine late_ok rfl rfl ?_; conv => whnf) | (refine src_ok rfl ?_; conv => whnf) | (refine .inl ⟨_, _, qcall_pure (d2) rfl rfl, ?_⟩; conv => whnf) | (refine ex_row (get_dat (by omega)) ?_; conv => whnf) | (refine and_idx (by omega) (by show _ < ((out.length : Nat) : Int); omega) ?_; conv => whnf) | (refine ex_own (get_dat0 e1 (by omega)) ?_; conv => whnf) | (refine ⟨by decide, _, tdivq (by omega) (by omega) (by decide), ?_⟩; conv => whnf) | (refine ne_ok (by decide) ?_; conv => whnf) | (refine LitB.data ?_; conv => whnf) | (refine BoxB.own ?_; conv => whnf)))
      all_goals have hn : 0 ≤ dat out (i + k) + dat a i * dat b k + c := by omega
      · have hst := hK.step ha hb hi (by omega)
        refine ⟨[some 0], (k + 1, out.set (i + k) ((dat out (i + k) + dat a i * dat b k + c) % 1048576), (dat out (i + k) + dat a i * dat b k + c) / 1048576), ⟨rfl, rfl, ⟨entB_rows rfl rfl rfl ?_ rfl, trivial⟩, ⟨rfl, rfl, ent_own rfl (by simp), rfl, rfl, rfl, trivial⟩⟩, ⟨.inl ⟨hst, by omega⟩⟩, ?_⟩
        · rw [← tmodB hn]; exact toC_set (by omega)
        · show b.length + 1 - (k + 1) < b.length + 1 - k; omega
      · have hkb2 : k = b.length := by omega
        obtain ⟨z1, z2⟩ := hz hkb2
        have z3 := hzm hkb2
        have en : dat out (i + k) + dat a i * dat b k + c = c := by omega
        have hdone := hK
        rw [hkb2] at hdone
        have hdone := hdone.done ha hb hi
        rw [← hkb2] at hdone
        refine ⟨[some 0], (k + 1, out.set (i + k) ((dat out (i + k) + dat a i * dat b k + c) % 1048576), (dat out (i + k) + dat a i * dat b k + c) / 1048576), ⟨rfl, rfl, ⟨entB_rows rfl rfl rfl ?_ rfl, trivial⟩, ⟨rfl, rfl, ent_own rfl (by simp), rfl, rfl, rfl, trivial⟩⟩, ⟨.inr ⟨by show k + 1 = b.length + 1; omega, by show (dat out (i + k) + dat a i * dat b k + c) / 1048576 = 0; omega, ?_⟩⟩, ?_⟩
        · rw [← tmodB hn]; exact toC_set (by omega)
        · have e2 : (dat out (i + k) + dat a i * dat b k + c) % 1048576 = dat out (i + k) + c := by omega
          rw [e2]; exact hdone
        · show b.length + 1 - (k + 1) < b.length + 1 - k; omega
      · have hx := hT.exit ha hb hi (by omega) (by omega)
        exact ⟨[some 0], (i + 1, out), ⟨rfl, rfl, ⟨entB_rows rfl rfl rfl rfl rfl, trivial⟩, ⟨rfl, rfl, ent_own rfl rfl, ent_i (by omega), trivial⟩⟩, hx, by show a.length - (i + 1) < a.length - i; omega⟩
    · have hlen := hM.len
      have hx := hT.exit ha hb hi (by omega) (by omega)
      conv => whnf
      (repeat' (first | ((refine DecB.mk (fun h => ?_) (fun h => ?_)) <;> first | (exfalso; omega) | (conv => whnf)) | ((refine BoolB.mk (fun h => ?_) (fun h => ?_)) <;> first | (exact absurd h (by decide)) | (conv => whnf)) | (refine ⟨_, wrap_ok (by omega) (by omega), ?_⟩; conv => whnf) | (refine and_idx (by omega) (by omega) ?_; conv => whnf) | (refine reg_ok (by decide +kernel) ?_; conv => whnf) | (refine bar_ok (by decide +kernel) (by decide +kernel) ?_; conv => whnf) | (refine late_ok rfl rfl ?_; conv => whnf) | (refine src_ok rfl ?_; conv => whnf) | (refine LitB.data ?_; conv => whnf) | (refine BoxB.own ?_; conv => whnf)))
      all_goals first
        | (exfalso; omega)
        | exact ⟨[some 0], (i + 1, out), ⟨rfl, rfl, ⟨entB_rows rfl rfl rfl rfl rfl, trivial⟩, ⟨rfl, rfl, ent_own rfl rfl, ent_i (by omega), trivial⟩⟩, hx, by show a.length - (i + 1) < a.length - i; omega⟩
  · have hi : i = a.length := by omega
    subst hi
    have hf := hI.fin
    have t := r_trim out (by omega)
    rw [hf] at t
    refine .inr ⟨_, _, acall_freeze [0] t ⟨vs_c (vc_all (by simp) rfl (by intro h; cases h) rfl rfl (by simp)), trivial⟩ rfl, ?_⟩
    conv => whnf
    exact fin_d rfl
theorem r_timesD (m n : Nat) (lm : (dg m).length ≤ 300000) (ln : (dg n).length ≤ 300000) :
    ACall Tryz.prog 109 [intsS (dg m), intsS (dg n)] [] (intsS (dg (m * n))) [] := by
  have h := r_times (dg m) (dg n) (okd_dg m) (okd_dg n) (by omega) (by omega)
  rw [val_dg, val_dg, show ((m : Int) * n).toNat = m * n by rw [← Int.natCast_mul]; rfl] at h
  exact h
end Go.Proofs.YthinjkjhiembgaaGreat
/- Reference of big: over. -/
namespace Go.Proofs.YthinjkjhiembgaaGreat
open Go.RowKit
set_option linter.unusedVariables false
set_option linter.unusedSimpArgs false
set_option maxRecDepth 100000

set_option maxHeartbeats 1000000 in
theorem r_over (m n : Nat) (hn : 0 < n) (lm : (dg m).length ≤ 200000) (ln : (dg n).length ≤ 200000) :
    ACall Tryz.prog 84 [intsS (dg m), intsS (dg n)] [] (divS m n) [] := by
  have l1 : ((dg m).map intRow).length = (dg m).length := by simp
  have l2 : ((dg n).map intRow).length = (dg n).length := by simp
  (refine acall_of tab_ok Tryz.func84 rfl (by decide) ?_; (conv => whnf); repeat (first | (refine LitB.data ?_; conv => whnf) | (refine BoxB.own ?_; conv => whnf)))
  (repeat' (first | ((refine DecB.mk (fun h => ?_) (fun h => ?_)) <;> first | (exfalso; omega) | (conv => whnf)) | ((refine BoolB.mk (fun h => ?_) (fun h => ?_)) <;> first | (exact absurd h (by decide)) | (conv => whnf)) | (refine ⟨_, wrap_ok (by omega) (by omega), ?_⟩; conv => whnf) | (refine and_idx (by omega) (by omega) ?_; conv => whnf) | (refine reg_ok (by decide +kernel) ?_; conv => whnf) | (refine bar_ok (by decide +kernel) (by decide +kernel) ?_; conv => whnf) | (refine late_ok rfl rfl ?_; conv => whnf) | (refine src_ok rfl ?_; conv => whnf) | (refine mk_ok (by omega) (by omega) (by omega) (by decide) ?_; conv => whnf) | (refine LitB.data ?_; conv => whnf) | (refine BoxB.own ?_; conv => whnf)))
  refine awp_while tab_ok (σ := Nat × List Int × Nat) (fun | (j, q, r) => ([intsS (dg m), intsS (dg n), S.junk, S.junk, S.junk, S.junk, ownI 0 q, intsS (dg r), intS .i64 ((j : Int) - 1), S.junk, S.junk, S.junk, S.junk, S.junk, S.junk, S.junk, S.junk, S.junk, S.junk, S.junk, S.junk, S.junk, S.junk, S.junk, S.junk, S.junk, S.junk, S.junk, S.junk, S.junk, S.junk, S.junk, S.junk, S.junk, S.junk, S.junk, S.junk, S.junk, S.junk, S.junk, S.junk, S.junk, S.junk, S.junk, S.junk, S.junk, S.junk, S.junk, S.junk, S.junk, S.junk, S.junk, S.junk, S.junk, S.junk, S.junk, S.junk, S.junk, S.junk, S.junk], [intsB q])) (fun x => ShortI (dg m) n x.1 x.2.1 x.2.2) (fun x => x.1) ((dg m).length, List.replicate (dg m).length 0, 0) [some 0]
    (ShortI.init _ (by omega)) ⟨rfl, rfl, ⟨entB_rows rfl rfl rfl ?_ rfl, trivial⟩, ⟨ent_t rfl, ent_t rfl, ent_own rfl (by simp), rfl, ent_i (by omega), trivial⟩⟩ ?_
  · show List.replicate _ _ = _
    simp [toC, intRow, constC]
  rintro ⟨j, q, r⟩ hI
  have hI : ShortI (dg m) n j q r := hI
  have hlen := hI.len
  have hle := hI.le
  have hr1 := hI.r1
  by_cases hj : 0 < j
  · obtain ⟨i, rfl⟩ : ∃ i, j = i + 1 := ⟨j - 1, by omega⟩
    have ei : (((i + 1 : Nat) : Int) - 1) = i := by omega
    have hda := (okd_dg m).dat i
    obtain ⟨y, hy⟩ := Int.eq_ofNat_of_zero_le hda.1
    have lr := dg_len_mono (show r ≤ n by omega)
    have lm2 : i < (dg m).length := by omega
    generalize hR : r * 1048576 + y = R
    have hRn : R < n * 1048576 := by
      have := Nat.mul_le_mul_right 1048576 (show r + 1 ≤ n by omega)
      rw [Nat.add_mul] at this
      omega
    have lR : (dg R).length ≤ (dg n).length + 1 := dg_len_le (by
      have h1 := dg_lt_pw n
      rw [pw_succ]
      have h2 := Int.mul_le_mul_of_nonneg_right (a := (n : Int) + 1) (b := pw (dg n).length) (c := 1048576) (by omega) (by decide)
      omega)
    have tr := r_trim (dat (dg m) i :: dg r) (by simp; omega)
    rw [over_val (d := n) hda, hy, Int.toNat_natCast, hR] at tr
    conv => whnf
    (repeat' (first | ((refine DecB.mk (fun h => ?_) (fun h => ?_)) <;> first | (exfalso; omega) | (conv => whnf)) | ((refine BoolB.mk (fun h => ?_) (fun h => ?_)) <;> first | (exact absurd h (by decide)) | (conv => whnf)) | (refine ⟨_, wrap_ok (by omega) (by omega), ?_⟩; conv => whnf) | (refine and_idx (by omega) (by omega) ?_; conv => whnf) | (refine reg_ok (by decide +kernel) ?_; conv => whnf) | (refine bar_ok (by decide +kernel) (by decide +kernel) ?_; conv => whnf) | (refine late_ok rfl rfl ?_; conv => whnf) | (refine src_ok rfl ?_; conv => whnf) | (refine .inl ⟨_, _, qcall_pure (toC, newBlk) rfl rfl, ?_⟩; conv => whnf) | (refine .inl ⟨_, _, qcall_pure (toC) rfl rfl, ?_⟩; conv => whnf) | (refine .inl ⟨_, _, qcall_pure (2) rfl rfl, ?_⟩; conv => whnf) | (refine .inl ⟨_, _, qcall_pure (toC, newBlk, intRow, hy) rfl rfl, ?_⟩; conv => whnf) | (refine .inl ⟨_, _, qcall_pure (toC, Nat.add_comm) rfl rfl, ?_⟩; conv => whnf) | (refine LitB.own ?_; conv => whnf) | (refine ex_rowE ei (get_dat (by omega)) ?_; conv => whnf) | (refine app_ok (by simp [toC, newBlk]) (by simp [toC]; omega) ?_; conv => whnf) | (refine .inr ⟨_, _, acall_freeze [2] tr ⟨vs_c (vc_all (by simp) rfl (by intro h; cases h) rfl (by simp [toC, newBlk, intRow, hy]) (by simp [toC, Nat.add_comm])), trivial⟩ rfl, ?_⟩; conv => whnf) | (refine LitB.data ?_; conv => whnf) | (refine BoxB.own ?_; conv => whnf)))
    refine awp_while tab_ok (σ := Nat × Nat) (fun | (lo, hi) => ([intsS (dg m), intsS (dg n), S.junk, S.junk, S.junk, S.junk, ownI 0 q, intsS (dg R), intS .i64 i, intS .i64 lo, intS .i64 hi, S.junk, S.junk, S.junk, S.junk, S.junk, S.junk, S.junk, S.junk, S.junk, S.junk, S.junk, S.junk, S.junk, S.junk, S.junk, S.junk, S.junk, S.junk, S.junk, S.junk, S.junk, S.junk, S.junk, S.junk, S.junk, S.junk, S.junk, S.junk, S.junk, S.junk, S.junk, S.junk, S.junk, S.junk, S.junk, S.junk, S.junk, S.junk, S.junk, S.junk, S.junk, S.junk, S.junk, S.junk, S.junk, S.junk, S.junk, S.junk, S.junk], [intsB q])) (fun x => x.1 * n ≤ R ∧ R < x.2 * n ∧ x.1 < x.2 ∧ x.2 ≤ 1048576) (fun x => x.2 - x.1) (0, 1048576) [some 0]
      ⟨by simp, by show R < 1048576 * n; rw [Nat.mul_comm]; exact hRn, by decide, by decide⟩ ⟨rfl, rfl, ⟨entB_rows rfl rfl rfl rfl rfl, trivial⟩, ⟨rfl, rfl, ent_own rfl rfl, rfl, ent_i ei, rfl, rfl, trivial⟩⟩ ?_
    rintro ⟨lo, hi⟩ ⟨i1, i2, i3, i4⟩
    have i1 : lo * n ≤ R := i1
    have i2 : R < hi * n := i2
    have i3 : lo < hi := i3
    have i4 : hi ≤ 1048576 := i4
    have ln1 : (dg n).length ≤ 200000 := ln
    by_cases hc : 1 < hi - lo
    · have hmid : (((lo : Int) + hi) / 2) = (((lo + hi) / 2 : Nat) : Int) := by omega
      generalize hM : (lo + hi) / 2 = mid at hmid
      have tm := r_times (dg n) [(mid : Int)] (okd_dg n) (by intro x hx; simp at hx; omega) (by omega) (by simp)
      have e0 : val [(mid : Int)] = mid := by simp [val]
      rw [e0, val_dg, show ((n : Int) * mid).toNat = n * mid by rw [← Int.natCast_mul]; rfl] at tm
      have lnm : (dg (n * mid)).length ≤ (dg n).length + 1 := Nat.le_trans (dg_mul_len _ _) (by have := bl_small (x := (mid : Int)) (by omega) (by omega); simp only [bl, Int.natAbs_natCast] at this; omega)
      have ls := r_less (dg R) (dg (n * mid)) (okd_dg _) (okd_dg _) (by omega) (by omega)
      rw [val_dg, val_dg] at ls
      conv => whnf
      (repeat' (first | ((refine DecB.mk (fun h => ?_) (fun h => ?_)) <;> first | (exfalso; omega) | (conv => whnf)) | ((refine BoolB.mk (fun h => ?_) (fun h => ?_)) <;> first | (exact absurd h (by decide)) | (conv => whnf)) | (refine ⟨_, wrap_ok (by omega) (by omega), ?_⟩; conv => whnf) | (refine and_idx (by omega) (by omega) ?_; conv => whnf) | (refine reg_ok (by decide +kernel) ?_; conv => whnf) | (refine bar_ok (by decide +kernel) (by decide +kernel) ?_; conv => whnf) | (refine late_ok rfl rfl ?_; conv => whnf) | (refine src_ok rfl ?_; conv => whnf) | (refine .inl ⟨_, _, qcall_pure (ls) rfl rfl, ?_⟩; conv => whnf) | (refine .inl ⟨_, _, qcall_pure (Int.tdiv_eq_ediv_of_nonneg (by omega)) rfl rfl, ?_⟩; conv => whnf) | (refine ⟨by decide, _, wrap_eq (y := (mid : Int)) (by rw [Int.tdiv_eq_ediv_of_nonneg (by omega)]; exact hmid) (by omega) (by omega), ?_⟩; conv => whnf) | (refine .inl ⟨_, _, qcall_data tm ⟨vs_t, vs_c (vc_t rfl), trivial⟩ rfl, ?_⟩; conv => whnf) | (refine LitB.data ?_; conv => whnf) | (refine BoxB.own ?_; conv => whnf)))
      · have hlt : R < n * mid := Int.ofNat_lt.1 (of_decide_eq_true (by assumption))
        exact ⟨[some 0], (lo, mid), ⟨rfl, rfl, ⟨entB_rows rfl rfl rfl rfl rfl, trivial⟩, ⟨rfl, rfl, ent_own rfl rfl, rfl, rfl, rfl, rfl, trivial⟩⟩, ⟨i1, by show R < mid * n; rw [Nat.mul_comm]; exact hlt, by show lo < mid; omega, by show mid ≤ 1048576; omega⟩, by show mid - lo < hi - lo; omega⟩
      · have hlt : n * mid ≤ R := Nat.not_lt.1 (fun h => absurd (Int.ofNat_lt.2 h) (of_decide_eq_false (by assumption)))
        exact ⟨[some 0], (mid, hi), ⟨rfl, rfl, ⟨entB_rows rfl rfl rfl rfl rfl, trivial⟩, ⟨rfl, rfl, ent_own rfl rfl, rfl, rfl, rfl, rfl, trivial⟩⟩, ⟨by show mid * n ≤ R; rw [Nat.mul_comm]; exact hlt, i2, by show mid < hi; omega, i4⟩, by show hi - mid < hi - lo; omega⟩
    · obtain rfl : hi = lo + 1 := by omega
      have hq : R / n = lo := by
        rw [Nat.div_eq_iff hn]
        rw [Nat.add_mul] at i2
        omega
      have hm2 := Nat.div_add_mod R n
      rw [hq] at hm2
      have hrm := Nat.mod_lt R hn
      have tl := r_trim [(lo : Int)] (by simp)
      rw [trimL_dg (by intro x hx; simp at hx; omega), show (val [(lo : Int)]).toNat = lo by simp [val]] at tl
      have llo : (dg lo).length ≤ 1 := by have := bl_small (x := (lo : Int)) (by omega) (by omega); simpa [bl] using this
      have tt := r_timesD n lo (by omega) (by omega)
      have mi := r_minus (dg R) (dg (n * lo)) (okd_dg _) (okd_dg _) (by omega) (dg_len_mono (by omega)) (by rw [val_dg, val_dg]; omega)
      rw [val_dg, val_dg, show ((R : Int) - ((n * lo : Nat) : Int)).toNat = R % n by omega] at mi
      have hst := hI.step (okd_dg m) (by omega)
      have c1 : ((r : Int) * 1048576 + dat (dg m) i) = (R : Int) := by rw [hy, ← hR]; simp
      rw [c1] at hst
      have c2 : (R : Int) / n = (lo : Int) := by rw [← hq]; simp
      have c3 : (R : Int) % n = ((R % n : Nat) : Int) := by simp
      rw [c2, c3] at hst
      have gq : q[0 + (i : Int).toNat]? = some (dat q i) := get_dat0 (by omega) (by omega)
      conv => whnf
      (repeat' (first | ((refine DecB.mk (fun h => ?_) (fun h => ?_)) <;> first | (exfalso; omega) | (conv => whnf)) | ((refine BoolB.mk (fun h => ?_) (fun h => ?_)) <;> first | (exact absurd h (by decide)) | (conv => whnf)) | (refine ⟨_, wrap_ok (by omega) (by omega), ?_⟩; conv => whnf) | (refine and_idx (by omega) (by omega) ?_; conv => whnf) | (refine reg_ok (by decide +kernel) ?_; conv => whnf) | (refine bar_ok (by decide +kernel) (by decide +kernel) ?_; conv => whnf) | (refine late_ok rfl rfl ?_; conv => whnf) | (refine src_ok rfl ?_; conv => whnf) | (refine .inl ⟨_, _, qcall_pure (tt) rfl rfl, ?_⟩; conv => whnf) | (refine .inl ⟨_, _, qcall_pure (mi) rfl rfl, ?_⟩; conv => whnf) | (refine .inl ⟨_, _, qcall_data tl ⟨vs_c (vc_t rfl), trivial⟩ rfl, ?_⟩; conv => whnf) | (refine and_idx (by omega) (by show _ < ((q.length : Nat) : Int); omega) ?_; conv => whnf) | (refine ex_own gq ?_; conv => whnf) | (refine LitB.data ?_; conv => whnf) | (refine BoxB.own ?_; conv => whnf)))
      all_goals try (exfalso; omega)
      refine ⟨[some 0], (i, q.set i lo, R % n), ⟨rfl, rfl, ⟨entB_rows rfl rfl rfl (toC_set (by omega)) rfl, trivial⟩, ⟨rfl, rfl, ent_own rfl (by simp), rfl, ent_i (by omega), trivial⟩⟩, hst, by show i < i + 1; omega⟩
  · obtain rfl : j = 0 := by omega
    obtain ⟨f1, f2⟩ := hI.fin (okd_dg m) (by omega)
    have tq := r_trim q (by have := hI.len; omega)
    rw [f1, val_dg, show ((m : Int) / n).toNat = m / n by rw [← Int.natCast_ediv]; rfl] at tq
    rw [val_dg] at f2
    have f3 : r = m % n := by
      have : (m : Int) % n = ((m % n : Nat) : Int) := by simp
      omega
    subst f3
    conv => whnf
    (repeat' (first | ((refine DecB.mk (fun h => ?_) (fun h => ?_)) <;> first | (exfalso; omega) | (conv => whnf)) | ((refine BoolB.mk (fun h => ?_) (fun h => ?_)) <;> first | (exact absurd h (by decide)) | (conv => whnf)) | (refine ⟨_, wrap_ok (by omega) (by omega), ?_⟩; conv => whnf) | (refine and_idx (by omega) (by omega) ?_; conv => whnf) | (refine reg_ok (by decide +kernel) ?_; conv => whnf) | (refine bar_ok (by decide +kernel) (by decide +kernel) ?_; conv => whnf) | (refine late_ok rfl rfl ?_; conv => whnf) | (refine src_ok rfl ?_; conv => whnf) | (refine .inl ⟨_, _, qcall_pure (0) rfl rfl, ?_⟩; conv => whnf) | (refine .inr ⟨_, _, acall_freeze [0] tq ⟨vs_c (vc_all (by simp) rfl (by intro h; cases h) rfl rfl (by simp)), trivial⟩ rfl, ?_⟩; conv => whnf) | (refine LitB.data ?_; conv => whnf) | (refine BoxB.own ?_; conv => whnf)))
    all_goals try (exfalso; omega)
    exact fin_t ⟨rfl, rfl, trivial⟩
end Go.Proofs.YthinjkjhiembgaaGreat
/- frac: one, Right, times, New, Add, Sub, Mul, Compare. -/
namespace Go.Proofs.YthinjkjhiembgaaGreat
open Go.RowKit
set_option linter.unusedVariables false
set_option linter.unusedSimpArgs false
set_option maxRecDepth 100000

abbrev frC (f : Fr) : List C := [.t (ti f.p.sg), .t (intsT f.p.dl), .t (ti f.q.sg), .t (intsT f.q.dl)]
abbrev frS (f : Fr) : S := .agg (frC f)
theorem a_one (x : Int) (lx : bl x ≤ 200000) : ACall Tryz.prog 43 [bgS (bz x)] [] (boolS (x == 1)) [] := by
  have i := z_bInt x lx
  by_cases h : fitI x
  · rw [if_pos h, show decide (fitI x) = true by simp [h]] at i
    (refine acall_of tab_ok Tryz.func43 rfl (by decide) ?_; (conv => whnf); repeat (first | (refine LitB.data ?_; conv => whnf) | (refine BoxB.own ?_; conv => whnf)))
    (repeat' (first | ((refine DecB.mk (fun h => ?_) (fun h => ?_)) <;> first | (exfalso; omega) | (conv => whnf)) | ((refine BoolB.mk (fun h => ?_) (fun h => ?_)) <;> first | (exact absurd h (by decide)) | (conv => whnf)) | (refine ⟨_, wrap_ok (by omega) (by omega), ?_⟩; conv => whnf) | (refine and_idx (by omega) (by omega) ?_; conv => whnf) | (refine reg_ok (by decide +kernel) ?_; conv => whnf) | (refine bar_ok (by decide +kernel) (by decide +kernel) ?_; conv => whnf) | (refine late_ok rfl rfl ?_; conv => whnf) | (refine src_ok rfl ?_; conv => whnf) | (refine .inl ⟨_, _, qcall_pure (i) rfl rfl, ?_⟩; conv => whnf) | (refine LitB.data ?_; conv => whnf) | (refine BoxB.own ?_; conv => whnf)))
    all_goals (refine fin_bool ?_; simp; omega)
  · rw [if_neg h, show decide (fitI x) = false by simp [h]] at i
    have hx : x ≠ 1 := by rintro rfl; exact h (by decide)
    (refine acall_of tab_ok Tryz.func43 rfl (by decide) ?_; (conv => whnf); repeat (first | (refine LitB.data ?_; conv => whnf) | (refine BoxB.own ?_; conv => whnf)))
    (repeat' (first | ((refine DecB.mk (fun h => ?_) (fun h => ?_)) <;> first | (exfalso; omega) | (conv => whnf)) | ((refine BoolB.mk (fun h => ?_) (fun h => ?_)) <;> first | (exact absurd h (by decide)) | (conv => whnf)) | (refine ⟨_, wrap_ok (by omega) (by omega), ?_⟩; conv => whnf) | (refine and_idx (by omega) (by omega) ?_; conv => whnf) | (refine reg_ok (by decide +kernel) ?_; conv => whnf) | (refine bar_ok (by decide +kernel) (by decide +kernel) ?_; conv => whnf) | (refine late_ok rfl rfl ?_; conv => whnf) | (refine src_ok rfl ?_; conv => whnf) | (refine .inl ⟨_, _, qcall_pure (i) rfl rfl, ?_⟩; conv => whnf) | (refine LitB.data ?_; conv => whnf) | (refine BoxB.own ?_; conv => whnf)))
    all_goals (refine fin_bool ?_; simp; omega)
theorem a_fRight (f : Fr) (lp : f.p.dl.length ≤ 200000) (lq : f.q.dl.length ≤ 200000) : ACall Tryz.prog 20 [frS f] [] (boolS (rightF f)) [] := by
  obtain ⟨p, q⟩ := f
  simp only at lp lq
  have r1 := a_bRight p (by omega)
  have r2 := a_bRight q (by omega)
  cases hp : rightB p with
  | false =>
    rw [hp] at r1
    (refine acall_of tab_ok Tryz.func20 rfl (by decide) ?_; (conv => whnf); repeat (first | (refine LitB.data ?_; conv => whnf) | (refine BoxB.own ?_; conv => whnf)))
    (repeat' (first | ((refine DecB.mk (fun h => ?_) (fun h => ?_)) <;> first | (exfalso; omega) | (conv => whnf)) | ((refine BoolB.mk (fun h => ?_) (fun h => ?_)) <;> first | (exact absurd h (by decide)) | (conv => whnf)) | (refine ⟨_, wrap_ok (by omega) (by omega), ?_⟩; conv => whnf) | (refine and_idx (by omega) (by omega) ?_; conv => whnf) | (refine reg_ok (by decide +kernel) ?_; conv => whnf) | (refine bar_ok (by decide +kernel) (by decide +kernel) ?_; conv => whnf) | (refine late_ok rfl rfl ?_; conv => whnf) | (refine src_ok rfl ?_; conv => whnf) | (refine .inl ⟨_, _, qcall_pure (r1) rfl rfl, ?_⟩; conv => whnf) | (refine .inl ⟨_, _, qcall_pure (r2) rfl rfl, ?_⟩; conv => whnf) | (refine LitB.data ?_; conv => whnf) | (refine BoxB.own ?_; conv => whnf)))
    all_goals (first | (exfalso; simp_all; done) | (refine fin_bool ?_; unfold rightF; simp [hp]))
  | true =>
    rw [hp] at r1
    cases hq : rightB q with
    | false =>
      rw [hq] at r2
      (refine acall_of tab_ok Tryz.func20 rfl (by decide) ?_; (conv => whnf); repeat (first | (refine LitB.data ?_; conv => whnf) | (refine BoxB.own ?_; conv => whnf)))
      (repeat' (first | ((refine DecB.mk (fun h => ?_) (fun h => ?_)) <;> first | (exfalso; omega) | (conv => whnf)) | ((refine BoolB.mk (fun h => ?_) (fun h => ?_)) <;> first | (exact absurd h (by decide)) | (conv => whnf)) | (refine ⟨_, wrap_ok (by omega) (by omega), ?_⟩; conv => whnf) | (refine and_idx (by omega) (by omega) ?_; conv => whnf) | (refine reg_ok (by decide +kernel) ?_; conv => whnf) | (refine bar_ok (by decide +kernel) (by decide +kernel) ?_; conv => whnf) | (refine late_ok rfl rfl ?_; conv => whnf) | (refine src_ok rfl ?_; conv => whnf) | (refine .inl ⟨_, _, qcall_pure (r1) rfl rfl, ?_⟩; conv => whnf) | (refine .inl ⟨_, _, qcall_pure (r2) rfl rfl, ?_⟩; conv => whnf) | (refine LitB.data ?_; conv => whnf) | (refine BoxB.own ?_; conv => whnf)))
      all_goals (first | (exfalso; simp_all; done) | (refine fin_bool ?_; unfold rightF; simp [hq]))
    | true =>
      rw [hq] at r2
      obtain ⟨x, rfl⟩ := bz_of hp
      obtain ⟨y, rfl⟩ := bz_of hq
      have g := z_bGcd x y lp lq
      have o := a_one (Int.gcd x y) (bl_gcd x y lp lq)
      (refine acall_of tab_ok Tryz.func20 rfl (by decide) ?_; (conv => whnf); repeat (first | (refine LitB.data ?_; conv => whnf) | (refine BoxB.own ?_; conv => whnf)))
      (repeat' (first | ((refine DecB.mk (fun h => ?_) (fun h => ?_)) <;> first | (exfalso; omega) | (conv => whnf)) | ((refine BoolB.mk (fun h => ?_) (fun h => ?_)) <;> first | (exact absurd h (by decide)) | (conv => whnf)) | (refine ⟨_, wrap_ok (by omega) (by omega), ?_⟩; conv => whnf) | (refine and_idx (by omega) (by omega) ?_; conv => whnf) | (refine reg_ok (by decide +kernel) ?_; conv => whnf) | (refine bar_ok (by decide +kernel) (by decide +kernel) ?_; conv => whnf) | (refine late_ok rfl rfl ?_; conv => whnf) | (refine src_ok rfl ?_; conv => whnf) | (refine .inl ⟨_, _, qcall_pure (r1) rfl rfl, ?_⟩; conv => whnf) | (refine .inl ⟨_, _, qcall_pure (r2) rfl rfl, ?_⟩; conv => whnf) | (refine .inl ⟨_, _, qcall_pure (g) rfl rfl, ?_⟩; conv => whnf) | (refine .inl ⟨_, _, qcall_pure (o) rfl rfl, ?_⟩; conv => whnf) | (refine LitB.data ?_; conv => whnf) | (refine BoxB.own ?_; conv => whnf)))
      all_goals (refine fin_bool ?_; unfold rightF; simp only [bz_right, bv_bz, Bool.true_and]; symm; simp_all <;> omega)
theorem z_times (x y : Int) (lx : bl x ≤ 200000) (ly : bl y ≤ 200000) : ACall Tryz.prog 45 [bgS (bz x), bgS (bz y)] [] (bgS (bz (x * y))) [] := by
  have mu := z_bMul x y lx ly
  (refine acall_of tab_ok Tryz.func45 rfl (by decide) ?_; (conv => whnf); repeat (first | (refine LitB.data ?_; conv => whnf) | (refine BoxB.own ?_; conv => whnf)))
  (repeat' (first | ((refine DecB.mk (fun h => ?_) (fun h => ?_)) <;> first | (exfalso; omega) | (conv => whnf)) | ((refine BoolB.mk (fun h => ?_) (fun h => ?_)) <;> first | (exact absurd h (by decide)) | (conv => whnf)) | (refine ⟨_, wrap_ok (by omega) (by omega), ?_⟩; conv => whnf) | (refine and_idx (by omega) (by omega) ?_; conv => whnf) | (refine reg_ok (by decide +kernel) ?_; conv => whnf) | (refine bar_ok (by decide +kernel) (by decide +kernel) ?_; conv => whnf) | (refine late_ok rfl rfl ?_; conv => whnf) | (refine src_ok rfl ?_; conv => whnf) | (refine .inl ⟨_, _, qcall_pure (mu) rfl rfl, ?_⟩; conv => whnf) | (refine LitB.data ?_; conv => whnf) | (refine BoxB.own ?_; conv => whnf)))
  exact fin_t ⟨rfl, rfl, trivial⟩
theorem fin_fe {f f' : Fr} {e : Int} {H1 : Hp} (h : f = f') : Fin 0 (.tup [frS f, intS .i64 e]) H1 (.tup [frS f', intS .i64 e]) [] := by
  subst h; exact fin_t ⟨⟨rfl, rfl, rfl, rfl, trivial⟩, rfl, trivial⟩
theorem z_fNew (p q : Int) (hq : q ≠ 0) (lp : bl p ≤ 200000) (lq : bl q ≤ 200000) : ACall Tryz.prog 46 [bgS (bz p), bgS (bz q)] [] (.tup [frS (fz (Rat.divInt p q)), intS .i64 0]) [] := by
  have r1 := z_bRight p (by omega)
  have r2 := z_bRight q (by omega)
  have hs := sign_cases q
  have hsg : (bz q).sg = q.sign := rfl
  by_cases h : q < 0
  · have n1 := z_bNeg p (by omega)
    have n2 := z_bNeg q (by omega)
    have lg := bl_gcd (-p) (-q) (by rw [bl_neg]; exact lp) (by rw [bl_neg]; exact lq)
    have hg : 0 < (Int.gcd (-p) (-q) : Int) := by have := Int.gcd_pos_of_ne_zero_right (-p) (b := -q) (by omega); omega
    have g := z_bGcd (-p) (-q) (by rw [bl_neg]; exact lp) (by rw [bl_neg]; exact lq)
    have d1 := z_bDiv (-p) _ hg (by rw [bl_neg]; exact lp) lg
    have d2 := z_bDiv (-q) _ hg (by rw [bl_neg]; exact lq) lg
    have e := fz_divInt (p := -p) (q := -q) (by omega) rfl
    rw [Rat.neg_divInt_neg] at e
    (refine acall_of tab_ok Tryz.func46 rfl (by decide) ?_; (conv => whnf); repeat (first | (refine LitB.data ?_; conv => whnf) | (refine BoxB.own ?_; conv => whnf)))
    (repeat' (first | ((refine DecB.mk (fun h => ?_) (fun h => ?_)) <;> first | (exfalso; omega) | (conv => whnf)) | ((refine BoolB.mk (fun h => ?_) (fun h => ?_)) <;> first | (exact absurd h (by decide)) | (conv => whnf)) | (refine ⟨_, wrap_ok (by omega) (by omega), ?_⟩; conv => whnf) | (refine and_idx (by omega) (by omega) ?_; conv => whnf) | (refine reg_ok (by decide +kernel) ?_; conv => whnf) | (refine bar_ok (by decide +kernel) (by decide +kernel) ?_; conv => whnf) | (refine late_ok rfl rfl ?_; conv => whnf) | (refine src_ok rfl ?_; conv => whnf) | (refine .inl ⟨_, _, qcall_pure (r1) rfl rfl, ?_⟩; conv => whnf) | (refine .inl ⟨_, _, qcall_pure (r2) rfl rfl, ?_⟩; conv => whnf) | (refine .inl ⟨_, _, qcall_pure (n1) rfl rfl, ?_⟩; conv => whnf) | (refine .inl ⟨_, _, qcall_pure (n2) rfl rfl, ?_⟩; conv => whnf) | (refine .inl ⟨_, _, qcall_pure (g) rfl rfl, ?_⟩; conv => whnf) | (refine .inl ⟨_, _, qcall_pure (d1) rfl rfl, ?_⟩; conv => whnf) | (refine .inl ⟨_, _, qcall_pure (d2) rfl rfl, ?_⟩; conv => whnf) | (refine LitB.data ?_; conv => whnf) | (refine BoxB.own ?_; conv => whnf)))
    all_goals first
      | (exfalso; simp_all; done)
      | (exfalso; omega)
      | exact fin_fe e.symm
  · have lg := bl_gcd p q lp lq
    have hg : 0 < (Int.gcd p q : Int) := by have := Int.gcd_pos_of_ne_zero_right p (b := q) (by omega); omega
    have g := z_bGcd p q lp lq
    have d1 := z_bDiv p _ hg lp lg
    have d2 := z_bDiv q _ hg lq lg
    have e := fz_divInt (p := p) (q := q) (by omega) rfl
    (refine acall_of tab_ok Tryz.func46 rfl (by decide) ?_; (conv => whnf); repeat (first | (refine LitB.data ?_; conv => whnf) | (refine BoxB.own ?_; conv => whnf)))
    (repeat' (first | ((refine DecB.mk (fun h => ?_) (fun h => ?_)) <;> first | (exfalso; omega) | (conv => whnf)) | ((refine BoolB.mk (fun h => ?_) (fun h => ?_)) <;> first | (exact absurd h (by decide)) | (conv => whnf)) | (refine ⟨_, wrap_ok (by omega) (by omega), ?_⟩; conv => whnf) | (refine and_idx (by omega) (by omega) ?_; conv => whnf) | (refine reg_ok (by decide +kernel) ?_; conv => whnf) | (refine bar_ok (by decide +kernel) (by decide +kernel) ?_; conv => whnf) | (refine late_ok rfl rfl ?_; conv => whnf) | (refine src_ok rfl ?_; conv => whnf) | (refine .inl ⟨_, _, qcall_pure (r1) rfl rfl, ?_⟩; conv => whnf) | (refine .inl ⟨_, _, qcall_pure (r2) rfl rfl, ?_⟩; conv => whnf) | (refine .inl ⟨_, _, qcall_pure (g) rfl rfl, ?_⟩; conv => whnf) | (refine .inl ⟨_, _, qcall_pure (d1) rfl rfl, ?_⟩; conv => whnf) | (refine .inl ⟨_, _, qcall_pure (d2) rfl rfl, ?_⟩; conv => whnf) | (refine LitB.data ?_; conv => whnf) | (refine BoxB.own ?_; conv => whnf)))
    all_goals first
      | (exfalso; omega)
      | (exfalso; simp_all; done)
      | exact fin_fe e.symm
theorem z_fRight (x : Rat) (lx : rl x ≤ 200000) : ACall Tryz.prog 20 [frS (fz x)] [] (boolS true) [] := by
  have h := a_fRight (fz x) (Nat.le_trans (rl_num x) lx) (Nat.le_trans (rl_den x) lx)
  rw [fz_right] at h
  exact h
theorem z_fAdd (x y : Rat) (lx : rl x ≤ 60000) (ly : rl y ≤ 60000) : ACall Tryz.prog 21 [frS (fz x), frS (fz y)] [] (.tup [frS (fz (x + y)), intS .i64 0]) [] := by
  have r1 := z_fRight x (by omega)
  have r2 := z_fRight y (by omega)
  have x1 := rl_num x
  have x2 := rl_den x
  have y1 := rl_num y
  have y2 := rl_den y
  have l1 := bl_mul x.num y.den
  have l2 := bl_mul y.num x.den
  have l3 := bl_mul x.den y.den
  have l4 := bl_add (x.num * y.den) (y.num * x.den)
  have t1 := z_times x.num y.den (by omega) (by omega)
  have t2 := z_times y.num x.den (by omega) (by omega)
  have t3 := z_times x.den y.den (by omega) (by omega)
  have a := z_bAdd (x.num * y.den) (y.num * x.den) (by omega) (by omega)
  have n := z_fNew (x.num * y.den + y.num * x.den) (x.den * y.den) (den2_ne x y) (by omega) (by omega)
  rw [← rat_add] at n
  (refine acall_of tab_ok Tryz.func21 rfl (by decide) ?_; (conv => whnf); repeat (first | (refine LitB.data ?_; conv => whnf) | (refine BoxB.own ?_; conv => whnf)))
  (repeat' (first | ((refine DecB.mk (fun h => ?_) (fun h => ?_)) <;> first | (exfalso; omega) | (conv => whnf)) | ((refine BoolB.mk (fun h => ?_) (fun h => ?_)) <;> first | (exact absurd h (by decide)) | (conv => whnf)) | (refine ⟨_, wrap_ok (by omega) (by omega), ?_⟩; conv => whnf) | (refine and_idx (by omega) (by omega) ?_; conv => whnf) | (refine reg_ok (by decide +kernel) ?_; conv => whnf) | (refine bar_ok (by decide +kernel) (by decide +kernel) ?_; conv => whnf) | (refine late_ok rfl rfl ?_; conv => whnf) | (refine src_ok rfl ?_; conv => whnf) | (refine .inl ⟨_, _, qcall_pure (r1) rfl rfl, ?_⟩; conv => whnf) | (refine .inl ⟨_, _, qcall_pure (r2) rfl rfl, ?_⟩; conv => whnf) | (refine .inl ⟨_, _, qcall_pure (t1) rfl rfl, ?_⟩; conv => whnf) | (refine .inl ⟨_, _, qcall_pure (t2) rfl rfl, ?_⟩; conv => whnf) | (refine .inl ⟨_, _, qcall_pure (t3) rfl rfl, ?_⟩; conv => whnf) | (refine .inl ⟨_, _, qcall_pure (a) rfl rfl, ?_⟩; conv => whnf) | (refine .inl ⟨_, _, qcall_pure (n) rfl rfl, ?_⟩; conv => whnf) | (refine .inl ⟨_, _, qcall_pure (13) rfl rfl, ?_⟩; conv => whnf) | (refine bar_late [13] (by decide +kernel) (by decide +kernel) ?_; conv => whnf) | (refine LitB.data ?_; conv => whnf) | (refine BoxB.own ?_; conv => whnf)))
  all_goals first
    | (exfalso; simp_all; done)
    | exact fin_fe rfl
theorem z_fSub (x y : Rat) (lx : rl x ≤ 60000) (ly : rl y ≤ 60000) : ACall Tryz.prog 60 [frS (fz x), frS (fz y)] [] (.tup [frS (fz (x - y)), intS .i64 0]) [] := by
  have r1 := z_fRight x (by omega)
  have r2 := z_fRight y (by omega)
  have y1 := rl_num y
  have n := z_bNeg y.num (by omega)
  have a := z_fAdd x (-y) lx (by rw [rl_neg]; exact ly)
  rw [← Rat.sub_eq_add_neg] at a
  have e : fz (-y) = ⟨bz (-y.num), bz y.den⟩ := rfl
  rw [e] at a
  (refine acall_of tab_ok Tryz.func60 rfl (by decide) ?_; (conv => whnf); repeat (first | (refine LitB.data ?_; conv => whnf) | (refine BoxB.own ?_; conv => whnf)))
  (repeat' (first | ((refine DecB.mk (fun h => ?_) (fun h => ?_)) <;> first | (exfalso; omega) | (conv => whnf)) | ((refine BoolB.mk (fun h => ?_) (fun h => ?_)) <;> first | (exact absurd h (by decide)) | (conv => whnf)) | (refine ⟨_, wrap_ok (by omega) (by omega), ?_⟩; conv => whnf) | (refine and_idx (by omega) (by omega) ?_; conv => whnf) | (refine reg_ok (by decide +kernel) ?_; conv => whnf) | (refine bar_ok (by decide +kernel) (by decide +kernel) ?_; conv => whnf) | (refine late_ok rfl rfl ?_; conv => whnf) | (refine src_ok rfl ?_; conv => whnf) | (refine .inl ⟨_, _, qcall_pure (r1) rfl rfl, ?_⟩; conv => whnf) | (refine .inl ⟨_, _, qcall_pure (r2) rfl rfl, ?_⟩; conv => whnf) | (refine .inl ⟨_, _, qcall_pure (n) rfl rfl, ?_⟩; conv => whnf) | (refine .inl ⟨_, _, qcall_pure (a) rfl rfl, ?_⟩; conv => whnf) | (refine LitB.data ?_; conv => whnf) | (refine BoxB.own ?_; conv => whnf)))
  all_goals first
    | (exfalso; simp_all; done)
    | exact fin_fe rfl
theorem z_fMul (x y : Rat) (lx : rl x ≤ 60000) (ly : rl y ≤ 60000) : ACall Tryz.prog 59 [frS (fz x), frS (fz y)] [] (.tup [frS (fz (x * y)), intS .i64 0]) [] := by
  have r1 := z_fRight x (by omega)
  have r2 := z_fRight y (by omega)
  have x1 := rl_num x
  have x2 := rl_den x
  have y1 := rl_num y
  have y2 := rl_den y
  have l1 := bl_mul x.num y.num
  have l3 := bl_mul x.den y.den
  have t1 := z_times x.num y.num (by omega) (by omega)
  have t3 := z_times x.den y.den (by omega) (by omega)
  have n := z_fNew (x.num * y.num) (x.den * y.den) (den2_ne x y) (by omega) (by omega)
  rw [← rat_mul] at n
  (refine acall_of tab_ok Tryz.func59 rfl (by decide) ?_; (conv => whnf); repeat (first | (refine LitB.data ?_; conv => whnf) | (refine BoxB.own ?_; conv => whnf)))
  (repeat' (first | ((refine DecB.mk (fun h => ?_) (fun h => ?_)) <;> first | (exfalso; omega) | (conv => whnf)) | ((refine BoolB.mk (fun h => ?_) (fun h => ?_)) <;> first | (exact absurd h (by decide)) | (conv => whnf)) | (refine ⟨_, wrap_ok (by omega) (by omega), ?_⟩; conv => whnf) | (refine and_idx (by omega) (by omega) ?_; conv => whnf) | (refine reg_ok (by decide +kernel) ?_; conv => whnf) | (refine bar_ok (by decide +kernel) (by decide +kernel) ?_; conv => whnf) | (refine late_ok rfl rfl ?_; conv => whnf) | (refine src_ok rfl ?_; conv => whnf) | (refine .inl ⟨_, _, qcall_pure (r1) rfl rfl, ?_⟩; conv => whnf) | (refine .inl ⟨_, _, qcall_pure (r2) rfl rfl, ?_⟩; conv => whnf) | (refine .inl ⟨_, _, qcall_pure (t1) rfl rfl, ?_⟩; conv => whnf) | (refine .inl ⟨_, _, qcall_pure (t3) rfl rfl, ?_⟩; conv => whnf) | (refine .inl ⟨_, _, qcall_pure (n) rfl rfl, ?_⟩; conv => whnf) | (refine LitB.data ?_; conv => whnf) | (refine BoxB.own ?_; conv => whnf)))
  all_goals first
    | (exfalso; simp_all; done)
    | exact fin_fe rfl
theorem cmpR_num (x y : Rat) : cmpI (x.num * y.den) (y.num * x.den) = cmpR x y := by
  unfold cmpI cmpR
  simp only [← Rat.lt_iff]
theorem z_fCompare (x y : Rat) (lx : rl x ≤ 60000) (ly : rl y ≤ 60000) : ACall Tryz.prog 57 [frS (fz x), frS (fz y)] [] (intS .i64 (cmpR x y)) [] := by
  have r1 := z_fRight x (by omega)
  have r2 := z_fRight y (by omega)
  have x1 := rl_num x
  have x2 := rl_den x
  have y1 := rl_num y
  have y2 := rl_den y
  have l1 := bl_mul x.num y.den
  have l2 := bl_mul y.num x.den
  have t1 := z_times x.num y.den (by omega) (by omega)
  have t2 := z_times y.num x.den (by omega) (by omega)
  have c := z_bCompare (x.num * y.den) (y.num * x.den) (by omega) (by omega)
  rw [cmpR_num] at c
  (refine acall_of tab_ok Tryz.func57 rfl (by decide) ?_; (conv => whnf); repeat (first | (refine LitB.data ?_; conv => whnf) | (refine BoxB.own ?_; conv => whnf)))
  (repeat' (first | ((refine DecB.mk (fun h => ?_) (fun h => ?_)) <;> first | (exfalso; omega) | (conv => whnf)) | ((refine BoolB.mk (fun h => ?_) (fun h => ?_)) <;> first | (exact absurd h (by decide)) | (conv => whnf)) | (refine ⟨_, wrap_ok (by omega) (by omega), ?_⟩; conv => whnf) | (refine and_idx (by omega) (by omega) ?_; conv => whnf) | (refine reg_ok (by decide +kernel) ?_; conv => whnf) | (refine bar_ok (by decide +kernel) (by decide +kernel) ?_; conv => whnf) | (refine late_ok rfl rfl ?_; conv => whnf) | (refine src_ok rfl ?_; conv => whnf) | (refine .inl ⟨_, _, qcall_pure (r1) rfl rfl, ?_⟩; conv => whnf) | (refine .inl ⟨_, _, qcall_pure (r2) rfl rfl, ?_⟩; conv => whnf) | (refine .inl ⟨_, _, qcall_pure (t1) rfl rfl, ?_⟩; conv => whnf) | (refine .inl ⟨_, _, qcall_pure (t2) rfl rfl, ?_⟩; conv => whnf) | (refine .inl ⟨_, _, qcall_pure (c) rfl rfl, ?_⟩; conv => whnf) | (refine LitB.data ?_; conv => whnf) | (refine BoxB.own ?_; conv => whnf)))
  all_goals first
    | (exfalso; simp_all; done)
    | exact fin_int rfl
theorem z_fSign (x : Rat) (lx : rl x ≤ 60000) : ACall Tryz.prog 56 [frS (fz x)] [] (intS .i64 (sgR x)) [] := by
  have r1 := z_fRight x (by omega)
  (refine acall_of tab_ok Tryz.func56 rfl (by decide) ?_; (conv => whnf); repeat (first | (refine LitB.data ?_; conv => whnf) | (refine BoxB.own ?_; conv => whnf)))
  (repeat' (first | ((refine DecB.mk (fun h => ?_) (fun h => ?_)) <;> first | (exfalso; omega) | (conv => whnf)) | ((refine BoolB.mk (fun h => ?_) (fun h => ?_)) <;> first | (exact absurd h (by decide)) | (conv => whnf)) | (refine ⟨_, wrap_ok (by omega) (by omega), ?_⟩; conv => whnf) | (refine and_idx (by omega) (by omega) ?_; conv => whnf) | (refine reg_ok (by decide +kernel) ?_; conv => whnf) | (refine bar_ok (by decide +kernel) (by decide +kernel) ?_; conv => whnf) | (refine late_ok rfl rfl ?_; conv => whnf) | (refine src_ok rfl ?_; conv => whnf) | (refine .inl ⟨_, _, qcall_pure (r1) rfl rfl, ?_⟩; conv => whnf) | (refine LitB.data ?_; conv => whnf) | (refine BoxB.own ?_; conv => whnf)))
  all_goals first
    | (exfalso; simp_all; done)
    | exact fin_int (sign_num x)
theorem z_fOf (p q : Int) (hq : q ≠ 0) (p0 : -9223372036854775808 ≤ p) (p1 : p ≤ 9223372036854775807) (q0 : -9223372036854775808 ≤ q) (q1 : q ≤ 9223372036854775807) :
    ACall Tryz.prog 117 [intS .i64 p, intS .i64 q] [] (.tup [frS (fz (Rat.divInt p q)), intS .i64 0]) [] := by
  have l1 := bl_int p0 p1
  have l2 := bl_int q0 q1
  have o1 := z_bOf p p0 p1
  have o2 := z_bOf q q0 q1
  have n := z_fNew p q hq (by omega) (by omega)
  (refine acall_of tab_ok Tryz.func117 rfl (by decide) ?_; (conv => whnf); repeat (first | (refine LitB.data ?_; conv => whnf) | (refine BoxB.own ?_; conv => whnf)))
  (repeat' (first | ((refine DecB.mk (fun h => ?_) (fun h => ?_)) <;> first | (exfalso; omega) | (conv => whnf)) | ((refine BoolB.mk (fun h => ?_) (fun h => ?_)) <;> first | (exact absurd h (by decide)) | (conv => whnf)) | (refine ⟨_, wrap_ok (by omega) (by omega), ?_⟩; conv => whnf) | (refine and_idx (by omega) (by omega) ?_; conv => whnf) | (refine reg_ok (by decide +kernel) ?_; conv => whnf) | (refine bar_ok (by decide +kernel) (by decide +kernel) ?_; conv => whnf) | (refine late_ok rfl rfl ?_; conv => whnf) | (refine src_ok rfl ?_; conv => whnf) | (refine .inl ⟨_, _, qcall_pure (o1) rfl rfl, ?_⟩; conv => whnf) | (refine .inl ⟨_, _, qcall_pure (o2) rfl rfl, ?_⟩; conv => whnf) | (refine .inl ⟨_, _, qcall_pure (n) rfl rfl, ?_⟩; conv => whnf) | (refine LitB.data ?_; conv => whnf) | (refine BoxB.own ?_; conv => whnf)))
  all_goals exact fin_fe rfl
theorem fz_int (n : Int) : fz (n : Rat) = ⟨bz n, bz 1⟩ := by unfold fz; rw [Rat.num_intCast, Rat.den_intCast]; rfl
theorem z_fInt (n : Int) (p0 : -9223372036854775808 ≤ n) (p1 : n ≤ 9223372036854775807) : ACall Tryz.prog 19 [intS .i64 n] [] (frS (fz (n : Rat))) [] := by
  have o1 := z_bOf n p0 p1
  have o2 := z_bOf 1 (by decide) (by decide)
  rw [fz_int]
  (refine acall_of tab_ok Tryz.func19 rfl (by decide) ?_; (conv => whnf); repeat (first | (refine LitB.data ?_; conv => whnf) | (refine BoxB.own ?_; conv => whnf)))
  (repeat' (first | ((refine DecB.mk (fun h => ?_) (fun h => ?_)) <;> first | (exfalso; omega) | (conv => whnf)) | ((refine BoolB.mk (fun h => ?_) (fun h => ?_)) <;> first | (exact absurd h (by decide)) | (conv => whnf)) | (refine ⟨_, wrap_ok (by omega) (by omega), ?_⟩; conv => whnf) | (refine and_idx (by omega) (by omega) ?_; conv => whnf) | (refine reg_ok (by decide +kernel) ?_; conv => whnf) | (refine bar_ok (by decide +kernel) (by decide +kernel) ?_; conv => whnf) | (refine late_ok rfl rfl ?_; conv => whnf) | (refine src_ok rfl ?_; conv => whnf) | (refine .inl ⟨_, _, qcall_pure (o1) rfl rfl, ?_⟩; conv => whnf) | (refine .inl ⟨_, _, qcall_pure (o2) rfl rfl, ?_⟩; conv => whnf) | (refine LitB.data ?_; conv => whnf) | (refine BoxB.own ?_; conv => whnf)))
  all_goals exact fin_t ⟨rfl, rfl, rfl, rfl, trivial⟩
theorem z_slim (x : Int) (lx : bl x ≤ 200000) : ACall Tryz.prog 128 [bgS (bz x)] [] (bgS (bz x)) [] := by
  have n1 := z_bNeg x (by omega)
  have n2 := z_bNeg (-x) (by rw [bl_neg]; omega)
  rw [Int.neg_neg] at n2
  (refine acall_of tab_ok Tryz.func128 rfl (by decide) ?_; (conv => whnf); repeat (first | (refine LitB.data ?_; conv => whnf) | (refine BoxB.own ?_; conv => whnf)))
  (repeat' (first | ((refine DecB.mk (fun h => ?_) (fun h => ?_)) <;> first | (exfalso; omega) | (conv => whnf)) | ((refine BoolB.mk (fun h => ?_) (fun h => ?_)) <;> first | (exact absurd h (by decide)) | (conv => whnf)) | (refine ⟨_, wrap_ok (by omega) (by omega), ?_⟩; conv => whnf) | (refine and_idx (by omega) (by omega) ?_; conv => whnf) | (refine reg_ok (by decide +kernel) ?_; conv => whnf) | (refine bar_ok (by decide +kernel) (by decide +kernel) ?_; conv => whnf) | (refine late_ok rfl rfl ?_; conv => whnf) | (refine src_ok rfl ?_; conv => whnf) | (refine .inl ⟨_, _, qcall_pure (n1) rfl rfl, ?_⟩; conv => whnf) | (refine .inl ⟨_, _, qcall_pure (n2) rfl rfl, ?_⟩; conv => whnf) | (refine LitB.data ?_; conv => whnf) | (refine BoxB.own ?_; conv => whnf)))
  all_goals exact fin_t ⟨rfl, rfl, trivial⟩
end Go.Proofs.YthinjkjhiembgaaGreat
/- Reference of big and frac: Of, Right, Gcd, Div (exact), New, Int. -/
namespace Go.Proofs.YthinjkjhiembgaaGreat
open Go.RowKit
set_option linter.unusedVariables false
set_option linter.unusedSimpArgs false
set_option maxRecDepth 100000

theorem r_bigRight (b : Bg) (hl : b.dl.length ≤ 1000000) : ACall Tryz.prog 47 [bgS b] [] (boolS (rightB b)) [] := by
  have l2 : (b.dl.map intRow).length = b.dl.length := by simp
  (refine acall_of tab_ok Tryz.func47 rfl (by decide) ?_; (conv => whnf); repeat (first | (refine LitB.data ?_; conv => whnf) | (refine BoxB.data ?_; conv => whnf)))
  (repeat' (first | ((refine DecB.mk (fun h => ?_) (fun h => ?_)) <;> first | (exfalso; omega) | (conv => whnf)) | ((refine BoolB.mk (fun h => ?_) (fun h => ?_)) <;> first | (exact absurd h (by decide)) | (conv => whnf)) | (refine ⟨_, wrap_ok (by omega) (by omega), ?_⟩; conv => whnf) | (refine and_idx (by omega) (by omega) ?_; conv => whnf) | (refine reg_ok (by decide +kernel) ?_; conv => whnf) | (refine bar_ok (by decide +kernel) (by decide +kernel) ?_; conv => whnf) | (refine late_ok rfl rfl ?_; conv => whnf) | (refine src_ok rfl ?_; conv => whnf) | (refine LitB.data ?_; conv => whnf) | (refine BoxB.own ?_; conv => whnf)))
  refine awp_for tab_ok (fun k => ([S.junk, S.c (C.t (T.ptr [ti b.sg, intsT b.dl])), S.junk, intS .i64 k, S.junk, S.junk, S.junk, S.junk, S.junk, S.junk, S.junk, S.junk, S.junk, S.junk, S.junk, S.junk, S.junk, S.junk, S.junk, S.junk, S.junk, S.junk, S.junk, S.junk, S.junk, S.junk, S.junk, S.junk, S.junk, S.junk, S.junk, S.junk, S.junk, S.junk, S.junk, S.junk, S.junk, S.junk, S.junk, S.junk, S.junk, S.junk, S.junk, S.junk, S.junk, S.junk, S.junk, S.junk, S.junk, S.junk, S.junk, S.junk, S.junk, S.junk, S.junk, S.junk], [])) b.dl.length (fun k => (b.dl.take k).all inD = true) [] rfl
    ⟨rfl, rfl, trivial, ⟨ent_t rfl, rfl, trivial⟩⟩ ?_
  intro k hk hI
  by_cases hlt : k < b.dl.length
  · conv => whnf
    (repeat' (first | ((refine DecB.mk (fun h => ?_) (fun h => ?_)) <;> first | (exfalso; omega) | (conv => whnf)) | ((refine BoolB.mk (fun h => ?_) (fun h => ?_)) <;> first | (exact absurd h (by decide)) | (conv => whnf)) | (refine ⟨_, wrap_ok (by omega) (by omega), ?_⟩; conv => whnf) | (refine and_idx (by omega) (by omega) ?_; conv => whnf) | (refine reg_ok (by decide +kernel) ?_; conv => whnf) | (refine bar_ok (by decide +kernel) (by decide +kernel) ?_; conv => whnf) | (refine late_ok rfl rfl ?_; conv => whnf) | (refine src_ok rfl ?_; conv => whnf) | (refine ex_row (get_dat (by omega)) ?_; conv => whnf) | (refine LitB.data ?_; conv => whnf) | (refine BoxB.own ?_; conv => whnf)))
    all_goals first
      | (exfalso; omega)
      | exact ⟨hlt, by rw [all_take_succ (get_dat hlt), hI]; simp [inD]; omega, [], rfl, rfl, trivial, ⟨rfl, rfl, trivial⟩⟩
      | (refine fin_bool ?_; unfold rightB; rw [all_of_get (get_dat hlt) (by simp [inD]; omega)]; rfl)
  · have hke : k = b.dl.length := by omega
    subst hke
    have ha : b.dl.all inD = true := by rw [← hI, List.take_of_length_le (by omega)]
    have hgl : 0 < b.dl.length → b.dl[((((b.dl.map intRow).length : Nat) : Int) - 1).toNat]? = some (dat b.dl (b.dl.length - 1)) := fun h => by rw [l2]; exact get_last h
    conv => whnf
    (repeat' (first | ((refine DecB.mk (fun h => ?_) (fun h => ?_)) <;> first | (exfalso; omega) | (conv => whnf)) | ((refine BoolB.mk (fun h => ?_) (fun h => ?_)) <;> first | (exact absurd h (by decide)) | (conv => whnf)) | (refine ⟨_, wrap_ok (by omega) (by omega), ?_⟩; conv => whnf) | (refine and_idx (by omega) (by omega) ?_; conv => whnf) | (refine reg_ok (by decide +kernel) ?_; conv => whnf) | (refine bar_ok (by decide +kernel) (by decide +kernel) ?_; conv => whnf) | (refine late_ok rfl rfl ?_; conv => whnf) | (refine src_ok rfl ?_; conv => whnf) | (refine ex_rowI (by omega) (hgl (by omega)) ?_; conv => whnf) | (refine LitB.data ?_; conv => whnf) | (refine BoxB.own ?_; conv => whnf)))
    all_goals first
      | (exfalso; omega)
      | (exfalso; simp_all; done)
      | (exfalso; simp_all; omega)
      | skip
    all_goals
      refine fin_bool ?_
      unfold rightB
      rw [ha]
      by_cases hz : b.dl.length = 0
      · rw [if_pos hz]; simp_all <;> omega
      · rw [if_neg hz]; simp_all <;> omega
theorem r4Right (x : Int) (lx : bl x ≤ 300000) : ACall Tryz.prog 47 [bgS (bz x)] [] (boolS true) [] := by
  have := r_bigRight (bz x) (show bl x ≤ 1000000 by omega)
  rw [bz_right] at this
  exact this
theorem r4Of (n : Int) (h0 : -9223372036854775808 ≤ n) (h1 : n ≤ 9223372036854775807) : ACall Tryz.prog 50 [intS .i64 n] [] (bgS (bz n)) [] := by
  rcases Int.lt_trichotomy n 0 with hn | hn | hn
  · (refine acall_of tab_ok Tryz.func50 rfl (by decide) ?_; (conv => whnf); repeat (first | (refine LitB.data ?_; conv => whnf) | (refine BoxB.own ?_; conv => whnf)))
    (repeat' (first | ((refine DecB.mk (fun h => ?_) (fun h => ?_)) <;> first | (exfalso; omega) | (conv => whnf)) | ((refine BoolB.mk (fun h => ?_) (fun h => ?_)) <;> first | (exact absurd h (by decide)) | (conv => whnf)) | (refine ⟨_, wrap_ok (by omega) (by omega), ?_⟩; conv => whnf) | (refine and_idx (by omega) (by omega) ?_; conv => whnf) | (refine reg_ok (by decide +kernel) ?_; conv => whnf) | (refine bar_ok (by decide +kernel) (by decide +kernel) ?_; conv => whnf) | (refine late_ok rfl rfl ?_; conv => whnf) | (refine src_ok rfl ?_; conv => whnf) | (refine LitB.data ?_; conv => whnf) | (refine BoxB.own ?_; conv => whnf)))
    all_goals try (exfalso; omega)
    refine awp_while tab_ok (σ := List Int × Nat) (fun | (acc, u) => ([intS .i64 (- (u : Int)), S.junk, S.c (C.ptr 0 0 0), intS .i64 (-1), ownI 1 acc, S.junk, S.junk, S.junk, S.junk, S.junk, S.junk, S.junk, S.junk, S.junk, S.junk, S.junk, S.junk, S.junk, S.junk, S.junk, S.junk, S.junk, S.junk, S.junk, S.junk, S.junk, S.junk, S.junk], [zBox, intsB acc])) (fun s => OfI n s.1 s.2) (fun s => s.2) ([], n.natAbs) [some 0, none]
      ⟨rfl⟩ ⟨rfl, rfl, ⟨⟨rfl, rfl, rfl, .inl ⟨rfl, rowsT_z⟩⟩, ⟨rfl, rfl⟩, trivial⟩, ⟨ent_i (by omega), ⟨rfl, rfl, rfl⟩, rfl, ⟨rfl, rfl, rfl⟩, trivial⟩⟩ ?_
    rintro ⟨acc, u⟩ hI
    have hI : OfI n acc u := hI
    have hl := hI.len h0 h1
    have hu := hI.le
    have hm : (- (u : Int)).tmod 1048576 = - ((u : Int) % 1048576) := by
      first
        | exact Int.tmod_eq_emod_of_nonneg (by omega)
        | (rw [Int.neg_tmod, Int.tmod_eq_emod_of_nonneg (by omega)])
    have hd : (- (u : Int)).tdiv 1048576 = - ((u / 1048576 : Nat) : Int) := by
      first
        | (rw [Int.tdiv_eq_ediv_of_nonneg (by omega)]; simp; done)
        | (rw [Int.neg_tdiv, Int.tdiv_eq_ediv_of_nonneg (by omega)]; simp)
    by_cases hu0 : 0 < u
    · have hst := hI.step hu0
      conv => whnf
      (repeat' (first | ((refine DecB.mk (fun h => ?_) (fun h => ?_)) <;> first | (exfalso; omega) | (conv => whnf)) | ((refine BoolB.mk (fun h => ?_) (fun h => ?_)) <;> first | (exact absurd h (by decide)) | (conv => whnf)) | (refine ⟨_, wrap_ok (by omega) (by omega), ?_⟩; conv => whnf) | (refine and_idx (by omega) (by omega) ?_; conv => whnf) | (refine reg_ok (by decide +kernel) ?_; conv => whnf) | (refine bar_ok (by decide +kernel) (by decide +kernel) ?_; conv => whnf) | (refine late_ok rfl rfl ?_; conv => whnf) | (refine src_ok rfl ?_; conv => whnf) | (refine .inl ⟨_, _, qcall_pure (toC) rfl rfl, ?_⟩; conv => whnf) | (refine .inl ⟨_, _, qcall_pure (toC) rfl rfl, ?_⟩; conv => whnf) | (refine app_ok (by simp [toC]) (by simp [toC]; omega) ?_; conv => whnf) | (refine ⟨by decide, _, wrap_eq hd (by omega) (by omega), ?_⟩; conv => whnf) | (refine ne_ok (by decide) ?_; conv => whnf) | (refine LitB.data ?_; conv => whnf) | (refine BoxB.own ?_; conv => whnf)))
      all_goals try (exfalso; omega)
      all_goals
        refine ⟨[some 0, some 2], (acc ++ [(u : Int) % 1048576], u / 1048576), ⟨rfl, rfl, ⟨⟨rfl, rfl, rfl, .inl ⟨rfl, rowsT_z⟩⟩, entB_rows rfl rfl rfl ?_ rfl, trivial⟩, ⟨ent_i rfl, ⟨rfl, rfl, rfl⟩, rfl, ent_own rfl (by simp [toC]), trivial⟩⟩, hst, by show u / 1048576 < u; omega⟩
        have e : ∀ y : Int, y = (u : Int) % 1048576 → (toC (acc.map intRow)).take acc.length ++ toC [[ti y]] = toC ((acc ++ [(u : Int) % 1048576]).map intRow) := fun y hy => by rw [hy]; exact toC_app1
        exact e _ (by omega)
    · have h0u : u = 0 := by omega
      subst h0u
      have e : acc = dg n.natAbs := by have := hI.eq; rw [dg_zero, List.append_nil] at this; exact this
      have sg := r_madeD (-1) n.natAbs (by omega) (by rw [← e]; omega)
      rw [← e, show (-1) * (n.natAbs : Int) = n by omega] at sg
      conv => whnf
      (repeat' (first | ((refine DecB.mk (fun h => ?_) (fun h => ?_)) <;> first | (exfalso; omega) | (conv => whnf)) | ((refine BoolB.mk (fun h => ?_) (fun h => ?_)) <;> first | (exact absurd h (by decide)) | (conv => whnf)) | (refine ⟨_, wrap_ok (by omega) (by omega), ?_⟩; conv => whnf) | (refine and_idx (by omega) (by omega) ?_; conv => whnf) | (refine reg_ok (by decide +kernel) ?_; conv => whnf) | (refine bar_ok (by decide +kernel) (by decide +kernel) ?_; conv => whnf) | (refine late_ok rfl rfl ?_; conv => whnf) | (refine src_ok rfl ?_; conv => whnf) | (refine .inl ⟨_, _, qcall_pure (1) rfl rfl, ?_⟩; conv => whnf) | (refine .inr ⟨_, _, acall_freeze [1] sg ⟨vs_t, vs_c (vc_all (by simp) rfl (by intro h; cases h) rfl rfl (by simp)), trivial⟩ rfl, ?_⟩; conv => whnf) | (refine LitB.data ?_; conv => whnf) | (refine BoxB.own ?_; conv => whnf)))
      all_goals try (exfalso; omega)
      exact fin_t ⟨rfl, rfl, trivial⟩
  · subst hn
    (refine acall_of tab_ok Tryz.func50 rfl (by decide) ?_; (conv => whnf); repeat (first | (refine LitB.data ?_; conv => whnf) | (refine BoxB.own ?_; conv => whnf)))
    (repeat' (first | ((refine DecB.mk (fun h => ?_) (fun h => ?_)) <;> first | (exfalso; omega) | (conv => whnf)) | ((refine BoolB.mk (fun h => ?_) (fun h => ?_)) <;> first | (exact absurd h (by decide)) | (conv => whnf)) | (refine ⟨_, wrap_ok (by omega) (by omega), ?_⟩; conv => whnf) | (refine and_idx (by omega) (by omega) ?_; conv => whnf) | (refine reg_ok (by decide +kernel) ?_; conv => whnf) | (refine bar_ok (by decide +kernel) (by decide +kernel) ?_; conv => whnf) | (refine late_ok rfl rfl ?_; conv => whnf) | (refine src_ok rfl ?_; conv => whnf) | (refine LitB.data ?_; conv => whnf) | (refine BoxB.own ?_; conv => whnf)))
    all_goals first
      | (exfalso; omega)
      | exact fin_t ⟨rfl, rfl, trivial⟩
  · (refine acall_of tab_ok Tryz.func50 rfl (by decide) ?_; (conv => whnf); repeat (first | (refine LitB.data ?_; conv => whnf) | (refine BoxB.own ?_; conv => whnf)))
    (repeat' (first | ((refine DecB.mk (fun h => ?_) (fun h => ?_)) <;> first | (exfalso; omega) | (conv => whnf)) | ((refine BoolB.mk (fun h => ?_) (fun h => ?_)) <;> first | (exact absurd h (by decide)) | (conv => whnf)) | (refine ⟨_, wrap_ok (by omega) (by omega), ?_⟩; conv => whnf) | (refine and_idx (by omega) (by omega) ?_; conv => whnf) | (refine reg_ok (by decide +kernel) ?_; conv => whnf) | (refine bar_ok (by decide +kernel) (by decide +kernel) ?_; conv => whnf) | (refine late_ok rfl rfl ?_; conv => whnf) | (refine src_ok rfl ?_; conv => whnf) | (refine LitB.data ?_; conv => whnf) | (refine BoxB.own ?_; conv => whnf)))
    all_goals try (exfalso; omega)
    refine awp_while tab_ok (σ := List Int × Nat) (fun | (acc, u) => ([intS .i64 ((u : Int)), S.junk, S.c (C.ptr 0 0 0), intS .i64 (1), ownI 1 acc, S.junk, S.junk, S.junk, S.junk, S.junk, S.junk, S.junk, S.junk, S.junk, S.junk, S.junk, S.junk, S.junk, S.junk, S.junk, S.junk, S.junk, S.junk, S.junk, S.junk, S.junk, S.junk, S.junk], [zBox, intsB acc])) (fun s => OfI n s.1 s.2) (fun s => s.2) ([], n.natAbs) [some 0, none]
      ⟨rfl⟩ ⟨rfl, rfl, ⟨⟨rfl, rfl, rfl, .inl ⟨rfl, rowsT_z⟩⟩, ⟨rfl, rfl⟩, trivial⟩, ⟨ent_i (by omega), ⟨rfl, rfl, rfl⟩, rfl, ⟨rfl, rfl, rfl⟩, trivial⟩⟩ ?_
    rintro ⟨acc, u⟩ hI
    have hI : OfI n acc u := hI
    have hl := hI.len h0 h1
    have hu := hI.le
    have hm : ((u : Int)).tmod 1048576 = ((u : Int) % 1048576) := by
      first
        | exact Int.tmod_eq_emod_of_nonneg (by omega)
        | (rw [Int.neg_tmod, Int.tmod_eq_emod_of_nonneg (by omega)])
    have hd : ((u : Int)).tdiv 1048576 = ((u / 1048576 : Nat) : Int) := by
      first
        | (rw [Int.tdiv_eq_ediv_of_nonneg (by omega)]; simp; done)
        | (rw [Int.neg_tdiv, Int.tdiv_eq_ediv_of_nonneg (by omega)]; simp)
    by_cases hu0 : 0 < u
    · have hst := hI.step hu0
      conv => whnf
      (repeat' (first | ((refine DecB.mk (fun h => ?_) (fun h => ?_)) <;> first | (exfalso; omega) | (conv => whnf)) | ((refine BoolB.mk (fun h => ?_) (fun h => ?_)) <;> first | (exact absurd h (by decide)) | (conv => whnf)) | (refine ⟨_, wrap_ok (by omega) (by omega), ?_⟩; conv => whnf) | (refine and_idx (by omega) (by omega) ?_; conv => whnf) | (refine reg_ok (by decide +kernel) ?_; conv => whnf) | (refine bar_ok (by decide +kernel) (by decide +kernel) ?_; conv => whnf) | (refine late_ok rfl rfl ?_; conv => whnf) | (refine src_ok rfl ?_; conv => whnf) | (refine .inl ⟨_, _, qcall_pure (toC) rfl rfl, ?_⟩; conv => whnf) | (refine .inl ⟨_, _, qcall_pure (toC) rfl rfl, ?_⟩; conv => whnf) | (refine app_ok (by simp [toC]) (by simp [toC]; omega) ?_; conv => whnf) | (refine ⟨by decide, _, wrap_eq hd (by omega) (by omega), ?_⟩; conv => whnf) | (refine ne_ok (by decide) ?_; conv => whnf) | (refine LitB.data ?_; conv => whnf) | (refine BoxB.own ?_; conv => whnf)))
      all_goals try (exfalso; omega)
      all_goals
        refine ⟨[some 0, some 2], (acc ++ [(u : Int) % 1048576], u / 1048576), ⟨rfl, rfl, ⟨⟨rfl, rfl, rfl, .inl ⟨rfl, rowsT_z⟩⟩, entB_rows rfl rfl rfl ?_ rfl, trivial⟩, ⟨ent_i rfl, ⟨rfl, rfl, rfl⟩, rfl, ent_own rfl (by simp [toC]), trivial⟩⟩, hst, by show u / 1048576 < u; omega⟩
        have e : ∀ y : Int, y = (u : Int) % 1048576 → (toC (acc.map intRow)).take acc.length ++ toC [[ti y]] = toC ((acc ++ [(u : Int) % 1048576]).map intRow) := fun y hy => by rw [hy]; exact toC_app1
        exact e _ (by omega)
    · have h0u : u = 0 := by omega
      subst h0u
      have e : acc = dg n.natAbs := by have := hI.eq; rw [dg_zero, List.append_nil] at this; exact this
      have sg := r_madeD (1) n.natAbs (by omega) (by rw [← e]; omega)
      rw [← e, show (1) * (n.natAbs : Int) = n by omega] at sg
      conv => whnf
      (repeat' (first | ((refine DecB.mk (fun h => ?_) (fun h => ?_)) <;> first | (exfalso; omega) | (conv => whnf)) | ((refine BoolB.mk (fun h => ?_) (fun h => ?_)) <;> first | (exact absurd h (by decide)) | (conv => whnf)) | (refine ⟨_, wrap_ok (by omega) (by omega), ?_⟩; conv => whnf) | (refine and_idx (by omega) (by omega) ?_; conv => whnf) | (refine reg_ok (by decide +kernel) ?_; conv => whnf) | (refine bar_ok (by decide +kernel) (by decide +kernel) ?_; conv => whnf) | (refine late_ok rfl rfl ?_; conv => whnf) | (refine src_ok rfl ?_; conv => whnf) | (refine .inl ⟨_, _, qcall_pure (1) rfl rfl, ?_⟩; conv => whnf) | (refine .inr ⟨_, _, acall_freeze [1] sg ⟨vs_t, vs_c (vc_all (by simp) rfl (by intro h; cases h) rfl rfl (by simp)), trivial⟩ rfl, ?_⟩; conv => whnf) | (refine LitB.data ?_; conv => whnf) | (refine BoxB.own ?_; conv => whnf)))
      all_goals try (exfalso; omega)
      exact fin_t ⟨rfl, rfl, trivial⟩
theorem r4Gcd (x y : Int) (lx : bl x ≤ 200000) (ly : bl y ≤ 200000) : ACall Tryz.prog 48 [bgS (bz x), bgS (bz y)] [] (.tup [bgS (bz (Int.gcd x y)), intS .i64 0]) [] := by
  have r1 := r4Right x (by omega)
  have r2 := r4Right y (by omega)
  (refine acall_of tab_ok Tryz.func48 rfl (by decide) ?_; (conv => whnf); repeat (first | (refine LitB.data ?_; conv => whnf) | (refine BoxB.own ?_; conv => whnf)))
  (repeat' (first | ((refine DecB.mk (fun h => ?_) (fun h => ?_)) <;> first | (exfalso; omega) | (conv => whnf)) | ((refine BoolB.mk (fun h => ?_) (fun h => ?_)) <;> first | (exact absurd h (by decide)) | (conv => whnf)) | (refine ⟨_, wrap_ok (by omega) (by omega), ?_⟩; conv => whnf) | (refine and_idx (by omega) (by omega) ?_; conv => whnf) | (refine reg_ok (by decide +kernel) ?_; conv => whnf) | (refine bar_ok (by decide +kernel) (by decide +kernel) ?_; conv => whnf) | (refine late_ok rfl rfl ?_; conv => whnf) | (refine src_ok rfl ?_; conv => whnf) | (refine .inl ⟨_, _, qcall_pure (r1) rfl rfl, ?_⟩; conv => whnf) | (refine .inl ⟨_, _, qcall_pure (r2) rfl rfl, ?_⟩; conv => whnf) | (refine LitB.data ?_; conv => whnf) | (refine BoxB.own ?_; conv => whnf)))
  all_goals first
    | (exfalso; simp_all; done)
    | skip
  refine awp_while tab_ok (σ := Nat × Nat) (fun | (X, Y) => ([S.junk, S.junk, S.junk, S.junk, S.c (C.ptr 0 0 0), S.junk, intsS (dg X), intsS (dg Y), S.junk, S.junk, S.junk, S.junk, S.junk, S.junk, S.junk, S.junk, S.junk, S.junk, S.junk, S.junk, S.junk, S.junk, S.junk, S.junk, S.junk, S.junk, S.junk, S.junk, S.junk, S.junk, S.junk, S.junk, S.junk, S.junk, S.junk, S.junk], [zBox])) (fun s => GcdI x y s.1 s.2) (fun s => s.2) (x.natAbs, y.natAbs) [some 2]
    ⟨rfl, lx, ly⟩ ⟨rfl, rfl, ⟨⟨rfl, rfl, rfl, .inl ⟨rfl, rowsT_z⟩⟩, trivial⟩, ⟨⟨rfl, rfl, rfl⟩, rfl, rfl, trivial⟩⟩ ?_
  rintro ⟨X, Y⟩ hI
  have hI : GcdI x y X Y := hI
  obtain ⟨g1, g2, g3⟩ := hI
  have l2 : ((dg Y).map intRow).length = (dg Y).length := by simp
  by_cases hY : 0 < Y
  · have hp : (dg Y).length ≠ 0 := by rw [Ne, List.length_eq_zero_iff, dg_eq_nil]; omega
    have dv := r_over X Y hY (by omega) (by omega)
    conv => whnf
    (repeat' (first | ((refine DecB.mk (fun h => ?_) (fun h => ?_)) <;> first | (exfalso; omega) | (conv => whnf)) | ((refine BoolB.mk (fun h => ?_) (fun h => ?_)) <;> first | (exact absurd h (by decide)) | (conv => whnf)) | (refine ⟨_, wrap_ok (by omega) (by omega), ?_⟩; conv => whnf) | (refine and_idx (by omega) (by omega) ?_; conv => whnf) | (refine reg_ok (by decide +kernel) ?_; conv => whnf) | (refine bar_ok (by decide +kernel) (by decide +kernel) ?_; conv => whnf) | (refine late_ok rfl rfl ?_; conv => whnf) | (refine src_ok rfl ?_; conv => whnf) | (refine .inl ⟨_, _, qcall_pure (dv) rfl rfl, ?_⟩; conv => whnf) | (refine LitB.data ?_; conv => whnf) | (refine BoxB.own ?_; conv => whnf)))
    all_goals first
      | (exfalso; omega)
      | exact ⟨[some 0], (Y, X % Y), ⟨rfl, rfl, ⟨⟨rfl, rfl, rfl, .inl ⟨rfl, rowsT_z⟩⟩, trivial⟩, ⟨⟨rfl, rfl, rfl⟩, rfl, rfl, trivial⟩⟩, ⟨by rw [← g1, Nat.gcd_comm Y, ← Nat.gcd_rec, Nat.gcd_comm], g3, Nat.le_trans (dg_len_mono (Nat.le_of_lt (Nat.mod_lt X hY))) g3⟩, Nat.mod_lt X hY⟩
  · have hY : Y = 0 := by omega
    subst hY
    have hp : (dg 0).length = 0 := rfl
    have s1 := r_madeD 1 X (by simp) (by omega)
    conv => whnf
    (repeat' (first | ((refine DecB.mk (fun h => ?_) (fun h => ?_)) <;> first | (exfalso; omega) | (conv => whnf)) | ((refine BoolB.mk (fun h => ?_) (fun h => ?_)) <;> first | (exact absurd h (by decide)) | (conv => whnf)) | (refine ⟨_, wrap_ok (by omega) (by omega), ?_⟩; conv => whnf) | (refine and_idx (by omega) (by omega) ?_; conv => whnf) | (refine reg_ok (by decide +kernel) ?_; conv => whnf) | (refine bar_ok (by decide +kernel) (by decide +kernel) ?_; conv => whnf) | (refine late_ok rfl rfl ?_; conv => whnf) | (refine src_ok rfl ?_; conv => whnf) | (refine .inl ⟨_, _, qcall_pure (s1) rfl rfl, ?_⟩; conv => whnf) | (refine LitB.data ?_; conv => whnf) | (refine BoxB.own ?_; conv => whnf)))
    all_goals first
      | (exfalso; omega)
      | skip
    refine fin_be ?_
    rw [Int.one_mul, show X = Int.gcd x y by rw [Int.gcd, ← g1, Nat.gcd_zero_right]]
theorem r4Div (x y : Int) (hy : 0 < y) (hxy : x % y = 0) (lx : bl x ≤ 200000) (ly : bl y ≤ 200000) : ACall Tryz.prog 102 [bgS (bz x), bgS (bz y)] [] (.tup [bgS (bz (x / y)), bgS (bz 0), intS .i64 0]) [] := by
  have r1 := r4Right x (by omega)
  have r2 := r4Right y (by omega)
  have hys : (bz y).sg = 1 := by rw [bz_sg, Int.sign_eq_one_of_pos hy]
  have ov := r_over x.natAbs y.natAbs (by omega) lx ly
  have hmod : x.natAbs % y.natAbs = 0 := by
    have := Int.natAbs_dvd_natAbs.2 (Int.dvd_of_emod_eq_zero hxy)
    exact Nat.mod_eq_zero_of_dvd this
  have lq := dg_len_mono (Nat.div_le_self x.natAbs y.natAbs)
  have hsg : (bz x).sg = x.sign := rfl
  have hs := sign_cases x
  have hq : x.sign * ((x.natAbs / y.natAbs : Nat) : Int) = x / y := by
    obtain ⟨k, hk⟩ := Int.dvd_of_emod_eq_zero hxy
    subst hk
    have hk2 : (y * k) / y = k := Int.mul_ediv_cancel_left _ (by omega)
    rw [hk2, Int.natAbs_mul, Nat.mul_div_cancel_left _ (by omega), Int.sign_mul, Int.sign_eq_one_of_pos hy, Int.one_mul]
    exact Int.sign_mul_natAbs k
  have s1 := r_madeD x.sign (x.natAbs / y.natAbs) (by
    rcases hs with ⟨h, h1⟩ | ⟨h, h1⟩ | ⟨h, h1⟩
    · right; right; subst h1; simp
    · exact .inl h
    · exact .inr (.inl h)) (by unfold bl at lx; omega)
  rw [hq] at s1
  have s2 := r_madeD x.sign 0 (by simp) (by rw [dg_zero]; simp)
  rw [show x.sign * ((0 : Nat) : Int) = 0 by simp] at s2
  have hmul : x.sign * 1 = x.sign := Int.mul_one _
  have hd0 : ((dg (x.natAbs % y.natAbs)).map intRow).length = 0 := by rw [hmod, dg_zero]; rfl
  unfold divS at ov
  rw [hmod] at ov hd0
  (refine acall_of tab_ok Tryz.func102 rfl (by decide) ?_; (conv => whnf); repeat (first | (refine LitB.data ?_; conv => whnf) | (refine BoxB.own ?_; conv => whnf)))
  (repeat' (first | ((refine DecB.mk (fun h => ?_) (fun h => ?_)) <;> first | (exfalso; omega) | (conv => whnf)) | ((refine BoolB.mk (fun h => ?_) (fun h => ?_)) <;> first | (exact absurd h (by decide)) | (conv => whnf)) | (refine ⟨_, wrap_ok (by omega) (by omega), ?_⟩; conv => whnf) | (refine and_idx (by omega) (by omega) ?_; conv => whnf) | (refine reg_ok (by decide +kernel) ?_; conv => whnf) | (refine bar_ok (by decide +kernel) (by decide +kernel) ?_; conv => whnf) | (refine late_ok rfl rfl ?_; conv => whnf) | (refine src_ok rfl ?_; conv => whnf) | (refine .inl ⟨_, _, qcall_pure (r1) rfl rfl, ?_⟩; conv => whnf) | (refine .inl ⟨_, _, qcall_pure (r2) rfl rfl, ?_⟩; conv => whnf) | (refine .inl ⟨_, _, qcall_pure (ov) rfl rfl, ?_⟩; conv => whnf) | (refine .inl ⟨_, _, qcall_pure (s1) rfl rfl, ?_⟩; conv => whnf) | (refine .inl ⟨_, _, qcall_pure (s2) rfl rfl, ?_⟩; conv => whnf) | (refine .inl ⟨_, _, qcall_pure (hys, hsg) rfl rfl, ?_⟩; conv => whnf) | (refine ⟨_, wrap_eq (y := x.sign) (by rw [hys, hsg]; exact hmul) (by omega) (by omega), ?_⟩; conv => whnf) | (refine LitB.data ?_; conv => whnf) | (refine BoxB.own ?_; conv => whnf)))
  all_goals first
    | (exfalso; omega)
    | (exfalso; simp_all; done)
    | exact fin_be2 rfl rfl
theorem r5New (p q : Int) (hq : 0 < q) (lp : bl p ≤ 200000) (lq : bl q ≤ 200000) : ACall Tryz.prog 71 [bgS (bz p), bgS (bz q)] [] (.tup [frS (fz (Rat.divInt p q)), intS .i64 0]) [] := by
  have r1 := r4Right p (by omega)
  have r2 := r4Right q (by omega)
  have hsg : (bz q).sg = 1 := by rw [bz_sg, Int.sign_eq_one_of_pos hq]
  have lg := bl_gcd p q lp lq
  have hg : 0 < (Int.gcd p q : Int) := by have := Int.gcd_pos_of_ne_zero_right p (b := q) (by omega); omega
  have g := r4Gcd p q lp lq
  have d1 := r4Div p _ hg (Int.emod_eq_zero_of_dvd (Int.gcd_dvd_left ..)) lp lg
  have d2 := r4Div q _ hg (Int.emod_eq_zero_of_dvd (Int.gcd_dvd_right ..)) lq lg
  have e := fz_divInt (p := p) (q := q) (by omega) rfl
  (refine acall_of tab_ok Tryz.func71 rfl (by decide) ?_; (conv => whnf); repeat (first | (refine LitB.data ?_; conv => whnf) | (refine BoxB.own ?_; conv => whnf)))
  (repeat' (first | ((refine DecB.mk (fun h => ?_) (fun h => ?_)) <;> first | (exfalso; omega) | (conv => whnf)) | ((refine BoolB.mk (fun h => ?_) (fun h => ?_)) <;> first | (exact absurd h (by decide)) | (conv => whnf)) | (refine ⟨_, wrap_ok (by omega) (by omega), ?_⟩; conv => whnf) | (refine and_idx (by omega) (by omega) ?_; conv => whnf) | (refine reg_ok (by decide +kernel) ?_; conv => whnf) | (refine bar_ok (by decide +kernel) (by decide +kernel) ?_; conv => whnf) | (refine late_ok rfl rfl ?_; conv => whnf) | (refine src_ok rfl ?_; conv => whnf) | (refine .inl ⟨_, _, qcall_pure (r1) rfl rfl, ?_⟩; conv => whnf) | (refine .inl ⟨_, _, qcall_pure (r2) rfl rfl, ?_⟩; conv => whnf) | (refine .inl ⟨_, _, qcall_pure (g) rfl rfl, ?_⟩; conv => whnf) | (refine .inl ⟨_, _, qcall_pure (d1) rfl rfl, ?_⟩; conv => whnf) | (refine .inl ⟨_, _, qcall_pure (d2) rfl rfl, ?_⟩; conv => whnf) | (refine LitB.data ?_; conv => whnf) | (refine BoxB.own ?_; conv => whnf)))
  all_goals first
    | (exfalso; omega)
    | (exfalso; simp_all; done)
    | exact fin_fe e.symm
theorem r5Of (p q : Int) (hq : 0 < q) (p0 : -9223372036854775808 ≤ p) (p1 : p ≤ 9223372036854775807) (q1 : q ≤ 9223372036854775807) :
    ACall Tryz.prog 38 [intS .i64 p, intS .i64 q] [] (.tup [frS (fz (Rat.divInt p q)), intS .i64 0]) [] := by
  have l1 := bl_int p0 p1
  have l2 := bl_int (x := q) (by omega) q1
  have o1 := r4Of p p0 p1
  have o2 := r4Of q (by omega) q1
  have n := r5New p q hq (by omega) (by omega)
  (refine acall_of tab_ok Tryz.func38 rfl (by decide) ?_; (conv => whnf); repeat (first | (refine LitB.data ?_; conv => whnf) | (refine BoxB.own ?_; conv => whnf)))
  (repeat' (first | ((refine DecB.mk (fun h => ?_) (fun h => ?_)) <;> first | (exfalso; omega) | (conv => whnf)) | ((refine BoolB.mk (fun h => ?_) (fun h => ?_)) <;> first | (exact absurd h (by decide)) | (conv => whnf)) | (refine ⟨_, wrap_ok (by omega) (by omega), ?_⟩; conv => whnf) | (refine and_idx (by omega) (by omega) ?_; conv => whnf) | (refine reg_ok (by decide +kernel) ?_; conv => whnf) | (refine bar_ok (by decide +kernel) (by decide +kernel) ?_; conv => whnf) | (refine late_ok rfl rfl ?_; conv => whnf) | (refine src_ok rfl ?_; conv => whnf) | (refine .inl ⟨_, _, qcall_pure (o1) rfl rfl, ?_⟩; conv => whnf) | (refine .inl ⟨_, _, qcall_pure (o2) rfl rfl, ?_⟩; conv => whnf) | (refine .inl ⟨_, _, qcall_pure (n) rfl rfl, ?_⟩; conv => whnf) | (refine LitB.data ?_; conv => whnf) | (refine BoxB.own ?_; conv => whnf)))
  all_goals exact fin_fe rfl
theorem r5Int (n : Int) (p0 : -9223372036854775808 ≤ n) (p1 : n ≤ 9223372036854775807) : ACall Tryz.prog 16 [intS .i64 n] [] (frS (fz (n : Rat))) [] := by
  have o := r5Of n 1 (by decide) p0 p1 (by decide)
  have e : Rat.divInt n 1 = (n : Rat) := by rw [Rat.divInt_eq_div]; simp; grind
  rw [e] at o
  (refine acall_of tab_ok Tryz.func16 rfl (by decide) ?_; (conv => whnf); repeat (first | (refine LitB.data ?_; conv => whnf) | (refine BoxB.own ?_; conv => whnf)))
  (repeat' (first | ((refine DecB.mk (fun h => ?_) (fun h => ?_)) <;> first | (exfalso; omega) | (conv => whnf)) | ((refine BoolB.mk (fun h => ?_) (fun h => ?_)) <;> first | (exact absurd h (by decide)) | (conv => whnf)) | (refine ⟨_, wrap_ok (by omega) (by omega), ?_⟩; conv => whnf) | (refine and_idx (by omega) (by omega) ?_; conv => whnf) | (refine reg_ok (by decide +kernel) ?_; conv => whnf) | (refine bar_ok (by decide +kernel) (by decide +kernel) ?_; conv => whnf) | (refine late_ok rfl rfl ?_; conv => whnf) | (refine src_ok rfl ?_; conv => whnf) | (refine .inl ⟨_, _, qcall_pure (o) rfl rfl, ?_⟩; conv => whnf) | (refine LitB.data ?_; conv => whnf) | (refine BoxB.own ?_; conv => whnf)))
  all_goals exact fin_t ⟨rfl, rfl, rfl, rfl, trivial⟩
end Go.Proofs.YthinjkjhiembgaaGreat
/- Digits, for the reference of big: plus. No program is in sight. -/
namespace Go.Proofs.YthinjkjhiembgaaGreat
set_option linter.unusedVariables false
set_option linter.unusedSimpArgs false

/-- the sum, digit by digit, appended -/
structure PluI (a b : List Int) (i : Nat) (out : List Int) (c : Int) : Prop where
  len : out.length = i
  ok : Okd out
  le : i ≤ max a.length b.length + 1
  top : i = max a.length b.length + 1 → c = 0
  c0 : 0 ≤ c
  c1 : c ≤ 1
  eq : val out + pw i * c = val (a.take i) + val (b.take i)
theorem PluI.init (a b : List Int) : PluI a b 0 [] 0 := ⟨rfl, .nil, Nat.zero_le _, fun _ => rfl, by decide, by decide, by simp [val]⟩
theorem PluI.step {a b out : List Int} {i : Nat} {c : Int} (h : PluI a b i out c) (ha : Okd a) (hb : Okd b) (hi : i < a.length ∨ i < b.length ∨ 0 < c) :
    PluI a b (i + 1) (out ++ [(dat a i + dat b i + c) % 1048576]) ((dat a i + dat b i + c) / 1048576) := by
  have h1 := ha.dat i
  have h2 := hb.dat i
  have h3 := h.c0
  have h4 := h.c1
  have hl := h.le
  have ht := h.top
  have hi2 : i ≤ max a.length b.length := by
    rcases Nat.lt_or_ge (max a.length b.length) i with h5 | h5
    · have := ht (by omega); omega
    · exact h5
  refine ⟨by simp [h.len], h.ok.append (Okd.cons (mod_rng _) .nil), by omega, fun e => ?_, by omega, by omega, ?_⟩
  · have e1 : dat a i = 0 := dat_none (by omega)
    have e2 : dat b i = 0 := dat_none (by omega)
    rw [e1, e2]; omega
  · rw [val_append, h.len, val_take_dat, val_take_dat, pw_succ]
    have h5 := h.eq
    have h6 : (dat a i + dat b i + c) % 1048576 = dat a i + dat b i + c - 1048576 * ((dat a i + dat b i + c) / 1048576) := by omega
    simp only [val]
    rw [h6]
    grind
theorem PluI.fin {a b out : List Int} {i : Nat} {c : Int} (h : PluI a b i out c) (la : a.length ≤ i) (lb : b.length ≤ i) (hc : c ≤ 0) : trimL out = dg (val a + val b).toNat := by
  have h1 := h.eq
  have h2 := h.c0
  obtain rfl : c = 0 := by omega
  rw [List.take_of_length_le la, List.take_of_length_le lb] at h1
  rw [trimL_dg h.ok]
  congr 2
  grind
end Go.Proofs.YthinjkjhiembgaaGreat
/- Reference of big: plus, Neg, Add, Sub, Mul, Compare. -/
namespace Go.Proofs.YthinjkjhiembgaaGreat
open Go.RowKit
set_option linter.unusedVariables false
set_option linter.unusedSimpArgs false
set_option maxRecDepth 100000

theorem r_plus (a b : List Int) (ha : Okd a) (hb : Okd b) (la : a.length ≤ 400000) (lb : b.length ≤ 400000) :
    ACall Tryz.prog 112 [intsS a, intsS b] [] (intsS (dg (val a + val b).toNat)) [] := by
  have l1 : (a.map intRow).length = a.length := by simp
  have l2 : (b.map intRow).length = b.length := by simp
  (refine acall_of tab_ok Tryz.func112 rfl (by decide) ?_; (conv => whnf); repeat (first | (refine LitB.data ?_; conv => whnf) | (refine BoxB.own ?_; conv => whnf)))
  (repeat' (first | ((refine DecB.mk (fun h => ?_) (fun h => ?_)) <;> first | (exfalso; omega) | (conv => whnf)) | ((refine BoolB.mk (fun h => ?_) (fun h => ?_)) <;> first | (exact absurd h (by decide)) | (conv => whnf)) | (refine ⟨_, wrap_ok (by omega) (by omega), ?_⟩; conv => whnf) | (refine and_idx (by omega) (by omega) ?_; conv => whnf) | (refine reg_ok (by decide +kernel) ?_; conv => whnf) | (refine bar_ok (by decide +kernel) (by decide +kernel) ?_; conv => whnf) | (refine late_ok rfl rfl ?_; conv => whnf) | (refine src_ok rfl ?_; conv => whnf) | (refine LitB.data ?_; conv => whnf) | (refine BoxB.own ?_; conv => whnf)))
  refine awp_while tab_ok (σ := Nat × List Int × Int) (fun | (k, out, c) => ([intsS a, intsS b, S.junk, S.junk, S.junk, ownI 0 out, intS .i64 c, intS .i64 k, S.junk, S.junk, S.junk, S.junk, S.junk, S.junk, S.junk, S.junk, S.junk, S.junk, S.junk, S.junk, S.junk, S.junk, S.junk, S.junk, S.junk, S.junk, S.junk, S.junk, S.junk, S.junk, S.junk, S.junk, S.junk, S.junk, S.junk, S.junk, S.junk, S.junk, S.junk, S.junk, S.junk, S.junk, S.junk], [intsB out])) (fun x => PluI a b x.1 x.2.1 x.2.2) (fun x => max a.length b.length + 1 - x.1) (0, [], 0) [none]
    (PluI.init a b) ⟨rfl, rfl, ⟨⟨rfl, rfl⟩, trivial⟩, ⟨ent_t rfl, ent_t rfl, ⟨rfl, rfl, rfl⟩, rfl, rfl, trivial⟩⟩ ?_
  rintro ⟨k, out, c⟩ hI
  have hI : PluI a b k out c := hI
  have hlen := hI.len
  have hle := hI.le
  have hc0 := hI.c0
  have hc1 := hI.c1
  have hda := ha.dat k
  have hdb := hb.dat k
  have d1 := r_digit a k (by omega)
  have d2 := r_digit b k (by omega)
  have hm : (dat a k + dat b k + c).tmod 1048576 = (dat a k + dat b k + c) % 1048576 := Int.tmod_eq_emod_of_nonneg (by omega)
  have hd : (dat a k + dat b k + c).tdiv 1048576 = (dat a k + dat b k + c) / 1048576 := Int.tdiv_eq_ediv_of_nonneg (by omega)
  by_cases hgo : k < a.length ∨ k < b.length ∨ 0 < c
  · have hst := hI.step ha hb hgo
    have hk2 := hst.le
    conv => whnf
    (repeat' (first | ((refine DecB.mk (fun h => ?_) (fun h => ?_)) <;> first | (exfalso; omega) | (conv => whnf)) | ((refine BoolB.mk (fun h => ?_) (fun h => ?_)) <;> first | (exact absurd h (by decide)) | (conv => whnf)) | (refine ⟨_, wrap_ok (by omega) (by omega), ?_⟩; conv => whnf) | (refine and_idx (by omega) (by omega) ?_; conv => whnf) | (refine reg_ok (by decide +kernel) ?_; conv => whnf) | (refine bar_ok (by decide +kernel) (by decide +kernel) ?_; conv => whnf) | (refine late_ok rfl rfl ?_; conv => whnf) | (refine src_ok rfl ?_; conv => whnf) | (refine .inl ⟨_, _, qcall_pure (d1) rfl rfl, ?_⟩; conv => whnf) | (refine .inl ⟨_, _, qcall_pure (d2) rfl rfl, ?_⟩; conv => whnf) | (refine .inl ⟨_, _, qcall_pure (toC) rfl rfl, ?_⟩; conv => whnf) | (refine .inl ⟨_, _, qcall_pure (toC) rfl rfl, ?_⟩; conv => whnf) | (refine app_ok (by simp [toC]) (by simp [toC]; omega) ?_; conv => whnf) | (refine ⟨by decide, _, wrap_eq hd (by omega) (by omega), ?_⟩; conv => whnf) | (refine ne_ok (by decide) ?_; conv => whnf) | (refine LitB.data ?_; conv => whnf) | (refine BoxB.own ?_; conv => whnf)))
    all_goals try (exfalso; omega)
    all_goals
      refine ⟨[some 1], (k + 1, out ++ [(dat a k + dat b k + c) % 1048576], (dat a k + dat b k + c) / 1048576), ⟨rfl, rfl, ⟨entB_rows rfl rfl rfl ?_ rfl, trivial⟩, ⟨rfl, rfl, ent_own rfl (by simp [toC]), rfl, ent_i (by omega), trivial⟩⟩, hst, ?_⟩
      · have e : ∀ y : Int, y = (dat a k + dat b k + c) % 1048576 → (toC (out.map intRow)).take out.length ++ toC [[ti y]] = toC ((out ++ [(dat a k + dat b k + c) % 1048576]).map intRow) := fun y hy => by rw [hy]; exact toC_app1
        exact e _ (by omega)
      · show max a.length b.length + 1 - (k + 1) < max a.length b.length + 1 - k
        omega
  · have hf := hI.fin (by omega) (by omega) (by omega)
    have t := r_trim out (by omega)
    rw [hf] at t
    conv => whnf
    (repeat' (first | ((refine DecB.mk (fun h => ?_) (fun h => ?_)) <;> first | (exfalso; omega) | (conv => whnf)) | ((refine BoolB.mk (fun h => ?_) (fun h => ?_)) <;> first | (exact absurd h (by decide)) | (conv => whnf)) | (refine ⟨_, wrap_ok (by omega) (by omega), ?_⟩; conv => whnf) | (refine and_idx (by omega) (by omega) ?_; conv => whnf) | (refine reg_ok (by decide +kernel) ?_; conv => whnf) | (refine bar_ok (by decide +kernel) (by decide +kernel) ?_; conv => whnf) | (refine late_ok rfl rfl ?_; conv => whnf) | (refine src_ok rfl ?_; conv => whnf) | (refine .inl ⟨_, _, qcall_pure (0) rfl rfl, ?_⟩; conv => whnf) | (refine .inr ⟨_, _, acall_freeze [0] t ⟨vs_c (vc_all (by simp) rfl (by intro h; cases h) rfl rfl (by simp)), trivial⟩ rfl, ?_⟩; conv => whnf) | (refine LitB.data ?_; conv => whnf) | (refine BoxB.own ?_; conv => whnf)))
    all_goals first
      | (exfalso; omega)
      | exact fin_d rfl
theorem r_plusD (m n : Nat) (lm : (dg m).length ≤ 300000) (ln : (dg n).length ≤ 300000) : ACall Tryz.prog 112 [intsS (dg m), intsS (dg n)] [] (intsS (dg (m + n))) [] := by
  have h := r_plus (dg m) (dg n) (okd_dg m) (okd_dg n) (by omega) (by omega)
  rw [val_dg, val_dg, show ((m : Int) + n).toNat = m + n by omega] at h
  exact h
theorem r_minusD (m n : Nat) (lm : (dg m).length ≤ 300000) (h : n ≤ m) : ACall Tryz.prog 110 [intsS (dg m), intsS (dg n)] [] (intsS (dg (m - n))) [] := by
  have h := r_minus (dg m) (dg n) (okd_dg m) (okd_dg n) (by omega) (dg_len_mono h) (by rw [val_dg, val_dg]; omega)
  rw [val_dg, val_dg, show ((m : Int) - n).toNat = m - n by omega] at h
  exact h
theorem r_lessD (m n : Nat) (lm : (dg m).length ≤ 300000) (ln : (dg n).length ≤ 300000) : ACall Tryz.prog 87 [intsS (dg m), intsS (dg n)] [] (boolS (decide (m < n))) [] := by
  have h := r_less (dg m) (dg n) (okd_dg m) (okd_dg n) (by omega) (by omega)
  rw [val_dg, val_dg, show decide ((m : Int) < n) = decide (m < n) by simp] at h
  exact h
theorem r4Rt (s : Int) (m : Nat) (h : Sg s m) (lm : (dg m).length ≤ 300000) : ACall Tryz.prog 47 [bgS ⟨s, dg m⟩] [] (boolS true) [] := by
  have := r_bigRight ⟨s, dg m⟩ (show (dg m).length ≤ 1000000 by omega)
  rw [← bz_of_sg h, bz_right, bz_of_sg h] at this
  exact this
theorem r4Neg (x : Int) (lx : bl x ≤ 300000) : ACall Tryz.prog 101 [bgS (bz x)] [] (bgS (bz (-x))) [] := by
  have r := r4Right x lx
  have hs := sign_cases x
  have hsg : (bz x).sg = x.sign := rfl
  have sg := r_madeD (0 - (bz x).sg) x.natAbs (by omega) (by unfold bl at lx; omega)
  rw [show (0 - (bz x).sg) * (x.natAbs : Int) = -x by rw [hsg]; have := sgm x; grind] at sg
  (refine acall_of tab_ok Tryz.func101 rfl (by decide) ?_; (conv => whnf); repeat (first | (refine LitB.data ?_; conv => whnf) | (refine BoxB.data ?_; conv => whnf)))
  (repeat' (first | ((refine DecB.mk (fun h => ?_) (fun h => ?_)) <;> first | (exfalso; omega) | (conv => whnf)) | ((refine BoolB.mk (fun h => ?_) (fun h => ?_)) <;> first | (exact absurd h (by decide)) | (conv => whnf)) | (refine ⟨_, wrap_ok (by omega) (by omega), ?_⟩; conv => whnf) | (refine and_idx (by omega) (by omega) ?_; conv => whnf) | (refine reg_ok (by decide +kernel) ?_; conv => whnf) | (refine bar_ok (by decide +kernel) (by decide +kernel) ?_; conv => whnf) | (refine late_ok rfl rfl ?_; conv => whnf) | (refine src_ok rfl ?_; conv => whnf) | (refine .inl ⟨_, _, qcall_pure (r) rfl rfl, ?_⟩; conv => whnf) | (refine .inl ⟨_, _, qcall_pure (sg) rfl rfl, ?_⟩; conv => whnf) | (refine LitB.data ?_; conv => whnf) | (refine BoxB.own ?_; conv => whnf)))
  all_goals first
    | (exfalso; simp_all; done)
    | exact fin_t ⟨rfl, rfl, trivial⟩
end Go.Proofs.YthinjkjhiembgaaGreat
/- Reference of big: Same, Add, Sub, Mul, Compare. -/
namespace Go.Proofs.YthinjkjhiembgaaGreat
open Go.RowKit
set_option linter.unusedVariables false
set_option linter.unusedSimpArgs false
set_option maxRecDepth 100000

theorem take_snocR {α : Type} {l : List α} {k : Nat} {x : α} (h : l[k]? = some x) : l.take (k + 1) = l.take k ++ [x] := by
  rw [List.take_add_one, h]; rfl
theorem r4Same (a b : Bg) (ha : a.dl.length ≤ 1000000) (hb : b.dl.length ≤ 1000000) : ACall Tryz.prog 86 [bgS a, bgS b] [] (boolS (decide (a.sg = b.sg ∧ a.dl = b.dl))) [] := by
  have l1 : (a.dl.map intRow).length = a.dl.length := by simp
  have l2 : (b.dl.map intRow).length = b.dl.length := by simp
  by_cases h0 : ¬ (a.sg = b.sg ∧ a.dl.length = b.dl.length)
  · (refine acall_of tab_ok Tryz.func86 rfl (by decide) ?_; (conv => whnf); repeat (first | (refine LitB.data ?_; conv => whnf) | (refine BoxB.data ?_; conv => whnf)))
    (repeat' (first | ((refine DecB.mk (fun h => ?_) (fun h => ?_)) <;> first | (exfalso; omega) | (conv => whnf)) | ((refine BoolB.mk (fun h => ?_) (fun h => ?_)) <;> first | (exact absurd h (by decide)) | (conv => whnf)) | (refine ⟨_, wrap_ok (by omega) (by omega), ?_⟩; conv => whnf) | (refine and_idx (by omega) (by omega) ?_; conv => whnf) | (refine reg_ok (by decide +kernel) ?_; conv => whnf) | (refine bar_ok (by decide +kernel) (by decide +kernel) ?_; conv => whnf) | (refine late_ok rfl rfl ?_; conv => whnf) | (refine src_ok rfl ?_; conv => whnf) | (refine LitB.data ?_; conv => whnf) | (refine BoxB.own ?_; conv => whnf)))
    all_goals first
      | (exfalso; omega)
      | (refine fin_bool (decide_eq_false ?_).symm; rintro ⟨h1, h2⟩; rw [h2] at h0; exact h0 ⟨h1, rfl⟩)
  have h0 : a.sg = b.sg ∧ a.dl.length = b.dl.length := Decidable.not_not.1 h0
  (refine acall_of tab_ok Tryz.func86 rfl (by decide) ?_; (conv => whnf); repeat (first | (refine LitB.data ?_; conv => whnf) | (refine BoxB.data ?_; conv => whnf)))
  (repeat' (first | ((refine DecB.mk (fun h => ?_) (fun h => ?_)) <;> first | (exfalso; omega) | (conv => whnf)) | ((refine BoolB.mk (fun h => ?_) (fun h => ?_)) <;> first | (exact absurd h (by decide)) | (conv => whnf)) | (refine ⟨_, wrap_ok (by omega) (by omega), ?_⟩; conv => whnf) | (refine and_idx (by omega) (by omega) ?_; conv => whnf) | (refine reg_ok (by decide +kernel) ?_; conv => whnf) | (refine bar_ok (by decide +kernel) (by decide +kernel) ?_; conv => whnf) | (refine late_ok rfl rfl ?_; conv => whnf) | (refine src_ok rfl ?_; conv => whnf) | (refine LitB.data ?_; conv => whnf) | (refine BoxB.own ?_; conv => whnf)))
  all_goals try (exfalso; omega)
  refine awp_for tab_ok (fun k => ([S.junk, S.junk, S.c (C.t (T.ptr [ti a.sg, intsT a.dl])), S.c (C.t (T.ptr [ti b.sg, intsT b.dl])), S.junk, intS .i64 k, S.junk, S.junk, S.junk, S.junk, S.junk, S.junk, S.junk, S.junk, S.junk, S.junk, S.junk, S.junk, S.junk, S.junk, S.junk, S.junk, S.junk, S.junk, S.junk, S.junk, S.junk, S.junk, S.junk, S.junk, S.junk, S.junk, S.junk, S.junk, S.junk, S.junk, S.junk, S.junk], [])) a.dl.length (fun k => a.dl.take k = b.dl.take k) [] rfl
    ⟨rfl, rfl, trivial, ⟨rfl, rfl, rfl, trivial⟩⟩ ?_
  intro k hk hI
  by_cases hlt : k < a.dl.length
  · obtain ⟨x, hx⟩ : ∃ x, a.dl[k]? = some x := ⟨_, List.getElem?_eq_getElem hlt⟩
    obtain ⟨y, hy⟩ : ∃ y, b.dl[k]? = some y := ⟨_, List.getElem?_eq_getElem (by omega)⟩
    conv => whnf
    (repeat' (first | ((refine DecB.mk (fun h => ?_) (fun h => ?_)) <;> first | (exfalso; omega) | (conv => whnf)) | ((refine BoolB.mk (fun h => ?_) (fun h => ?_)) <;> first | (exact absurd h (by decide)) | (conv => whnf)) | (refine ⟨_, wrap_ok (by omega) (by omega), ?_⟩; conv => whnf) | (refine and_idx (by omega) (by omega) ?_; conv => whnf) | (refine reg_ok (by decide +kernel) ?_; conv => whnf) | (refine bar_ok (by decide +kernel) (by decide +kernel) ?_; conv => whnf) | (refine late_ok rfl rfl ?_; conv => whnf) | (refine src_ok rfl ?_; conv => whnf) | (refine ex_row hx ?_; conv => whnf) | (refine ex_row hy ?_; conv => whnf) | (refine LitB.data ?_; conv => whnf) | (refine BoxB.own ?_; conv => whnf)))
    · have hne : x ≠ y := ‹x ≠ y›
      refine fin_bool (decide_eq_false ?_).symm
      rintro ⟨_, hq⟩; rw [hq, hy] at hx; injection hx with hx; exact hne hx.symm
    · have hxy : x = y := by omega
      refine ⟨hlt, ?_, [], rfl, rfl, trivial, ⟨rfl, rfl, rfl, trivial⟩⟩
      rw [take_snocR hx, take_snocR hy, hI, hxy]
    all_goals (exfalso; omega)
  · rw [List.take_of_length_le (by omega), List.take_of_length_le (by omega)] at hI
    conv => whnf
    (repeat' (first | ((refine DecB.mk (fun h => ?_) (fun h => ?_)) <;> first | (exfalso; omega) | (conv => whnf)) | ((refine BoolB.mk (fun h => ?_) (fun h => ?_)) <;> first | (exact absurd h (by decide)) | (conv => whnf)) | (refine ⟨_, wrap_ok (by omega) (by omega), ?_⟩; conv => whnf) | (refine and_idx (by omega) (by omega) ?_; conv => whnf) | (refine reg_ok (by decide +kernel) ?_; conv => whnf) | (refine bar_ok (by decide +kernel) (by decide +kernel) ?_; conv => whnf) | (refine late_ok rfl rfl ?_; conv => whnf) | (refine src_ok rfl ?_; conv => whnf) | (refine LitB.data ?_; conv => whnf) | (refine BoxB.own ?_; conv => whnf)))
    all_goals first
      | (exfalso; omega)
      | exact fin_bool (decide_eq_true ⟨h0.1, hI⟩).symm
theorem orS00 : IsBits .or .i64 0 0 0 := by show (0 : Int) = _; decide +kernel
theorem orS01 : IsBits .or .i64 0 1 1 := by show (1 : Int) = _; decide +kernel
theorem orS10 : IsBits .or .i64 1 0 1 := by show (1 : Int) = _; decide +kernel
theorem orS11 : IsBits .or .i64 1 1 1 := by show (1 : Int) = _; decide +kernel
theorem orS0m : IsBits .or .i64 0 (-1) (-1) := by show (-1 : Int) = _; decide +kernel
theorem orSm0 : IsBits .or .i64 (-1) 0 (-1) := by show (-1 : Int) = _; decide +kernel
theorem orSmm : IsBits .or .i64 (-1) (-1) (-1) := by show (-1 : Int) = _; decide +kernel
set_option maxHeartbeats 4000000 in
theorem r4AddS (s t : Int) (m n : Nat) (hs : Sg s m) (ht : Sg t n) (lm : (dg m).length ≤ 200000) (ln : (dg n).length ≤ 200000) :
    ACall Tryz.prog 89 [bgS ⟨s, dg m⟩, bgS ⟨t, dg n⟩] [] (.tup [bgS (bz (s * m + t * n)), intS .i64 0]) [] := by
  have r1 := r4Rt s m hs (by omega)
  have r2 := r4Rt t n ht (by omega)
  have ad := r_plusD m n (by omega) (by omega)
  have c := r_lessD m n (by omega) (by omega)
  have ls := dg_add_len m n
  have fin : ∀ (z : Int) (H1 : Hp), z = s * m + t * n → Fin 0 (.tup [bgS (bz z), intS .i64 0]) H1 (.tup [bgS (bz (s * m + t * n)), intS .i64 0]) [] := fun z H1 h => fin_be (by rw [h])
  rcases hs with ⟨rfl, rfl⟩ | ⟨rfl, h1⟩ | ⟨rfl, h1⟩ <;> rcases ht with ⟨rfl, rfl⟩ | ⟨rfl, h2⟩ | ⟨rfl, h2⟩
  case inl.inl =>
    have sg := r_madeD (0) _ (by omega) (le_of_len ls (by omega))
    (refine acall_of tab_ok Tryz.func89 rfl (by decide) ?_; (conv => whnf); repeat (first | (refine LitB.data ?_; conv => whnf) | (refine BoxB.data ?_; conv => whnf)))
    (repeat' (first | ((refine DecB.mk (fun h => ?_) (fun h => ?_)) <;> first | (exfalso; omega) | (conv => whnf)) | ((refine BoolB.mk (fun h => ?_) (fun h => ?_)) <;> first | (exact absurd h (by decide)) | (conv => whnf)) | (refine ⟨_, wrap_ok (by omega) (by omega), ?_⟩; conv => whnf) | (refine and_idx (by omega) (by omega) ?_; conv => whnf) | (refine reg_ok (by decide +kernel) ?_; conv => whnf) | (refine bar_ok (by decide +kernel) (by decide +kernel) ?_; conv => whnf) | (refine late_ok rfl rfl ?_; conv => whnf) | (refine src_ok rfl ?_; conv => whnf) | (refine .inl ⟨_, _, qcall_pure (r1) rfl rfl, ?_⟩; conv => whnf) | (refine .inl ⟨_, _, qcall_pure (r2) rfl rfl, ?_⟩; conv => whnf) | (refine .inl ⟨_, _, qcall_pure (ad) rfl rfl, ?_⟩; conv => whnf) | (refine .inl ⟨_, _, qcall_pure (sg) rfl rfl, ?_⟩; conv => whnf) | (refine ⟨_, orS00, ?_⟩; conv => whnf) | (refine LitB.data ?_; conv => whnf) | (refine BoxB.own ?_; conv => whnf)))
    all_goals first | (exfalso; omega) | (exfalso; simp_all; done) | exact fin _ _ (by omega)
  case inl.inr.inl =>
    have sg := r_madeD (1) _ (by omega) (le_of_len ls (by omega))
    (refine acall_of tab_ok Tryz.func89 rfl (by decide) ?_; (conv => whnf); repeat (first | (refine LitB.data ?_; conv => whnf) | (refine BoxB.data ?_; conv => whnf)))
    (repeat' (first | ((refine DecB.mk (fun h => ?_) (fun h => ?_)) <;> first | (exfalso; omega) | (conv => whnf)) | ((refine BoolB.mk (fun h => ?_) (fun h => ?_)) <;> first | (exact absurd h (by decide)) | (conv => whnf)) | (refine ⟨_, wrap_ok (by omega) (by omega), ?_⟩; conv => whnf) | (refine and_idx (by omega) (by omega) ?_; conv => whnf) | (refine reg_ok (by decide +kernel) ?_; conv => whnf) | (refine bar_ok (by decide +kernel) (by decide +kernel) ?_; conv => whnf) | (refine late_ok rfl rfl ?_; conv => whnf) | (refine src_ok rfl ?_; conv => whnf) | (refine .inl ⟨_, _, qcall_pure (r1) rfl rfl, ?_⟩; conv => whnf) | (refine .inl ⟨_, _, qcall_pure (r2) rfl rfl, ?_⟩; conv => whnf) | (refine .inl ⟨_, _, qcall_pure (ad) rfl rfl, ?_⟩; conv => whnf) | (refine .inl ⟨_, _, qcall_pure (sg) rfl rfl, ?_⟩; conv => whnf) | (refine ⟨_, orS01, ?_⟩; conv => whnf) | (refine LitB.data ?_; conv => whnf) | (refine BoxB.own ?_; conv => whnf)))
    all_goals first | (exfalso; omega) | (exfalso; simp_all; done) | exact fin _ _ (by omega)
  case inl.inr.inr =>
    have sg := r_madeD (-1) _ (by omega) (le_of_len ls (by omega))
    (refine acall_of tab_ok Tryz.func89 rfl (by decide) ?_; (conv => whnf); repeat (first | (refine LitB.data ?_; conv => whnf) | (refine BoxB.data ?_; conv => whnf)))
    (repeat' (first | ((refine DecB.mk (fun h => ?_) (fun h => ?_)) <;> first | (exfalso; omega) | (conv => whnf)) | ((refine BoolB.mk (fun h => ?_) (fun h => ?_)) <;> first | (exact absurd h (by decide)) | (conv => whnf)) | (refine ⟨_, wrap_ok (by omega) (by omega), ?_⟩; conv => whnf) | (refine and_idx (by omega) (by omega) ?_; conv => whnf) | (refine reg_ok (by decide +kernel) ?_; conv => whnf) | (refine bar_ok (by decide +kernel) (by decide +kernel) ?_; conv => whnf) | (refine late_ok rfl rfl ?_; conv => whnf) | (refine src_ok rfl ?_; conv => whnf) | (refine .inl ⟨_, _, qcall_pure (r1) rfl rfl, ?_⟩; conv => whnf) | (refine .inl ⟨_, _, qcall_pure (r2) rfl rfl, ?_⟩; conv => whnf) | (refine .inl ⟨_, _, qcall_pure (ad) rfl rfl, ?_⟩; conv => whnf) | (refine .inl ⟨_, _, qcall_pure (sg) rfl rfl, ?_⟩; conv => whnf) | (refine ⟨_, orS0m, ?_⟩; conv => whnf) | (refine LitB.data ?_; conv => whnf) | (refine BoxB.own ?_; conv => whnf)))
    all_goals first | (exfalso; omega) | (exfalso; simp_all; done) | exact fin _ _ (by omega)
  case inr.inl.inl =>
    have sg := r_madeD (1) _ (by omega) (le_of_len ls (by omega))
    (refine acall_of tab_ok Tryz.func89 rfl (by decide) ?_; (conv => whnf); repeat (first | (refine LitB.data ?_; conv => whnf) | (refine BoxB.data ?_; conv => whnf)))
    (repeat' (first | ((refine DecB.mk (fun h => ?_) (fun h => ?_)) <;> first | (exfalso; omega) | (conv => whnf)) | ((refine BoolB.mk (fun h => ?_) (fun h => ?_)) <;> first | (exact absurd h (by decide)) | (conv => whnf)) | (refine ⟨_, wrap_ok (by omega) (by omega), ?_⟩; conv => whnf) | (refine and_idx (by omega) (by omega) ?_; conv => whnf) | (refine reg_ok (by decide +kernel) ?_; conv => whnf) | (refine bar_ok (by decide +kernel) (by decide +kernel) ?_; conv => whnf) | (refine late_ok rfl rfl ?_; conv => whnf) | (refine src_ok rfl ?_; conv => whnf) | (refine .inl ⟨_, _, qcall_pure (r1) rfl rfl, ?_⟩; conv => whnf) | (refine .inl ⟨_, _, qcall_pure (r2) rfl rfl, ?_⟩; conv => whnf) | (refine .inl ⟨_, _, qcall_pure (ad) rfl rfl, ?_⟩; conv => whnf) | (refine .inl ⟨_, _, qcall_pure (sg) rfl rfl, ?_⟩; conv => whnf) | (refine ⟨_, orS10, ?_⟩; conv => whnf) | (refine LitB.data ?_; conv => whnf) | (refine BoxB.own ?_; conv => whnf)))
    all_goals first | (exfalso; omega) | (exfalso; simp_all; done) | exact fin _ _ (by omega)
  case inr.inr.inl =>
    have sg := r_madeD (-1) _ (by omega) (le_of_len ls (by omega))
    (refine acall_of tab_ok Tryz.func89 rfl (by decide) ?_; (conv => whnf); repeat (first | (refine LitB.data ?_; conv => whnf) | (refine BoxB.data ?_; conv => whnf)))
    (repeat' (first | ((refine DecB.mk (fun h => ?_) (fun h => ?_)) <;> first | (exfalso; omega) | (conv => whnf)) | ((refine BoolB.mk (fun h => ?_) (fun h => ?_)) <;> first | (exact absurd h (by decide)) | (conv => whnf)) | (refine ⟨_, wrap_ok (by omega) (by omega), ?_⟩; conv => whnf) | (refine and_idx (by omega) (by omega) ?_; conv => whnf) | (refine reg_ok (by decide +kernel) ?_; conv => whnf) | (refine bar_ok (by decide +kernel) (by decide +kernel) ?_; conv => whnf) | (refine late_ok rfl rfl ?_; conv => whnf) | (refine src_ok rfl ?_; conv => whnf) | (refine .inl ⟨_, _, qcall_pure (r1) rfl rfl, ?_⟩; conv => whnf) | (refine .inl ⟨_, _, qcall_pure (r2) rfl rfl, ?_⟩; conv => whnf) | (refine .inl ⟨_, _, qcall_pure (ad) rfl rfl, ?_⟩; conv => whnf) | (refine .inl ⟨_, _, qcall_pure (sg) rfl rfl, ?_⟩; conv => whnf) | (refine ⟨_, orSm0, ?_⟩; conv => whnf) | (refine LitB.data ?_; conv => whnf) | (refine BoxB.own ?_; conv => whnf)))
    all_goals first | (exfalso; omega) | (exfalso; simp_all; done) | exact fin _ _ (by omega)
  case inr.inl.inr.inl =>
    have sg := r_madeD (1) _ (by omega) (le_of_len ls (by omega))
    (refine acall_of tab_ok Tryz.func89 rfl (by decide) ?_; (conv => whnf); repeat (first | (refine LitB.data ?_; conv => whnf) | (refine BoxB.data ?_; conv => whnf)))
    (repeat' (first | ((refine DecB.mk (fun h => ?_) (fun h => ?_)) <;> first | (exfalso; omega) | (conv => whnf)) | ((refine BoolB.mk (fun h => ?_) (fun h => ?_)) <;> first | (exact absurd h (by decide)) | (conv => whnf)) | (refine ⟨_, wrap_ok (by omega) (by omega), ?_⟩; conv => whnf) | (refine and_idx (by omega) (by omega) ?_; conv => whnf) | (refine reg_ok (by decide +kernel) ?_; conv => whnf) | (refine bar_ok (by decide +kernel) (by decide +kernel) ?_; conv => whnf) | (refine late_ok rfl rfl ?_; conv => whnf) | (refine src_ok rfl ?_; conv => whnf) | (refine .inl ⟨_, _, qcall_pure (r1) rfl rfl, ?_⟩; conv => whnf) | (refine .inl ⟨_, _, qcall_pure (r2) rfl rfl, ?_⟩; conv => whnf) | (refine .inl ⟨_, _, qcall_pure (ad) rfl rfl, ?_⟩; conv => whnf) | (refine .inl ⟨_, _, qcall_pure (sg) rfl rfl, ?_⟩; conv => whnf) | (refine ⟨_, orS11, ?_⟩; conv => whnf) | (refine LitB.data ?_; conv => whnf) | (refine BoxB.own ?_; conv => whnf)))
    all_goals first | (exfalso; omega) | (exfalso; simp_all; done) | exact fin _ _ (by omega)
  case inr.inr.inr.inr =>
    have sg := r_madeD (-1) _ (by omega) (le_of_len ls (by omega))
    (refine acall_of tab_ok Tryz.func89 rfl (by decide) ?_; (conv => whnf); repeat (first | (refine LitB.data ?_; conv => whnf) | (refine BoxB.data ?_; conv => whnf)))
    (repeat' (first | ((refine DecB.mk (fun h => ?_) (fun h => ?_)) <;> first | (exfalso; omega) | (conv => whnf)) | ((refine BoolB.mk (fun h => ?_) (fun h => ?_)) <;> first | (exact absurd h (by decide)) | (conv => whnf)) | (refine ⟨_, wrap_ok (by omega) (by omega), ?_⟩; conv => whnf) | (refine and_idx (by omega) (by omega) ?_; conv => whnf) | (refine reg_ok (by decide +kernel) ?_; conv => whnf) | (refine bar_ok (by decide +kernel) (by decide +kernel) ?_; conv => whnf) | (refine late_ok rfl rfl ?_; conv => whnf) | (refine src_ok rfl ?_; conv => whnf) | (refine .inl ⟨_, _, qcall_pure (r1) rfl rfl, ?_⟩; conv => whnf) | (refine .inl ⟨_, _, qcall_pure (r2) rfl rfl, ?_⟩; conv => whnf) | (refine .inl ⟨_, _, qcall_pure (ad) rfl rfl, ?_⟩; conv => whnf) | (refine .inl ⟨_, _, qcall_pure (sg) rfl rfl, ?_⟩; conv => whnf) | (refine ⟨_, orSmm, ?_⟩; conv => whnf) | (refine LitB.data ?_; conv => whnf) | (refine BoxB.own ?_; conv => whnf)))
    all_goals first | (exfalso; omega) | (exfalso; simp_all; done) | exact fin _ _ (by omega)
  case inr.inl.inr.inr =>
    rcases Nat.lt_or_ge m n with hmn | hmn
    · rw [decide_eq_true hmn] at c
      have l3 := dg_len_mono (Nat.sub_le n m)
      (refine acall_of tab_ok Tryz.func89 rfl (by decide) ?_; (conv => whnf); repeat (first | (refine LitB.data ?_; conv => whnf) | (refine BoxB.data ?_; conv => whnf)))
      (repeat' (first | ((refine DecB.mk (fun h => ?_) (fun h => ?_)) <;> first | (exfalso; omega) | (conv => whnf)) | ((refine BoolB.mk (fun h => ?_) (fun h => ?_)) <;> first | (exact absurd h (by decide)) | (conv => whnf)) | (refine ⟨_, wrap_ok (by omega) (by omega), ?_⟩; conv => whnf) | (refine and_idx (by omega) (by omega) ?_; conv => whnf) | (refine reg_ok (by decide +kernel) ?_; conv => whnf) | (refine bar_ok (by decide +kernel) (by decide +kernel) ?_; conv => whnf) | (refine late_ok rfl rfl ?_; conv => whnf) | (refine src_ok rfl ?_; conv => whnf) | (refine .inl ⟨_, _, qcall_pure (r1) rfl rfl, ?_⟩; conv => whnf) | (refine .inl ⟨_, _, qcall_pure (r2) rfl rfl, ?_⟩; conv => whnf) | (refine .inl ⟨_, _, qcall_pure (c) rfl rfl, ?_⟩; conv => whnf) | (refine .inl ⟨_, _, qcall_pure (r_minusD n m (by omega) (by omega)) rfl rfl, ?_⟩; conv => whnf) | (refine .inl ⟨_, _, qcall_pure (r_madeD (-1) (n - m) (by omega) (by omega)) rfl rfl, ?_⟩; conv => whnf) | (refine LitB.data ?_; conv => whnf) | (refine BoxB.own ?_; conv => whnf)))
      all_goals first | (exfalso; omega) | (exfalso; simp_all; done) | exact fin _ _ (by omega)
    · rw [decide_eq_false (Nat.not_lt.2 hmn)] at c
      have l3 := dg_len_mono (Nat.sub_le m n)
      (refine acall_of tab_ok Tryz.func89 rfl (by decide) ?_; (conv => whnf); repeat (first | (refine LitB.data ?_; conv => whnf) | (refine BoxB.data ?_; conv => whnf)))
      (repeat' (first | ((refine DecB.mk (fun h => ?_) (fun h => ?_)) <;> first | (exfalso; omega) | (conv => whnf)) | ((refine BoolB.mk (fun h => ?_) (fun h => ?_)) <;> first | (exact absurd h (by decide)) | (conv => whnf)) | (refine ⟨_, wrap_ok (by omega) (by omega), ?_⟩; conv => whnf) | (refine and_idx (by omega) (by omega) ?_; conv => whnf) | (refine reg_ok (by decide +kernel) ?_; conv => whnf) | (refine bar_ok (by decide +kernel) (by decide +kernel) ?_; conv => whnf) | (refine late_ok rfl rfl ?_; conv => whnf) | (refine src_ok rfl ?_; conv => whnf) | (refine .inl ⟨_, _, qcall_pure (r1) rfl rfl, ?_⟩; conv => whnf) | (refine .inl ⟨_, _, qcall_pure (r2) rfl rfl, ?_⟩; conv => whnf) | (refine .inl ⟨_, _, qcall_pure (c) rfl rfl, ?_⟩; conv => whnf) | (refine .inl ⟨_, _, qcall_pure (r_minusD m n (by omega) (by omega)) rfl rfl, ?_⟩; conv => whnf) | (refine .inl ⟨_, _, qcall_pure (r_madeD (1) (m - n) (by omega) (by omega)) rfl rfl, ?_⟩; conv => whnf) | (refine LitB.data ?_; conv => whnf) | (refine BoxB.own ?_; conv => whnf)))
      all_goals first | (exfalso; omega) | (exfalso; simp_all; done) | exact fin _ _ (by omega)
  case inr.inr.inr.inl =>
    rcases Nat.lt_or_ge m n with hmn | hmn
    · rw [decide_eq_true hmn] at c
      have l3 := dg_len_mono (Nat.sub_le n m)
      (refine acall_of tab_ok Tryz.func89 rfl (by decide) ?_; (conv => whnf); repeat (first | (refine LitB.data ?_; conv => whnf) | (refine BoxB.data ?_; conv => whnf)))
      (repeat' (first | ((refine DecB.mk (fun h => ?_) (fun h => ?_)) <;> first | (exfalso; omega) | (conv => whnf)) | ((refine BoolB.mk (fun h => ?_) (fun h => ?_)) <;> first | (exact absurd h (by decide)) | (conv => whnf)) | (refine ⟨_, wrap_ok (by omega) (by omega), ?_⟩; conv => whnf) | (refine and_idx (by omega) (by omega) ?_; conv => whnf) | (refine reg_ok (by decide +kernel) ?_; conv => whnf) | (refine bar_ok (by decide +kernel) (by decide +kernel) ?_; conv => whnf) | (refine late_ok rfl rfl ?_; conv => whnf) | (refine src_ok rfl ?_; conv => whnf) | (refine .inl ⟨_, _, qcall_pure (r1) rfl rfl, ?_⟩; conv => whnf) | (refine .inl ⟨_, _, qcall_pure (r2) rfl rfl, ?_⟩; conv => whnf) | (refine .inl ⟨_, _, qcall_pure (c) rfl rfl, ?_⟩; conv => whnf) | (refine .inl ⟨_, _, qcall_pure (r_minusD n m (by omega) (by omega)) rfl rfl, ?_⟩; conv => whnf) | (refine .inl ⟨_, _, qcall_pure (r_madeD (1) (n - m) (by omega) (by omega)) rfl rfl, ?_⟩; conv => whnf) | (refine LitB.data ?_; conv => whnf) | (refine BoxB.own ?_; conv => whnf)))
      all_goals first | (exfalso; omega) | (exfalso; simp_all; done) | exact fin _ _ (by omega)
    · rw [decide_eq_false (Nat.not_lt.2 hmn)] at c
      have l3 := dg_len_mono (Nat.sub_le m n)
      (refine acall_of tab_ok Tryz.func89 rfl (by decide) ?_; (conv => whnf); repeat (first | (refine LitB.data ?_; conv => whnf) | (refine BoxB.data ?_; conv => whnf)))
      (repeat' (first | ((refine DecB.mk (fun h => ?_) (fun h => ?_)) <;> first | (exfalso; omega) | (conv => whnf)) | ((refine BoolB.mk (fun h => ?_) (fun h => ?_)) <;> first | (exact absurd h (by decide)) | (conv => whnf)) | (refine ⟨_, wrap_ok (by omega) (by omega), ?_⟩; conv => whnf) | (refine and_idx (by omega) (by omega) ?_; conv => whnf) | (refine reg_ok (by decide +kernel) ?_; conv => whnf) | (refine bar_ok (by decide +kernel) (by decide +kernel) ?_; conv => whnf) | (refine late_ok rfl rfl ?_; conv => whnf) | (refine src_ok rfl ?_; conv => whnf) | (refine .inl ⟨_, _, qcall_pure (r1) rfl rfl, ?_⟩; conv => whnf) | (refine .inl ⟨_, _, qcall_pure (r2) rfl rfl, ?_⟩; conv => whnf) | (refine .inl ⟨_, _, qcall_pure (c) rfl rfl, ?_⟩; conv => whnf) | (refine .inl ⟨_, _, qcall_pure (r_minusD m n (by omega) (by omega)) rfl rfl, ?_⟩; conv => whnf) | (refine .inl ⟨_, _, qcall_pure (r_madeD (-1) (m - n) (by omega) (by omega)) rfl rfl, ?_⟩; conv => whnf) | (refine LitB.data ?_; conv => whnf) | (refine BoxB.own ?_; conv => whnf)))
      all_goals first | (exfalso; omega) | (exfalso; simp_all; done) | exact fin _ _ (by omega)
theorem r4Add (x y : Int) (lx : bl x ≤ 200000) (ly : bl y ≤ 200000) : ACall Tryz.prog 89 [bgS (bz x), bgS (bz y)] [] (.tup [bgS (bz (x + y)), intS .i64 0]) [] := by
  have h := r4AddS _ _ _ _ (sg_bz x) (sg_bz y) lx ly
  rw [sgm, sgm] at h
  exact h
set_option maxHeartbeats 2000000 in
theorem r4Sub (x y : Int) (lx : bl x ≤ 200000) (ly : bl y ≤ 200000) : ACall Tryz.prog 124 [bgS (bz x), bgS (bz y)] [] (.tup [bgS (bz (x - y)), intS .i64 0]) [] := by
  have r := r4Right y (by omega)
  have n := r4Neg y (by omega)
  have a := r4Add x (-y) lx (by rw [bl_neg]; exact ly)
  rw [← Int.sub_eq_add_neg] at a
  (refine acall_of tab_ok Tryz.func124 rfl (by decide) ?_; (conv => whnf); repeat (first | (refine LitB.data ?_; conv => whnf) | (refine BoxB.data ?_; conv => whnf)))
  (repeat' (first | ((refine DecB.mk (fun h => ?_) (fun h => ?_)) <;> first | (exfalso; omega) | (conv => whnf)) | ((refine BoolB.mk (fun h => ?_) (fun h => ?_)) <;> first | (exact absurd h (by decide)) | (conv => whnf)) | (refine ⟨_, wrap_ok (by omega) (by omega), ?_⟩; conv => whnf) | (refine and_idx (by omega) (by omega) ?_; conv => whnf) | (refine reg_ok (by decide +kernel) ?_; conv => whnf) | (refine bar_ok (by decide +kernel) (by decide +kernel) ?_; conv => whnf) | (refine late_ok rfl rfl ?_; conv => whnf) | (refine src_ok rfl ?_; conv => whnf) | (refine .inl ⟨_, _, qcall_pure (r) rfl rfl, ?_⟩; conv => whnf) | (refine .inl ⟨_, _, qcall_pure (n) rfl rfl, ?_⟩; conv => whnf) | (refine .inl ⟨_, _, qcall_pure (a) rfl rfl, ?_⟩; conv => whnf) | (refine .inl ⟨_, _, qcall_pure (6) rfl rfl, ?_⟩; conv => whnf) | (refine .inl ⟨_, _, qcall_pure (1) rfl rfl, ?_⟩; conv => whnf) | (refine bar_late [6] (by decide +kernel) (by decide +kernel) ?_; conv => whnf) | (refine bar_late [1] (by decide +kernel) (by decide +kernel) ?_; conv => whnf) | (refine LitB.data ?_; conv => whnf) | (refine BoxB.own ?_; conv => whnf)))
  all_goals first
    | (exfalso; simp_all; done)
    | exact fin_be rfl
theorem r4MulS (s t : Int) (m n : Nat) (hs : Sg s m) (ht : Sg t n) (lm : (dg m).length ≤ 200000) (ln : (dg n).length ≤ 200000) :
    ACall Tryz.prog 88 [bgS ⟨s, dg m⟩, bgS ⟨t, dg n⟩] [] (.tup [bgS (bz ((s * t) * (m * n : Nat))), intS .i64 0]) [] := by
  have r1 := r4Rt s m hs (by omega)
  have r2 := r4Rt t n ht (by omega)
  have mu := r_timesD m n (by omega) (by omega)
  have ls := dg_mul_len m n
  have hst : -1 ≤ s * t ∧ s * t ≤ 1 ∧ (s * t = 1 ∨ s * t = -1 ∨ m * n = 0) := by
    rcases hs with ⟨rfl, rfl⟩ | ⟨rfl, h1⟩ | ⟨rfl, h1⟩ <;> rcases ht with ⟨rfl, rfl⟩ | ⟨rfl, h2⟩ | ⟨rfl, h2⟩ <;> simp
  obtain ⟨q1, q2, q3⟩ := hst
  have sg := r_madeD (s * t) (m * n) q3 (by omega)
  (refine acall_of tab_ok Tryz.func88 rfl (by decide) ?_; (conv => whnf); repeat (first | (refine LitB.data ?_; conv => whnf) | (refine BoxB.data ?_; conv => whnf)))
  (repeat' (first | ((refine DecB.mk (fun h => ?_) (fun h => ?_)) <;> first | (exfalso; omega) | (conv => whnf)) | ((refine BoolB.mk (fun h => ?_) (fun h => ?_)) <;> first | (exact absurd h (by decide)) | (conv => whnf)) | (refine ⟨_, wrap_ok (by omega) (by omega), ?_⟩; conv => whnf) | (refine and_idx (by omega) (by omega) ?_; conv => whnf) | (refine reg_ok (by decide +kernel) ?_; conv => whnf) | (refine bar_ok (by decide +kernel) (by decide +kernel) ?_; conv => whnf) | (refine late_ok rfl rfl ?_; conv => whnf) | (refine src_ok rfl ?_; conv => whnf) | (refine .inl ⟨_, _, qcall_pure (r1) rfl rfl, ?_⟩; conv => whnf) | (refine .inl ⟨_, _, qcall_pure (r2) rfl rfl, ?_⟩; conv => whnf) | (refine .inl ⟨_, _, qcall_pure (mu) rfl rfl, ?_⟩; conv => whnf) | (refine .inl ⟨_, _, qcall_pure (sg) rfl rfl, ?_⟩; conv => whnf) | (refine ⟨_, wrap_eq (y := s * t) rfl (by omega) (by omega), ?_⟩; conv => whnf) | (refine LitB.data ?_; conv => whnf) | (refine BoxB.own ?_; conv => whnf)))
  all_goals first | (exfalso; simp_all; done) | exact fin_be rfl
theorem r4Mul (x y : Int) (lx : bl x ≤ 200000) (ly : bl y ≤ 200000) : ACall Tryz.prog 88 [bgS (bz x), bgS (bz y)] [] (.tup [bgS (bz (x * y)), intS .i64 0]) [] := by
  have h := r4MulS _ _ _ _ (sg_bz x) (sg_bz y) lx ly
  have e : (x.sign * y.sign) * ((x.natAbs * y.natAbs : Nat) : Int) = x * y := by
    rw [Int.natCast_mul]
    have h1 := sgm x
    have h2 := sgm y
    grind
  rw [e] at h
  exact h
theorem bz_inj2 {x y : Int} (h : (bz x).sg = (bz y).sg ∧ (bz x).dl = (bz y).dl) : x = y := by
  have : bz x = bz y := by
    obtain ⟨h1, h2⟩ := h
    cases hx : bz x with
    | mk a b =>
      cases hy : bz y with
      | mk c d => rw [hx, hy] at h1 h2; simp only at h1 h2; rw [h1, h2]
  rw [← bv_bz x, ← bv_bz y, this]
set_option maxHeartbeats 4000000 in
theorem r4Compare (x y : Int) (lx : bl x ≤ 300000) (ly : bl y ≤ 300000) : ACall Tryz.prog 49 [bgS (bz x), bgS (bz y)] [] (intS .i64 (cmpI x y)) [] := by
  have r1 := r4Right x lx
  have r2 := r4Right y ly
  have hsx : (bz x).sg = x.sign := rfl
  have hsy : (bz y).sg = y.sign := rfl
  have sx := sign_cases x
  have sy := sign_cases y
  have sm := r4Same (bz x) (bz y) (show bl x ≤ 1000000 by omega) (show bl y ≤ 1000000 by omega)
  by_cases he : x = y
  · subst he
    have sm : ACall Tryz.prog 86 [bgS (bz x), bgS (bz x)] [] (boolS true) [] := by rw [show decide ((bz x).sg = (bz x).sg ∧ (bz x).dl = (bz x).dl) = true from decide_eq_true ⟨rfl, rfl⟩] at sm; exact sm
    have e0 : cmpI x x = 0 := by unfold cmpI; rw [if_neg (by omega), if_neg (by omega)]
    rw [e0]
    (refine acall_of tab_ok Tryz.func49 rfl (by decide) ?_; (conv => whnf); repeat (first | (refine LitB.data ?_; conv => whnf) | (refine BoxB.data ?_; conv => whnf)))
    (repeat' (first | ((refine DecB.mk (fun h => ?_) (fun h => ?_)) <;> first | (exfalso; omega) | (conv => whnf)) | ((refine BoolB.mk (fun h => ?_) (fun h => ?_)) <;> first | (exact absurd h (by decide)) | (conv => whnf)) | (refine ⟨_, wrap_ok (by omega) (by omega), ?_⟩; conv => whnf) | (refine and_idx (by omega) (by omega) ?_; conv => whnf) | (refine reg_ok (by decide +kernel) ?_; conv => whnf) | (refine bar_ok (by decide +kernel) (by decide +kernel) ?_; conv => whnf) | (refine late_ok rfl rfl ?_; conv => whnf) | (refine src_ok rfl ?_; conv => whnf) | (refine .inl ⟨_, _, qcall_pure (r1) rfl rfl, ?_⟩; conv => whnf) | (refine .inl ⟨_, _, qcall_pure (r2) rfl rfl, ?_⟩; conv => whnf) | (refine .inl ⟨_, _, qcall_pure (sm) rfl rfl, ?_⟩; conv => whnf) | (refine LitB.data ?_; conv => whnf) | (refine BoxB.own ?_; conv => whnf)))
    all_goals first
      | (exfalso; simp_all; done)
      | exact fin_int rfl
  rw [decide_eq_false (fun h => he (bz_inj2 h))] at sm
  have ls := r_lessD x.natAbs y.natAbs lx ly
  rcases Int.lt_or_gt_of_ne he with hlt | hgt
  · have e1 : cmpI x y = -1 := by unfold cmpI; rw [if_pos hlt]
    rw [e1]
    by_cases hl : x.natAbs < y.natAbs
    · rw [decide_eq_true hl] at ls
      (refine acall_of tab_ok Tryz.func49 rfl (by decide) ?_; (conv => whnf); repeat (first | (refine LitB.data ?_; conv => whnf) | (refine BoxB.data ?_; conv => whnf)))
      (repeat' (first | ((refine DecB.mk (fun h => ?_) (fun h => ?_)) <;> first | (exfalso; omega) | (conv => whnf)) | ((refine BoolB.mk (fun h => ?_) (fun h => ?_)) <;> first | (exact absurd h (by decide)) | (conv => whnf)) | (refine ⟨_, wrap_ok (by omega) (by omega), ?_⟩; conv => whnf) | (refine and_idx (by omega) (by omega) ?_; conv => whnf) | (refine reg_ok (by decide +kernel) ?_; conv => whnf) | (refine bar_ok (by decide +kernel) (by decide +kernel) ?_; conv => whnf) | (refine late_ok rfl rfl ?_; conv => whnf) | (refine src_ok rfl ?_; conv => whnf) | (refine .inl ⟨_, _, qcall_pure (r1) rfl rfl, ?_⟩; conv => whnf) | (refine .inl ⟨_, _, qcall_pure (r2) rfl rfl, ?_⟩; conv => whnf) | (refine .inl ⟨_, _, qcall_pure (sm) rfl rfl, ?_⟩; conv => whnf) | (refine .inl ⟨_, _, qcall_pure (ls) rfl rfl, ?_⟩; conv => whnf) | (refine LitB.data ?_; conv => whnf) | (refine BoxB.own ?_; conv => whnf)))
      all_goals first
        | (exfalso; omega)
        | (exfalso; simp_all; done)
        | exact fin_int rfl
    · rw [decide_eq_false hl] at ls
      (refine acall_of tab_ok Tryz.func49 rfl (by decide) ?_; (conv => whnf); repeat (first | (refine LitB.data ?_; conv => whnf) | (refine BoxB.data ?_; conv => whnf)))
      (repeat' (first | ((refine DecB.mk (fun h => ?_) (fun h => ?_)) <;> first | (exfalso; omega) | (conv => whnf)) | ((refine BoolB.mk (fun h => ?_) (fun h => ?_)) <;> first | (exact absurd h (by decide)) | (conv => whnf)) | (refine ⟨_, wrap_ok (by omega) (by omega), ?_⟩; conv => whnf) | (refine and_idx (by omega) (by omega) ?_; conv => whnf) | (refine reg_ok (by decide +kernel) ?_; conv => whnf) | (refine bar_ok (by decide +kernel) (by decide +kernel) ?_; conv => whnf) | (refine late_ok rfl rfl ?_; conv => whnf) | (refine src_ok rfl ?_; conv => whnf) | (refine .inl ⟨_, _, qcall_pure (r1) rfl rfl, ?_⟩; conv => whnf) | (refine .inl ⟨_, _, qcall_pure (r2) rfl rfl, ?_⟩; conv => whnf) | (refine .inl ⟨_, _, qcall_pure (sm) rfl rfl, ?_⟩; conv => whnf) | (refine .inl ⟨_, _, qcall_pure (ls) rfl rfl, ?_⟩; conv => whnf) | (refine LitB.data ?_; conv => whnf) | (refine BoxB.own ?_; conv => whnf)))
      all_goals first
        | (exfalso; omega)
        | (exfalso; simp_all; done)
        | exact fin_int rfl
  · have e1 : cmpI x y = 1 := by unfold cmpI; rw [if_neg (by omega), if_pos (by omega)]
    rw [e1]
    by_cases hl : x.natAbs < y.natAbs
    · rw [decide_eq_true hl] at ls
      (refine acall_of tab_ok Tryz.func49 rfl (by decide) ?_; (conv => whnf); repeat (first | (refine LitB.data ?_; conv => whnf) | (refine BoxB.data ?_; conv => whnf)))
      (repeat' (first | ((refine DecB.mk (fun h => ?_) (fun h => ?_)) <;> first | (exfalso; omega) | (conv => whnf)) | ((refine BoolB.mk (fun h => ?_) (fun h => ?_)) <;> first | (exact absurd h (by decide)) | (conv => whnf)) | (refine ⟨_, wrap_ok (by omega) (by omega), ?_⟩; conv => whnf) | (refine and_idx (by omega) (by omega) ?_; conv => whnf) | (refine reg_ok (by decide +kernel) ?_; conv => whnf) | (refine bar_ok (by decide +kernel) (by decide +kernel) ?_; conv => whnf) | (refine late_ok rfl rfl ?_; conv => whnf) | (refine src_ok rfl ?_; conv => whnf) | (refine .inl ⟨_, _, qcall_pure (r1) rfl rfl, ?_⟩; conv => whnf) | (refine .inl ⟨_, _, qcall_pure (r2) rfl rfl, ?_⟩; conv => whnf) | (refine .inl ⟨_, _, qcall_pure (sm) rfl rfl, ?_⟩; conv => whnf) | (refine .inl ⟨_, _, qcall_pure (ls) rfl rfl, ?_⟩; conv => whnf) | (refine LitB.data ?_; conv => whnf) | (refine BoxB.own ?_; conv => whnf)))
      all_goals first
        | (exfalso; omega)
        | (exfalso; simp_all; done)
        | exact fin_int rfl
    · rw [decide_eq_false hl] at ls
      (refine acall_of tab_ok Tryz.func49 rfl (by decide) ?_; (conv => whnf); repeat (first | (refine LitB.data ?_; conv => whnf) | (refine BoxB.data ?_; conv => whnf)))
      (repeat' (first | ((refine DecB.mk (fun h => ?_) (fun h => ?_)) <;> first | (exfalso; omega) | (conv => whnf)) | ((refine BoolB.mk (fun h => ?_) (fun h => ?_)) <;> first | (exact absurd h (by decide)) | (conv => whnf)) | (refine ⟨_, wrap_ok (by omega) (by omega), ?_⟩; conv => whnf) | (refine and_idx (by omega) (by omega) ?_; conv => whnf) | (refine reg_ok (by decide +kernel) ?_; conv => whnf) | (refine bar_ok (by decide +kernel) (by decide +kernel) ?_; conv => whnf) | (refine late_ok rfl rfl ?_; conv => whnf) | (refine src_ok rfl ?_; conv => whnf) | (refine .inl ⟨_, _, qcall_pure (r1) rfl rfl, ?_⟩; conv => whnf) | (refine .inl ⟨_, _, qcall_pure (r2) rfl rfl, ?_⟩; conv => whnf) | (refine .inl ⟨_, _, qcall_pure (sm) rfl rfl, ?_⟩; conv => whnf) | (refine .inl ⟨_, _, qcall_pure (ls) rfl rfl, ?_⟩; conv => whnf) | (refine LitB.data ?_; conv => whnf) | (refine BoxB.own ?_; conv => whnf)))
      all_goals first
        | (exfalso; omega)
        | (exfalso; simp_all; done)
        | exact fin_int rfl
end Go.Proofs.YthinjkjhiembgaaGreat
/- Reference of frac: Right, Add, Sub, Mul, Sign, Compare. -/
namespace Go.Proofs.YthinjkjhiembgaaGreat
open Go.RowKit
set_option linter.unusedVariables false
set_option linter.unusedSimpArgs false
set_option maxRecDepth 100000

theorem cmpI_zero {x y : Int} : cmpI x y = 0 ↔ x = y := by unfold cmpI; split <;> (try split) <;> omega
theorem r5Right (f : Fr) (lp : f.p.dl.length ≤ 200000) (lq : f.q.dl.length ≤ 200000) : ACall Tryz.prog 22 [frS f] [] (boolS (rightF f)) [] := by
  obtain ⟨p, q⟩ := f
  simp only at lp lq
  have r1 := r_bigRight p (by omega)
  have r2 := r_bigRight q (by omega)
  cases hp : rightB p with
  | false =>
    rw [hp] at r1
    (refine acall_of tab_ok Tryz.func22 rfl (by decide) ?_; (conv => whnf); repeat (first | (refine LitB.data ?_; conv => whnf) | (refine BoxB.data ?_; conv => whnf)))
    (repeat' (first | ((refine DecB.mk (fun h => ?_) (fun h => ?_)) <;> first | (exfalso; omega) | (conv => whnf)) | ((refine BoolB.mk (fun h => ?_) (fun h => ?_)) <;> first | (exact absurd h (by decide)) | (conv => whnf)) | (refine ⟨_, wrap_ok (by omega) (by omega), ?_⟩; conv => whnf) | (refine and_idx (by omega) (by omega) ?_; conv => whnf) | (refine reg_ok (by decide +kernel) ?_; conv => whnf) | (refine bar_ok (by decide +kernel) (by decide +kernel) ?_; conv => whnf) | (refine late_ok rfl rfl ?_; conv => whnf) | (refine src_ok rfl ?_; conv => whnf) | (refine .inl ⟨_, _, qcall_pure (r1) rfl rfl, ?_⟩; conv => whnf) | (refine .inl ⟨_, _, qcall_pure (r2) rfl rfl, ?_⟩; conv => whnf) | (refine LitB.data ?_; conv => whnf) | (refine BoxB.own ?_; conv => whnf)))
    all_goals (first | (exfalso; simp_all; done) | (refine fin_bool ?_; unfold rightF; simp [hp]))
  | true =>
    rw [hp] at r1
    cases hq : rightB q with
    | false =>
      rw [hq] at r2
      (refine acall_of tab_ok Tryz.func22 rfl (by decide) ?_; (conv => whnf); repeat (first | (refine LitB.data ?_; conv => whnf) | (refine BoxB.data ?_; conv => whnf)))
      (repeat' (first | ((refine DecB.mk (fun h => ?_) (fun h => ?_)) <;> first | (exfalso; omega) | (conv => whnf)) | ((refine BoolB.mk (fun h => ?_) (fun h => ?_)) <;> first | (exact absurd h (by decide)) | (conv => whnf)) | (refine ⟨_, wrap_ok (by omega) (by omega), ?_⟩; conv => whnf) | (refine and_idx (by omega) (by omega) ?_; conv => whnf) | (refine reg_ok (by decide +kernel) ?_; conv => whnf) | (refine bar_ok (by decide +kernel) (by decide +kernel) ?_; conv => whnf) | (refine late_ok rfl rfl ?_; conv => whnf) | (refine src_ok rfl ?_; conv => whnf) | (refine .inl ⟨_, _, qcall_pure (r1) rfl rfl, ?_⟩; conv => whnf) | (refine .inl ⟨_, _, qcall_pure (r2) rfl rfl, ?_⟩; conv => whnf) | (refine LitB.data ?_; conv => whnf) | (refine BoxB.own ?_; conv => whnf)))
      all_goals (first | (exfalso; simp_all; done) | (refine fin_bool ?_; unfold rightF; simp [hq]))
    | true =>
      rw [hq] at r2
      obtain ⟨x, rfl⟩ := bz_of hp
      obtain ⟨y, rfl⟩ := bz_of hq
      have hsg : (bz y).sg = y.sign := rfl
      have hsg2 : (Fr.mk (bz x) (bz y)).q.sg = y.sign := rfl
      have sy := sign_cases y
      have lg := bl_gcd x y lp lq
      have g := r4Gcd x y lp lq
      have o := r4Of 1 (by decide) (by decide)
      have c := r4Compare (Int.gcd x y) 1 (by omega) (by have := bl_small (x := 1) (by decide) (by decide); omega)
      have hc := cmpI_zero (x := Int.gcd x y) (y := 1)
      (refine acall_of tab_ok Tryz.func22 rfl (by decide) ?_; (conv => whnf); repeat (first | (refine LitB.data ?_; conv => whnf) | (refine BoxB.data ?_; conv => whnf)))
      (repeat' (first | ((refine DecB.mk (fun h => ?_) (fun h => ?_)) <;> first | (exfalso; omega) | (conv => whnf)) | ((refine BoolB.mk (fun h => ?_) (fun h => ?_)) <;> first | (exact absurd h (by decide)) | (conv => whnf)) | (refine ⟨_, wrap_ok (by omega) (by omega), ?_⟩; conv => whnf) | (refine and_idx (by omega) (by omega) ?_; conv => whnf) | (refine reg_ok (by decide +kernel) ?_; conv => whnf) | (refine bar_ok (by decide +kernel) (by decide +kernel) ?_; conv => whnf) | (refine late_ok rfl rfl ?_; conv => whnf) | (refine src_ok rfl ?_; conv => whnf) | (refine .inl ⟨_, _, qcall_pure (r1) rfl rfl, ?_⟩; conv => whnf) | (refine .inl ⟨_, _, qcall_pure (r2) rfl rfl, ?_⟩; conv => whnf) | (refine .inl ⟨_, _, qcall_pure (g) rfl rfl, ?_⟩; conv => whnf) | (refine .inl ⟨_, _, qcall_pure (o) rfl rfl, ?_⟩; conv => whnf) | (refine .inl ⟨_, _, qcall_pure (c) rfl rfl, ?_⟩; conv => whnf) | (refine .inl ⟨_, _, qcall_pure (5) rfl rfl, ?_⟩; conv => whnf) | (refine bar_late [5] (by decide +kernel) (by decide +kernel) ?_; conv => whnf) | (refine LitB.data ?_; conv => whnf) | (refine BoxB.own ?_; conv => whnf)))
      all_goals first
        | (exfalso; simp_all; done)
        | (refine fin_bool ?_; unfold rightF; simp only [bz_right, bv_bz, Bool.true_and]; simp; omega)
theorem r5Rz (x : Rat) (lx : rl x ≤ 200000) : ACall Tryz.prog 22 [frS (fz x)] [] (boolS true) [] := by
  have h := r5Right (fz x) (Nat.le_trans (rl_num x) lx) (Nat.le_trans (rl_den x) lx)
  rw [fz_right] at h
  exact h
theorem den2_pos (x y : Rat) : 0 < (x.den : Int) * y.den := Int.mul_pos (by have := x.den_pos; omega) (by have := y.den_pos; omega)
theorem r5Add (x y : Rat) (lx : rl x ≤ 60000) (ly : rl y ≤ 60000) : ACall Tryz.prog 51 [frS (fz x), frS (fz y)] [] (.tup [frS (fz (x + y)), intS .i64 0]) [] := by
  have r1 := r5Rz x (by omega)
  have r2 := r5Rz y (by omega)
  have x1 := rl_num x
  have x2 := rl_den x
  have y1 := rl_num y
  have y2 := rl_den y
  have l1 := bl_mul x.num y.den
  have l2 := bl_mul y.num x.den
  have l3 := bl_mul x.den y.den
  have l4 := bl_add (x.num * y.den) (y.num * x.den)
  have t1 := r4Mul x.num y.den (by omega) (by omega)
  have t2 := r4Mul y.num x.den (by omega) (by omega)
  have t3 := r4Mul x.den y.den (by omega) (by omega)
  have a := r4Add (x.num * y.den) (y.num * x.den) (by omega) (by omega)
  have n := r5New (x.num * y.den + y.num * x.den) (x.den * y.den) (den2_pos x y) (by omega) (by omega)
  rw [← rat_add] at n
  (refine acall_of tab_ok Tryz.func51 rfl (by decide) ?_; (conv => whnf); repeat (first | (refine LitB.data ?_; conv => whnf) | (refine BoxB.data ?_; conv => whnf)))
  (repeat' (first | ((refine DecB.mk (fun h => ?_) (fun h => ?_)) <;> first | (exfalso; omega) | (conv => whnf)) | ((refine BoolB.mk (fun h => ?_) (fun h => ?_)) <;> first | (exact absurd h (by decide)) | (conv => whnf)) | (refine ⟨_, wrap_ok (by omega) (by omega), ?_⟩; conv => whnf) | (refine and_idx (by omega) (by omega) ?_; conv => whnf) | (refine reg_ok (by decide +kernel) ?_; conv => whnf) | (refine bar_ok (by decide +kernel) (by decide +kernel) ?_; conv => whnf) | (refine late_ok rfl rfl ?_; conv => whnf) | (refine src_ok rfl ?_; conv => whnf) | (refine .inl ⟨_, _, qcall_pure (r1) rfl rfl, ?_⟩; conv => whnf) | (refine .inl ⟨_, _, qcall_pure (r2) rfl rfl, ?_⟩; conv => whnf) | (refine .inl ⟨_, _, qcall_pure (t1) rfl rfl, ?_⟩; conv => whnf) | (refine .inl ⟨_, _, qcall_pure (t2) rfl rfl, ?_⟩; conv => whnf) | (refine .inl ⟨_, _, qcall_pure (t3) rfl rfl, ?_⟩; conv => whnf) | (refine .inl ⟨_, _, qcall_pure (a) rfl rfl, ?_⟩; conv => whnf) | (refine .inl ⟨_, _, qcall_pure (n) rfl rfl, ?_⟩; conv => whnf) | (refine .inl ⟨_, _, qcall_pure (7) rfl rfl, ?_⟩; conv => whnf) | (refine .inl ⟨_, _, qcall_pure (5) rfl rfl, ?_⟩; conv => whnf) | (refine bar_late [7] (by decide +kernel) (by decide +kernel) ?_; conv => whnf) | (refine bar_late [5] (by decide +kernel) (by decide +kernel) ?_; conv => whnf) | (refine LitB.data ?_; conv => whnf) | (refine BoxB.own ?_; conv => whnf)))
  all_goals first
    | (exfalso; simp_all; done)
    | exact fin_fe rfl
theorem r5Sub (x y : Rat) (lx : rl x ≤ 60000) (ly : rl y ≤ 60000) : ACall Tryz.prog 100 [frS (fz x), frS (fz y)] [] (.tup [frS (fz (x - y)), intS .i64 0]) [] := by
  have r1 := r5Rz x (by omega)
  have r2 := r5Rz y (by omega)
  have x1 := rl_num x
  have x2 := rl_den x
  have y1 := rl_num y
  have y2 := rl_den y
  have l1 := bl_mul x.num y.den
  have l2 := bl_mul y.num x.den
  have l3 := bl_mul x.den y.den
  have l4 := bl_add (x.num * y.den) (-(y.num * x.den))
  rw [bl_neg, ← Int.sub_eq_add_neg] at l4
  have t1 := r4Mul x.num y.den (by omega) (by omega)
  have t2 := r4Mul y.num x.den (by omega) (by omega)
  have t3 := r4Mul x.den y.den (by omega) (by omega)
  have a := r4Sub (x.num * y.den) (y.num * x.den) (by omega) (by omega)
  have n := r5New (x.num * y.den - y.num * x.den) (x.den * y.den) (den2_pos x y) (by omega) (by omega)
  have e : Rat.divInt (x.num * y.den - y.num * x.den) (x.den * y.den) = x - y := by
    have := rat_add x (-y)
    rw [Rat.neg_num, Rat.neg_den, Int.neg_mul, ← Int.sub_eq_add_neg, ← Rat.sub_eq_add_neg] at this
    exact this.symm
  rw [e] at n
  (refine acall_of tab_ok Tryz.func100 rfl (by decide) ?_; (conv => whnf); repeat (first | (refine LitB.data ?_; conv => whnf) | (refine BoxB.data ?_; conv => whnf)))
  (repeat' (first | ((refine DecB.mk (fun h => ?_) (fun h => ?_)) <;> first | (exfalso; omega) | (conv => whnf)) | ((refine BoolB.mk (fun h => ?_) (fun h => ?_)) <;> first | (exact absurd h (by decide)) | (conv => whnf)) | (refine ⟨_, wrap_ok (by omega) (by omega), ?_⟩; conv => whnf) | (refine and_idx (by omega) (by omega) ?_; conv => whnf) | (refine reg_ok (by decide +kernel) ?_; conv => whnf) | (refine bar_ok (by decide +kernel) (by decide +kernel) ?_; conv => whnf) | (refine late_ok rfl rfl ?_; conv => whnf) | (refine src_ok rfl ?_; conv => whnf) | (refine .inl ⟨_, _, qcall_pure (r1) rfl rfl, ?_⟩; conv => whnf) | (refine .inl ⟨_, _, qcall_pure (r2) rfl rfl, ?_⟩; conv => whnf) | (refine .inl ⟨_, _, qcall_pure (t1) rfl rfl, ?_⟩; conv => whnf) | (refine .inl ⟨_, _, qcall_pure (t2) rfl rfl, ?_⟩; conv => whnf) | (refine .inl ⟨_, _, qcall_pure (t3) rfl rfl, ?_⟩; conv => whnf) | (refine .inl ⟨_, _, qcall_pure (a) rfl rfl, ?_⟩; conv => whnf) | (refine .inl ⟨_, _, qcall_pure (n) rfl rfl, ?_⟩; conv => whnf) | (refine .inl ⟨_, _, qcall_pure (7) rfl rfl, ?_⟩; conv => whnf) | (refine .inl ⟨_, _, qcall_pure (5) rfl rfl, ?_⟩; conv => whnf) | (refine bar_late [7] (by decide +kernel) (by decide +kernel) ?_; conv => whnf) | (refine bar_late [5] (by decide +kernel) (by decide +kernel) ?_; conv => whnf) | (refine LitB.data ?_; conv => whnf) | (refine BoxB.own ?_; conv => whnf)))
  all_goals first
    | (exfalso; simp_all; done)
    | exact fin_fe rfl
theorem r5Mul (x y : Rat) (lx : rl x ≤ 60000) (ly : rl y ≤ 60000) : ACall Tryz.prog 123 [frS (fz x), frS (fz y)] [] (.tup [frS (fz (x * y)), intS .i64 0]) [] := by
  have r1 := r5Rz x (by omega)
  have r2 := r5Rz y (by omega)
  have x1 := rl_num x
  have x2 := rl_den x
  have y1 := rl_num y
  have y2 := rl_den y
  have l1 := bl_mul x.num y.num
  have l3 := bl_mul x.den y.den
  have t1 := r4Mul x.num y.num (by omega) (by omega)
  have t3 := r4Mul x.den y.den (by omega) (by omega)
  have n := r5New (x.num * y.num) (x.den * y.den) (den2_pos x y) (by omega) (by omega)
  rw [← rat_mul] at n
  (refine acall_of tab_ok Tryz.func123 rfl (by decide) ?_; (conv => whnf); repeat (first | (refine LitB.data ?_; conv => whnf) | (refine BoxB.data ?_; conv => whnf)))
  (repeat' (first | ((refine DecB.mk (fun h => ?_) (fun h => ?_)) <;> first | (exfalso; omega) | (conv => whnf)) | ((refine BoolB.mk (fun h => ?_) (fun h => ?_)) <;> first | (exact absurd h (by decide)) | (conv => whnf)) | (refine ⟨_, wrap_ok (by omega) (by omega), ?_⟩; conv => whnf) | (refine and_idx (by omega) (by omega) ?_; conv => whnf) | (refine reg_ok (by decide +kernel) ?_; conv => whnf) | (refine bar_ok (by decide +kernel) (by decide +kernel) ?_; conv => whnf) | (refine late_ok rfl rfl ?_; conv => whnf) | (refine src_ok rfl ?_; conv => whnf) | (refine .inl ⟨_, _, qcall_pure (r1) rfl rfl, ?_⟩; conv => whnf) | (refine .inl ⟨_, _, qcall_pure (r2) rfl rfl, ?_⟩; conv => whnf) | (refine .inl ⟨_, _, qcall_pure (t1) rfl rfl, ?_⟩; conv => whnf) | (refine .inl ⟨_, _, qcall_pure (t3) rfl rfl, ?_⟩; conv => whnf) | (refine .inl ⟨_, _, qcall_pure (n) rfl rfl, ?_⟩; conv => whnf) | (refine .inl ⟨_, _, qcall_pure (7) rfl rfl, ?_⟩; conv => whnf) | (refine .inl ⟨_, _, qcall_pure (5) rfl rfl, ?_⟩; conv => whnf) | (refine bar_late [7] (by decide +kernel) (by decide +kernel) ?_; conv => whnf) | (refine bar_late [5] (by decide +kernel) (by decide +kernel) ?_; conv => whnf) | (refine LitB.data ?_; conv => whnf) | (refine BoxB.own ?_; conv => whnf)))
  all_goals first
    | (exfalso; simp_all; done)
    | exact fin_fe rfl
theorem r5Compare (x y : Rat) (lx : rl x ≤ 60000) (ly : rl y ≤ 60000) : ACall Tryz.prog 66 [frS (fz x), frS (fz y)] [] (intS .i64 (cmpR x y)) [] := by
  have r1 := r5Rz x (by omega)
  have r2 := r5Rz y (by omega)
  have x1 := rl_num x
  have x2 := rl_den x
  have y1 := rl_num y
  have y2 := rl_den y
  have l1 := bl_mul x.num y.den
  have l2 := bl_mul y.num x.den
  have t1 := r4Mul x.num y.den (by omega) (by omega)
  have t2 := r4Mul y.num x.den (by omega) (by omega)
  have c := r4Compare (x.num * y.den) (y.num * x.den) (by omega) (by omega)
  rw [cmpR_num] at c
  (refine acall_of tab_ok Tryz.func66 rfl (by decide) ?_; (conv => whnf); repeat (first | (refine LitB.data ?_; conv => whnf) | (refine BoxB.data ?_; conv => whnf)))
  (repeat' (first | ((refine DecB.mk (fun h => ?_) (fun h => ?_)) <;> first | (exfalso; omega) | (conv => whnf)) | ((refine BoolB.mk (fun h => ?_) (fun h => ?_)) <;> first | (exact absurd h (by decide)) | (conv => whnf)) | (refine ⟨_, wrap_ok (by omega) (by omega), ?_⟩; conv => whnf) | (refine and_idx (by omega) (by omega) ?_; conv => whnf) | (refine reg_ok (by decide +kernel) ?_; conv => whnf) | (refine bar_ok (by decide +kernel) (by decide +kernel) ?_; conv => whnf) | (refine late_ok rfl rfl ?_; conv => whnf) | (refine src_ok rfl ?_; conv => whnf) | (refine .inl ⟨_, _, qcall_pure (r1) rfl rfl, ?_⟩; conv => whnf) | (refine .inl ⟨_, _, qcall_pure (r2) rfl rfl, ?_⟩; conv => whnf) | (refine .inl ⟨_, _, qcall_pure (t1) rfl rfl, ?_⟩; conv => whnf) | (refine .inl ⟨_, _, qcall_pure (t2) rfl rfl, ?_⟩; conv => whnf) | (refine .inl ⟨_, _, qcall_pure (c) rfl rfl, ?_⟩; conv => whnf) | (refine .inl ⟨_, _, qcall_pure (7) rfl rfl, ?_⟩; conv => whnf) | (refine .inl ⟨_, _, qcall_pure (5) rfl rfl, ?_⟩; conv => whnf) | (refine bar_late [7] (by decide +kernel) (by decide +kernel) ?_; conv => whnf) | (refine bar_late [5] (by decide +kernel) (by decide +kernel) ?_; conv => whnf) | (refine LitB.data ?_; conv => whnf) | (refine BoxB.own ?_; conv => whnf)))
  all_goals first
    | (exfalso; simp_all; done)
    | exact fin_int rfl
theorem r5Sign (x : Rat) (lx : rl x ≤ 60000) : ACall Tryz.prog 65 [frS (fz x)] [] (intS .i64 (sgR x)) [] := by
  have r1 := r5Rz x (by omega)
  (refine acall_of tab_ok Tryz.func65 rfl (by decide) ?_; (conv => whnf); repeat (first | (refine LitB.data ?_; conv => whnf) | (refine BoxB.data ?_; conv => whnf)))
  (repeat' (first | ((refine DecB.mk (fun h => ?_) (fun h => ?_)) <;> first | (exfalso; omega) | (conv => whnf)) | ((refine BoolB.mk (fun h => ?_) (fun h => ?_)) <;> first | (exact absurd h (by decide)) | (conv => whnf)) | (refine ⟨_, wrap_ok (by omega) (by omega), ?_⟩; conv => whnf) | (refine and_idx (by omega) (by omega) ?_; conv => whnf) | (refine reg_ok (by decide +kernel) ?_; conv => whnf) | (refine bar_ok (by decide +kernel) (by decide +kernel) ?_; conv => whnf) | (refine late_ok rfl rfl ?_; conv => whnf) | (refine src_ok rfl ?_; conv => whnf) | (refine .inl ⟨_, _, qcall_pure (r1) rfl rfl, ?_⟩; conv => whnf) | (refine LitB.data ?_; conv => whnf) | (refine BoxB.own ?_; conv => whnf)))
  all_goals first
    | (exfalso; simp_all; done)
    | exact fin_int (sign_num x)
end Go.Proofs.YthinjkjhiembgaaGreat
/- Chapters 13 and 15 in plain Lean: intervals of scales, stocks, what history.Check computes. No program is in sight. -/
namespace Go.Proofs.YthinjkjhiembgaaGreat
set_option linter.unusedVariables false
set_option linter.unusedSimpArgs false

def certRight (c : Cert) : Bool :=
  decide (0 ≤ c.since) && decide (c.since ≤ c.till) && decide (c.till ≤ 100000) && idx c.scale 30 && btw c.grams 0 1099511627776 && btw c.permille 0 1000 && btw c.drift 0 10000000
def covers (c : Cert) (day : Int) : Bool := certRight c && btw day c.since c.till
def sinceAt (cs : List Cert) (i : Nat) : Int := ((cs[i]?).map (·.since)).getD 0
def later (cs : List Cert) (o : Option Nat) (c : Cert) : Bool := match o with
  | none => true
  | some b => decide (sinceAt cs b ≤ c.since)
/-- the certificate in force, among the first k -/
def findTo (cs : List Cert) (scale day : Int) : Nat → Option Nat
  | 0 => none
  | k + 1 => match cs[k]? with
    | none => findTo cs scale day k
    | some c => if decide (c.scale = scale) && covers c day && later cs (findTo cs scale day k) c then some k else findTo cs scale day k
theorem findTo_some {cs : List Cert} {scale day : Int} : ∀ {k b : Nat}, findTo cs scale day k = some b → b < k ∧ ∃ c, cs[b]? = some c ∧ c.scale = scale ∧ covers c day = true
  | 0, b, h => by simp [findTo] at h
  | k + 1, b, h => by
    unfold findTo at h
    split at h
    · obtain ⟨h1, h2⟩ := findTo_some h; exact ⟨by omega, h2⟩
    · rename_i c hc
      split at h
      · rename_i hcc
        injection h with h
        subst h
        simp only [Bool.and_eq_true, decide_eq_true_eq] at hcc
        exact ⟨by omega, c, hc, hcc.1.1, hcc.1.2⟩
      · obtain ⟨h1, h2⟩ := findTo_some h; exact ⟨by omega, h2⟩
def recalled (rs : List Recall) (scale day : Int) : Bool := rs.any fun r => decide (r.scale = scale) && decide (r.since ≤ day)
def errR (c : Cert) (reading day : Int) : Rat := Rat.divInt (c.permille * reading) 1000 + ((c.grams + c.drift * (day - c.since) : Int) : Rat)
def maxR (x y : Rat) : Rat := if x < y then y else x
def minR (x y : Rat) : Rat := if y < x then y else x
def zeroCert : Cert := ⟨0, 0, 0, 0, 0, 0⟩
def certAt (cs : List Cert) (i : Nat) : Cert := (cs[i]?).getD zeroCert
def interval (cs : List Cert) (rs : List Recall) (scale reading day : Int) : Option (Rat × Rat) :=
  match findTo cs scale day cs.length with
  | none => none
  | some i => if recalled rs scale day then none else if btw reading 0 1099511627776 then
      some (maxR ((reading : Rat) - errR (certAt cs i) reading day) ((0 : Int) : Rat), (reading : Rat) + errR (certAt cs i) reading day) else none

def sumR (l : List Rat) : Rat := l.foldl (· + ·) ((0 : Int) : Rat)
theorem sumR_snoc (l : List Rat) (x : Rat) : sumR (l ++ [x]) = sumR l + x := by simp [sumR]
theorem rl_sumR {l : List Rat} {B : Nat} (h : ∀ x ∈ l, rl x ≤ B) : rl (sumR l) ≤ l.length * (B + 1) + 1 := by
  have key : ∀ (l : List Rat) (a : Rat), (∀ x ∈ l, rl x ≤ B) → rl (l.foldl (· + ·) a) ≤ l.length * (B + 1) + rl a := fun l => by
    induction l with
    | nil => intro a _; simp
    | cons x r ih =>
      intro a hx
      have h1 := ih (a + x) fun y hy => hx y (by simp [hy])
      have h2 := rl_add a x
      have h3 := hx x (by simp)
      simp only [List.foldl_cons, List.length_cons, Nat.succ_mul]
      omega
  exact key l _ h
/-- a history's shape -/
def shapedB (e : Ev) (h : List (List Fr)) : Bool := decide (h.length = e.moves.length) && h.all fun l => decide ((l.length : Int) = e.mats) && l.all rightF
def hz (H : List (List Rat)) : List (List Fr) := H.map (·.map fz)
theorem right_rats {l : List Fr} (h : l.all rightF = true) : ∃ L : List Rat, l = L.map fz := by
  induction l with
  | nil => exact ⟨[], rfl⟩
  | cons f r ih =>
    simp only [List.all_cons, Bool.and_eq_true] at h
    obtain ⟨L, rfl⟩ := ih h.2
    exact ⟨fv f :: L, by simp [← fz_fv h.1]⟩
structure Shape (e : Ev) (H : List (List Rat)) : Prop where
  len : H.length = e.moves.length
  wid : ∀ l ∈ H, (l.length : Int) = e.mats
theorem shaped_rats {e : Ev} {h : List (List Fr)} (hs : shapedB e h = true) : ∃ H, h = hz H ∧ Shape e H := by
  unfold shapedB at hs
  simp only [Bool.and_eq_true, decide_eq_true_eq] at hs
  obtain ⟨h1, h2⟩ := hs
  have key : ∀ h : List (List Fr), (h.all fun l => decide ((l.length : Int) = e.mats) && l.all rightF) = true → ∃ H, h = hz H ∧ ∀ l ∈ H, (l.length : Int) = e.mats := fun h => by
    induction h with
    | nil => intro _; exact ⟨[], rfl, by simp⟩
    | cons l r ih =>
      intro hh
      simp only [List.all_cons, Bool.and_eq_true, decide_eq_true_eq] at hh
      obtain ⟨⟨q1, q2⟩, q3⟩ := hh
      obtain ⟨L, rfl⟩ := right_rats q2
      obtain ⟨H, rfl, hw⟩ := ih q3
      refine ⟨L :: H, rfl, fun l hl => ?_⟩
      rcases List.mem_cons.1 hl with rfl | hl
      · simpa using q1
      · exact hw l hl
  obtain ⟨H, rfl, hw⟩ := key h h2
  exact ⟨H, rfl, by simpa [hz] using h1, hw⟩
theorem shape_ok {e : Ev} {H : List (List Rat)} (h : Shape e H) : shapedB e (hz H) = true := by
  unfold shapedB hz
  simp only [Bool.and_eq_true, decide_eq_true_eq, List.all_eq_true, List.length_map]
  refine ⟨h.len, fun l hl => ?_⟩
  obtain ⟨L, hL, rfl⟩ := List.mem_map.1 hl
  refine ⟨by simpa using h.wid L hL, fun f hf => ?_⟩
  obtain ⟨x, _, rfl⟩ := List.mem_map.1 hf
  exact fz_right x

def hAt (H : List (List Rat)) (k m : Nat) : Rat := (H.getD k []).getD m 0
/-- what a move makes of the stocks -/
def carryF (x : Move) (v : Nat → Rat) (f : Nat → Nat → Rat) : Nat → Nat → Rat := fun p m => if x.src = (p : Int) then f p m - v m else if x.dst = (p : Int) then f p m + v m else f p m
/-- the stocks after k moves -/
def stk (e : Ev) (H : List (List Rat)) : Nat → Nat → Nat → Rat
  | 0 => fun _ _ => ((0 : Int) : Rat)
  | k + 1 => match e.moves[k]? with
    | none => stk e H k
    | some x => carryF x (hAt H k) (stk e H k)
/-- the error of what a move takes -/
def takenF (f : Nat → Rat) (all : Bool) : List Rat → Nat → Bool → Int
  | [], _, rest => if rest && all then 7 else 0
  | v :: r, m, rest => if f m < v then 4 else takenF f all r (m + 1) (rest || decide (v < f m))
def takenE (e : Ev) (f : Nat → Nat → Rat) (x : Move) (l : List Rat) : Int := if kindAt e x.src = 0 then 0 else takenF (f x.src.toNat) x.all l 0 false
def inB (iv : Option (Rat × Rat)) (mass : Rat) : Bool := match iv with
  | none => true
  | some (lo, hi) => decide (lo ≤ mass) && decide (mass ≤ hi)
def weighedB (e : Ev) (x : Move) (mass : Rat) : Bool := if x.scale = -1 then true else inB (interval e.certs e.recalls x.scale x.reading x.day) mass
def pureOne (p : Purity) (l : List Rat) (mass : Rat) : Bool :=
  decide ((p.least : Rat) * mass ≤ ((1000 : Int) : Rat) * l.getD p.mat.toNat 0) && decide (((1000 : Int) : Rat) * l.getD p.mat.toNat 0 ≤ (p.most : Rat) * mass)
def pureB (ps : List Purity) (i : Nat) (l : List Rat) (mass : Rat) : Bool := ps.all fun p => decide (p.move ≠ (i : Int)) || pureOne p l mass
def stepE (e : Ev) (x : Move) (l : List Rat) (f : Nat → Nat → Rat) (i : Nat) : Int :=
  if l.any (fun v => decide (v < 0)) then 3 else if takenE e f x l ≠ 0 then takenE e f x l else if weighedB e x (sumR l) = false then 24 else if pureB e.purities i l (sumR l) = false then 13 else 0
/-- the error of the moves from k on -/
def movesE (e : Ev) (H : List (List Rat)) : Nat → List Move → Int
  | _, [] => 0
  | k, x :: r => if stepE e x (H.getD k []) (stk e H k) k ≠ 0 then stepE e x (H.getD k []) (stk e H k) k else movesE e H (k + 1) r
def histE (e : Ev) (H : List (List Rat)) : Int := movesE e H 0 e.moves
def histCheck (e : Ev) (h : List (List Fr)) : Int := if check e ≠ 0 then 1 else if shapedB e h then histE e (h.map (·.map fv)) else 2
theorem unhz (H : List (List Rat)) : (hz H).map (·.map fv) = H := by
  unfold hz
  rw [List.map_map]
  conv => rhs; rw [← List.map_id H]
  refine List.map_congr_left fun l _ => ?_
  simp only [Function.comp, List.map_map, id]
  conv => rhs; rw [← List.map_id l]
  exact List.map_congr_left fun x _ => fv_fz x
theorem rl_carryF {x : Move} {v : Nat → Rat} {f : Nat → Nat → Rat} {B C : Nat} (hv : ∀ m, rl (v m) ≤ B) (hf : ∀ p m, rl (f p m) ≤ C) (p m : Nat) : rl (carryF x v f p m) ≤ C + (B + 1) := by
  unfold carryF
  have h1 := hf p m
  have h2 := hv m
  have h3 := rl_sub (f p m) (v m)
  have h4 := rl_add (f p m) (v m)
  split
  · omega
  · split <;> omega
theorem rl_zero : rl ((0 : Int) : Rat) = 1 := by rw [rl_int]; rfl
theorem rl_hAt {H : List (List Rat)} {B : Nat} (hB : ∀ l ∈ H, ∀ x ∈ l, rl x ≤ B) (h1 : 1 ≤ B) (k m : Nat) : rl (hAt H k m) ≤ B := by
  unfold hAt
  rw [List.getD_eq_getElem?_getD, List.getD_eq_getElem?_getD]
  cases hk : H[k]? with
  | none =>
    have : rl 0 = 1 := rl_zero
    simp only [Option.getD_none, List.getElem?_nil]
    omega
  | some l =>
    simp only [Option.getD_some]
    cases hm : l[m]? with
    | none =>
      have : rl 0 = 1 := rl_zero
      simp only [Option.getD_none]
      omega
    | some x => exact hB l (List.mem_of_getElem? hk) x (List.mem_of_getElem? hm)
theorem rl_stk {e : Ev} {H : List (List Rat)} {B : Nat} (hB : ∀ l ∈ H, ∀ x ∈ l, rl x ≤ B) (h1 : 1 ≤ B) : ∀ k p m, rl (stk e H k p m) ≤ k * (B + 1) + 1
  | 0, p, m => by unfold stk; rw [rl_zero]; omega
  | k + 1, p, m => by
    have ih := rl_stk hB h1 (e := e) k
    unfold stk
    cases hx : e.moves[k]? with
    | none => have := ih p m; rw [Nat.succ_mul]; simp only; omega
    | some x =>
      simp only
      have := rl_carryF (x := x) (rl_hAt hB h1 k) ih p m
      rw [Nat.succ_mul]; omega
end Go.Proofs.YthinjkjhiembgaaGreat
/- frac.Max; scale: Right, covers, Find, Recalled, Error, Interval. -/
namespace Go.Proofs.YthinjkjhiembgaaGreat
open Go.RowKit
set_option linter.unusedVariables false
set_option linter.unusedSimpArgs false
set_option maxRecDepth 100000

theorem cmpR_lt {x y : Rat} : cmpR x y < 0 ↔ x < y := by unfold cmpR; split <;> (try split) <;> simp_all
theorem cmpR_rng (x y : Rat) : -1 ≤ cmpR x y ∧ cmpR x y ≤ 1 := by unfold cmpR; split <;> (try split) <;> omega
theorem z_fMax (x y : Rat) (lx : rl x ≤ 60000) (ly : rl y ≤ 60000) : ACall Tryz.prog 96 [frS (fz x), frS (fz y)] [] (.tup [frS (fz (maxR x y)), intS .i64 0]) [] := by
  have e : ACall Tryz.prog 118 [frS (fz x), frS (fz y), intS .i64 1] [] (.tup [frS (fz (maxR x y)), intS .i64 0]) [] := by
    have r1 := z_fRight x (by omega)
    have r2 := z_fRight y (by omega)
    have x1 := rl_num x
    have x2 := rl_den x
    have y1 := rl_num y
    have y2 := rl_den y
    have c := z_fCompare x y lx ly
    have hr := cmpR_rng x y
    have s1 := z_slim x.num (by omega)
    have s2 := z_slim x.den (by omega)
    have s3 := z_slim y.num (by omega)
    have s4 := z_slim y.den (by omega)
    (refine acall_of tab_ok Tryz.func118 rfl (by decide) ?_; (conv => whnf); repeat (first | (refine LitB.data ?_; conv => whnf) | (refine BoxB.own ?_; conv => whnf)))
    (repeat' (first | ((refine DecB.mk (fun h => ?_) (fun h => ?_)) <;> first | (exfalso; omega) | (conv => whnf)) | ((refine BoolB.mk (fun h => ?_) (fun h => ?_)) <;> first | (exact absurd h (by decide)) | (conv => whnf)) | (refine ⟨_, wrap_ok (by omega) (by omega), ?_⟩; conv => whnf) | (refine and_idx (by omega) (by omega) ?_; conv => whnf) | (refine reg_ok (by decide +kernel) ?_; conv => whnf) | (refine bar_ok (by decide +kernel) (by decide +kernel) ?_; conv => whnf) | (refine late_ok rfl rfl ?_; conv => whnf) | (refine src_ok rfl ?_; conv => whnf) | (refine .inl ⟨_, _, qcall_pure (r1) rfl rfl, ?_⟩; conv => whnf) | (refine .inl ⟨_, _, qcall_pure (r2) rfl rfl, ?_⟩; conv => whnf) | (refine .inl ⟨_, _, qcall_pure (c) rfl rfl, ?_⟩; conv => whnf) | (refine .inl ⟨_, _, qcall_pure (s1) rfl rfl, ?_⟩; conv => whnf) | (refine .inl ⟨_, _, qcall_pure (s2) rfl rfl, ?_⟩; conv => whnf) | (refine .inl ⟨_, _, qcall_pure (s3) rfl rfl, ?_⟩; conv => whnf) | (refine .inl ⟨_, _, qcall_pure (s4) rfl rfl, ?_⟩; conv => whnf) | (refine LitB.data ?_; conv => whnf) | (refine BoxB.own ?_; conv => whnf)))
    · have h : cmpR x y < 0 := by omega
      refine fin_fe (f := fz y) ?_
      unfold maxR; rw [if_pos (cmpR_lt.1 h)]
    · have h : ¬ cmpR x y < 0 := by omega
      refine fin_fe (f := fz x) ?_
      unfold maxR; rw [if_neg (fun h' => h (cmpR_lt.2 h'))]
  (refine acall_of tab_ok Tryz.func96 rfl (by decide) ?_; (conv => whnf); repeat (first | (refine LitB.data ?_; conv => whnf) | (refine BoxB.own ?_; conv => whnf)))
  (repeat' (first | ((refine DecB.mk (fun h => ?_) (fun h => ?_)) <;> first | (exfalso; omega) | (conv => whnf)) | ((refine BoolB.mk (fun h => ?_) (fun h => ?_)) <;> first | (exact absurd h (by decide)) | (conv => whnf)) | (refine ⟨_, wrap_ok (by omega) (by omega), ?_⟩; conv => whnf) | (refine and_idx (by omega) (by omega) ?_; conv => whnf) | (refine reg_ok (by decide +kernel) ?_; conv => whnf) | (refine bar_ok (by decide +kernel) (by decide +kernel) ?_; conv => whnf) | (refine late_ok rfl rfl ?_; conv => whnf) | (refine src_ok rfl ?_; conv => whnf) | (refine .inl ⟨_, _, qcall_pure (e) rfl rfl, ?_⟩; conv => whnf) | (refine LitB.data ?_; conv => whnf) | (refine BoxB.own ?_; conv => whnf)))
  all_goals exact fin_fe rfl
theorem a_within (n m : Int) : ACall Tryz.prog 116 [intS .i64 n, intS .i64 m] [] (boolS (btw n 0 m)) [] := by
  (refine acall_of tab_ok Tryz.func116 rfl (by decide) ?_; (conv => whnf); repeat (first | (refine LitB.data ?_; conv => whnf) | (refine BoxB.own ?_; conv => whnf)))
  (repeat' (first | ((refine DecB.mk (fun h => ?_) (fun h => ?_)) <;> first | (exfalso; omega) | (conv => whnf)) | ((refine BoolB.mk (fun h => ?_) (fun h => ?_)) <;> first | (exact absurd h (by decide)) | (conv => whnf)) | (refine ⟨_, wrap_ok (by omega) (by omega), ?_⟩; conv => whnf) | (refine and_idx (by omega) (by omega) ?_; conv => whnf) | (refine reg_ok (by decide +kernel) ?_; conv => whnf) | (refine bar_ok (by decide +kernel) (by decide +kernel) ?_; conv => whnf) | (refine late_ok rfl rfl ?_; conv => whnf) | (refine src_ok rfl ?_; conv => whnf) | (refine LitB.data ?_; conv => whnf) | (refine BoxB.own ?_; conv => whnf)))
  all_goals (refine fin_bool ?_; unfold btw; simp; omega)
abbrev certS (c : Cert) : S := .agg (c.row.map .t)
theorem btw_idx30 (n : Int) : btw n 0 29 = idx n 30 := btw_idx n 30
theorem a_certRight (c : Cert) : ACall Tryz.prog 126 [certS c] [] (boolS (certRight c)) [] := by
  have w1 := a_within c.scale 29
  have w2 := a_within c.grams 1099511627776
  have w3 := a_within c.permille 1000
  have w4 := a_within c.drift 10000000
  rw [btw_idx30] at w1
  unfold certRight
  cases h1 : idx c.scale 30 <;> cases h2 : btw c.grams 0 1099511627776 <;> cases h3 : btw c.permille 0 1000 <;> cases h4 : btw c.drift 0 10000000 <;> rw [h1] at w1 <;> rw [h2] at w2 <;> rw [h3] at w3 <;> rw [h4] at w4 <;>
  · (refine acall_of tab_ok Tryz.func126 rfl (by decide) ?_; (conv => whnf); repeat (first | (refine LitB.data ?_; conv => whnf) | (refine BoxB.own ?_; conv => whnf)))
    (repeat' (first | ((refine DecB.mk (fun h => ?_) (fun h => ?_)) <;> first | (exfalso; omega) | (conv => whnf)) | ((refine BoolB.mk (fun h => ?_) (fun h => ?_)) <;> first | (exact absurd h (by decide)) | (conv => whnf)) | (refine ⟨_, wrap_ok (by omega) (by omega), ?_⟩; conv => whnf) | (refine and_idx (by omega) (by omega) ?_; conv => whnf) | (refine reg_ok (by decide +kernel) ?_; conv => whnf) | (refine bar_ok (by decide +kernel) (by decide +kernel) ?_; conv => whnf) | (refine late_ok rfl rfl ?_; conv => whnf) | (refine src_ok rfl ?_; conv => whnf) | (refine .inl ⟨_, _, qcall_pure (w1) rfl rfl, ?_⟩; conv => whnf) | (refine .inl ⟨_, _, qcall_pure (w2) rfl rfl, ?_⟩; conv => whnf) | (refine .inl ⟨_, _, qcall_pure (w3) rfl rfl, ?_⟩; conv => whnf) | (refine .inl ⟨_, _, qcall_pure (w4) rfl rfl, ?_⟩; conv => whnf) | (refine LitB.data ?_; conv => whnf) | (refine BoxB.own ?_; conv => whnf)))
    all_goals (refine fin_bool ?_; simp; try omega)
theorem a_covers (c : Cert) (day : Int) : ACall Tryz.prog 113 [certS c, intS .i64 day] [] (boolS (covers c day)) [] := by
  have w1 := a_certRight c
  unfold covers
  cases h1 : certRight c <;> rw [h1] at w1 <;>
  · (refine acall_of tab_ok Tryz.func113 rfl (by decide) ?_; (conv => whnf); repeat (first | (refine LitB.data ?_; conv => whnf) | (refine BoxB.own ?_; conv => whnf)))
    (repeat' (first | ((refine DecB.mk (fun h => ?_) (fun h => ?_)) <;> first | (exfalso; omega) | (conv => whnf)) | ((refine BoolB.mk (fun h => ?_) (fun h => ?_)) <;> first | (exact absurd h (by decide)) | (conv => whnf)) | (refine ⟨_, wrap_ok (by omega) (by omega), ?_⟩; conv => whnf) | (refine and_idx (by omega) (by omega) ?_; conv => whnf) | (refine reg_ok (by decide +kernel) ?_; conv => whnf) | (refine bar_ok (by decide +kernel) (by decide +kernel) ?_; conv => whnf) | (refine late_ok rfl rfl ?_; conv => whnf) | (refine src_ok rfl ?_; conv => whnf) | (refine .inl ⟨_, _, qcall_pure (w1) rfl rfl, ?_⟩; conv => whnf) | (refine LitB.data ?_; conv => whnf) | (refine BoxB.own ?_; conv => whnf)))
    all_goals (refine fin_bool ?_; simp [btw]; try omega)
theorem cert_get {cs : List Cert} {k : Nat} {c : Cert} (h : cs[k]? = some c) : sinceAt cs k = c.since := by unfold sinceAt; rw [h]; rfl
abbrev boxT (n : Int) : T := .ptr [ti n]
theorem ent_b {a b : Bool} {ρ : List (Option Nat)} {H : Hp} (h : a = b) : EntS ρ H (boolS a) (boolS b) := by subst h; exact rfl
def bestOf (o : Option Nat) : Nat := o.getD 0
theorem a_Find (cs : List Cert) (scale day : Int) (hl : cs.length ≤ 1000000) :
    ACall Tryz.prog 93 [.c (.t (certsT cs)), intS .i64 scale, intS .i64 day] [] (.tup [intS .i64 (bestOf (findTo cs scale day cs.length)), boolS (findTo cs scale day cs.length).isSome]) [] := by
  have l1 : (cs.map Cert.row).length = cs.length := by simp
  (refine acall_of tab_ok Tryz.func93 rfl (by decide) ?_; (conv => whnf); repeat (first | (refine LitB.data ?_; conv => whnf) | (refine BoxB.own ?_; conv => whnf)))
  (repeat' (first | ((refine DecB.mk (fun h => ?_) (fun h => ?_)) <;> first | (exfalso; omega) | (conv => whnf)) | ((refine BoolB.mk (fun h => ?_) (fun h => ?_)) <;> first | (exact absurd h (by decide)) | (conv => whnf)) | (refine ⟨_, wrap_ok (by omega) (by omega), ?_⟩; conv => whnf) | (refine and_idx (by omega) (by omega) ?_; conv => whnf) | (refine reg_ok (by decide +kernel) ?_; conv => whnf) | (refine bar_ok (by decide +kernel) (by decide +kernel) ?_; conv => whnf) | (refine late_ok rfl rfl ?_; conv => whnf) | (refine src_ok rfl ?_; conv => whnf) | (refine LitB.data ?_; conv => whnf) | (refine BoxB.own ?_; conv => whnf)))
  refine awp_for tab_ok (fun k => ([S.c (C.t (certsT cs)), intS .i64 scale, intS .i64 day, S.junk, S.junk, S.junk, S.junk, S.junk, intS .i64 (bestOf (findTo cs scale day k)), boolS (findTo cs scale day k).isSome, S.junk, S.junk, S.c (C.t (certsT cs)), intS .i64 cs.length, intS .i64 k, S.junk, S.junk, S.junk, S.junk, S.junk, S.junk, S.junk, S.junk, S.junk, S.junk, S.junk, S.junk, S.junk, S.junk, S.junk, S.junk, S.junk, S.junk, S.junk, S.junk, S.junk, S.junk, S.junk, S.junk, S.junk, S.junk, S.junk, S.junk, S.junk, S.junk, S.junk], [])) cs.length (fun _ => True) [] trivial
    ⟨rfl, rfl, trivial, ⟨ent_t rfl, rfl, rfl, rfl, rfl, ent_t rfl, ent_i (by simp), rfl, trivial⟩⟩ ?_
  intro k hk _
  by_cases hlt : k < cs.length
  · obtain ⟨c, hc⟩ : ∃ c, cs[k]? = some c := ⟨_, List.getElem?_eq_getElem hlt⟩
    have cv := a_covers c day
    have hst : findTo cs scale day (k + 1) = if decide (c.scale = scale) && covers c day && later cs (findTo cs scale day k) c then some k else findTo cs scale day k := by
      conv => lhs; unfold findTo
      rw [hc]
    cases hcv : covers c day with
    | false =>
      rw [hcv] at cv hst
      simp only [Bool.and_false, Bool.false_and, Bool.false_eq_true, if_false] at hst
      rw [← hst]
      conv => whnf
      (repeat' (first | ((refine DecB.mk (fun h => ?_) (fun h => ?_)) <;> first | (exfalso; omega) | (conv => whnf)) | ((refine BoolB.mk (fun h => ?_) (fun h => ?_)) <;> first | (exact absurd h (by decide)) | (conv => whnf)) | (refine ⟨_, wrap_ok (by omega) (by omega), ?_⟩; conv => whnf) | (refine and_idx (by omega) (by omega) ?_; conv => whnf) | (refine reg_ok (by decide +kernel) ?_; conv => whnf) | (refine bar_ok (by decide +kernel) (by decide +kernel) ?_; conv => whnf) | (refine late_ok rfl rfl ?_; conv => whnf) | (refine src_ok rfl ?_; conv => whnf) | (refine .inl ⟨_, _, qcall_pure (cv) rfl rfl, ?_⟩; conv => whnf) | (refine ex_row hc ?_; conv => whnf) | (refine LitB.data ?_; conv => whnf) | (refine BoxB.own ?_; conv => whnf)))
      all_goals first
        | (exfalso; omega)
        | exact ⟨hlt, trivial, [], rfl, rfl, trivial, ⟨rfl, rfl, rfl, rfl, rfl, rfl, rfl, rfl, trivial⟩⟩
    | true =>
      rw [hcv] at cv hst
      cases hf : findTo cs scale day k with
      | none =>
        rw [hf] at hst
        conv => whnf
        (repeat' (first | ((refine DecB.mk (fun h => ?_) (fun h => ?_)) <;> first | (exfalso; omega) | (conv => whnf)) | ((refine BoolB.mk (fun h => ?_) (fun h => ?_)) <;> first | (exact absurd h (by decide)) | (conv => whnf)) | (refine ⟨_, wrap_ok (by omega) (by omega), ?_⟩; conv => whnf) | (refine and_idx (by omega) (by omega) ?_; conv => whnf) | (refine reg_ok (by decide +kernel) ?_; conv => whnf) | (refine bar_ok (by decide +kernel) (by decide +kernel) ?_; conv => whnf) | (refine late_ok rfl rfl ?_; conv => whnf) | (refine src_ok rfl ?_; conv => whnf) | (refine .inl ⟨_, _, qcall_pure (cv) rfl rfl, ?_⟩; conv => whnf) | (refine ex_row hc ?_; conv => whnf) | (refine LitB.data ?_; conv => whnf) | (refine BoxB.own ?_; conv => whnf)))
        · exact ⟨hlt, trivial, [], rfl, rfl, trivial, ⟨rfl, rfl, rfl, ent_i (by rw [hst]; simp [*, later, bestOf]), ent_b (by rw [hst]; simp [*, later]), rfl, rfl, rfl, trivial⟩⟩
        · exact ⟨hlt, trivial, [], rfl, rfl, trivial, ⟨rfl, rfl, rfl, ent_i (by rw [hst]; simp [*, later, bestOf]), ent_b (by rw [hst]; simp [*, later]), rfl, rfl, rfl, trivial⟩⟩
      | some b =>
        rw [hf] at hst
        obtain ⟨hb, cb, hcb, _⟩ := findTo_some hf
        have hsb := cert_get hcb
        conv => whnf
        (repeat' (first | ((refine DecB.mk (fun h => ?_) (fun h => ?_)) <;> first | (exfalso; omega) | (conv => whnf)) | ((refine BoolB.mk (fun h => ?_) (fun h => ?_)) <;> first | (exact absurd h (by decide)) | (conv => whnf)) | (refine ⟨_, wrap_ok (by omega) (by omega), ?_⟩; conv => whnf) | (refine and_idx (by omega) (by omega) ?_; conv => whnf) | (refine reg_ok (by decide +kernel) ?_; conv => whnf) | (refine bar_ok (by decide +kernel) (by decide +kernel) ?_; conv => whnf) | (refine late_ok rfl rfl ?_; conv => whnf) | (refine src_ok rfl ?_; conv => whnf) | (refine .inl ⟨_, _, qcall_pure (cv) rfl rfl, ?_⟩; conv => whnf) | (refine ex_row hc ?_; conv => whnf) | (refine ex_row hcb ?_; conv => whnf) | (refine LitB.data ?_; conv => whnf) | (refine BoxB.own ?_; conv => whnf)))
        all_goals first
          | exact ⟨hlt, trivial, [], rfl, rfl, trivial, ⟨rfl, rfl, rfl, ent_i (by rw [hst]; simp [*, later, bestOf]), ent_b (by rw [hst]; simp [*, later]), rfl, rfl, rfl, trivial⟩⟩
          | (exfalso; simp_all; done)
  · have hke : k = cs.length := by omega
    subst hke
    conv => whnf
    (repeat' (first | ((refine DecB.mk (fun h => ?_) (fun h => ?_)) <;> first | (exfalso; omega) | (conv => whnf)) | ((refine BoolB.mk (fun h => ?_) (fun h => ?_)) <;> first | (exact absurd h (by decide)) | (conv => whnf)) | (refine ⟨_, wrap_ok (by omega) (by omega), ?_⟩; conv => whnf) | (refine and_idx (by omega) (by omega) ?_; conv => whnf) | (refine reg_ok (by decide +kernel) ?_; conv => whnf) | (refine bar_ok (by decide +kernel) (by decide +kernel) ?_; conv => whnf) | (refine late_ok rfl rfl ?_; conv => whnf) | (refine src_ok rfl ?_; conv => whnf) | (refine LitB.data ?_; conv => whnf) | (refine BoxB.own ?_; conv => whnf)))
    all_goals first
      | (exfalso; omega)
      | exact fin_t ⟨rfl, rfl, trivial⟩
theorem a_RecalledIs (r : Recall) (scale day : Int) : ACall Tryz.prog 115 (.agg (r.row.map .t) :: [boxT scale, boxT day].map fun x => .c (.t x)) [] (boolS (decide (r.scale = scale) && decide (r.since ≤ day))) [] := by
  (refine acall_of tab_ok Tryz.func115 rfl (by decide) ?_; (conv => whnf); repeat (first | (refine LitB.data ?_; conv => whnf) | (refine BoxB.own ?_; conv => whnf)))
  (repeat' (first | ((refine DecB.mk (fun h => ?_) (fun h => ?_)) <;> first | (exfalso; omega) | (conv => whnf)) | ((refine BoolB.mk (fun h => ?_) (fun h => ?_)) <;> first | (exact absurd h (by decide)) | (conv => whnf)) | (refine ⟨_, wrap_ok (by omega) (by omega), ?_⟩; conv => whnf) | (refine and_idx (by omega) (by omega) ?_; conv => whnf) | (refine reg_ok (by decide +kernel) ?_; conv => whnf) | (refine bar_ok (by decide +kernel) (by decide +kernel) ?_; conv => whnf) | (refine late_ok rfl rfl ?_; conv => whnf) | (refine src_ok rfl ?_; conv => whnf) | (refine LitB.data ?_; conv => whnf) | (refine BoxB.own ?_; conv => whnf)))
  all_goals (refine fin_bool ?_; simp [*]; try omega)
abbrev recS (r : Recall) : S := .agg (r.row.map .t)
def indexI {α : Type} (q : α → Bool) : List α → Nat → Int
  | [], _ => -1
  | x :: r, k => if q x then k else indexI q r (k + 1)
theorem indexI_any {α : Type} (q : α → Bool) : ∀ (l : List α) (k : Nat), decide (0 ≤ indexI q l k) = l.any q
  | [], k => by simp [indexI]
  | x :: r, k => by
    unfold indexI
    rw [List.any_cons]
    cases h : q x with
    | true => simp
    | false => simpa using indexI_any q r (k + 1)
theorem indexI_rng {α : Type} (q : α → Bool) : ∀ (l : List α) (k : Nat), -1 ≤ indexI q l k ∧ indexI q l k < ((k + l.length : Nat) : Int) + 1
  | [], k => by simp [indexI]; omega
  | x :: r, k => by
    have ih := indexI_rng q r (k + 1)
    unfold indexI
    split
    · simp; omega
    · simp only [List.length_cons]; omega
theorem a_IndexRec (rs : List Recall) (hl : rs.length ≤ 1000000) (g : FuncId) (caps : List T) (q : Recall → Bool) (hg : ∀ r ∈ rs, ACall Tryz.prog g (recS r :: caps.map fun x => .c (.t x)) [] (boolS (q r)) []) :
    ACall Tryz.prog 127 [.c (.t (recallsT rs)), .c (.t (.fn (.func g) caps))] [] (intS .i64 (indexI q rs 0)) [] := by
  have l1 : (rs.map Recall.row).length = rs.length := by simp
  (refine acall_of tab_ok Tryz.func127 rfl (by decide) ?_; (conv => whnf); repeat (first | (refine LitB.data ?_; conv => whnf) | (refine BoxB.own ?_; conv => whnf)))
  (repeat' (first | ((refine DecB.mk (fun h => ?_) (fun h => ?_)) <;> first | (exfalso; omega) | (conv => whnf)) | ((refine BoolB.mk (fun h => ?_) (fun h => ?_)) <;> first | (exact absurd h (by decide)) | (conv => whnf)) | (refine ⟨_, wrap_ok (by omega) (by omega), ?_⟩; conv => whnf) | (refine and_idx (by omega) (by omega) ?_; conv => whnf) | (refine reg_ok (by decide +kernel) ?_; conv => whnf) | (refine bar_ok (by decide +kernel) (by decide +kernel) ?_; conv => whnf) | (refine late_ok rfl rfl ?_; conv => whnf) | (refine src_ok rfl ?_; conv => whnf) | (refine LitB.data ?_; conv => whnf) | (refine BoxB.own ?_; conv => whnf)))
  refine awp_for tab_ok (fun k => ([S.c (C.t (recallsT rs)), S.c (C.t (T.fn (.func g) caps)), S.junk, S.junk, S.junk, S.junk, S.junk, intS .i64 rs.length, intS .i64 k, S.junk, S.junk, S.junk, S.junk, S.junk, S.junk, S.junk, S.junk, S.junk, S.junk], [])) rs.length (fun k => indexI q (rs.drop k) k = indexI q rs 0) [] rfl
    ⟨rfl, rfl, trivial, ⟨ent_t rfl, ent_t rfl, ent_i (by simp), rfl, trivial⟩⟩ ?_
  intro k hk hI
  by_cases hlt : k < rs.length
  · obtain ⟨r, hr⟩ : ∃ r, rs[k]? = some r := ⟨_, List.getElem?_eq_getElem hlt⟩
    have hd : rs.drop k = r :: rs.drop (k + 1) := by
      rw [List.drop_eq_getElem_cons hlt]
      rw [List.getElem?_eq_getElem hlt] at hr
      injection hr with hr
      rw [hr]
    have hgr := hg r (List.mem_of_getElem? hr)
    have ha : (recS r :: caps.map fun x => S.c (C.t x)).all S.isT = true := by simp [S.isT, C.isT, Recall.row]
    rw [hd] at hI
    have hI : (if q r then (k : Int) else indexI q (rs.drop (k + 1)) (k + 1)) = indexI q rs 0 := hI
    cases hq : q r with
    | true =>
      rw [hq] at hgr hI
      conv => whnf
      (repeat' (first | ((refine DecB.mk (fun h => ?_) (fun h => ?_)) <;> first | (exfalso; omega) | (conv => whnf)) | ((refine BoolB.mk (fun h => ?_) (fun h => ?_)) <;> first | (exact absurd h (by decide)) | (conv => whnf)) | (refine ⟨_, wrap_ok (by omega) (by omega), ?_⟩; conv => whnf) | (refine and_idx (by omega) (by omega) ?_; conv => whnf) | (refine reg_ok (by decide +kernel) ?_; conv => whnf) | (refine bar_ok (by decide +kernel) (by decide +kernel) ?_; conv => whnf) | (refine late_ok rfl rfl ?_; conv => whnf) | (refine src_ok rfl ?_; conv => whnf) | (refine .inl ⟨_, _, qcall_pure hgr ha rfl, ?_⟩; conv => whnf) | (refine ex_row hr ?_; conv => whnf) | (refine LitB.data ?_; conv => whnf) | (refine BoxB.own ?_; conv => whnf)))
      all_goals first
        | (exfalso; omega)
        | exact fin_int hI
    | false =>
      rw [hq] at hgr hI
      conv => whnf
      (repeat' (first | ((refine DecB.mk (fun h => ?_) (fun h => ?_)) <;> first | (exfalso; omega) | (conv => whnf)) | ((refine BoolB.mk (fun h => ?_) (fun h => ?_)) <;> first | (exact absurd h (by decide)) | (conv => whnf)) | (refine ⟨_, wrap_ok (by omega) (by omega), ?_⟩; conv => whnf) | (refine and_idx (by omega) (by omega) ?_; conv => whnf) | (refine reg_ok (by decide +kernel) ?_; conv => whnf) | (refine bar_ok (by decide +kernel) (by decide +kernel) ?_; conv => whnf) | (refine late_ok rfl rfl ?_; conv => whnf) | (refine src_ok rfl ?_; conv => whnf) | (refine .inl ⟨_, _, qcall_pure hgr ha rfl, ?_⟩; conv => whnf) | (refine ex_row hr ?_; conv => whnf) | (refine LitB.data ?_; conv => whnf) | (refine BoxB.own ?_; conv => whnf)))
      all_goals first
        | (exfalso; omega)
        | exact ⟨hlt, by simpa using hI, [], rfl, rfl, trivial, ⟨rfl, rfl, rfl, rfl, trivial⟩⟩
  · have hke : k = rs.length := by omega
    subst hke
    rw [List.drop_of_length_le (Nat.le_refl _)] at hI
    conv => whnf
    (repeat' (first | ((refine DecB.mk (fun h => ?_) (fun h => ?_)) <;> first | (exfalso; omega) | (conv => whnf)) | ((refine BoolB.mk (fun h => ?_) (fun h => ?_)) <;> first | (exact absurd h (by decide)) | (conv => whnf)) | (refine ⟨_, wrap_ok (by omega) (by omega), ?_⟩; conv => whnf) | (refine and_idx (by omega) (by omega) ?_; conv => whnf) | (refine reg_ok (by decide +kernel) ?_; conv => whnf) | (refine bar_ok (by decide +kernel) (by decide +kernel) ?_; conv => whnf) | (refine late_ok rfl rfl ?_; conv => whnf) | (refine src_ok rfl ?_; conv => whnf) | (refine LitB.data ?_; conv => whnf) | (refine BoxB.own ?_; conv => whnf)))
    all_goals first
      | (exfalso; omega)
      | exact fin_int hI
theorem a_ContainsRec (rs : List Recall) (hl : rs.length ≤ 1000000) (g : FuncId) (caps : List T) (q : Recall → Bool) (hg : ∀ r ∈ rs, ACall Tryz.prog g (recS r :: caps.map fun x => .c (.t x)) [] (boolS (q r)) []) :
    ACall Tryz.prog 114 [.c (.t (recallsT rs)), .c (.t (.fn (.func g) caps))] [] (boolS (rs.any q)) [] := by
  have ix := a_IndexRec rs hl g caps q hg
  (refine acall_of tab_ok Tryz.func114 rfl (by decide) ?_; (conv => whnf); repeat (first | (refine LitB.data ?_; conv => whnf) | (refine BoxB.own ?_; conv => whnf)))
  (repeat' (first | ((refine DecB.mk (fun h => ?_) (fun h => ?_)) <;> first | (exfalso; omega) | (conv => whnf)) | ((refine BoolB.mk (fun h => ?_) (fun h => ?_)) <;> first | (exact absurd h (by decide)) | (conv => whnf)) | (refine ⟨_, wrap_ok (by omega) (by omega), ?_⟩; conv => whnf) | (refine and_idx (by omega) (by omega) ?_; conv => whnf) | (refine reg_ok (by decide +kernel) ?_; conv => whnf) | (refine bar_ok (by decide +kernel) (by decide +kernel) ?_; conv => whnf) | (refine late_ok rfl rfl ?_; conv => whnf) | (refine src_ok rfl ?_; conv => whnf) | (refine .inl ⟨_, _, qcall_pure (ix) rfl rfl, ?_⟩; conv => whnf) | (refine LitB.data ?_; conv => whnf) | (refine BoxB.own ?_; conv => whnf)))
  all_goals (refine fin_bool ?_; rw [← indexI_any q rs 0]; simp; omega)
theorem a_Recalled (rs : List Recall) (hl : rs.length ≤ 1000000) (scale day : Int) : ACall Tryz.prog 94 [.c (.t (recallsT rs)), intS .i64 scale, intS .i64 day] [] (boolS (recalled rs scale day)) [] := by
  have ct := a_ContainsRec rs hl 115 [boxT scale, boxT day] _ (fun r _ => a_RecalledIs r scale day)
  (refine acall_of tab_ok Tryz.func94 rfl (by decide) ?_; (conv => whnf); repeat (first | (refine LitB.data ?_; conv => whnf) | (refine BoxB.data ?_; conv => whnf)))
  (repeat' (first | ((refine DecB.mk (fun h => ?_) (fun h => ?_)) <;> first | (exfalso; omega) | (conv => whnf)) | ((refine BoolB.mk (fun h => ?_) (fun h => ?_)) <;> first | (exact absurd h (by decide)) | (conv => whnf)) | (refine ⟨_, wrap_ok (by omega) (by omega), ?_⟩; conv => whnf) | (refine and_idx (by omega) (by omega) ?_; conv => whnf) | (refine reg_ok (by decide +kernel) ?_; conv => whnf) | (refine bar_ok (by decide +kernel) (by decide +kernel) ?_; conv => whnf) | (refine late_ok rfl rfl ?_; conv => whnf) | (refine src_ok rfl ?_; conv => whnf) | (refine .inl ⟨_, _, qcall_pure (ct) rfl rfl, ?_⟩; conv => whnf) | (refine LitB.data ?_; conv => whnf) | (refine BoxB.own ?_; conv => whnf)))
  all_goals (refine fin_bool ?_; symm; assumption)
end Go.Proofs.YthinjkjhiembgaaGreat
