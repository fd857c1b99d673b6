/- big: Add, Sub, Neg, Mul, Compare, Div at right integers. -/
import Derived.Test.YtomfnfbijgjfeaaTw3
namespace Go.Proofs.Ytomfnfbijgjfeaa
open Go.RowKit
set_option linter.unusedVariables false
set_option linter.unusedSimpArgs false
set_option maxRecDepth 100000

theorem sgm (x : Int) : x.sign * x.natAbs = x := Int.sign_mul_natAbs x
theorem z_bRight (x : Int) (lx : bl x ≤ 300000) : ACall Try.prog 56 [bgS (bz x)] [] (boolS true) [] := r_bRight _ _ (sg_bz x) lx
theorem z_bAdd (x y : Int) (lx : bl x ≤ 200000) (ly : bl y ≤ 200000) : ACall Try.prog 51 [bgS (bz x), bgS (bz y)] [] (.tup [bgS (bz (x + y)), intS .i64 0]) [] := by
  have h := r_bAdd _ _ _ _ (sg_bz x) (sg_bz y) lx ly
  rw [sgm, sgm] at h
  exact h
theorem z_bNeg (x : Int) (lx : bl x ≤ 300000) : ACall Try.prog 59 [bgS (bz x)] [] (bgS (bz (-x))) [] := by
  have h := a_bNeg (bz x) (show bl x ≤ 1000000 by omega)
  unfold negB at h
  rw [bz_right, bv_bz] at h
  exact h
abbrev bg2 (s : Int) (l : List Int) : S := .agg [.t (ti s), .t (intsT l)]
theorem r_bMul (s t : Int) (m n : Nat) (hs : Sg s m) (ht : Sg t n) (lm : (dg m).length ≤ 200000) (ln : (dg n).length ≤ 200000) :
    ACall Try.prog 95 [bgS ⟨s, dg m⟩, bgS ⟨t, dg n⟩] [] (.tup [bgS (bz ((s * t) * (m * n : Nat))), intS .i64 0]) [] := by
  have r1 := r_bRight s m hs (by omega)
  have r2 := r_bRight t n ht (by omega)
  have mu := a_mulD m n (by omega) (by omega)
  have ls := dg_mul_len m n
  have hst : -1 ≤ s * t ∧ s * t ≤ 1 ∧ (s * t = 1 ∨ s * t = -1 ∨ m * n = 0) := by
    rcases hs with ⟨rfl, rfl⟩ | ⟨rfl, h1⟩ | ⟨rfl, h1⟩ <;> rcases ht with ⟨rfl, rfl⟩ | ⟨rfl, h2⟩ | ⟨rfl, h2⟩ <;> simp
  obtain ⟨q1, q2, q3⟩ := hst
  have sg := a_signedD (s * t) (m * n) q3 (by omega)
  have ck := a_checked true (bz ((s * t) * (m * n : Nat)))
  (refine acall_of tab_ok Try.func95 rfl (by decide) ?_; (conv => whnf); repeat (first | (refine LitB.data ?_; conv => whnf) | (refine BoxB.own ?_; conv => whnf)))
  (repeat' (first | ((refine DecB.mk (fun h => ?_) (fun h => ?_)) <;> first | (exfalso; omega) | (conv => whnf)) | ((refine BoolB.mk (fun h => ?_) (fun h => ?_)) <;> first | (exact absurd h (by decide)) | (conv => whnf)) | (refine ⟨_, wrap_ok (by omega) (by omega), ?_⟩; conv => whnf) | (refine and_idx (by omega) (by omega) ?_; conv => whnf) | (refine reg_ok (by decide +kernel) ?_; conv => whnf) | (refine bar_ok (by decide +kernel) (by decide +kernel) ?_; conv => whnf) | (refine late_ok rfl rfl ?_; conv => whnf) | (refine src_ok rfl ?_; conv => whnf) | (refine .inl ⟨_, _, qcall_pure (r1) rfl rfl, ?_⟩; conv => whnf) | (refine .inl ⟨_, _, qcall_pure (r2) rfl rfl, ?_⟩; conv => whnf) | (refine .inl ⟨_, _, qcall_pure (mu) rfl rfl, ?_⟩; conv => whnf) | (refine .inl ⟨_, _, qcall_pure (sg) rfl rfl, ?_⟩; conv => whnf) | (refine .inl ⟨_, _, qcall_pure (ck) rfl rfl, ?_⟩; conv => whnf) | (refine ⟨_, wrap_eq (y := s * t) rfl (by omega) (by omega), ?_⟩; conv => whnf) | (refine LitB.data ?_; conv => whnf) | (refine BoxB.own ?_; conv => whnf)))
  all_goals first | (exfalso; simp_all; done) | exact fin_be rfl
theorem z_bMul (x y : Int) (lx : bl x ≤ 200000) (ly : bl y ≤ 200000) : ACall Try.prog 95 [bgS (bz x), bgS (bz y)] [] (.tup [bgS (bz (x * y)), intS .i64 0]) [] := by
  have h := r_bMul _ _ _ _ (sg_bz x) (sg_bz y) lx ly
  have e : (x.sign * y.sign) * ((x.natAbs * y.natAbs : Nat) : Int) = x * y := by
    rw [Int.natCast_mul]
    have h1 := sgm x
    have h2 := sgm y
    grind
  rw [e] at h
  exact h
theorem z_bCompare (x y : Int) (lx : bl x ≤ 300000) (ly : bl y ≤ 300000) : ACall Try.prog 54 [bgS (bz x), bgS (bz y)] [] (intS .i64 (cmpI x y)) [] := by
  have h := a_bCompare (bz x) (bz y) (show bl x ≤ 1000000 by omega) (show bl y ≤ 1000000 by omega)
  unfold cmpB at h
  rw [bz_right, bz_right, bv_bz, bv_bz] at h
  exact h
theorem fin_be2 {b b' c c' : Bg} {e : Int} {H1 : Hp} (h : b = b') (h2 : c = c') : Fin 0 (.tup [bgS b, bgS c, intS .i64 e]) H1 (.tup [bgS b', bgS c', intS .i64 e]) [] := by
  subst h h2; exact fin_t ⟨⟨rfl, rfl, trivial⟩, ⟨rfl, rfl, trivial⟩, rfl, trivial⟩
theorem r_bDiv (s : Int) (m n : Nat) (hs : Sg s m) (hn : 0 < n) (lm : (dg m).length ≤ 200000) (ln : (dg n).length ≤ 200000) :
    ACall Try.prog 96 [bgS ⟨s, dg m⟩, bgS ⟨1, dg n⟩] [] (.tup [bgS (bz (s * m / n)), bgS (bz (s * m % n)), intS .i64 0]) [] := by
  show ACall Try.prog 96 [bg2 s (dg m), bg2 1 (dg n)] [] _ []
  have r1 := r_bRight s m hs (by omega)
  have r2 := r_bRight 1 n (.inr (.inl ⟨rfl, hn⟩)) (by omega)
  have dv := a_div m n hn (by omega) (by omega)
  have lq := dg_len_mono (Nat.div_le_self m n)
  have hr := Nat.mod_lt m hn
  have lr := dg_len_mono (Nat.le_of_lt hr)
  have lr2 : ((dg (m % n)).map intRow).length = (dg (m % n)).length := by simp
  have hz : (dg (m % n)).length = 0 ↔ m % n = 0 := by rw [List.length_eq_zero_iff, dg_eq_nil]
  have hm := Nat.div_add_mod m n
  have fin : ∀ (a b : Int) (H1 : Hp), a = s * m / n → b = s * m % n → Fin 0 (.tup [bgS (bz a), bgS (bz b), intS .i64 0]) H1 (.tup [bgS (bz (s * m / n)), bgS (bz (s * m % n)), intS .i64 0]) [] := fun a b H1 h1 h2 => fin_be2 (by rw [h1]) (by rw [h2])
  rcases hs with ⟨rfl, rfl⟩ | ⟨rfl, h1⟩ | ⟨rfl, h1⟩
  · have s1 := a_signedD 0 (0 / n) (by simp) (by omega)
    have s2 := a_signedD 0 (0 % n) (by simp) (by omega)
    (refine acall_of tab_ok Try.func96 rfl (by decide) ?_; (conv => whnf); repeat (first | (refine LitB.data ?_; conv => whnf) | (refine BoxB.own ?_; conv => whnf)))
    (repeat' (first | ((refine DecB.mk (fun h => ?_) (fun h => ?_)) <;> first | (exfalso; omega) | (conv => whnf)) | ((refine BoolB.mk (fun h => ?_) (fun h => ?_)) <;> first | (exact absurd h (by decide)) | (conv => whnf)) | (refine ⟨_, wrap_ok (by omega) (by omega), ?_⟩; conv => whnf) | (refine and_idx (by omega) (by omega) ?_; conv => whnf) | (refine reg_ok (by decide +kernel) ?_; conv => whnf) | (refine bar_ok (by decide +kernel) (by decide +kernel) ?_; conv => whnf) | (refine late_ok rfl rfl ?_; conv => whnf) | (refine src_ok rfl ?_; conv => whnf) | (refine .inl ⟨_, _, qcall_pure (r1) rfl rfl, ?_⟩; conv => whnf) | (refine .inl ⟨_, _, qcall_pure (r2) rfl rfl, ?_⟩; conv => whnf) | (refine .inl ⟨_, _, qcall_pure (dv) rfl rfl, ?_⟩; conv => whnf) | (refine .inl ⟨_, _, qcall_pure (s1) rfl rfl, ?_⟩; conv => whnf) | (refine .inl ⟨_, _, qcall_pure (s2) rfl rfl, ?_⟩; conv => whnf) | (refine ⟨_, wrap_eq (y := 0) rfl (by decide) (by decide), ?_⟩; conv => whnf) | (refine LitB.data ?_; conv => whnf) | (refine BoxB.own ?_; conv => whnf)))
    all_goals first | (exfalso; omega) | exact fin _ _ _ (by first | rfl | simp) (by first | rfl | simp)
  · have s1 := a_signedD 1 (m / n) (by simp) (by omega)
    have s2 := a_signedD 1 (m % n) (by simp) (by omega)
    (refine acall_of tab_ok Try.func96 rfl (by decide) ?_; (conv => whnf); repeat (first | (refine LitB.data ?_; conv => whnf) | (refine BoxB.own ?_; conv => whnf)))
    (repeat' (first | ((refine DecB.mk (fun h => ?_) (fun h => ?_)) <;> first | (exfalso; omega) | (conv => whnf)) | ((refine BoolB.mk (fun h => ?_) (fun h => ?_)) <;> first | (exact absurd h (by decide)) | (conv => whnf)) | (refine ⟨_, wrap_ok (by omega) (by omega), ?_⟩; conv => whnf) | (refine and_idx (by omega) (by omega) ?_; conv => whnf) | (refine reg_ok (by decide +kernel) ?_; conv => whnf) | (refine bar_ok (by decide +kernel) (by decide +kernel) ?_; conv => whnf) | (refine late_ok rfl rfl ?_; conv => whnf) | (refine src_ok rfl ?_; conv => whnf) | (refine .inl ⟨_, _, qcall_pure (r1) rfl rfl, ?_⟩; conv => whnf) | (refine .inl ⟨_, _, qcall_pure (r2) rfl rfl, ?_⟩; conv => whnf) | (refine .inl ⟨_, _, qcall_pure (dv) rfl rfl, ?_⟩; conv => whnf) | (refine .inl ⟨_, _, qcall_pure (s1) rfl rfl, ?_⟩; conv => whnf) | (refine .inl ⟨_, _, qcall_pure (s2) rfl rfl, ?_⟩; conv => whnf) | (refine ⟨_, wrap_eq (y := 1) rfl (by decide) (by decide), ?_⟩; conv => whnf) | (refine LitB.data ?_; conv => whnf) | (refine BoxB.own ?_; conv => whnf)))
    all_goals first | (exfalso; omega) | exact fin _ _ _ (by first | rfl | simp) (by first | rfl | simp)
  · by_cases h0 : m % n = 0
    · have hz0 := hz.2 h0
      have s1 := a_signedD (-1) (m / n) (by simp) (by omega)
      have s2 := a_signedD (-1) (m % n) (by simp) (by omega)
      have e1 : -1 * ((m / n : Nat) : Int) = -1 * (m : Int) / n := by
        have e : (m : Int) = n * (m / n : Nat) := by rw [← Int.natCast_mul]; congr 1; omega
        rw [e, show -1 * ((n : Int) * (m / n : Nat)) = n * (-1 * (m / n : Nat)) by grind, Int.mul_ediv_cancel_left _ (by omega)]
      have e2 : -1 * ((m % n : Nat) : Int) = -1 * (m : Int) % n := by
        have e : (m : Int) = n * (m / n : Nat) := by rw [← Int.natCast_mul]; congr 1; omega
        rw [h0, e, show -1 * ((n : Int) * (m / n : Nat)) = n * (-1 * (m / n : Nat)) by grind, Int.mul_emod_right]
        simp
      (refine acall_of tab_ok Try.func96 rfl (by decide) ?_; (conv => whnf); repeat (first | (refine LitB.data ?_; conv => whnf) | (refine BoxB.own ?_; conv => whnf)))
      (repeat' (first | ((refine DecB.mk (fun h => ?_) (fun h => ?_)) <;> first | (exfalso; omega) | (conv => whnf)) | ((refine BoolB.mk (fun h => ?_) (fun h => ?_)) <;> first | (exact absurd h (by decide)) | (conv => whnf)) | (refine ⟨_, wrap_ok (by omega) (by omega), ?_⟩; conv => whnf) | (refine and_idx (by omega) (by omega) ?_; conv => whnf) | (refine reg_ok (by decide +kernel) ?_; conv => whnf) | (refine bar_ok (by decide +kernel) (by decide +kernel) ?_; conv => whnf) | (refine late_ok rfl rfl ?_; conv => whnf) | (refine src_ok rfl ?_; conv => whnf) | (refine .inl ⟨_, _, qcall_pure (r1) rfl rfl, ?_⟩; conv => whnf) | (refine .inl ⟨_, _, qcall_pure (r2) rfl rfl, ?_⟩; conv => whnf) | (refine .inl ⟨_, _, qcall_pure (dv) rfl rfl, ?_⟩; conv => whnf) | (refine .inl ⟨_, _, qcall_pure (s1) rfl rfl, ?_⟩; conv => whnf) | (refine .inl ⟨_, _, qcall_pure (s2) rfl rfl, ?_⟩; conv => whnf) | (refine ⟨_, wrap_eq (y := -1) rfl (by decide) (by decide), ?_⟩; conv => whnf) | (refine LitB.data ?_; conv => whnf) | (refine BoxB.own ?_; conv => whnf)))
      all_goals first | (exfalso; omega) | exact fin _ _ _ e1 e2
    · have hz0 : (dg (m % n)).length ≠ 0 := fun h => h0 (hz.1 h)
      have one : dg 1 = [1] := rfl
      have ad := a_addD (m / n) 1 (by omega) (by simp [one])
      have sb := a_subD n (m % n) (by omega) (by omega)
      have l1 := dg_add_len (m / n) 1
      have l2 := dg_len_mono (Nat.sub_le n (m % n))
      have s1 := a_signedD (-1) (m / n + 1) (by simp) (by rw [one] at l1; simp at l1; omega)
      have s2 := a_signedD 1 (n - m % n) (by simp) (by omega)
      have key : (-1 * (m : Int)) = (n - m % n : Nat) + n * (-1 * ((m / n + 1 : Nat) : Int)) := by
        have e : (m : Int) = n * (m / n : Nat) + (m % n : Nat) := by rw [← Int.natCast_mul]; omega
        have e2 : ((n - m % n : Nat) : Int) = n - (m % n : Nat) := by omega
        have e3 : ((m / n + 1 : Nat) : Int) = (m / n : Nat) + 1 := by omega
        rw [e2, e3]
        grind
      have e1 : -1 * ((m / n + 1 : Nat) : Int) = -1 * (m : Int) / n := by
        rw [key, Int.add_mul_ediv_left _ _ (by omega), Int.ediv_eq_zero_of_lt (by omega) (by omega)]
        simp
      have e2 : 1 * ((n - m % n : Nat) : Int) = -1 * (m : Int) % n := by
        rw [key, Int.add_mul_emod_self_left, Int.emod_eq_of_lt (by omega) (by omega)]
        simp
      (refine acall_of tab_ok Try.func96 rfl (by decide) ?_; (conv => whnf); repeat (first | (refine LitB.data ?_; conv => whnf) | (refine BoxB.own ?_; conv => whnf)))
      (repeat' (first | ((refine DecB.mk (fun h => ?_) (fun h => ?_)) <;> first | (exfalso; omega) | (conv => whnf)) | ((refine BoolB.mk (fun h => ?_) (fun h => ?_)) <;> first | (exact absurd h (by decide)) | (conv => whnf)) | (refine ⟨_, wrap_ok (by omega) (by omega), ?_⟩; conv => whnf) | (refine and_idx (by omega) (by omega) ?_; conv => whnf) | (refine reg_ok (by decide +kernel) ?_; conv => whnf) | (refine bar_ok (by decide +kernel) (by decide +kernel) ?_; conv => whnf) | (refine late_ok rfl rfl ?_; conv => whnf) | (refine src_ok rfl ?_; conv => whnf) | (refine .inl ⟨_, _, qcall_pure (r1) rfl rfl, ?_⟩; conv => whnf) | (refine .inl ⟨_, _, qcall_pure (r2) rfl rfl, ?_⟩; conv => whnf) | (refine .inl ⟨_, _, qcall_pure (dv) rfl rfl, ?_⟩; conv => whnf) | (refine .inl ⟨_, _, qcall_pure (s1) rfl rfl, ?_⟩; conv => whnf) | (refine .inl ⟨_, _, qcall_pure (s2) rfl rfl, ?_⟩; conv => whnf) | (refine .inl ⟨_, _, qcall_pure (sb) rfl rfl, ?_⟩; conv => whnf) | (refine .inl ⟨_, _, qcall_data ad ⟨vs_t, vs_c (vc_t rfl), trivial⟩ rfl, ?_⟩; conv => whnf) | (refine ⟨_, wrap_eq (y := -1) rfl (by decide) (by decide), ?_⟩; conv => whnf) | (refine LitB.data ?_; conv => whnf) | (refine BoxB.own ?_; conv => whnf)))
      all_goals first | (exfalso; omega) | exact fin _ _ _ e1 e2
theorem z_bDiv (x y : Int) (hy : 0 < y) (lx : bl x ≤ 200000) (ly : bl y ≤ 200000) : ACall Try.prog 96 [bgS (bz x), bgS (bz y)] [] (.tup [bgS (bz (x / y)), bgS (bz (x % y)), intS .i64 0]) [] := by
  have h := r_bDiv _ _ y.natAbs (sg_bz x) (by omega) lx ly
  rw [sgm, show (y.natAbs : Int) = y by omega] at h
  unfold bz at *
  rw [Int.sign_eq_one_of_pos hy]
  exact h
end Go.Proofs.Ytomfnfbijgjfeaa
/- big: Gcd, Of, Int. -/
namespace Go.Proofs.Ytomfnfbijgjfeaa
open Go.RowKit
set_option linter.unusedVariables false
set_option linter.unusedSimpArgs false
set_option maxRecDepth 100000

abbrev zBox : Blk := { mode := .live, elem := 49, size := 2, rows := [[constC (.int .i64 0), constC (.slice none 0 0)]], box := true }
theorem rowsT_z : rowsT [[constC (.int .i64 0), constC (.slice none 0 0)]] := by
  intro r hr c hc
  simp at hr
  subst hr
  simp at hc
  rcases hc with rfl | rfl <;> rfl
structure GcdI (x y : Int) (X Y : Nat) : Prop where
  g : Nat.gcd X Y = Nat.gcd x.natAbs y.natAbs
  lx : (dg X).length ≤ 200000
  ly : (dg Y).length ≤ 200000
theorem z_bGcd (x y : Int) (lx : bl x ≤ 200000) (ly : bl y ≤ 200000) : ACall Try.prog 57 [bgS (bz x), bgS (bz y)] [] (.tup [bgS (bz (Int.gcd x y)), intS .i64 0]) [] := by
  have r1 := z_bRight x (by omega)
  have r2 := z_bRight y (by omega)
  have cl := a_Clone (bz x).dl (show bl x ≤ 1000000 by omega)
  (refine acall_of tab_ok Try.func57 rfl (by decide) ?_; (conv => whnf); repeat (first | (refine LitB.data ?_; conv => whnf) | (refine BoxB.own ?_; conv => whnf)))
  (repeat' (first | ((refine DecB.mk (fun h => ?_) (fun h => ?_)) <;> first | (exfalso; omega) | (conv => whnf)) | ((refine BoolB.mk (fun h => ?_) (fun h => ?_)) <;> first | (exact absurd h (by decide)) | (conv => whnf)) | (refine ⟨_, wrap_ok (by omega) (by omega), ?_⟩; conv => whnf) | (refine and_idx (by omega) (by omega) ?_; conv => whnf) | (refine reg_ok (by decide +kernel) ?_; conv => whnf) | (refine bar_ok (by decide +kernel) (by decide +kernel) ?_; conv => whnf) | (refine late_ok rfl rfl ?_; conv => whnf) | (refine src_ok rfl ?_; conv => whnf) | (refine .inl ⟨_, _, qcall_pure (r1) rfl rfl, ?_⟩; conv => whnf) | (refine .inl ⟨_, _, qcall_pure (r2) rfl rfl, ?_⟩; conv => whnf) | (refine .inl ⟨_, _, qcall_pure (cl) rfl rfl, ?_⟩; conv => whnf) | (refine LitB.data ?_; conv => whnf) | (refine BoxB.own ?_; conv => whnf)))
  all_goals first
    | (exfalso; simp_all; done)
    | skip
  refine awp_while tab_ok (σ := Nat × Nat) (fun | (X, Y) => ([S.junk, S.junk, S.junk, S.junk, S.c (C.ptr 0 0 0), S.junk, intsS (dg X), intsS (dg Y), S.junk, S.junk, S.junk, S.junk, S.junk, S.junk, S.junk, S.junk, S.junk, S.junk, S.junk, S.junk, S.junk, S.junk, S.junk, S.junk, S.junk, S.junk, S.junk, S.junk, S.junk, S.junk, S.junk, S.junk, S.junk, S.junk, S.junk, S.junk, S.junk, S.junk, S.junk, S.junk, S.junk, S.junk, S.junk, S.junk], [zBox])) (fun s => GcdI x y s.1 s.2) (fun s => s.2) (x.natAbs, y.natAbs) [some 2]
    ⟨rfl, lx, ly⟩ ⟨rfl, rfl, ⟨⟨rfl, rfl, rfl, .inl ⟨rfl, rowsT_z⟩⟩, trivial⟩, ⟨⟨rfl, rfl, rfl⟩, rfl, rfl, trivial⟩⟩ ?_
  rintro ⟨X, Y⟩ hI
  have hI : GcdI x y X Y := hI
  obtain ⟨g1, g2, g3⟩ := hI
  have l2 : ((dg Y).map intRow).length = (dg Y).length := by simp
  conv => whnf
  by_cases hY : 0 < Y
  · have hp : (dg Y).length ≠ 0 := by rw [Ne, List.length_eq_zero_iff, dg_eq_nil]; omega
    have dv := a_div X Y hY (by omega) (by omega)
    (repeat' (first | ((refine DecB.mk (fun h => ?_) (fun h => ?_)) <;> first | (exfalso; omega) | (conv => whnf)) | ((refine BoolB.mk (fun h => ?_) (fun h => ?_)) <;> first | (exact absurd h (by decide)) | (conv => whnf)) | (refine ⟨_, wrap_ok (by omega) (by omega), ?_⟩; conv => whnf) | (refine and_idx (by omega) (by omega) ?_; conv => whnf) | (refine reg_ok (by decide +kernel) ?_; conv => whnf) | (refine bar_ok (by decide +kernel) (by decide +kernel) ?_; conv => whnf) | (refine late_ok rfl rfl ?_; conv => whnf) | (refine src_ok rfl ?_; conv => whnf) | (refine .inl ⟨_, _, qcall_pure (dv) rfl rfl, ?_⟩; conv => whnf) | (refine LitB.data ?_; conv => whnf) | (refine BoxB.own ?_; conv => whnf)))
    all_goals first
      | (exfalso; omega)
      | skip
    exact ⟨[some 0], (Y, X % Y), ⟨rfl, rfl, ⟨⟨rfl, rfl, rfl, .inl ⟨rfl, rowsT_z⟩⟩, trivial⟩, ⟨⟨rfl, rfl, rfl⟩, rfl, rfl, trivial⟩⟩, ⟨by rw [← g1, Nat.gcd_comm Y, ← Nat.gcd_rec, Nat.gcd_comm], g3, Nat.le_trans (dg_len_mono (Nat.le_of_lt (Nat.mod_lt X hY))) g3⟩, Nat.mod_lt X hY⟩
  · have hY : Y = 0 := by omega
    subst hY
    have hp : (dg 0).length = 0 := rfl
    have c2 := a_Clone (dg X) (by omega)
    have s1 := a_signedD 1 X (by simp) (by omega)
    have ck := a_checked true (bz (1 * X))
    (repeat' (first | ((refine DecB.mk (fun h => ?_) (fun h => ?_)) <;> first | (exfalso; omega) | (conv => whnf)) | ((refine BoolB.mk (fun h => ?_) (fun h => ?_)) <;> first | (exact absurd h (by decide)) | (conv => whnf)) | (refine ⟨_, wrap_ok (by omega) (by omega), ?_⟩; conv => whnf) | (refine and_idx (by omega) (by omega) ?_; conv => whnf) | (refine reg_ok (by decide +kernel) ?_; conv => whnf) | (refine bar_ok (by decide +kernel) (by decide +kernel) ?_; conv => whnf) | (refine late_ok rfl rfl ?_; conv => whnf) | (refine src_ok rfl ?_; conv => whnf) | (refine .inl ⟨_, _, qcall_pure (c2) rfl rfl, ?_⟩; conv => whnf) | (refine .inl ⟨_, _, qcall_pure (s1) rfl rfl, ?_⟩; conv => whnf) | (refine .inl ⟨_, _, qcall_pure (ck) rfl rfl, ?_⟩; conv => whnf) | (refine LitB.data ?_; conv => whnf) | (refine BoxB.own ?_; conv => whnf)))
    all_goals first
      | (exfalso; omega)
      | skip
    refine fin_be ?_
    rw [Int.one_mul, show X = Int.gcd x y by rw [Int.gcd, ← g1, Nat.gcd_zero_right]]
    rfl
end Go.Proofs.Ytomfnfbijgjfeaa
/- big: Of, Int. -/
namespace Go.Proofs.Ytomfnfbijgjfeaa
open Go.RowKit
set_option linter.unusedVariables false
set_option linter.unusedSimpArgs false
set_option maxRecDepth 100000

theorem wrapu_mod {x y : Int} (h : x % 18446744073709551616 = y) : IsWrap .u64 x y := by
  unfold IsWrap
  simp only [IntKind.wrap, IntKind.bits, IntKind.signed]
  simp
  omega
theorem masku20 (a : Int) : IsBits .and .u64 a 1048575 (a % 1048576) := (and_mask_u64 (a := a) 20 (by decide)).symm
theorem shru20 (a : Int) : IsShr .u64 a 20 (a / 1048576) := by
  show a / 1048576 = a.fdiv 1048576
  exact (Int.fdiv_eq_ediv_of_nonneg _ (by decide)).symm
structure OfI (n : Int) (acc : List Int) (u : Nat) : Prop where
  eq : acc ++ dg u = dg n.natAbs
theorem OfI.len {n : Int} {acc : List Int} {u : Nat} (h : OfI n acc u) (h0 : -9223372036854775808 ≤ n) (h1 : n ≤ 9223372036854775807) : acc.length ≤ 4 := by
  have h2 : (dg n.natAbs).length ≤ 4 := dg_len_le (by simp only [pw]; omega)
  have h3 := congrArg List.length h.eq
  simp at h3
  omega
theorem OfI.step {n : Int} {acc : List Int} {u : Nat} (h : OfI n acc u) (hu : 0 < u) : OfI n (acc ++ [(u : Int) % 1048576]) (u / 1048576) := by
  refine ⟨?_⟩
  rw [← h.eq, dg_pos hu]
  simp
theorem OfI.le {n : Int} {acc : List Int} {u : Nat} (h : OfI n acc u) : u ≤ n.natAbs := by
  have h1 := congrArg val h.eq
  rw [val_append, val_dg, val_dg] at h1
  have h2 : Okd acc := fun x hx => okd_dg n.natAbs x (by rw [← h.eq]; simp [hx])
  have h3 := val_nonneg h2
  have h4 := pw_pos acc.length
  have h5 := Int.mul_le_mul_of_nonneg_right (a := 1) (b := pw acc.length) (c := (u : Int)) (by omega) (by omega)
  omega
theorem toC_app1 {xs : List Int} {x : Int} : (toC (xs.map intRow)).take xs.length ++ toC [[ti x]] = toC ((xs ++ [x]).map intRow) := toC_app (f := intRow)
theorem z_bOf (n : Int) (h0 : -9223372036854775808 ≤ n) (h1 : n ≤ 9223372036854775807) : ACall Try.prog 84 [intS .i64 n] [] (bgS (bz n)) [] := by
  by_cases hn : n < 0
  · (refine acall_of tab_ok Try.func84 rfl (by decide) ?_; (conv => whnf); repeat (first | (refine LitB.data ?_; conv => whnf) | (refine BoxB.own ?_; conv => whnf)))
    (repeat' (first | ((refine DecB.mk (fun h => ?_) (fun h => ?_)) <;> first | (exfalso; omega) | (conv => whnf)) | ((refine BoolB.mk (fun h => ?_) (fun h => ?_)) <;> first | (exact absurd h (by decide)) | (conv => whnf)) | (refine ⟨_, wrap_ok (by omega) (by omega), ?_⟩; conv => whnf) | (refine and_idx (by omega) (by omega) ?_; conv => whnf) | (refine reg_ok (by decide +kernel) ?_; conv => whnf) | (refine bar_ok (by decide +kernel) (by decide +kernel) ?_; conv => whnf) | (refine late_ok rfl rfl ?_; conv => whnf) | (refine src_ok rfl ?_; conv => whnf) | (refine ⟨_, wrapu_mod (y := n + 18446744073709551616) (by omega), ?_⟩; conv => whnf) | (refine ⟨_, wrapu_mod (y := (n.natAbs : Int)) (by omega), ?_⟩; conv => whnf) | (refine LitB.data ?_; conv => whnf) | (refine BoxB.own ?_; conv => whnf)))
    refine awp_while tab_ok (σ := List Int × Nat) (fun | (acc, u) => ([S.junk, S.junk, S.c (C.ptr 0 0 0), intS .i64 (-1), intS .u64 u, ownI 1 acc, S.junk, S.junk, S.junk, S.junk, S.junk, S.junk, S.junk, S.junk, S.junk, S.junk, S.junk, S.junk, S.junk, S.junk, S.junk, S.junk, S.junk, S.junk, S.junk], [zBox, intsB acc])) (fun s => OfI n s.1 s.2) (fun s => s.2) ([], n.natAbs) [some 0, none]
      ⟨rfl⟩ ⟨rfl, rfl, ⟨⟨rfl, rfl, rfl, .inl ⟨rfl, rowsT_z⟩⟩, ⟨rfl, rfl⟩, trivial⟩, ⟨⟨rfl, rfl, rfl⟩, rfl, ent_i (by omega), ⟨rfl, rfl, rfl⟩, trivial⟩⟩ ?_
    rintro ⟨acc, u⟩ hI
    have hI : OfI n acc u := hI
    have hl := hI.len h0 h1
    have hu := hI.le
    conv => whnf
    (repeat' (first | ((refine DecB.mk (fun h => ?_) (fun h => ?_)) <;> first | (exfalso; omega) | (conv => whnf)) | ((refine BoolB.mk (fun h => ?_) (fun h => ?_)) <;> first | (exact absurd h (by decide)) | (conv => whnf)) | (refine ⟨_, wrap_ok (by omega) (by omega), ?_⟩; conv => whnf) | (refine and_idx (by omega) (by omega) ?_; conv => whnf) | (refine reg_ok (by decide +kernel) ?_; conv => whnf) | (refine bar_ok (by decide +kernel) (by decide +kernel) ?_; conv => whnf) | (refine late_ok rfl rfl ?_; conv => whnf) | (refine src_ok rfl ?_; conv => whnf) | (refine .inl ⟨_, _, qcall_pure (toC) rfl rfl, ?_⟩; conv => whnf) | (refine .inl ⟨_, _, qcall_pure (toC) rfl rfl, ?_⟩; conv => whnf) | (refine ⟨_, masku20 _, ?_⟩; conv => whnf) | (refine ⟨by decide, _, shru20 _, ?_⟩; conv => whnf) | (refine app_ok (by simp [toC]) (by simp [toC]; omega) ?_; conv => whnf) | (refine ⟨_, wrapu_mod (by omega), ?_⟩; conv => whnf) | (refine LitB.data ?_; conv => whnf) | (refine BoxB.own ?_; conv => whnf)))
    · refine ⟨[some 0, some 2], (acc ++ [(u : Int) % 1048576], u / 1048576), ⟨rfl, rfl, ⟨⟨rfl, rfl, rfl, .inl ⟨rfl, rowsT_z⟩⟩, entB_rows rfl rfl rfl toC_app1 rfl, trivial⟩, ⟨⟨rfl, rfl, rfl⟩, rfl, ent_i (by simp), ent_own rfl (by simp [toC]), trivial⟩⟩, hI.step (by omega), by show u / 1048576 < u; omega⟩
    · have h0u : u = 0 := by omega
      subst h0u
      have e : acc = dg n.natAbs := by have := hI.eq; rw [dg_zero, List.append_nil] at this; exact this
      have sg := a_signedD (-1) n.natAbs (by omega) (by rw [← e]; omega)
      rw [← e, show (-1) * (n.natAbs : Int) = n by omega] at sg
      refine .inr ⟨_, _, acall_freeze [1] sg ⟨vs_t, vs_c (vc_all (by simp) rfl (by intro h; cases h) rfl rfl (by simp)), trivial⟩ rfl, ?_⟩
      conv => whnf
      exact fin_t ⟨rfl, rfl, trivial⟩
  · (refine acall_of tab_ok Try.func84 rfl (by decide) ?_; (conv => whnf); repeat (first | (refine LitB.data ?_; conv => whnf) | (refine BoxB.own ?_; conv => whnf)))
    (repeat' (first | ((refine DecB.mk (fun h => ?_) (fun h => ?_)) <;> first | (exfalso; omega) | (conv => whnf)) | ((refine BoolB.mk (fun h => ?_) (fun h => ?_)) <;> first | (exact absurd h (by decide)) | (conv => whnf)) | (refine ⟨_, wrap_ok (by omega) (by omega), ?_⟩; conv => whnf) | (refine and_idx (by omega) (by omega) ?_; conv => whnf) | (refine reg_ok (by decide +kernel) ?_; conv => whnf) | (refine bar_ok (by decide +kernel) (by decide +kernel) ?_; conv => whnf) | (refine late_ok rfl rfl ?_; conv => whnf) | (refine src_ok rfl ?_; conv => whnf) | (refine ⟨_, wrapu_mod (y := (n.natAbs : Int)) (by omega), ?_⟩; conv => whnf) | (refine LitB.data ?_; conv => whnf) | (refine BoxB.own ?_; conv => whnf)))
    refine awp_while tab_ok (σ := List Int × Nat) (fun | (acc, u) => ([S.junk, S.junk, S.c (C.ptr 0 0 0), intS .i64 1, intS .u64 u, ownI 1 acc, S.junk, S.junk, S.junk, S.junk, S.junk, S.junk, S.junk, S.junk, S.junk, S.junk, S.junk, S.junk, S.junk, S.junk, S.junk, S.junk, S.junk, S.junk, S.junk], [zBox, intsB acc])) (fun s => OfI n s.1 s.2) (fun s => s.2) ([], n.natAbs) [some 0, none]
      ⟨rfl⟩ ⟨rfl, rfl, ⟨⟨rfl, rfl, rfl, .inl ⟨rfl, rowsT_z⟩⟩, ⟨rfl, rfl⟩, trivial⟩, ⟨⟨rfl, rfl, rfl⟩, rfl, ent_i (by omega), ⟨rfl, rfl, rfl⟩, trivial⟩⟩ ?_
    rintro ⟨acc, u⟩ hI
    have hI : OfI n acc u := hI
    have hl := hI.len h0 h1
    have hu := hI.le
    conv => whnf
    (repeat' (first | ((refine DecB.mk (fun h => ?_) (fun h => ?_)) <;> first | (exfalso; omega) | (conv => whnf)) | ((refine BoolB.mk (fun h => ?_) (fun h => ?_)) <;> first | (exact absurd h (by decide)) | (conv => whnf)) | (refine ⟨_, wrap_ok (by omega) (by omega), ?_⟩; conv => whnf) | (refine and_idx (by omega) (by omega) ?_; conv => whnf) | (refine reg_ok (by decide +kernel) ?_; conv => whnf) | (refine bar_ok (by decide +kernel) (by decide +kernel) ?_; conv => whnf) | (refine late_ok rfl rfl ?_; conv => whnf) | (refine src_ok rfl ?_; conv => whnf) | (refine .inl ⟨_, _, qcall_pure (toC) rfl rfl, ?_⟩; conv => whnf) | (refine .inl ⟨_, _, qcall_pure (toC) rfl rfl, ?_⟩; conv => whnf) | (refine ⟨_, masku20 _, ?_⟩; conv => whnf) | (refine ⟨by decide, _, shru20 _, ?_⟩; conv => whnf) | (refine app_ok (by simp [toC]) (by simp [toC]; omega) ?_; conv => whnf) | (refine ⟨_, wrapu_mod (by omega), ?_⟩; conv => whnf) | (refine LitB.data ?_; conv => whnf) | (refine BoxB.own ?_; conv => whnf)))
    · refine ⟨[some 0, some 2], (acc ++ [(u : Int) % 1048576], u / 1048576), ⟨rfl, rfl, ⟨⟨rfl, rfl, rfl, .inl ⟨rfl, rowsT_z⟩⟩, entB_rows rfl rfl rfl toC_app1 rfl, trivial⟩, ⟨⟨rfl, rfl, rfl⟩, rfl, ent_i (by simp), ent_own rfl (by simp [toC]), trivial⟩⟩, hI.step (by omega), by show u / 1048576 < u; omega⟩
    · have h0u : u = 0 := by omega
      subst h0u
      have e : acc = dg n.natAbs := by have := hI.eq; rw [dg_zero, List.append_nil] at this; exact this
      have sg := a_signedD (1) n.natAbs (by omega) (by rw [← e]; omega)
      rw [← e, show (1) * (n.natAbs : Int) = n by omega] at sg
      refine .inr ⟨_, _, acall_freeze [1] sg ⟨vs_t, vs_c (vc_all (by simp) rfl (by intro h; cases h) rfl rfl (by simp)), trivial⟩ rfl, ?_⟩
      conv => whnf
      exact fin_t ⟨rfl, rfl, trivial⟩
end Go.Proofs.Ytomfnfbijgjfeaa
/- big: Int. -/
namespace Go.Proofs.Ytomfnfbijgjfeaa
open Go.RowKit
set_option linter.unusedVariables false
set_option linter.unusedSimpArgs false
set_option maxRecDepth 100000

theorem pw_two (i : Nat) : pw i = ((2 ^ (20 * i) : Nat) : Int) := by
  unfold pw; rw [show (1048576 : Int) = ((2 ^ 20 : Nat) : Int) by decide, ← Int.natCast_pow, ← Nat.pow_mul]
theorem shlu {d : Int} {i : Nat} {b : Int} (hi : i ≤ 3) (h : 0 ≤ d) (h2 : d * pw i < 18446744073709551616) (hb : b = 20 * i) : IsWrap .u64 (d * 2 ^ min b.toNat (IntKind.bits .u64)) (d * pw i) := by
  have e : min b.toNat (IntKind.bits .u64) = 20 * i := by show min b.toNat 64 = _; omega
  have hp := pw_pos i
  have h3 : 0 ≤ d * pw i := Int.mul_nonneg h (by omega)
  rw [e, show (2 : Int) ^ (20 * i) = pw i by rw [pw_two]; simp]
  exact wrapu_ok h3 h2
theorem oru {u d : Int} {i : Nat} (hu : 0 ≤ u) (hu2 : u < pw i) (h : 0 ≤ d) (h2 : u + d * pw i < 18446744073709551616) : IsBits .or .u64 u (d * pw i) (u + d * pw i) := by
  obtain ⟨U, rfl⟩ := Int.eq_ofNat_of_zero_le hu
  obtain ⟨D, rfl⟩ := Int.eq_ofNat_of_zero_le h
  have hp := pw_pos i
  have e2 : (U : Int) + D * pw i = ((U + 2 ^ (20 * i) * D : Nat) : Int) := by rw [pw_two]; simp [Int.mul_comm]
  have e3 : (D : Int) * pw i = ((2 ^ (20 * i) * D : Nat) : Int) := by rw [pw_two]; simp [Int.mul_comm]
  rw [e2] at h2
  have hU : U < 2 ^ (20 * i) := by rw [pw_two] at hu2; omega
  have k1 : (BitVec.ofInt (IntKind.bits .u64) (U : Int) ||| BitVec.ofInt (IntKind.bits .u64) ((2 ^ (20 * i) * D : Nat) : Int)).toNat = U + 2 ^ (20 * i) * D := by
    show (BitVec.ofInt 64 _ ||| BitVec.ofInt 64 _).toNat = _
    rw [BitVec.toNat_or, BitVec.toNat_ofInt, BitVec.toNat_ofInt]
    rw [Int.emod_eq_of_lt (by omega) (by omega), Int.emod_eq_of_lt (by omega) (by omega), Int.toNat_natCast, Int.toNat_natCast, Nat.or_comm, ← Nat.two_pow_add_eq_or_of_lt hU, Nat.add_comm]
  rw [e2, e3]
  unfold IsBits
  simp only
  rw [k1]
  exact (wrap_u64 (by omega) h2).symm
structure IntI (n : Nat) (k : Nat) (u : Int) : Prop where
  eq : u = val ((dg n).take k)
  le : k ≤ (dg n).length
  lt : k = 4 → u < 9 * 1152921504606846976
theorem IntI.rng {n k : Nat} {u : Int} (h : IntI n k u) : 0 ≤ u ∧ u < pw k := by
  have h1 := val_nonneg ((okd_dg n).take k)
  have h2 := val_lt ((okd_dg n).take k)
  rw [List.length_take, Nat.min_eq_left h.le, ← h.eq] at h2
  rw [← h.eq] at h1
  exact ⟨h1, h2⟩
theorem IntI.step {n k : Nat} {u : Int} (h : IntI n k u) (hk : k < (dg n).length) (hd : k = 3 → dat (dg n) k ≤ 8) : IntI n (k + 1) (u + dat (dg n) k * pw k) := by
  have hr := h.rng
  refine ⟨by rw [val_take_dat, h.eq, Int.mul_comm], hk, fun h4 => ?_⟩
  have : k = 3 := by omega
  subst this
  have := hd rfl
  simp only [pw] at hr ⊢
  omega
theorem pw_le3 {k : Nat} (h : k ≤ 3) : pw k ≤ 1152921504606846976 := by
  have := pw_mono h
  simp only [pw] at this ⊢
  omega
theorem pw_le2 {k : Nat} (h : k ≤ 2) : pw k ≤ 1099511627776 := by
  have := pw_mono h
  simp only [pw] at this ⊢
  omega
theorem fin_ib {a a' : Int} {b b' : Bool} {k : IntKind} {H1 : Hp} (h : a = a') (h2 : b = b') : Fin 0 (.tup [intS k a, boolS b]) H1 (.tup [intS k a', boolS b']) [] := by
  subst h h2; exact fin_t ⟨rfl, rfl, trivial⟩
theorem wrapi_high {x : Int} (h1 : 9223372036854775808 ≤ x) (h2 : x < 18446744073709551616) : IsWrap .i64 x (x - 18446744073709551616) := by
  unfold IsWrap
  simp only [IntKind.wrap, IntKind.bits, IntKind.signed]
  simp
  omega
abbrev fitI (x : Int) : Prop := -9223372036854775808 ≤ x ∧ x ≤ 9223372036854775807
theorem z_bInt (x : Int) (lx : bl x ≤ 200000) : ACall Try.prog 100 [bgS (bz x)] [] (.tup [intS .i64 (if fitI x then x else 0), boolS (decide (fitI x))]) [] := by
  have r1 := z_bRight x (by omega)
  have l1 : ((bz x).dl.map intRow).length = (dg x.natAbs).length := by simp [bz]
  have l2 : (bz x).dl = dg x.natAbs := rfl
  have hlast : ∀ k : Nat, k < (dg x.natAbs).length → pw k ≤ x.natAbs := fun k hk => Int.le_trans (pw_mono (by omega)) (dg_last (by
    rcases Nat.eq_zero_or_pos x.natAbs with h | h
    · rw [h, dg_zero] at hk; simp at hk
    · exact h))
  (refine acall_of tab_ok Try.func100 rfl (by decide) ?_; (conv => whnf); repeat (first | (refine LitB.data ?_; conv => whnf) | (refine BoxB.own ?_; conv => whnf)))
  (repeat' (first | ((refine DecB.mk (fun h => ?_) (fun h => ?_)) <;> first | (exfalso; omega) | (conv => whnf)) | ((refine BoolB.mk (fun h => ?_) (fun h => ?_)) <;> first | (exact absurd h (by decide)) | (conv => whnf)) | (refine ⟨_, wrap_ok (by omega) (by omega), ?_⟩; conv => whnf) | (refine and_idx (by omega) (by omega) ?_; conv => whnf) | (refine reg_ok (by decide +kernel) ?_; conv => whnf) | (refine bar_ok (by decide +kernel) (by decide +kernel) ?_; conv => whnf) | (refine late_ok rfl rfl ?_; conv => whnf) | (refine src_ok rfl ?_; conv => whnf) | (refine .inl ⟨_, _, qcall_pure (r1) rfl rfl, ?_⟩; conv => whnf) | (refine LitB.data ?_; conv => whnf) | (refine BoxB.own ?_; conv => whnf)))
  · have hl : 4 < (dg x.natAbs).length := by omega
    have := hlast 4 hl
    simp only [pw] at this
    have hn : ¬ fitI x := by unfold fitI; omega
    exact fin_ib (by rw [if_neg hn]) (by simp [hn])
  · refine awp_while tab_ok (σ := Nat × Int) (fun | (k, u) => ([S.junk, S.c (C.ptr 0 0 0), S.junk, S.junk, intS .u64 u, S.junk, S.junk, S.junk, S.junk, S.junk, S.junk, S.junk, S.junk, S.junk, S.junk, S.junk, S.junk, intsS (dg x.natAbs), intS .i64 (dg x.natAbs).length, intS .i64 k, S.junk, S.junk, S.junk, S.junk, S.junk, S.junk, S.junk, S.junk, S.junk, S.junk, S.junk, S.junk, S.junk, S.junk, S.junk, S.junk, S.junk, S.junk, S.junk, S.junk, S.junk, S.junk, S.junk, S.junk, S.junk, S.junk, S.junk, S.junk, S.junk, S.junk, S.junk, S.junk, S.junk, S.junk, S.junk, S.junk, S.junk, S.junk, S.junk], [bgB (bz x)])) (fun s => IntI x.natAbs s.1 s.2) (fun s => (dg x.natAbs).length - s.1) (0, 0) [some 0]
      ⟨by simp [val], by omega, by omega⟩ ⟨rfl, rfl, ⟨⟨rfl, rfl, rfl, .inl ⟨rfl, rowsT_bg _⟩⟩, trivial⟩, ⟨⟨rfl, rfl, rfl⟩, rfl, ent_t rfl, ent_i (by omega), rfl, trivial⟩⟩ ?_
    rintro ⟨k, u⟩ hI
    have hI : IntI x.natAbs k u := hI
    have hr := hI.rng
    have hle := hI.le
    have hd := (okd_dg x.natAbs).dat k
    have hp := pw_pos k
    have hp3 : k ≤ 3 → pw k ≤ 1152921504606846976 := pw_le3
    have hdm : 0 ≤ dat (dg x.natAbs) k * pw k := Int.mul_nonneg hd.1 (by omega)
    have l3 : ((dg x.natAbs).map intRow).length = (dg x.natAbs).length := by simp
    have hp2 : k ≤ 2 → pw k ≤ 1099511627776 := pw_le2
    have hA : k ≤ 3 → (k = 3 → dat (dg x.natAbs) k ≤ 8) → u + dat (dg x.natAbs) k * pw k < 18446744073709551616 := fun h3 h8 => by
      by_cases hk : k = 3
      · have := Int.mul_le_mul_of_nonneg_right (c := pw k) (h8 hk) (by omega)
        have := hp3 h3
        omega
      · have := Int.mul_le_mul_of_nonneg_right (c := pw k) (show dat (dg x.natAbs) k ≤ 1048575 by omega) (by omega)
        have := hp2 (by omega)
        omega
    have hE : k = (dg x.natAbs).length → u = x.natAbs := fun h => by
      have := hI.eq
      rw [h, List.take_of_length_le (Nat.le_refl _), val_dg] at this
      exact this
    have hs := sign_cases x
    have hsg : (bz x).sg = x.sign := rfl
    conv => whnf
    (repeat' (first | ((refine DecB.mk (fun h => ?_) (fun h => ?_)) <;> first | (exfalso; omega) | (conv => whnf)) | ((refine BoolB.mk (fun h => ?_) (fun h => ?_)) <;> first | (exact absurd h (by decide)) | (conv => whnf)) | (refine ⟨_, wrap_ok (by omega) (by omega), ?_⟩; conv => whnf) | (refine and_idx (by omega) (by omega) ?_; conv => whnf) | (refine reg_ok (by decide +kernel) ?_; conv => whnf) | (refine bar_ok (by decide +kernel) (by decide +kernel) ?_; conv => whnf) | (refine late_ok rfl rfl ?_; conv => whnf) | (refine src_ok rfl ?_; conv => whnf) | (refine ex_row (get_dat (by omega)) ?_; conv => whnf) | (refine ⟨_, wrapu_ok (by omega) (by omega), ?_⟩; conv => whnf) | (refine ⟨by omega, _, shlu (i := k) (by omega) (by omega) (by omega) (by omega), ?_⟩; conv => whnf) | (refine ⟨_, oru (by omega) (by omega) (by omega) (by omega), ?_⟩; conv => whnf) | (refine ⟨_, wrapu_mod (y := 18446744073709551616 - u) (by omega), ?_⟩; conv => whnf) | (refine ⟨_, wrapi_high (by omega) (by omega), ?_⟩; conv => whnf) | (refine LitB.data ?_; conv => whnf) | (refine BoxB.own ?_; conv => whnf)))
    · have hk : k = 3 := by omega
      have h8 : 9 ≤ dat (dg x.natAbs) k := by omega
      have h1 := val_take_dat (dg x.natAbs) k
      have h4 : val (dg x.natAbs) = val ((dg x.natAbs).take (k + 1)) := by rw [List.take_of_length_le (by omega)]
      rw [val_dg] at h4
      have h5 := val_nonneg ((okd_dg x.natAbs).take k)
      have h6 := Int.mul_le_mul_of_nonneg_left (a := 9) (b := dat (dg x.natAbs) k) (c := pw k) h8 (by omega)
      have h7 : pw k = 1152921504606846976 := by rw [hk]; rfl
      have hn : ¬ fitI x := by unfold fitI; omega
      exact fin_ib (by rw [if_neg hn]) (by simp [hn])
    · have hst := hI.step (by omega) (by omega)
      exact ⟨[some 0], (k + 1, u + dat (dg x.natAbs) k * pw k), ⟨rfl, rfl, ⟨⟨rfl, rfl, rfl, .inl ⟨rfl, rowsT_bg _⟩⟩, trivial⟩, ⟨⟨rfl, rfl, rfl⟩, rfl, rfl, rfl, ent_i (by omega), trivial⟩⟩, hst, by show (dg x.natAbs).length - (k + 1) < (dg x.natAbs).length - k; omega⟩
    · have hst := hI.step (by omega) (by omega)
      exact ⟨[some 0], (k + 1, u + dat (dg x.natAbs) k * pw k), ⟨rfl, rfl, ⟨⟨rfl, rfl, rfl, .inl ⟨rfl, rowsT_bg _⟩⟩, trivial⟩, ⟨⟨rfl, rfl, rfl⟩, rfl, rfl, rfl, ent_i (by omega), trivial⟩⟩, hst, by show (dg x.natAbs).length - (k + 1) < (dg x.natAbs).length - k; omega⟩
    all_goals
      have hu := hE (by omega)
      first
        | (have hn : fitI x := by unfold fitI; omega
           exact fin_ib (by rw [if_pos hn]; omega) (by simp [hn]))
        | (have hn : ¬ fitI x := by unfold fitI; omega
           exact fin_ib (by rw [if_neg hn]) (by simp [hn]))
end Go.Proofs.Ytomfnfbijgjfeaa
/- frac: one, Right, times, New, Add, Sub, Mul, Compare. -/
namespace Go.Proofs.Ytomfnfbijgjfeaa
open Go.RowKit
set_option linter.unusedVariables false
set_option linter.unusedSimpArgs false
set_option maxRecDepth 100000

abbrev frC (f : Fr) : List C := [.t (ti f.p.sg), .t (intsT f.p.dl), .t (ti f.q.sg), .t (intsT f.q.dl)]
abbrev frS (f : Fr) : S := .agg (frC f)
theorem a_one (x : Int) (lx : bl x ≤ 200000) : ACall Try.prog 58 [bgS (bz x)] [] (boolS (x == 1)) [] := by
  have i := z_bInt x lx
  by_cases h : fitI x
  · rw [if_pos h, show decide (fitI x) = true by simp [h]] at i
    (refine acall_of tab_ok Try.func58 rfl (by decide) ?_; (conv => whnf); repeat (first | (refine LitB.data ?_; conv => whnf) | (refine BoxB.own ?_; conv => whnf)))
    (repeat' (first | ((refine DecB.mk (fun h => ?_) (fun h => ?_)) <;> first | (exfalso; omega) | (conv => whnf)) | ((refine BoolB.mk (fun h => ?_) (fun h => ?_)) <;> first | (exact absurd h (by decide)) | (conv => whnf)) | (refine ⟨_, wrap_ok (by omega) (by omega), ?_⟩; conv => whnf) | (refine and_idx (by omega) (by omega) ?_; conv => whnf) | (refine reg_ok (by decide +kernel) ?_; conv => whnf) | (refine bar_ok (by decide +kernel) (by decide +kernel) ?_; conv => whnf) | (refine late_ok rfl rfl ?_; conv => whnf) | (refine src_ok rfl ?_; conv => whnf) | (refine .inl ⟨_, _, qcall_pure (i) rfl rfl, ?_⟩; conv => whnf) | (refine LitB.data ?_; conv => whnf) | (refine BoxB.own ?_; conv => whnf)))
    all_goals (refine fin_bool ?_; simp; omega)
  · rw [if_neg h, show decide (fitI x) = false by simp [h]] at i
    have hx : x ≠ 1 := by rintro rfl; exact h (by decide)
    (refine acall_of tab_ok Try.func58 rfl (by decide) ?_; (conv => whnf); repeat (first | (refine LitB.data ?_; conv => whnf) | (refine BoxB.own ?_; conv => whnf)))
    (repeat' (first | ((refine DecB.mk (fun h => ?_) (fun h => ?_)) <;> first | (exfalso; omega) | (conv => whnf)) | ((refine BoolB.mk (fun h => ?_) (fun h => ?_)) <;> first | (exact absurd h (by decide)) | (conv => whnf)) | (refine ⟨_, wrap_ok (by omega) (by omega), ?_⟩; conv => whnf) | (refine and_idx (by omega) (by omega) ?_; conv => whnf) | (refine reg_ok (by decide +kernel) ?_; conv => whnf) | (refine bar_ok (by decide +kernel) (by decide +kernel) ?_; conv => whnf) | (refine late_ok rfl rfl ?_; conv => whnf) | (refine src_ok rfl ?_; conv => whnf) | (refine .inl ⟨_, _, qcall_pure (i) rfl rfl, ?_⟩; conv => whnf) | (refine LitB.data ?_; conv => whnf) | (refine BoxB.own ?_; conv => whnf)))
    all_goals (refine fin_bool ?_; simp; omega)
theorem a_fRight (f : Fr) (lp : f.p.dl.length ≤ 200000) (lq : f.q.dl.length ≤ 200000) : ACall Try.prog 20 [frS f] [] (boolS (rightF f)) [] := by
  obtain ⟨p, q⟩ := f
  simp only at lp lq
  have r1 := a_bRight p (by omega)
  have r2 := a_bRight q (by omega)
  cases hp : rightB p with
  | false =>
    rw [hp] at r1
    (refine acall_of tab_ok Try.func20 rfl (by decide) ?_; (conv => whnf); repeat (first | (refine LitB.data ?_; conv => whnf) | (refine BoxB.own ?_; conv => whnf)))
    (repeat' (first | ((refine DecB.mk (fun h => ?_) (fun h => ?_)) <;> first | (exfalso; omega) | (conv => whnf)) | ((refine BoolB.mk (fun h => ?_) (fun h => ?_)) <;> first | (exact absurd h (by decide)) | (conv => whnf)) | (refine ⟨_, wrap_ok (by omega) (by omega), ?_⟩; conv => whnf) | (refine and_idx (by omega) (by omega) ?_; conv => whnf) | (refine reg_ok (by decide +kernel) ?_; conv => whnf) | (refine bar_ok (by decide +kernel) (by decide +kernel) ?_; conv => whnf) | (refine late_ok rfl rfl ?_; conv => whnf) | (refine src_ok rfl ?_; conv => whnf) | (refine .inl ⟨_, _, qcall_pure (r1) rfl rfl, ?_⟩; conv => whnf) | (refine .inl ⟨_, _, qcall_pure (r2) rfl rfl, ?_⟩; conv => whnf) | (refine LitB.data ?_; conv => whnf) | (refine BoxB.own ?_; conv => whnf)))
    all_goals (first | (exfalso; simp_all; done) | (refine fin_bool ?_; unfold rightF; simp [hp]))
  | true =>
    rw [hp] at r1
    cases hq : rightB q with
    | false =>
      rw [hq] at r2
      (refine acall_of tab_ok Try.func20 rfl (by decide) ?_; (conv => whnf); repeat (first | (refine LitB.data ?_; conv => whnf) | (refine BoxB.own ?_; conv => whnf)))
      (repeat' (first | ((refine DecB.mk (fun h => ?_) (fun h => ?_)) <;> first | (exfalso; omega) | (conv => whnf)) | ((refine BoolB.mk (fun h => ?_) (fun h => ?_)) <;> first | (exact absurd h (by decide)) | (conv => whnf)) | (refine ⟨_, wrap_ok (by omega) (by omega), ?_⟩; conv => whnf) | (refine and_idx (by omega) (by omega) ?_; conv => whnf) | (refine reg_ok (by decide +kernel) ?_; conv => whnf) | (refine bar_ok (by decide +kernel) (by decide +kernel) ?_; conv => whnf) | (refine late_ok rfl rfl ?_; conv => whnf) | (refine src_ok rfl ?_; conv => whnf) | (refine .inl ⟨_, _, qcall_pure (r1) rfl rfl, ?_⟩; conv => whnf) | (refine .inl ⟨_, _, qcall_pure (r2) rfl rfl, ?_⟩; conv => whnf) | (refine LitB.data ?_; conv => whnf) | (refine BoxB.own ?_; conv => whnf)))
      all_goals (first | (exfalso; simp_all; done) | (refine fin_bool ?_; unfold rightF; simp [hq]))
    | true =>
      rw [hq] at r2
      obtain ⟨x, rfl⟩ := bz_of hp
      obtain ⟨y, rfl⟩ := bz_of hq
      have g := z_bGcd x y lp lq
      have o := a_one (Int.gcd x y) (bl_gcd x y lp lq)
      (refine acall_of tab_ok Try.func20 rfl (by decide) ?_; (conv => whnf); repeat (first | (refine LitB.data ?_; conv => whnf) | (refine BoxB.own ?_; conv => whnf)))
      (repeat' (first | ((refine DecB.mk (fun h => ?_) (fun h => ?_)) <;> first | (exfalso; omega) | (conv => whnf)) | ((refine BoolB.mk (fun h => ?_) (fun h => ?_)) <;> first | (exact absurd h (by decide)) | (conv => whnf)) | (refine ⟨_, wrap_ok (by omega) (by omega), ?_⟩; conv => whnf) | (refine and_idx (by omega) (by omega) ?_; conv => whnf) | (refine reg_ok (by decide +kernel) ?_; conv => whnf) | (refine bar_ok (by decide +kernel) (by decide +kernel) ?_; conv => whnf) | (refine late_ok rfl rfl ?_; conv => whnf) | (refine src_ok rfl ?_; conv => whnf) | (refine .inl ⟨_, _, qcall_pure (r1) rfl rfl, ?_⟩; conv => whnf) | (refine .inl ⟨_, _, qcall_pure (r2) rfl rfl, ?_⟩; conv => whnf) | (refine .inl ⟨_, _, qcall_pure (g) rfl rfl, ?_⟩; conv => whnf) | (refine .inl ⟨_, _, qcall_pure (o) rfl rfl, ?_⟩; conv => whnf) | (refine LitB.data ?_; conv => whnf) | (refine BoxB.own ?_; conv => whnf)))
      all_goals (refine fin_bool ?_; unfold rightF; simp only [bz_right, bv_bz, Bool.true_and]; symm; simp_all <;> omega)
theorem z_times (x y : Int) (lx : bl x ≤ 200000) (ly : bl y ≤ 200000) : ACall Try.prog 52 [bgS (bz x), bgS (bz y)] [] (bgS (bz (x * y))) [] := by
  have mu := z_bMul x y lx ly
  (refine acall_of tab_ok Try.func52 rfl (by decide) ?_; (conv => whnf); repeat (first | (refine LitB.data ?_; conv => whnf) | (refine BoxB.own ?_; conv => whnf)))
  (repeat' (first | ((refine DecB.mk (fun h => ?_) (fun h => ?_)) <;> first | (exfalso; omega) | (conv => whnf)) | ((refine BoolB.mk (fun h => ?_) (fun h => ?_)) <;> first | (exact absurd h (by decide)) | (conv => whnf)) | (refine ⟨_, wrap_ok (by omega) (by omega), ?_⟩; conv => whnf) | (refine and_idx (by omega) (by omega) ?_; conv => whnf) | (refine reg_ok (by decide +kernel) ?_; conv => whnf) | (refine bar_ok (by decide +kernel) (by decide +kernel) ?_; conv => whnf) | (refine late_ok rfl rfl ?_; conv => whnf) | (refine src_ok rfl ?_; conv => whnf) | (refine .inl ⟨_, _, qcall_pure (mu) rfl rfl, ?_⟩; conv => whnf) | (refine LitB.data ?_; conv => whnf) | (refine BoxB.own ?_; conv => whnf)))
  exact fin_t ⟨rfl, rfl, trivial⟩
theorem fin_fe {f f' : Fr} {e : Int} {H1 : Hp} (h : f = f') : Fin 0 (.tup [frS f, intS .i64 e]) H1 (.tup [frS f', intS .i64 e]) [] := by
  subst h; exact fin_t ⟨⟨rfl, rfl, rfl, rfl, trivial⟩, rfl, trivial⟩
theorem z_fNew (p q : Int) (hq : q ≠ 0) (lp : bl p ≤ 200000) (lq : bl q ≤ 200000) : ACall Try.prog 53 [bgS (bz p), bgS (bz q)] [] (.tup [frS (fz (Rat.divInt p q)), intS .i64 0]) [] := by
  have r1 := z_bRight p (by omega)
  have r2 := z_bRight q (by omega)
  have hs := sign_cases q
  have hsg : (bz q).sg = q.sign := rfl
  by_cases h : q < 0
  · have n1 := z_bNeg p (by omega)
    have n2 := z_bNeg q (by omega)
    have lg := bl_gcd (-p) (-q) (by rw [bl_neg]; exact lp) (by rw [bl_neg]; exact lq)
    have hg : 0 < (Int.gcd (-p) (-q) : Int) := by have := Int.gcd_pos_of_ne_zero_right (-p) (b := -q) (by omega); omega
    have g := z_bGcd (-p) (-q) (by rw [bl_neg]; exact lp) (by rw [bl_neg]; exact lq)
    have d1 := z_bDiv (-p) _ hg (by rw [bl_neg]; exact lp) lg
    have d2 := z_bDiv (-q) _ hg (by rw [bl_neg]; exact lq) lg
    have e := fz_divInt (p := -p) (q := -q) (by omega) rfl
    rw [Rat.neg_divInt_neg] at e
    (refine acall_of tab_ok Try.func53 rfl (by decide) ?_; (conv => whnf); repeat (first | (refine LitB.data ?_; conv => whnf) | (refine BoxB.own ?_; conv => whnf)))
    (repeat' (first | ((refine DecB.mk (fun h => ?_) (fun h => ?_)) <;> first | (exfalso; omega) | (conv => whnf)) | ((refine BoolB.mk (fun h => ?_) (fun h => ?_)) <;> first | (exact absurd h (by decide)) | (conv => whnf)) | (refine ⟨_, wrap_ok (by omega) (by omega), ?_⟩; conv => whnf) | (refine and_idx (by omega) (by omega) ?_; conv => whnf) | (refine reg_ok (by decide +kernel) ?_; conv => whnf) | (refine bar_ok (by decide +kernel) (by decide +kernel) ?_; conv => whnf) | (refine late_ok rfl rfl ?_; conv => whnf) | (refine src_ok rfl ?_; conv => whnf) | (refine .inl ⟨_, _, qcall_pure (r1) rfl rfl, ?_⟩; conv => whnf) | (refine .inl ⟨_, _, qcall_pure (r2) rfl rfl, ?_⟩; conv => whnf) | (refine .inl ⟨_, _, qcall_pure (n1) rfl rfl, ?_⟩; conv => whnf) | (refine .inl ⟨_, _, qcall_pure (n2) rfl rfl, ?_⟩; conv => whnf) | (refine .inl ⟨_, _, qcall_pure (g) rfl rfl, ?_⟩; conv => whnf) | (refine .inl ⟨_, _, qcall_pure (d1) rfl rfl, ?_⟩; conv => whnf) | (refine .inl ⟨_, _, qcall_pure (d2) rfl rfl, ?_⟩; conv => whnf) | (refine LitB.data ?_; conv => whnf) | (refine BoxB.own ?_; conv => whnf)))
    all_goals first
      | (exfalso; simp_all; done)
      | (exfalso; omega)
      | exact fin_fe e.symm
  · have lg := bl_gcd p q lp lq
    have hg : 0 < (Int.gcd p q : Int) := by have := Int.gcd_pos_of_ne_zero_right p (b := q) (by omega); omega
    have g := z_bGcd p q lp lq
    have d1 := z_bDiv p _ hg lp lg
    have d2 := z_bDiv q _ hg lq lg
    have e := fz_divInt (p := p) (q := q) (by omega) rfl
    (refine acall_of tab_ok Try.func53 rfl (by decide) ?_; (conv => whnf); repeat (first | (refine LitB.data ?_; conv => whnf) | (refine BoxB.own ?_; conv => whnf)))
    (repeat' (first | ((refine DecB.mk (fun h => ?_) (fun h => ?_)) <;> first | (exfalso; omega) | (conv => whnf)) | ((refine BoolB.mk (fun h => ?_) (fun h => ?_)) <;> first | (exact absurd h (by decide)) | (conv => whnf)) | (refine ⟨_, wrap_ok (by omega) (by omega), ?_⟩; conv => whnf) | (refine and_idx (by omega) (by omega) ?_; conv => whnf) | (refine reg_ok (by decide +kernel) ?_; conv => whnf) | (refine bar_ok (by decide +kernel) (by decide +kernel) ?_; conv => whnf) | (refine late_ok rfl rfl ?_; conv => whnf) | (refine src_ok rfl ?_; conv => whnf) | (refine .inl ⟨_, _, qcall_pure (r1) rfl rfl, ?_⟩; conv => whnf) | (refine .inl ⟨_, _, qcall_pure (r2) rfl rfl, ?_⟩; conv => whnf) | (refine .inl ⟨_, _, qcall_pure (g) rfl rfl, ?_⟩; conv => whnf) | (refine .inl ⟨_, _, qcall_pure (d1) rfl rfl, ?_⟩; conv => whnf) | (refine .inl ⟨_, _, qcall_pure (d2) rfl rfl, ?_⟩; conv => whnf) | (refine LitB.data ?_; conv => whnf) | (refine BoxB.own ?_; conv => whnf)))
    all_goals first
      | (exfalso; omega)
      | (exfalso; simp_all; done)
      | exact fin_fe e.symm
theorem z_fRight (x : Rat) (lx : rl x ≤ 200000) : ACall Try.prog 20 [frS (fz x)] [] (boolS true) [] := by
  have h := a_fRight (fz x) (Nat.le_trans (rl_num x) lx) (Nat.le_trans (rl_den x) lx)
  rw [fz_right] at h
  exact h
theorem z_fAdd (x y : Rat) (lx : rl x ≤ 60000) (ly : rl y ≤ 60000) : ACall Try.prog 16 [frS (fz x), frS (fz y)] [] (.tup [frS (fz (x + y)), intS .i64 0]) [] := by
  have r1 := z_fRight x (by omega)
  have r2 := z_fRight y (by omega)
  have x1 := rl_num x
  have x2 := rl_den x
  have y1 := rl_num y
  have y2 := rl_den y
  have l1 := bl_mul x.num y.den
  have l2 := bl_mul y.num x.den
  have l3 := bl_mul x.den y.den
  have l4 := bl_add (x.num * y.den) (y.num * x.den)
  have t1 := z_times x.num y.den (by omega) (by omega)
  have t2 := z_times y.num x.den (by omega) (by omega)
  have t3 := z_times x.den y.den (by omega) (by omega)
  have a := z_bAdd (x.num * y.den) (y.num * x.den) (by omega) (by omega)
  have n := z_fNew (x.num * y.den + y.num * x.den) (x.den * y.den) (den2_ne x y) (by omega) (by omega)
  rw [← rat_add] at n
  (refine acall_of tab_ok Try.func16 rfl (by decide) ?_; (conv => whnf); repeat (first | (refine LitB.data ?_; conv => whnf) | (refine BoxB.own ?_; conv => whnf)))
  (repeat' (first | ((refine DecB.mk (fun h => ?_) (fun h => ?_)) <;> first | (exfalso; omega) | (conv => whnf)) | ((refine BoolB.mk (fun h => ?_) (fun h => ?_)) <;> first | (exact absurd h (by decide)) | (conv => whnf)) | (refine ⟨_, wrap_ok (by omega) (by omega), ?_⟩; conv => whnf) | (refine and_idx (by omega) (by omega) ?_; conv => whnf) | (refine reg_ok (by decide +kernel) ?_; conv => whnf) | (refine bar_ok (by decide +kernel) (by decide +kernel) ?_; conv => whnf) | (refine late_ok rfl rfl ?_; conv => whnf) | (refine src_ok rfl ?_; conv => whnf) | (refine .inl ⟨_, _, qcall_pure (r1) rfl rfl, ?_⟩; conv => whnf) | (refine .inl ⟨_, _, qcall_pure (r2) rfl rfl, ?_⟩; conv => whnf) | (refine .inl ⟨_, _, qcall_pure (t1) rfl rfl, ?_⟩; conv => whnf) | (refine .inl ⟨_, _, qcall_pure (t2) rfl rfl, ?_⟩; conv => whnf) | (refine .inl ⟨_, _, qcall_pure (t3) rfl rfl, ?_⟩; conv => whnf) | (refine .inl ⟨_, _, qcall_pure (a) rfl rfl, ?_⟩; conv => whnf) | (refine .inl ⟨_, _, qcall_pure (n) rfl rfl, ?_⟩; conv => whnf) | (refine .inl ⟨_, _, qcall_pure (13) rfl rfl, ?_⟩; conv => whnf) | (refine bar_late [13] (by decide +kernel) (by decide +kernel) ?_; conv => whnf) | (refine LitB.data ?_; conv => whnf) | (refine BoxB.own ?_; conv => whnf)))
  all_goals first
    | (exfalso; simp_all; done)
    | exact fin_fe rfl
theorem z_fSub (x y : Rat) (lx : rl x ≤ 60000) (ly : rl y ≤ 60000) : ACall Try.prog 22 [frS (fz x), frS (fz y)] [] (.tup [frS (fz (x - y)), intS .i64 0]) [] := by
  have r1 := z_fRight x (by omega)
  have r2 := z_fRight y (by omega)
  have y1 := rl_num y
  have n := z_bNeg y.num (by omega)
  have a := z_fAdd x (-y) lx (by rw [rl_neg]; exact ly)
  rw [← Rat.sub_eq_add_neg] at a
  have e : fz (-y) = ⟨bz (-y.num), bz y.den⟩ := rfl
  rw [e] at a
  (refine acall_of tab_ok Try.func22 rfl (by decide) ?_; (conv => whnf); repeat (first | (refine LitB.data ?_; conv => whnf) | (refine BoxB.own ?_; conv => whnf)))
  (repeat' (first | ((refine DecB.mk (fun h => ?_) (fun h => ?_)) <;> first | (exfalso; omega) | (conv => whnf)) | ((refine BoolB.mk (fun h => ?_) (fun h => ?_)) <;> first | (exact absurd h (by decide)) | (conv => whnf)) | (refine ⟨_, wrap_ok (by omega) (by omega), ?_⟩; conv => whnf) | (refine and_idx (by omega) (by omega) ?_; conv => whnf) | (refine reg_ok (by decide +kernel) ?_; conv => whnf) | (refine bar_ok (by decide +kernel) (by decide +kernel) ?_; conv => whnf) | (refine late_ok rfl rfl ?_; conv => whnf) | (refine src_ok rfl ?_; conv => whnf) | (refine .inl ⟨_, _, qcall_pure (r1) rfl rfl, ?_⟩; conv => whnf) | (refine .inl ⟨_, _, qcall_pure (r2) rfl rfl, ?_⟩; conv => whnf) | (refine .inl ⟨_, _, qcall_pure (n) rfl rfl, ?_⟩; conv => whnf) | (refine .inl ⟨_, _, qcall_pure (a) rfl rfl, ?_⟩; conv => whnf) | (refine LitB.data ?_; conv => whnf) | (refine BoxB.own ?_; conv => whnf)))
  all_goals first
    | (exfalso; simp_all; done)
    | exact fin_fe rfl
theorem z_fMul (x y : Rat) (lx : rl x ≤ 60000) (ly : rl y ≤ 60000) : ACall Try.prog 23 [frS (fz x), frS (fz y)] [] (.tup [frS (fz (x * y)), intS .i64 0]) [] := by
  have r1 := z_fRight x (by omega)
  have r2 := z_fRight y (by omega)
  have x1 := rl_num x
  have x2 := rl_den x
  have y1 := rl_num y
  have y2 := rl_den y
  have l1 := bl_mul x.num y.num
  have l3 := bl_mul x.den y.den
  have t1 := z_times x.num y.num (by omega) (by omega)
  have t3 := z_times x.den y.den (by omega) (by omega)
  have n := z_fNew (x.num * y.num) (x.den * y.den) (den2_ne x y) (by omega) (by omega)
  rw [← rat_mul] at n
  (refine acall_of tab_ok Try.func23 rfl (by decide) ?_; (conv => whnf); repeat (first | (refine LitB.data ?_; conv => whnf) | (refine BoxB.own ?_; conv => whnf)))
  (repeat' (first | ((refine DecB.mk (fun h => ?_) (fun h => ?_)) <;> first | (exfalso; omega) | (conv => whnf)) | ((refine BoolB.mk (fun h => ?_) (fun h => ?_)) <;> first | (exact absurd h (by decide)) | (conv => whnf)) | (refine ⟨_, wrap_ok (by omega) (by omega), ?_⟩; conv => whnf) | (refine and_idx (by omega) (by omega) ?_; conv => whnf) | (refine reg_ok (by decide +kernel) ?_; conv => whnf) | (refine bar_ok (by decide +kernel) (by decide +kernel) ?_; conv => whnf) | (refine late_ok rfl rfl ?_; conv => whnf) | (refine src_ok rfl ?_; conv => whnf) | (refine .inl ⟨_, _, qcall_pure (r1) rfl rfl, ?_⟩; conv => whnf) | (refine .inl ⟨_, _, qcall_pure (r2) rfl rfl, ?_⟩; conv => whnf) | (refine .inl ⟨_, _, qcall_pure (t1) rfl rfl, ?_⟩; conv => whnf) | (refine .inl ⟨_, _, qcall_pure (t3) rfl rfl, ?_⟩; conv => whnf) | (refine .inl ⟨_, _, qcall_pure (n) rfl rfl, ?_⟩; conv => whnf) | (refine LitB.data ?_; conv => whnf) | (refine BoxB.own ?_; conv => whnf)))
  all_goals first
    | (exfalso; simp_all; done)
    | exact fin_fe rfl
theorem cmpR_num (x y : Rat) : cmpI (x.num * y.den) (y.num * x.den) = cmpR x y := by
  unfold cmpI cmpR
  simp only [← Rat.lt_iff]
theorem z_fCompare (x y : Rat) (lx : rl x ≤ 60000) (ly : rl y ≤ 60000) : ACall Try.prog 17 [frS (fz x), frS (fz y)] [] (intS .i64 (cmpR x y)) [] := by
  have r1 := z_fRight x (by omega)
  have r2 := z_fRight y (by omega)
  have x1 := rl_num x
  have x2 := rl_den x
  have y1 := rl_num y
  have y2 := rl_den y
  have l1 := bl_mul x.num y.den
  have l2 := bl_mul y.num x.den
  have t1 := z_times x.num y.den (by omega) (by omega)
  have t2 := z_times y.num x.den (by omega) (by omega)
  have c := z_bCompare (x.num * y.den) (y.num * x.den) (by omega) (by omega)
  rw [cmpR_num] at c
  (refine acall_of tab_ok Try.func17 rfl (by decide) ?_; (conv => whnf); repeat (first | (refine LitB.data ?_; conv => whnf) | (refine BoxB.own ?_; conv => whnf)))
  (repeat' (first | ((refine DecB.mk (fun h => ?_) (fun h => ?_)) <;> first | (exfalso; omega) | (conv => whnf)) | ((refine BoolB.mk (fun h => ?_) (fun h => ?_)) <;> first | (exact absurd h (by decide)) | (conv => whnf)) | (refine ⟨_, wrap_ok (by omega) (by omega), ?_⟩; conv => whnf) | (refine and_idx (by omega) (by omega) ?_; conv => whnf) | (refine reg_ok (by decide +kernel) ?_; conv => whnf) | (refine bar_ok (by decide +kernel) (by decide +kernel) ?_; conv => whnf) | (refine late_ok rfl rfl ?_; conv => whnf) | (refine src_ok rfl ?_; conv => whnf) | (refine .inl ⟨_, _, qcall_pure (r1) rfl rfl, ?_⟩; conv => whnf) | (refine .inl ⟨_, _, qcall_pure (r2) rfl rfl, ?_⟩; conv => whnf) | (refine .inl ⟨_, _, qcall_pure (t1) rfl rfl, ?_⟩; conv => whnf) | (refine .inl ⟨_, _, qcall_pure (t2) rfl rfl, ?_⟩; conv => whnf) | (refine .inl ⟨_, _, qcall_pure (c) rfl rfl, ?_⟩; conv => whnf) | (refine LitB.data ?_; conv => whnf) | (refine BoxB.own ?_; conv => whnf)))
  all_goals first
    | (exfalso; simp_all; done)
    | exact fin_int rfl
theorem z_fSign (x : Rat) (lx : rl x ≤ 60000) : ACall Try.prog 21 [frS (fz x)] [] (intS .i64 (sgR x)) [] := by
  have r1 := z_fRight x (by omega)
  (refine acall_of tab_ok Try.func21 rfl (by decide) ?_; (conv => whnf); repeat (first | (refine LitB.data ?_; conv => whnf) | (refine BoxB.own ?_; conv => whnf)))
  (repeat' (first | ((refine DecB.mk (fun h => ?_) (fun h => ?_)) <;> first | (exfalso; omega) | (conv => whnf)) | ((refine BoolB.mk (fun h => ?_) (fun h => ?_)) <;> first | (exact absurd h (by decide)) | (conv => whnf)) | (refine ⟨_, wrap_ok (by omega) (by omega), ?_⟩; conv => whnf) | (refine and_idx (by omega) (by omega) ?_; conv => whnf) | (refine reg_ok (by decide +kernel) ?_; conv => whnf) | (refine bar_ok (by decide +kernel) (by decide +kernel) ?_; conv => whnf) | (refine late_ok rfl rfl ?_; conv => whnf) | (refine src_ok rfl ?_; conv => whnf) | (refine .inl ⟨_, _, qcall_pure (r1) rfl rfl, ?_⟩; conv => whnf) | (refine LitB.data ?_; conv => whnf) | (refine BoxB.own ?_; conv => whnf)))
  all_goals first
    | (exfalso; simp_all; done)
    | exact fin_int (sign_num x)
theorem z_fOf (p q : Int) (hq : q ≠ 0) (p0 : -9223372036854775808 ≤ p) (p1 : p ≤ 9223372036854775807) (q0 : -9223372036854775808 ≤ q) (q1 : q ≤ 9223372036854775807) :
    ACall Try.prog 128 [intS .i64 p, intS .i64 q] [] (.tup [frS (fz (Rat.divInt p q)), intS .i64 0]) [] := by
  have l1 := bl_int p0 p1
  have l2 := bl_int q0 q1
  have o1 := z_bOf p p0 p1
  have o2 := z_bOf q q0 q1
  have n := z_fNew p q hq (by omega) (by omega)
  (refine acall_of tab_ok Try.func128 rfl (by decide) ?_; (conv => whnf); repeat (first | (refine LitB.data ?_; conv => whnf) | (refine BoxB.own ?_; conv => whnf)))
  (repeat' (first | ((refine DecB.mk (fun h => ?_) (fun h => ?_)) <;> first | (exfalso; omega) | (conv => whnf)) | ((refine BoolB.mk (fun h => ?_) (fun h => ?_)) <;> first | (exact absurd h (by decide)) | (conv => whnf)) | (refine ⟨_, wrap_ok (by omega) (by omega), ?_⟩; conv => whnf) | (refine and_idx (by omega) (by omega) ?_; conv => whnf) | (refine reg_ok (by decide +kernel) ?_; conv => whnf) | (refine bar_ok (by decide +kernel) (by decide +kernel) ?_; conv => whnf) | (refine late_ok rfl rfl ?_; conv => whnf) | (refine src_ok rfl ?_; conv => whnf) | (refine .inl ⟨_, _, qcall_pure (o1) rfl rfl, ?_⟩; conv => whnf) | (refine .inl ⟨_, _, qcall_pure (o2) rfl rfl, ?_⟩; conv => whnf) | (refine .inl ⟨_, _, qcall_pure (n) rfl rfl, ?_⟩; conv => whnf) | (refine LitB.data ?_; conv => whnf) | (refine BoxB.own ?_; conv => whnf)))
  all_goals exact fin_fe rfl
theorem fz_int (n : Int) : fz (n : Rat) = ⟨bz n, bz 1⟩ := by unfold fz; rw [Rat.num_intCast, Rat.den_intCast]; rfl
theorem z_fInt (n : Int) (p0 : -9223372036854775808 ≤ n) (p1 : n ≤ 9223372036854775807) : ACall Try.prog 40 [intS .i64 n] [] (frS (fz (n : Rat))) [] := by
  have o1 := z_bOf n p0 p1
  have o2 := z_bOf 1 (by decide) (by decide)
  rw [fz_int]
  (refine acall_of tab_ok Try.func40 rfl (by decide) ?_; (conv => whnf); repeat (first | (refine LitB.data ?_; conv => whnf) | (refine BoxB.own ?_; conv => whnf)))
  (repeat' (first | ((refine DecB.mk (fun h => ?_) (fun h => ?_)) <;> first | (exfalso; omega) | (conv => whnf)) | ((refine BoolB.mk (fun h => ?_) (fun h => ?_)) <;> first | (exact absurd h (by decide)) | (conv => whnf)) | (refine ⟨_, wrap_ok (by omega) (by omega), ?_⟩; conv => whnf) | (refine and_idx (by omega) (by omega) ?_; conv => whnf) | (refine reg_ok (by decide +kernel) ?_; conv => whnf) | (refine bar_ok (by decide +kernel) (by decide +kernel) ?_; conv => whnf) | (refine late_ok rfl rfl ?_; conv => whnf) | (refine src_ok rfl ?_; conv => whnf) | (refine .inl ⟨_, _, qcall_pure (o1) rfl rfl, ?_⟩; conv => whnf) | (refine .inl ⟨_, _, qcall_pure (o2) rfl rfl, ?_⟩; conv => whnf) | (refine LitB.data ?_; conv => whnf) | (refine BoxB.own ?_; conv => whnf)))
  all_goals exact fin_t ⟨rfl, rfl, rfl, rfl, trivial⟩
theorem z_slim (x : Int) (lx : bl x ≤ 200000) : ACall Try.prog 138 [bgS (bz x)] [] (bgS (bz x)) [] := by
  have n1 := z_bNeg x (by omega)
  have n2 := z_bNeg (-x) (by rw [bl_neg]; omega)
  rw [Int.neg_neg] at n2
  (refine acall_of tab_ok Try.func138 rfl (by decide) ?_; (conv => whnf); repeat (first | (refine LitB.data ?_; conv => whnf) | (refine BoxB.own ?_; conv => whnf)))
  (repeat' (first | ((refine DecB.mk (fun h => ?_) (fun h => ?_)) <;> first | (exfalso; omega) | (conv => whnf)) | ((refine BoolB.mk (fun h => ?_) (fun h => ?_)) <;> first | (exact absurd h (by decide)) | (conv => whnf)) | (refine ⟨_, wrap_ok (by omega) (by omega), ?_⟩; conv => whnf) | (refine and_idx (by omega) (by omega) ?_; conv => whnf) | (refine reg_ok (by decide +kernel) ?_; conv => whnf) | (refine bar_ok (by decide +kernel) (by decide +kernel) ?_; conv => whnf) | (refine late_ok rfl rfl ?_; conv => whnf) | (refine src_ok rfl ?_; conv => whnf) | (refine .inl ⟨_, _, qcall_pure (n1) rfl rfl, ?_⟩; conv => whnf) | (refine .inl ⟨_, _, qcall_pure (n2) rfl rfl, ?_⟩; conv => whnf) | (refine LitB.data ?_; conv => whnf) | (refine BoxB.own ?_; conv => whnf)))
  all_goals exact fin_t ⟨rfl, rfl, trivial⟩
end Go.Proofs.Ytomfnfbijgjfeaa
/- Chapters 13 and 15 in plain Lean: intervals of scales, stocks, what history.Check computes. No program is in sight. -/
namespace Go.Proofs.Ytomfnfbijgjfeaa
set_option linter.unusedVariables false
set_option linter.unusedSimpArgs false

def certRight (c : Cert) : Bool :=
  decide (0 ≤ c.since) && decide (c.since ≤ c.till) && decide (c.till ≤ 100000) && idx c.scale 30 && btw c.grams 0 1099511627776 && btw c.permille 0 1000 && btw c.drift 0 10000000
def covers (c : Cert) (day : Int) : Bool := certRight c && btw day c.since c.till
def sinceAt (cs : List Cert) (i : Nat) : Int := ((cs[i]?).map (·.since)).getD 0
def later (cs : List Cert) (o : Option Nat) (c : Cert) : Bool := match o with
  | none => true
  | some b => decide (sinceAt cs b ≤ c.since)
/-- the certificate in force, among the first k -/
def findTo (cs : List Cert) (scale day : Int) : Nat → Option Nat
  | 0 => none
  | k + 1 => match cs[k]? with
    | none => findTo cs scale day k
    | some c => if decide (c.scale = scale) && covers c day && later cs (findTo cs scale day k) c then some k else findTo cs scale day k
theorem findTo_some {cs : List Cert} {scale day : Int} : ∀ {k b : Nat}, findTo cs scale day k = some b → b < k ∧ ∃ c, cs[b]? = some c ∧ c.scale = scale ∧ covers c day = true
  | 0, b, h => by simp [findTo] at h
  | k + 1, b, h => by
    unfold findTo at h
    split at h
    · obtain ⟨h1, h2⟩ := findTo_some h; exact ⟨by omega, h2⟩
    · rename_i c hc
      split at h
      · rename_i hcc
        injection h with h
        subst h
        simp only [Bool.and_eq_true, decide_eq_true_eq] at hcc
        exact ⟨by omega, c, hc, hcc.1.1, hcc.1.2⟩
      · obtain ⟨h1, h2⟩ := findTo_some h; exact ⟨by omega, h2⟩
def recalled (rs : List Recall) (scale day : Int) : Bool := rs.any fun r => decide (r.scale = scale) && decide (r.since ≤ day)
def errR (c : Cert) (reading day : Int) : Rat := Rat.divInt (c.permille * reading) 1000 + ((c.grams + c.drift * (day - c.since) : Int) : Rat)
def maxR (x y : Rat) : Rat := if x < y then y else x
def zeroCert : Cert := ⟨0, 0, 0, 0, 0, 0⟩
def certAt (cs : List Cert) (i : Nat) : Cert := (cs[i]?).getD zeroCert
def interval (cs : List Cert) (rs : List Recall) (scale reading day : Int) : Option (Rat × Rat) :=
  match findTo cs scale day cs.length with
  | none => none
  | some i => if recalled rs scale day then none else if btw reading 0 1099511627776 then
      some (maxR ((reading : Rat) - errR (certAt cs i) reading day) ((0 : Int) : Rat), (reading : Rat) + errR (certAt cs i) reading day) else none

def sumR (l : List Rat) : Rat := l.foldl (· + ·) ((0 : Int) : Rat)
theorem sumR_snoc (l : List Rat) (x : Rat) : sumR (l ++ [x]) = sumR l + x := by simp [sumR]
theorem rl_sumR {l : List Rat} {B : Nat} (h : ∀ x ∈ l, rl x ≤ B) : rl (sumR l) ≤ l.length * (B + 1) + 1 := by
  have key : ∀ (l : List Rat) (a : Rat), (∀ x ∈ l, rl x ≤ B) → rl (l.foldl (· + ·) a) ≤ l.length * (B + 1) + rl a := fun l => by
    induction l with
    | nil => intro a _; simp
    | cons x r ih =>
      intro a hx
      have h1 := ih (a + x) fun y hy => hx y (by simp [hy])
      have h2 := rl_add a x
      have h3 := hx x (by simp)
      simp only [List.foldl_cons, List.length_cons, Nat.succ_mul]
      omega
  exact key l _ h
/-- a history's shape -/
def shapedB (e : Ev) (h : List (List Fr)) : Bool := decide (h.length = e.moves.length) && h.all fun l => decide ((l.length : Int) = e.mats) && l.all rightF
def hz (H : List (List Rat)) : List (List Fr) := H.map (·.map fz)
theorem right_rats {l : List Fr} (h : l.all rightF = true) : ∃ L : List Rat, l = L.map fz := by
  induction l with
  | nil => exact ⟨[], rfl⟩
  | cons f r ih =>
    simp only [List.all_cons, Bool.and_eq_true] at h
    obtain ⟨L, rfl⟩ := ih h.2
    exact ⟨fv f :: L, by simp [← fz_fv h.1]⟩
structure Shape (e : Ev) (H : List (List Rat)) : Prop where
  len : H.length = e.moves.length
  wid : ∀ l ∈ H, (l.length : Int) = e.mats
theorem shaped_rats {e : Ev} {h : List (List Fr)} (hs : shapedB e h = true) : ∃ H, h = hz H ∧ Shape e H := by
  unfold shapedB at hs
  simp only [Bool.and_eq_true, decide_eq_true_eq] at hs
  obtain ⟨h1, h2⟩ := hs
  have key : ∀ h : List (List Fr), (h.all fun l => decide ((l.length : Int) = e.mats) && l.all rightF) = true → ∃ H, h = hz H ∧ ∀ l ∈ H, (l.length : Int) = e.mats := fun h => by
    induction h with
    | nil => intro _; exact ⟨[], rfl, by simp⟩
    | cons l r ih =>
      intro hh
      simp only [List.all_cons, Bool.and_eq_true, decide_eq_true_eq] at hh
      obtain ⟨⟨q1, q2⟩, q3⟩ := hh
      obtain ⟨L, rfl⟩ := right_rats q2
      obtain ⟨H, rfl, hw⟩ := ih q3
      refine ⟨L :: H, rfl, fun l hl => ?_⟩
      rcases List.mem_cons.1 hl with rfl | hl
      · simpa using q1
      · exact hw l hl
  obtain ⟨H, rfl, hw⟩ := key h h2
  exact ⟨H, rfl, by simpa [hz] using h1, hw⟩
def hAt (H : List (List Rat)) (k m : Nat) : Rat := (H.getD k []).getD m 0
/-- what a move makes of the stocks -/
def carryF (x : Move) (v : Nat → Rat) (f : Nat → Nat → Rat) : Nat → Nat → Rat := fun p m => if x.src = (p : Int) then f p m - v m else if x.dst = (p : Int) then f p m + v m else f p m
/-- the stocks after k moves -/
def stk (e : Ev) (H : List (List Rat)) : Nat → Nat → Nat → Rat
  | 0 => fun _ _ => ((0 : Int) : Rat)
  | k + 1 => match e.moves[k]? with
    | none => stk e H k
    | some x => carryF x (hAt H k) (stk e H k)
/-- the error of what a move takes -/
def takenF (f : Nat → Rat) (all : Bool) : List Rat → Nat → Bool → Int
  | [], _, rest => if rest && all then 7 else 0
  | v :: r, m, rest => if f m < v then 4 else takenF f all r (m + 1) (rest || decide (v < f m))
def takenE (e : Ev) (f : Nat → Nat → Rat) (x : Move) (l : List Rat) : Int := if kindAt e x.src = 0 then 0 else takenF (f x.src.toNat) x.all l 0 false
def inB (iv : Option (Rat × Rat)) (mass : Rat) : Bool := match iv with
  | none => true
  | some (lo, hi) => decide (lo ≤ mass) && decide (mass ≤ hi)
def weighedB (e : Ev) (x : Move) (mass : Rat) : Bool := if x.scale = -1 then true else inB (interval e.certs e.recalls x.scale x.reading x.day) mass
def pureOne (p : Purity) (l : List Rat) (mass : Rat) : Bool :=
  decide ((p.least : Rat) * mass ≤ ((1000 : Int) : Rat) * l.getD p.mat.toNat 0) && decide (((1000 : Int) : Rat) * l.getD p.mat.toNat 0 ≤ (p.most : Rat) * mass)
def pureB (ps : List Purity) (i : Nat) (l : List Rat) (mass : Rat) : Bool := ps.all fun p => decide (p.move ≠ (i : Int)) || pureOne p l mass
def stepE (e : Ev) (x : Move) (l : List Rat) (f : Nat → Nat → Rat) (i : Nat) : Int :=
  if l.any (fun v => decide (v < 0)) then 3 else if takenE e f x l ≠ 0 then takenE e f x l else if weighedB e x (sumR l) = false then 24 else if pureB e.purities i l (sumR l) = false then 13 else 0
/-- the error of the moves from k on -/
def movesE (e : Ev) (H : List (List Rat)) : Nat → List Move → Int
  | _, [] => 0
  | k, x :: r => if stepE e x (H.getD k []) (stk e H k) k ≠ 0 then stepE e x (H.getD k []) (stk e H k) k else movesE e H (k + 1) r
def histE (e : Ev) (H : List (List Rat)) : Int := movesE e H 0 e.moves
def histCheck (e : Ev) (h : List (List Fr)) : Int := if check e ≠ 0 then 1 else if shapedB e h then histE e (h.map (·.map fv)) else 2
theorem unhz (H : List (List Rat)) : (hz H).map (·.map fv) = H := by
  unfold hz
  rw [List.map_map]
  conv => rhs; rw [← List.map_id H]
  refine List.map_congr_left fun l _ => ?_
  simp only [Function.comp, List.map_map, id]
  conv => rhs; rw [← List.map_id l]
  exact List.map_congr_left fun x _ => fv_fz x
theorem rl_carryF {x : Move} {v : Nat → Rat} {f : Nat → Nat → Rat} {B C : Nat} (hv : ∀ m, rl (v m) ≤ B) (hf : ∀ p m, rl (f p m) ≤ C) (p m : Nat) : rl (carryF x v f p m) ≤ C + (B + 1) := by
  unfold carryF
  have h1 := hf p m
  have h2 := hv m
  have h3 := rl_sub (f p m) (v m)
  have h4 := rl_add (f p m) (v m)
  split
  · omega
  · split <;> omega
theorem rl_zero : rl ((0 : Int) : Rat) = 1 := by rw [rl_int]; rfl
theorem rl_hAt {H : List (List Rat)} {B : Nat} (hB : ∀ l ∈ H, ∀ x ∈ l, rl x ≤ B) (h1 : 1 ≤ B) (k m : Nat) : rl (hAt H k m) ≤ B := by
  unfold hAt
  rw [List.getD_eq_getElem?_getD, List.getD_eq_getElem?_getD]
  cases hk : H[k]? with
  | none =>
    have : rl 0 = 1 := rl_zero
    simp only [Option.getD_none, List.getElem?_nil]
    omega
  | some l =>
    simp only [Option.getD_some]
    cases hm : l[m]? with
    | none =>
      have : rl 0 = 1 := rl_zero
      simp only [Option.getD_none]
      omega
    | some x => exact hB l (List.mem_of_getElem? hk) x (List.mem_of_getElem? hm)
theorem rl_stk {e : Ev} {H : List (List Rat)} {B : Nat} (hB : ∀ l ∈ H, ∀ x ∈ l, rl x ≤ B) (h1 : 1 ≤ B) : ∀ k p m, rl (stk e H k p m) ≤ k * (B + 1) + 1
  | 0, p, m => by unfold stk; rw [rl_zero]; omega
  | k + 1, p, m => by
    have ih := rl_stk hB h1 (e := e) k
    unfold stk
    cases hx : e.moves[k]? with
    | none => have := ih p m; rw [Nat.succ_mul]; simp only; omega
    | some x =>
      simp only
      have := rl_carryF (x := x) (rl_hAt hB h1 k) ih p m
      rw [Nat.succ_mul]; omega
end Go.Proofs.Ytomfnfbijgjfeaa
/- frac.Max; scale: Right, covers, Find, Recalled, Error, Interval. -/
namespace Go.Proofs.Ytomfnfbijgjfeaa
open Go.RowKit
set_option linter.unusedVariables false
set_option linter.unusedSimpArgs false
set_option maxRecDepth 100000

theorem cmpR_lt {x y : Rat} : cmpR x y < 0 ↔ x < y := by unfold cmpR; split <;> (try split) <;> simp_all
theorem cmpR_rng (x y : Rat) : -1 ≤ cmpR x y ∧ cmpR x y ≤ 1 := by unfold cmpR; split <;> (try split) <;> omega
theorem z_fMax (x y : Rat) (lx : rl x ≤ 60000) (ly : rl y ≤ 60000) : ACall Try.prog 110 [frS (fz x), frS (fz y)] [] (.tup [frS (fz (maxR x y)), intS .i64 0]) [] := by
  have e : ACall Try.prog 129 [frS (fz x), frS (fz y), intS .i64 1] [] (.tup [frS (fz (maxR x y)), intS .i64 0]) [] := by
    have r1 := z_fRight x (by omega)
    have r2 := z_fRight y (by omega)
    have x1 := rl_num x
    have x2 := rl_den x
    have y1 := rl_num y
    have y2 := rl_den y
    have c := z_fCompare x y lx ly
    have hr := cmpR_rng x y
    have s1 := z_slim x.num (by omega)
    have s2 := z_slim x.den (by omega)
    have s3 := z_slim y.num (by omega)
    have s4 := z_slim y.den (by omega)
    (refine acall_of tab_ok Try.func129 rfl (by decide) ?_; (conv => whnf); repeat (first | (refine LitB.data ?_; conv => whnf) | (refine BoxB.own ?_; conv => whnf)))
    (repeat' (first | ((refine DecB.mk (fun h => ?_) (fun h => ?_)) <;> first | (exfalso; omega) | (conv => whnf)) | ((refine BoolB.mk (fun h => ?_) (fun h => ?_)) <;> first | (exact absurd h (by decide)) | (conv => whnf)) | (refine ⟨_, wrap_ok (by omega) (by omega), ?_⟩; conv => whnf) | (refine and_idx (by omega) (by omega) ?_; conv => whnf) | (refine reg_ok (by decide +kernel) ?_; conv => whnf) | (refine bar_ok (by decide +kernel) (by decide +kernel) ?_; conv => whnf) | (refine late_ok rfl rfl ?_; conv => whnf) | (refine src_ok rfl ?_; conv => whnf) | (refine .inl ⟨_, _, qcall_pure (r1) rfl rfl, ?_⟩; conv => whnf) | (refine .inl ⟨_, _, qcall_pure (r2) rfl rfl, ?_⟩; conv => whnf) | (refine .inl ⟨_, _, qcall_pure (c) rfl rfl, ?_⟩; conv => whnf) | (refine .inl ⟨_, _, qcall_pure (s1) rfl rfl, ?_⟩; conv => whnf) | (refine .inl ⟨_, _, qcall_pure (s2) rfl rfl, ?_⟩; conv => whnf) | (refine .inl ⟨_, _, qcall_pure (s3) rfl rfl, ?_⟩; conv => whnf) | (refine .inl ⟨_, _, qcall_pure (s4) rfl rfl, ?_⟩; conv => whnf) | (refine LitB.data ?_; conv => whnf) | (refine BoxB.own ?_; conv => whnf)))
    · have h : cmpR x y < 0 := by omega
      refine fin_fe (f := fz y) ?_
      unfold maxR; rw [if_pos (cmpR_lt.1 h)]
    · have h : ¬ cmpR x y < 0 := by omega
      refine fin_fe (f := fz x) ?_
      unfold maxR; rw [if_neg (fun h' => h (cmpR_lt.2 h'))]
  (refine acall_of tab_ok Try.func110 rfl (by decide) ?_; (conv => whnf); repeat (first | (refine LitB.data ?_; conv => whnf) | (refine BoxB.own ?_; conv => whnf)))
  (repeat' (first | ((refine DecB.mk (fun h => ?_) (fun h => ?_)) <;> first | (exfalso; omega) | (conv => whnf)) | ((refine BoolB.mk (fun h => ?_) (fun h => ?_)) <;> first | (exact absurd h (by decide)) | (conv => whnf)) | (refine ⟨_, wrap_ok (by omega) (by omega), ?_⟩; conv => whnf) | (refine and_idx (by omega) (by omega) ?_; conv => whnf) | (refine reg_ok (by decide +kernel) ?_; conv => whnf) | (refine bar_ok (by decide +kernel) (by decide +kernel) ?_; conv => whnf) | (refine late_ok rfl rfl ?_; conv => whnf) | (refine src_ok rfl ?_; conv => whnf) | (refine .inl ⟨_, _, qcall_pure (e) rfl rfl, ?_⟩; conv => whnf) | (refine LitB.data ?_; conv => whnf) | (refine BoxB.own ?_; conv => whnf)))
  all_goals exact fin_fe rfl
theorem a_within (n m : Int) : ACall Try.prog 127 [intS .i64 n, intS .i64 m] [] (boolS (btw n 0 m)) [] := by
  (refine acall_of tab_ok Try.func127 rfl (by decide) ?_; (conv => whnf); repeat (first | (refine LitB.data ?_; conv => whnf) | (refine BoxB.own ?_; conv => whnf)))
  (repeat' (first | ((refine DecB.mk (fun h => ?_) (fun h => ?_)) <;> first | (exfalso; omega) | (conv => whnf)) | ((refine BoolB.mk (fun h => ?_) (fun h => ?_)) <;> first | (exact absurd h (by decide)) | (conv => whnf)) | (refine ⟨_, wrap_ok (by omega) (by omega), ?_⟩; conv => whnf) | (refine and_idx (by omega) (by omega) ?_; conv => whnf) | (refine reg_ok (by decide +kernel) ?_; conv => whnf) | (refine bar_ok (by decide +kernel) (by decide +kernel) ?_; conv => whnf) | (refine late_ok rfl rfl ?_; conv => whnf) | (refine src_ok rfl ?_; conv => whnf) | (refine LitB.data ?_; conv => whnf) | (refine BoxB.own ?_; conv => whnf)))
  all_goals (refine fin_bool ?_; unfold btw; simp; omega)
abbrev certS (c : Cert) : S := .agg (c.row.map .t)
theorem btw_idx30 (n : Int) : btw n 0 29 = idx n 30 := btw_idx n 30
theorem a_certRight (c : Cert) : ACall Try.prog 136 [certS c] [] (boolS (certRight c)) [] := by
  have w1 := a_within c.scale 29
  have w2 := a_within c.grams 1099511627776
  have w3 := a_within c.permille 1000
  have w4 := a_within c.drift 10000000
  rw [btw_idx30] at w1
  unfold certRight
  cases h1 : idx c.scale 30 <;> cases h2 : btw c.grams 0 1099511627776 <;> cases h3 : btw c.permille 0 1000 <;> cases h4 : btw c.drift 0 10000000 <;> rw [h1] at w1 <;> rw [h2] at w2 <;> rw [h3] at w3 <;> rw [h4] at w4 <;>
  · (refine acall_of tab_ok Try.func136 rfl (by decide) ?_; (conv => whnf); repeat (first | (refine LitB.data ?_; conv => whnf) | (refine BoxB.own ?_; conv => whnf)))
    (repeat' (first | ((refine DecB.mk (fun h => ?_) (fun h => ?_)) <;> first | (exfalso; omega) | (conv => whnf)) | ((refine BoolB.mk (fun h => ?_) (fun h => ?_)) <;> first | (exact absurd h (by decide)) | (conv => whnf)) | (refine ⟨_, wrap_ok (by omega) (by omega), ?_⟩; conv => whnf) | (refine and_idx (by omega) (by omega) ?_; conv => whnf) | (refine reg_ok (by decide +kernel) ?_; conv => whnf) | (refine bar_ok (by decide +kernel) (by decide +kernel) ?_; conv => whnf) | (refine late_ok rfl rfl ?_; conv => whnf) | (refine src_ok rfl ?_; conv => whnf) | (refine .inl ⟨_, _, qcall_pure (w1) rfl rfl, ?_⟩; conv => whnf) | (refine .inl ⟨_, _, qcall_pure (w2) rfl rfl, ?_⟩; conv => whnf) | (refine .inl ⟨_, _, qcall_pure (w3) rfl rfl, ?_⟩; conv => whnf) | (refine .inl ⟨_, _, qcall_pure (w4) rfl rfl, ?_⟩; conv => whnf) | (refine LitB.data ?_; conv => whnf) | (refine BoxB.own ?_; conv => whnf)))
    all_goals (refine fin_bool ?_; simp; try omega)
theorem a_covers (c : Cert) (day : Int) : ACall Try.prog 124 [certS c, intS .i64 day] [] (boolS (covers c day)) [] := by
  have w1 := a_certRight c
  unfold covers
  cases h1 : certRight c <;> rw [h1] at w1 <;>
  · (refine acall_of tab_ok Try.func124 rfl (by decide) ?_; (conv => whnf); repeat (first | (refine LitB.data ?_; conv => whnf) | (refine BoxB.own ?_; conv => whnf)))
    (repeat' (first | ((refine DecB.mk (fun h => ?_) (fun h => ?_)) <;> first | (exfalso; omega) | (conv => whnf)) | ((refine BoolB.mk (fun h => ?_) (fun h => ?_)) <;> first | (exact absurd h (by decide)) | (conv => whnf)) | (refine ⟨_, wrap_ok (by omega) (by omega), ?_⟩; conv => whnf) | (refine and_idx (by omega) (by omega) ?_; conv => whnf) | (refine reg_ok (by decide +kernel) ?_; conv => whnf) | (refine bar_ok (by decide +kernel) (by decide +kernel) ?_; conv => whnf) | (refine late_ok rfl rfl ?_; conv => whnf) | (refine src_ok rfl ?_; conv => whnf) | (refine .inl ⟨_, _, qcall_pure (w1) rfl rfl, ?_⟩; conv => whnf) | (refine LitB.data ?_; conv => whnf) | (refine BoxB.own ?_; conv => whnf)))
    all_goals (refine fin_bool ?_; simp [btw]; try omega)
theorem cert_get {cs : List Cert} {k : Nat} {c : Cert} (h : cs[k]? = some c) : sinceAt cs k = c.since := by unfold sinceAt; rw [h]; rfl
abbrev boxT (n : Int) : T := .ptr [ti n]
theorem ent_b {a b : Bool} {ρ : List (Option Nat)} {H : Hp} (h : a = b) : EntS ρ H (boolS a) (boolS b) := by subst h; exact rfl
def bestOf (o : Option Nat) : Nat := o.getD 0
theorem a_Find (cs : List Cert) (scale day : Int) (hl : cs.length ≤ 1000000) :
    ACall Try.prog 107 [.c (.t (certsT cs)), intS .i64 scale, intS .i64 day] [] (.tup [intS .i64 (bestOf (findTo cs scale day cs.length)), boolS (findTo cs scale day cs.length).isSome]) [] := by
  have l1 : (cs.map Cert.row).length = cs.length := by simp
  (refine acall_of tab_ok Try.func107 rfl (by decide) ?_; (conv => whnf); repeat (first | (refine LitB.data ?_; conv => whnf) | (refine BoxB.own ?_; conv => whnf)))
  (repeat' (first | ((refine DecB.mk (fun h => ?_) (fun h => ?_)) <;> first | (exfalso; omega) | (conv => whnf)) | ((refine BoolB.mk (fun h => ?_) (fun h => ?_)) <;> first | (exact absurd h (by decide)) | (conv => whnf)) | (refine ⟨_, wrap_ok (by omega) (by omega), ?_⟩; conv => whnf) | (refine and_idx (by omega) (by omega) ?_; conv => whnf) | (refine reg_ok (by decide +kernel) ?_; conv => whnf) | (refine bar_ok (by decide +kernel) (by decide +kernel) ?_; conv => whnf) | (refine late_ok rfl rfl ?_; conv => whnf) | (refine src_ok rfl ?_; conv => whnf) | (refine LitB.data ?_; conv => whnf) | (refine BoxB.own ?_; conv => whnf)))
  refine awp_for tab_ok (fun k => ([S.c (C.t (certsT cs)), intS .i64 scale, intS .i64 day, S.junk, S.junk, S.junk, S.junk, S.junk, intS .i64 (bestOf (findTo cs scale day k)), boolS (findTo cs scale day k).isSome, S.junk, S.junk, S.c (C.t (certsT cs)), intS .i64 cs.length, intS .i64 k, S.junk, S.junk, S.junk, S.junk, S.junk, S.junk, S.junk, S.junk, S.junk, S.junk, S.junk, S.junk, S.junk, S.junk, S.junk, S.junk, S.junk, S.junk, S.junk, S.junk, S.junk, S.junk, S.junk, S.junk, S.junk, S.junk, S.junk, S.junk, S.junk, S.junk, S.junk], [])) cs.length (fun _ => True) [] trivial
    ⟨rfl, rfl, trivial, ⟨ent_t rfl, rfl, rfl, rfl, rfl, ent_t rfl, ent_i (by simp), rfl, trivial⟩⟩ ?_
  intro k hk _
  by_cases hlt : k < cs.length
  · obtain ⟨c, hc⟩ : ∃ c, cs[k]? = some c := ⟨_, List.getElem?_eq_getElem hlt⟩
    have cv := a_covers c day
    have hst : findTo cs scale day (k + 1) = if decide (c.scale = scale) && covers c day && later cs (findTo cs scale day k) c then some k else findTo cs scale day k := by
      conv => lhs; unfold findTo
      rw [hc]
    cases hcv : covers c day with
    | false =>
      rw [hcv] at cv hst
      simp only [Bool.and_false, Bool.false_and, Bool.false_eq_true, if_false] at hst
      rw [← hst]
      conv => whnf
      (repeat' (first | ((refine DecB.mk (fun h => ?_) (fun h => ?_)) <;> first | (exfalso; omega) | (conv => whnf)) | ((refine BoolB.mk (fun h => ?_) (fun h => ?_)) <;> first | (exact absurd h (by decide)) | (conv => whnf)) | (refine ⟨_, wrap_ok (by omega) (by omega), ?_⟩; conv => whnf) | (refine and_idx (by omega) (by omega) ?_; conv => whnf) | (refine reg_ok (by decide +kernel) ?_; conv => whnf) | (refine bar_ok (by decide +kernel) (by decide +kernel) ?_; conv => whnf) | (refine late_ok rfl rfl ?_; conv => whnf) | (refine src_ok rfl ?_; conv => whnf) | (refine .inl ⟨_, _, qcall_pure (cv) rfl rfl, ?_⟩; conv => whnf) | (refine ex_row hc ?_; conv => whnf) | (refine LitB.data ?_; conv => whnf) | (refine BoxB.own ?_; conv => whnf)))
      all_goals first
        | (exfalso; omega)
        | exact ⟨hlt, trivial, [], rfl, rfl, trivial, ⟨rfl, rfl, rfl, rfl, rfl, rfl, rfl, rfl, trivial⟩⟩
    | true =>
      rw [hcv] at cv hst
      cases hf : findTo cs scale day k with
      | none =>
        rw [hf] at hst
        conv => whnf
        (repeat' (first | ((refine DecB.mk (fun h => ?_) (fun h => ?_)) <;> first | (exfalso; omega) | (conv => whnf)) | ((refine BoolB.mk (fun h => ?_) (fun h => ?_)) <;> first | (exact absurd h (by decide)) | (conv => whnf)) | (refine ⟨_, wrap_ok (by omega) (by omega), ?_⟩; conv => whnf) | (refine and_idx (by omega) (by omega) ?_; conv => whnf) | (refine reg_ok (by decide +kernel) ?_; conv => whnf) | (refine bar_ok (by decide +kernel) (by decide +kernel) ?_; conv => whnf) | (refine late_ok rfl rfl ?_; conv => whnf) | (refine src_ok rfl ?_; conv => whnf) | (refine .inl ⟨_, _, qcall_pure (cv) rfl rfl, ?_⟩; conv => whnf) | (refine ex_row hc ?_; conv => whnf) | (refine LitB.data ?_; conv => whnf) | (refine BoxB.own ?_; conv => whnf)))
        · exact ⟨hlt, trivial, [], rfl, rfl, trivial, ⟨rfl, rfl, rfl, ent_i (by rw [hst]; simp [*, later, bestOf]), ent_b (by rw [hst]; simp [*, later]), rfl, rfl, rfl, trivial⟩⟩
        · exact ⟨hlt, trivial, [], rfl, rfl, trivial, ⟨rfl, rfl, rfl, ent_i (by rw [hst]; simp [*, later, bestOf]), ent_b (by rw [hst]; simp [*, later]), rfl, rfl, rfl, trivial⟩⟩
      | some b =>
        rw [hf] at hst
        obtain ⟨hb, cb, hcb, _⟩ := findTo_some hf
        have hsb := cert_get hcb
        conv => whnf
        (repeat' (first | ((refine DecB.mk (fun h => ?_) (fun h => ?_)) <;> first | (exfalso; omega) | (conv => whnf)) | ((refine BoolB.mk (fun h => ?_) (fun h => ?_)) <;> first | (exact absurd h (by decide)) | (conv => whnf)) | (refine ⟨_, wrap_ok (by omega) (by omega), ?_⟩; conv => whnf) | (refine and_idx (by omega) (by omega) ?_; conv => whnf) | (refine reg_ok (by decide +kernel) ?_; conv => whnf) | (refine bar_ok (by decide +kernel) (by decide +kernel) ?_; conv => whnf) | (refine late_ok rfl rfl ?_; conv => whnf) | (refine src_ok rfl ?_; conv => whnf) | (refine .inl ⟨_, _, qcall_pure (cv) rfl rfl, ?_⟩; conv => whnf) | (refine ex_row hc ?_; conv => whnf) | (refine ex_row hcb ?_; conv => whnf) | (refine LitB.data ?_; conv => whnf) | (refine BoxB.own ?_; conv => whnf)))
        all_goals first
          | exact ⟨hlt, trivial, [], rfl, rfl, trivial, ⟨rfl, rfl, rfl, ent_i (by rw [hst]; simp [*, later, bestOf]), ent_b (by rw [hst]; simp [*, later]), rfl, rfl, rfl, trivial⟩⟩
          | (exfalso; simp_all; done)
  · have hke : k = cs.length := by omega
    subst hke
    conv => whnf
    (repeat' (first | ((refine DecB.mk (fun h => ?_) (fun h => ?_)) <;> first | (exfalso; omega) | (conv => whnf)) | ((refine BoolB.mk (fun h => ?_) (fun h => ?_)) <;> first | (exact absurd h (by decide)) | (conv => whnf)) | (refine ⟨_, wrap_ok (by omega) (by omega), ?_⟩; conv => whnf) | (refine and_idx (by omega) (by omega) ?_; conv => whnf) | (refine reg_ok (by decide +kernel) ?_; conv => whnf) | (refine bar_ok (by decide +kernel) (by decide +kernel) ?_; conv => whnf) | (refine late_ok rfl rfl ?_; conv => whnf) | (refine src_ok rfl ?_; conv => whnf) | (refine LitB.data ?_; conv => whnf) | (refine BoxB.own ?_; conv => whnf)))
    all_goals first
      | (exfalso; omega)
      | exact fin_t ⟨rfl, rfl, trivial⟩
theorem a_RecalledIs (r : Recall) (scale day : Int) : ACall Try.prog 126 (.agg (r.row.map .t) :: [boxT scale, boxT day].map fun x => .c (.t x)) [] (boolS (decide (r.scale = scale) && decide (r.since ≤ day))) [] := by
  (refine acall_of tab_ok Try.func126 rfl (by decide) ?_; (conv => whnf); repeat (first | (refine LitB.data ?_; conv => whnf) | (refine BoxB.own ?_; conv => whnf)))
  (repeat' (first | ((refine DecB.mk (fun h => ?_) (fun h => ?_)) <;> first | (exfalso; omega) | (conv => whnf)) | ((refine BoolB.mk (fun h => ?_) (fun h => ?_)) <;> first | (exact absurd h (by decide)) | (conv => whnf)) | (refine ⟨_, wrap_ok (by omega) (by omega), ?_⟩; conv => whnf) | (refine and_idx (by omega) (by omega) ?_; conv => whnf) | (refine reg_ok (by decide +kernel) ?_; conv => whnf) | (refine bar_ok (by decide +kernel) (by decide +kernel) ?_; conv => whnf) | (refine late_ok rfl rfl ?_; conv => whnf) | (refine src_ok rfl ?_; conv => whnf) | (refine LitB.data ?_; conv => whnf) | (refine BoxB.own ?_; conv => whnf)))
  all_goals (refine fin_bool ?_; simp [*]; try omega)
abbrev recS (r : Recall) : S := .agg (r.row.map .t)
def indexI {α : Type} (q : α → Bool) : List α → Nat → Int
  | [], _ => -1
  | x :: r, k => if q x then k else indexI q r (k + 1)
theorem indexI_any {α : Type} (q : α → Bool) : ∀ (l : List α) (k : Nat), decide (0 ≤ indexI q l k) = l.any q
  | [], k => by simp [indexI]
  | x :: r, k => by
    unfold indexI
    rw [List.any_cons]
    cases h : q x with
    | true => simp
    | false => simpa using indexI_any q r (k + 1)
theorem a_IndexRec (rs : List Recall) (hl : rs.length ≤ 1000000) (g : FuncId) (caps : List T) (q : Recall → Bool) (hg : ∀ r ∈ rs, ACall Try.prog g (recS r :: caps.map fun x => .c (.t x)) [] (boolS (q r)) []) :
    ACall Try.prog 137 [.c (.t (recallsT rs)), .c (.t (.fn (.func g) caps))] [] (intS .i64 (indexI q rs 0)) [] := by
  have l1 : (rs.map Recall.row).length = rs.length := by simp
  (refine acall_of tab_ok Try.func137 rfl (by decide) ?_; (conv => whnf); repeat (first | (refine LitB.data ?_; conv => whnf) | (refine BoxB.own ?_; conv => whnf)))
  (repeat' (first | ((refine DecB.mk (fun h => ?_) (fun h => ?_)) <;> first | (exfalso; omega) | (conv => whnf)) | ((refine BoolB.mk (fun h => ?_) (fun h => ?_)) <;> first | (exact absurd h (by decide)) | (conv => whnf)) | (refine ⟨_, wrap_ok (by omega) (by omega), ?_⟩; conv => whnf) | (refine and_idx (by omega) (by omega) ?_; conv => whnf) | (refine reg_ok (by decide +kernel) ?_; conv => whnf) | (refine bar_ok (by decide +kernel) (by decide +kernel) ?_; conv => whnf) | (refine late_ok rfl rfl ?_; conv => whnf) | (refine src_ok rfl ?_; conv => whnf) | (refine LitB.data ?_; conv => whnf) | (refine BoxB.own ?_; conv => whnf)))
  refine awp_for tab_ok (fun k => ([S.c (C.t (recallsT rs)), S.c (C.t (T.fn (.func g) caps)), S.junk, S.junk, S.junk, S.junk, S.junk, intS .i64 rs.length, intS .i64 k, S.junk, S.junk, S.junk, S.junk, S.junk, S.junk, S.junk, S.junk, S.junk, S.junk], [])) rs.length (fun k => indexI q (rs.drop k) k = indexI q rs 0) [] rfl
    ⟨rfl, rfl, trivial, ⟨ent_t rfl, ent_t rfl, ent_i (by simp), rfl, trivial⟩⟩ ?_
  intro k hk hI
  by_cases hlt : k < rs.length
  · obtain ⟨r, hr⟩ : ∃ r, rs[k]? = some r := ⟨_, List.getElem?_eq_getElem hlt⟩
    have hd : rs.drop k = r :: rs.drop (k + 1) := by
      rw [List.drop_eq_getElem_cons hlt]
      rw [List.getElem?_eq_getElem hlt] at hr
      injection hr with hr
      rw [hr]
    have hgr := hg r (List.mem_of_getElem? hr)
    have ha : (recS r :: caps.map fun x => S.c (C.t x)).all S.isT = true := by simp [S.isT, C.isT, Recall.row]
    rw [hd] at hI
    have hI : (if q r then (k : Int) else indexI q (rs.drop (k + 1)) (k + 1)) = indexI q rs 0 := hI
    cases hq : q r with
    | true =>
      rw [hq] at hgr hI
      conv => whnf
      (repeat' (first | ((refine DecB.mk (fun h => ?_) (fun h => ?_)) <;> first | (exfalso; omega) | (conv => whnf)) | ((refine BoolB.mk (fun h => ?_) (fun h => ?_)) <;> first | (exact absurd h (by decide)) | (conv => whnf)) | (refine ⟨_, wrap_ok (by omega) (by omega), ?_⟩; conv => whnf) | (refine and_idx (by omega) (by omega) ?_; conv => whnf) | (refine reg_ok (by decide +kernel) ?_; conv => whnf) | (refine bar_ok (by decide +kernel) (by decide +kernel) ?_; conv => whnf) | (refine late_ok rfl rfl ?_; conv => whnf) | (refine src_ok rfl ?_; conv => whnf) | (refine .inl ⟨_, _, qcall_pure hgr ha rfl, ?_⟩; conv => whnf) | (refine ex_row hr ?_; conv => whnf) | (refine LitB.data ?_; conv => whnf) | (refine BoxB.own ?_; conv => whnf)))
      all_goals first
        | (exfalso; omega)
        | exact fin_int hI
    | false =>
      rw [hq] at hgr hI
      conv => whnf
      (repeat' (first | ((refine DecB.mk (fun h => ?_) (fun h => ?_)) <;> first | (exfalso; omega) | (conv => whnf)) | ((refine BoolB.mk (fun h => ?_) (fun h => ?_)) <;> first | (exact absurd h (by decide)) | (conv => whnf)) | (refine ⟨_, wrap_ok (by omega) (by omega), ?_⟩; conv => whnf) | (refine and_idx (by omega) (by omega) ?_; conv => whnf) | (refine reg_ok (by decide +kernel) ?_; conv => whnf) | (refine bar_ok (by decide +kernel) (by decide +kernel) ?_; conv => whnf) | (refine late_ok rfl rfl ?_; conv => whnf) | (refine src_ok rfl ?_; conv => whnf) | (refine .inl ⟨_, _, qcall_pure hgr ha rfl, ?_⟩; conv => whnf) | (refine ex_row hr ?_; conv => whnf) | (refine LitB.data ?_; conv => whnf) | (refine BoxB.own ?_; conv => whnf)))
      all_goals first
        | (exfalso; omega)
        | exact ⟨hlt, by simpa using hI, [], rfl, rfl, trivial, ⟨rfl, rfl, rfl, rfl, trivial⟩⟩
  · have hke : k = rs.length := by omega
    subst hke
    rw [List.drop_of_length_le (Nat.le_refl _)] at hI
    conv => whnf
    (repeat' (first | ((refine DecB.mk (fun h => ?_) (fun h => ?_)) <;> first | (exfalso; omega) | (conv => whnf)) | ((refine BoolB.mk (fun h => ?_) (fun h => ?_)) <;> first | (exact absurd h (by decide)) | (conv => whnf)) | (refine ⟨_, wrap_ok (by omega) (by omega), ?_⟩; conv => whnf) | (refine and_idx (by omega) (by omega) ?_; conv => whnf) | (refine reg_ok (by decide +kernel) ?_; conv => whnf) | (refine bar_ok (by decide +kernel) (by decide +kernel) ?_; conv => whnf) | (refine late_ok rfl rfl ?_; conv => whnf) | (refine src_ok rfl ?_; conv => whnf) | (refine LitB.data ?_; conv => whnf) | (refine BoxB.own ?_; conv => whnf)))
    all_goals first
      | (exfalso; omega)
      | exact fin_int hI
theorem a_ContainsRec (rs : List Recall) (hl : rs.length ≤ 1000000) (g : FuncId) (caps : List T) (q : Recall → Bool) (hg : ∀ r ∈ rs, ACall Try.prog g (recS r :: caps.map fun x => .c (.t x)) [] (boolS (q r)) []) :
    ACall Try.prog 125 [.c (.t (recallsT rs)), .c (.t (.fn (.func g) caps))] [] (boolS (rs.any q)) [] := by
  have ix := a_IndexRec rs hl g caps q hg
  (refine acall_of tab_ok Try.func125 rfl (by decide) ?_; (conv => whnf); repeat (first | (refine LitB.data ?_; conv => whnf) | (refine BoxB.own ?_; conv => whnf)))
  (repeat' (first | ((refine DecB.mk (fun h => ?_) (fun h => ?_)) <;> first | (exfalso; omega) | (conv => whnf)) | ((refine BoolB.mk (fun h => ?_) (fun h => ?_)) <;> first | (exact absurd h (by decide)) | (conv => whnf)) | (refine ⟨_, wrap_ok (by omega) (by omega), ?_⟩; conv => whnf) | (refine and_idx (by omega) (by omega) ?_; conv => whnf) | (refine reg_ok (by decide +kernel) ?_; conv => whnf) | (refine bar_ok (by decide +kernel) (by decide +kernel) ?_; conv => whnf) | (refine late_ok rfl rfl ?_; conv => whnf) | (refine src_ok rfl ?_; conv => whnf) | (refine .inl ⟨_, _, qcall_pure (ix) rfl rfl, ?_⟩; conv => whnf) | (refine LitB.data ?_; conv => whnf) | (refine BoxB.own ?_; conv => whnf)))
  all_goals (refine fin_bool ?_; rw [← indexI_any q rs 0]; simp; omega)
theorem a_Recalled (rs : List Recall) (hl : rs.length ≤ 1000000) (scale day : Int) : ACall Try.prog 108 [.c (.t (recallsT rs)), intS .i64 scale, intS .i64 day] [] (boolS (recalled rs scale day)) [] := by
  have ct := a_ContainsRec rs hl 126 [boxT scale, boxT day] _ (fun r _ => a_RecalledIs r scale day)
  (refine acall_of tab_ok Try.func108 rfl (by decide) ?_; (conv => whnf); repeat (first | (refine LitB.data ?_; conv => whnf) | (refine BoxB.data ?_; conv => whnf)))
  (repeat' (first | ((refine DecB.mk (fun h => ?_) (fun h => ?_)) <;> first | (exfalso; omega) | (conv => whnf)) | ((refine BoolB.mk (fun h => ?_) (fun h => ?_)) <;> first | (exact absurd h (by decide)) | (conv => whnf)) | (refine ⟨_, wrap_ok (by omega) (by omega), ?_⟩; conv => whnf) | (refine and_idx (by omega) (by omega) ?_; conv => whnf) | (refine reg_ok (by decide +kernel) ?_; conv => whnf) | (refine bar_ok (by decide +kernel) (by decide +kernel) ?_; conv => whnf) | (refine late_ok rfl rfl ?_; conv => whnf) | (refine src_ok rfl ?_; conv => whnf) | (refine .inl ⟨_, _, qcall_pure (ct) rfl rfl, ?_⟩; conv => whnf) | (refine LitB.data ?_; conv => whnf) | (refine BoxB.own ?_; conv => whnf)))
  all_goals (refine fin_bool ?_; symm; assumption)
end Go.Proofs.Ytomfnfbijgjfeaa
/- scale: Error, Interval. -/
namespace Go.Proofs.Ytomfnfbijgjfeaa
open Go.RowKit
set_option linter.unusedVariables false
set_option linter.unusedSimpArgs false
set_option maxRecDepth 100000

theorem covers_iff {c : Cert} {day : Int} (h : covers c day = true) : 0 ≤ c.since ∧ c.since ≤ day ∧ day ≤ c.till ∧ c.till ≤ 100000 ∧ 0 ≤ c.grams ∧ c.grams ≤ 1099511627776 ∧ 0 ≤ c.permille ∧ c.permille ≤ 1000 ∧ 0 ≤ c.drift ∧ c.drift ≤ 10000000 := by
  unfold covers certRight btw at h
  simp only [Bool.and_eq_true, decide_eq_true_eq] at h
  omega
abbrev zeroF : Fr := ⟨⟨0, []⟩, ⟨0, []⟩⟩
theorem fin_fb {f f' : Fr} {b b' : Bool} {H1 : Hp} (h : f = f') (h2 : b = b') : Fin 0 (.tup [frS f, boolS b]) H1 (.tup [frS f', boolS b']) [] := by
  subst h h2; exact fin_t ⟨⟨rfl, rfl, rfl, rfl, trivial⟩, rfl, trivial⟩
structure ErrI (c : Cert) (reading day : Int) : Prop where
  p0 : 0 ≤ c.permille * reading
  p1 : c.permille * reading ≤ 1000 * 1099511627776
  d0 : 0 ≤ c.drift * (day - c.since)
  d1 : c.drift * (day - c.since) ≤ 10000000 * 100000
theorem ErrI.of {c : Cert} {reading day : Int} (h : covers c day = true) (hr : btw reading 0 1099511627776 = true) : ErrI c reading day := by
  have hc := covers_iff h
  rw [btw_iff] at hr
  exact ⟨Int.mul_nonneg (by omega) (by omega), Int.mul_le_mul (by omega) (by omega) (by omega) (by omega), Int.mul_nonneg (by omega) (by omega), Int.mul_le_mul (by omega) (by omega) (by omega) (by omega)⟩
theorem rl_err {c : Cert} {reading day : Int} (h : covers c day = true) (hr : btw reading 0 1099511627776 = true) : rl (errR c reading day) ≤ 9 := by
  have i := ErrI.of h hr
  have hc := covers_iff h
  obtain ⟨p0, p1, d0, d1⟩ := i
  unfold errR
  have h1 := rl_add (Rat.divInt (c.permille * reading) 1000) ((c.grams + c.drift * (day - c.since) : Int) : Rat)
  have h2 : rl (Rat.divInt (c.permille * reading) 1000) ≤ 4 := Nat.le_trans (rl_divInt (by decide)) (by have := bl_int (x := c.permille * reading) (by omega) (by omega); have := bl_int (x := 1000) (by decide) (by decide); omega)
  have h3 : rl ((c.grams + c.drift * (day - c.since) : Int) : Rat) ≤ 4 := by rw [rl_int]; have := bl_int (x := c.grams + c.drift * (day - c.since)) (by omega) (by omega); omega
  omega
theorem a_Error (c : Cert) (reading day : Int) (h : covers c day = true) : ACall Try.prog 109 [certS c, intS .i64 reading, intS .i64 day] []
    (.tup [frS (if btw reading 0 1099511627776 then fz (errR c reading day) else zeroF), boolS (btw reading 0 1099511627776)]) [] := by
  have cv := a_covers c day
  have wi := a_within reading 1099511627776
  rw [h] at cv
  have hc := covers_iff h
  cases hr : btw reading 0 1099511627776 with
  | false =>
    rw [hr] at wi
    (refine acall_of tab_ok Try.func109 rfl (by decide) ?_; (conv => whnf); repeat (first | (refine LitB.data ?_; conv => whnf) | (refine BoxB.own ?_; conv => whnf)))
    (repeat' (first | ((refine DecB.mk (fun h => ?_) (fun h => ?_)) <;> first | (exfalso; omega) | (conv => whnf)) | ((refine BoolB.mk (fun h => ?_) (fun h => ?_)) <;> first | (exact absurd h (by decide)) | (conv => whnf)) | (refine ⟨_, wrap_ok (by omega) (by omega), ?_⟩; conv => whnf) | (refine and_idx (by omega) (by omega) ?_; conv => whnf) | (refine reg_ok (by decide +kernel) ?_; conv => whnf) | (refine bar_ok (by decide +kernel) (by decide +kernel) ?_; conv => whnf) | (refine late_ok rfl rfl ?_; conv => whnf) | (refine src_ok rfl ?_; conv => whnf) | (refine .inl ⟨_, _, qcall_pure (cv) rfl rfl, ?_⟩; conv => whnf) | (refine .inl ⟨_, _, qcall_pure (wi) rfl rfl, ?_⟩; conv => whnf) | (refine LitB.data ?_; conv => whnf) | (refine BoxB.own ?_; conv => whnf)))
    all_goals first
      | (exfalso; simp_all; done)
      | exact fin_t ⟨⟨rfl, rfl, rfl, rfl, trivial⟩, rfl, trivial⟩
  | true =>
    rw [hr] at wi
    obtain ⟨p0, p1, d0, d1⟩ := ErrI.of h hr
    rw [btw_iff] at hr
    have fo := z_fOf (c.permille * reading) 1000 (by decide) (by omega) (by omega) (by decide) (by decide)
    have fi := z_fInt (c.grams + c.drift * (day - c.since)) (by omega) (by omega)
    have h2 : rl (Rat.divInt (c.permille * reading) 1000) ≤ 4 := Nat.le_trans (rl_divInt (by decide)) (by have := bl_int (x := c.permille * reading) (by omega) (by omega); have := bl_int (x := 1000) (by decide) (by decide); omega)
    have h3 : rl ((c.grams + c.drift * (day - c.since) : Int) : Rat) ≤ 4 := by rw [rl_int]; have := bl_int (x := c.grams + c.drift * (day - c.since)) (by omega) (by omega); omega
    have ad := z_fAdd (Rat.divInt (c.permille * reading) 1000) ((c.grams + c.drift * (day - c.since) : Int) : Rat) (by omega) (by omega)
    (refine acall_of tab_ok Try.func109 rfl (by decide) ?_; (conv => whnf); repeat (first | (refine LitB.data ?_; conv => whnf) | (refine BoxB.own ?_; conv => whnf)))
    (repeat' (first | ((refine DecB.mk (fun h => ?_) (fun h => ?_)) <;> first | (exfalso; omega) | (conv => whnf)) | ((refine BoolB.mk (fun h => ?_) (fun h => ?_)) <;> first | (exact absurd h (by decide)) | (conv => whnf)) | (refine ⟨_, wrap_ok (by omega) (by omega), ?_⟩; conv => whnf) | (refine and_idx (by omega) (by omega) ?_; conv => whnf) | (refine reg_ok (by decide +kernel) ?_; conv => whnf) | (refine bar_ok (by decide +kernel) (by decide +kernel) ?_; conv => whnf) | (refine late_ok rfl rfl ?_; conv => whnf) | (refine src_ok rfl ?_; conv => whnf) | (refine .inl ⟨_, _, qcall_pure (cv) rfl rfl, ?_⟩; conv => whnf) | (refine .inl ⟨_, _, qcall_pure (wi) rfl rfl, ?_⟩; conv => whnf) | (refine .inl ⟨_, _, qcall_pure (fo) rfl rfl, ?_⟩; conv => whnf) | (refine .inl ⟨_, _, qcall_pure (fi) rfl rfl, ?_⟩; conv => whnf) | (refine .inl ⟨_, _, qcall_pure (ad) rfl rfl, ?_⟩; conv => whnf) | (refine .inl ⟨_, _, qcall_pure (7) rfl rfl, ?_⟩; conv => whnf) | (refine .inl ⟨_, _, qcall_pure (15) rfl rfl, ?_⟩; conv => whnf) | (refine bar_late [7] (by decide +kernel) (by decide +kernel) ?_; conv => whnf) | (refine bar_late [15] (by decide +kernel) (by decide +kernel) ?_; conv => whnf) | (refine LitB.data ?_; conv => whnf) | (refine BoxB.own ?_; conv => whnf)))
    all_goals first
      | (exfalso; simp_all; done)
      | exact fin_fb rfl rfl
abbrev ivL (o : Option (Rat × Rat)) : List S := match o with
  | some (lo, hi) => [frS (fz lo), frS (fz hi), boolS true]
  | none => [frS zeroF, frS zeroF, boolS false]
theorem rl_maxR {x y : Rat} {n : Nat} (h1 : rl x ≤ n) (h2 : rl y ≤ n) : rl (maxR x y) ≤ n := by unfold maxR; split <;> assumption
theorem rl_interval {cs : List Cert} {rs : List Recall} {scale reading day : Int} {lo hi : Rat} (h : interval cs rs scale reading day = some (lo, hi)) : rl lo ≤ 20 ∧ rl hi ≤ 20 := by
  unfold interval at h
  split at h
  · cases h
  · rename_i i hi
    obtain ⟨hb, c, hc, _, hcv⟩ := findTo_some hi
    have e : certAt cs i = c := by unfold certAt; rw [hc]; rfl
    rw [e] at h
    split at h
    · cases h
    · split at h
      · rename_i hr
        injection h with h
        injection h with h1 h2
        have l1 := rl_err hcv hr
        rw [btw_iff] at hr
        have l2 : rl (reading : Rat) ≤ 4 := by rw [rl_int]; have := bl_int (x := reading) (by omega) (by omega); omega
        have l3 := rl_add (reading : Rat) (errR c reading day)
        have l4 := rl_sub (reading : Rat) (errR c reading day)
        refine ⟨?_, by rw [← h2]; omega⟩
        rw [← h1]
        exact rl_maxR (by omega) (by rw [rl_zero]; omega)
      · cases h
theorem a_Interval (cs : List Cert) (rs : List Recall) (hl : cs.length ≤ 1000000) (hl2 : rs.length ≤ 1000000) (scale reading day : Int) :
    ACall Try.prog 85 [.c (.t (certsT cs)), .c (.t (recallsT rs)), intS .i64 scale, intS .i64 reading, intS .i64 day] [] (.tup (ivL (interval cs rs scale reading day))) [] := by
  have f := a_Find cs scale day hl
  have r := a_Recalled rs hl2 scale day
  unfold interval
  cases hf : findTo cs scale day cs.length with
  | none =>
    rw [hf] at f
    (refine acall_of tab_ok Try.func85 rfl (by decide) ?_; (conv => whnf); repeat (first | (refine LitB.data ?_; conv => whnf) | (refine BoxB.own ?_; conv => whnf)))
    (repeat' (first | ((refine DecB.mk (fun h => ?_) (fun h => ?_)) <;> first | (exfalso; omega) | (conv => whnf)) | ((refine BoolB.mk (fun h => ?_) (fun h => ?_)) <;> first | (exact absurd h (by decide)) | (conv => whnf)) | (refine ⟨_, wrap_ok (by omega) (by omega), ?_⟩; conv => whnf) | (refine and_idx (by omega) (by omega) ?_; conv => whnf) | (refine reg_ok (by decide +kernel) ?_; conv => whnf) | (refine bar_ok (by decide +kernel) (by decide +kernel) ?_; conv => whnf) | (refine late_ok rfl rfl ?_; conv => whnf) | (refine src_ok rfl ?_; conv => whnf) | (refine .inl ⟨_, _, qcall_pure (f) rfl rfl, ?_⟩; conv => whnf) | (refine .inl ⟨_, _, qcall_pure (r) rfl rfl, ?_⟩; conv => whnf) | (refine .inl ⟨_, _, qcall_pure (1) rfl rfl, ?_⟩; conv => whnf) | (refine .inl ⟨_, _, qcall_pure (6) rfl rfl, ?_⟩; conv => whnf) | (refine bar_late [1] (by decide +kernel) (by decide +kernel) ?_; conv => whnf) | (refine bar_late [6] (by decide +kernel) (by decide +kernel) ?_; conv => whnf) | (refine LitB.data ?_; conv => whnf) | (refine BoxB.own ?_; conv => whnf)))
    all_goals first
      | (exfalso; simp_all; done)
      | exact fin_t ⟨⟨rfl, rfl, rfl, rfl, trivial⟩, ⟨rfl, rfl, rfl, rfl, trivial⟩, rfl, trivial⟩
  | some i =>
    rw [hf] at f
    obtain ⟨hb, c, hc, _, hcv⟩ := findTo_some hf
    have e : certAt cs i = c := by unfold certAt; rw [hc]; rfl
    have er := a_Error c reading day hcv
    simp only [e]
    cases hrec : recalled rs scale day with
    | true =>
      rw [hrec] at r
      (refine acall_of tab_ok Try.func85 rfl (by decide) ?_; (conv => whnf); repeat (first | (refine LitB.data ?_; conv => whnf) | (refine BoxB.own ?_; conv => whnf)))
      (repeat' (first | ((refine DecB.mk (fun h => ?_) (fun h => ?_)) <;> first | (exfalso; omega) | (conv => whnf)) | ((refine BoolB.mk (fun h => ?_) (fun h => ?_)) <;> first | (exact absurd h (by decide)) | (conv => whnf)) | (refine ⟨_, wrap_ok (by omega) (by omega), ?_⟩; conv => whnf) | (refine and_idx (by omega) (by omega) ?_; conv => whnf) | (refine reg_ok (by decide +kernel) ?_; conv => whnf) | (refine bar_ok (by decide +kernel) (by decide +kernel) ?_; conv => whnf) | (refine late_ok rfl rfl ?_; conv => whnf) | (refine src_ok rfl ?_; conv => whnf) | (refine .inl ⟨_, _, qcall_pure (f) rfl rfl, ?_⟩; conv => whnf) | (refine .inl ⟨_, _, qcall_pure (r) rfl rfl, ?_⟩; conv => whnf) | (refine .inl ⟨_, _, qcall_pure (1) rfl rfl, ?_⟩; conv => whnf) | (refine .inl ⟨_, _, qcall_pure (6) rfl rfl, ?_⟩; conv => whnf) | (refine bar_late [1] (by decide +kernel) (by decide +kernel) ?_; conv => whnf) | (refine bar_late [6] (by decide +kernel) (by decide +kernel) ?_; conv => whnf) | (refine LitB.data ?_; conv => whnf) | (refine BoxB.own ?_; conv => whnf)))
      all_goals first
        | (exfalso; simp_all; done)
        | exact fin_t ⟨⟨rfl, rfl, rfl, rfl, trivial⟩, ⟨rfl, rfl, rfl, rfl, trivial⟩, rfl, trivial⟩
    | false =>
      rw [hrec] at r
      cases hr : btw reading 0 1099511627776 with
      | false =>
        rw [hr] at er
        (refine acall_of tab_ok Try.func85 rfl (by decide) ?_; (conv => whnf); repeat (first | (refine LitB.data ?_; conv => whnf) | (refine BoxB.own ?_; conv => whnf)))
        (repeat' (first | ((refine DecB.mk (fun h => ?_) (fun h => ?_)) <;> first | (exfalso; omega) | (conv => whnf)) | ((refine BoolB.mk (fun h => ?_) (fun h => ?_)) <;> first | (exact absurd h (by decide)) | (conv => whnf)) | (refine ⟨_, wrap_ok (by omega) (by omega), ?_⟩; conv => whnf) | (refine and_idx (by omega) (by omega) ?_; conv => whnf) | (refine reg_ok (by decide +kernel) ?_; conv => whnf) | (refine bar_ok (by decide +kernel) (by decide +kernel) ?_; conv => whnf) | (refine late_ok rfl rfl ?_; conv => whnf) | (refine src_ok rfl ?_; conv => whnf) | (refine .inl ⟨_, _, qcall_pure (f) rfl rfl, ?_⟩; conv => whnf) | (refine .inl ⟨_, _, qcall_pure (r) rfl rfl, ?_⟩; conv => whnf) | (refine .inl ⟨_, _, qcall_pure (er) rfl rfl, ?_⟩; conv => whnf) | (refine .inl ⟨_, _, qcall_pure (1) rfl rfl, ?_⟩; conv => whnf) | (refine .inl ⟨_, _, qcall_pure (9) rfl rfl, ?_⟩; conv => whnf) | (refine ex_row hc ?_; conv => whnf) | (refine bar_late [1] (by decide +kernel) (by decide +kernel) ?_; conv => whnf) | (refine bar_late [9] (by decide +kernel) (by decide +kernel) ?_; conv => whnf) | (refine LitB.data ?_; conv => whnf) | (refine BoxB.own ?_; conv => whnf)))
        all_goals first
          | exact fin_t ⟨⟨rfl, rfl, rfl, rfl, trivial⟩, ⟨rfl, rfl, rfl, rfl, trivial⟩, rfl, trivial⟩
          | (exfalso; simp_all; done)
      | true =>
        have l1 := rl_err hcv hr
        rw [hr] at er
        rw [btw_iff] at hr
        have l2 : rl (reading : Rat) ≤ 4 := by rw [rl_int]; have := bl_int (x := reading) (by omega) (by omega); omega
        have fi := z_fInt reading (by omega) (by omega)
        have f0 := z_fInt 0 (by omega) (by omega)
        have sb := z_fSub (reading : Rat) (errR c reading day) (by omega) (by omega)
        have ad := z_fAdd (reading : Rat) (errR c reading day) (by omega) (by omega)
        have l4 := rl_sub (reading : Rat) (errR c reading day)
        have mx := z_fMax ((reading : Rat) - errR c reading day) ((0 : Int) : Rat) (by omega) (by rw [rl_zero]; omega)
        (refine acall_of tab_ok Try.func85 rfl (by decide) ?_; (conv => whnf); repeat (first | (refine LitB.data ?_; conv => whnf) | (refine BoxB.own ?_; conv => whnf)))
        (repeat' (first | ((refine DecB.mk (fun h => ?_) (fun h => ?_)) <;> first | (exfalso; omega) | (conv => whnf)) | ((refine BoolB.mk (fun h => ?_) (fun h => ?_)) <;> first | (exact absurd h (by decide)) | (conv => whnf)) | (refine ⟨_, wrap_ok (by omega) (by omega), ?_⟩; conv => whnf) | (refine and_idx (by omega) (by omega) ?_; conv => whnf) | (refine reg_ok (by decide +kernel) ?_; conv => whnf) | (refine bar_ok (by decide +kernel) (by decide +kernel) ?_; conv => whnf) | (refine late_ok rfl rfl ?_; conv => whnf) | (refine src_ok rfl ?_; conv => whnf) | (refine .inl ⟨_, _, qcall_pure (f) rfl rfl, ?_⟩; conv => whnf) | (refine .inl ⟨_, _, qcall_pure (r) rfl rfl, ?_⟩; conv => whnf) | (refine .inl ⟨_, _, qcall_pure (er) rfl rfl, ?_⟩; conv => whnf) | (refine .inl ⟨_, _, qcall_pure (fi) rfl rfl, ?_⟩; conv => whnf) | (refine .inl ⟨_, _, qcall_pure (f0) rfl rfl, ?_⟩; conv => whnf) | (refine .inl ⟨_, _, qcall_pure (sb) rfl rfl, ?_⟩; conv => whnf) | (refine .inl ⟨_, _, qcall_pure (ad) rfl rfl, ?_⟩; conv => whnf) | (refine .inl ⟨_, _, qcall_pure (mx) rfl rfl, ?_⟩; conv => whnf) | (refine .inl ⟨_, _, qcall_pure (1) rfl rfl, ?_⟩; conv => whnf) | (refine .inl ⟨_, _, qcall_pure (9) rfl rfl, ?_⟩; conv => whnf) | (refine .inl ⟨_, _, qcall_pure (5) rfl rfl, ?_⟩; conv => whnf) | (refine ex_row hc ?_; conv => whnf) | (refine bar_late [1] (by decide +kernel) (by decide +kernel) ?_; conv => whnf) | (refine bar_late [9] (by decide +kernel) (by decide +kernel) ?_; conv => whnf) | (refine bar_late [5] (by decide +kernel) (by decide +kernel) ?_; conv => whnf) | (refine LitB.data ?_; conv => whnf) | (refine BoxB.own ?_; conv => whnf)))
        all_goals first
          | exact fin_t ⟨⟨rfl, rfl, rfl, rfl, trivial⟩, ⟨rfl, rfl, rfl, rfl, trivial⟩, rfl, trivial⟩
          | (exfalso; simp_all; done)
end Go.Proofs.Ytomfnfbijgjfeaa
/- history: shaped, sum, negative, weighed, pure. -/
namespace Go.Proofs.Ytomfnfbijgjfeaa
open Go.RowKit
set_option linter.unusedVariables false
set_option linter.unusedSimpArgs false
set_option maxRecDepth 100000

def frRow (f : Fr) : List T := [ti f.p.sg, intsT f.p.dl, ti f.q.sg, intsT f.q.dl]
abbrev fracsT (l : List Fr) : T := .sl 4 .any (l.map frRow)
abbrev fracsS (l : List Fr) : S := .c (.t (fracsT l))
def fracsRow (l : List Fr) : List T := [fracsT l]
abbrev histT (h : List (List Fr)) : T := .sl 1 .any (h.map fracsRow)
abbrev histS (h : List (List Fr)) : S := .c (.t (histT h))
abbrev evP (e : Ev) : T := .ptr (evT e)
/-- small enough to be calculated with -/
structure SmallH (n : Nat) (h : List (List Fr)) : Prop where
  l1 : h.length ≤ 1000000
  l2 : ∀ l ∈ h, l.length ≤ 1000000
  l3 : ∀ l ∈ h, ∀ f ∈ l, f.p.dl.length ≤ n ∧ f.q.dl.length ≤ n
theorem all_take_full {α : Type} {l : List α} {f : α → Bool} (h : (l.take l.length).all f = true) : l.all f = true := by rwa [List.take_of_length_le (Nat.le_refl _)] at h
theorem a_shaped (e : Ev) (hh : List (List Fr)) (hs : SmallH 200000 hh) (hm : e.moves.length ≤ 1000000) : ACall Try.prog 66 [evS e, histS hh] [] (boolS (shapedB e hh)) [] := by
  have m1 : (hh.map fracsRow).length = hh.length := by simp
  have m2 : (e.moves.map Move.row).length = e.moves.length := by simp
  have l1 := hs.l1
  let P : List Fr → Bool := fun l => decide ((l.length : Int) = e.mats) && l.all rightF
  have hP : shapedB e hh = (decide (hh.length = e.moves.length) && hh.all P) := rfl
  by_cases hlen : hh.length = e.moves.length
  · (refine acall_of tab_ok Try.func66 rfl (by decide) ?_; (conv => whnf); repeat (first | (refine LitB.data ?_; conv => whnf) | (refine BoxB.data ?_; conv => whnf)))
    (repeat' (first | ((refine DecB.mk (fun h => ?_) (fun h => ?_)) <;> first | (exfalso; omega) | (conv => whnf)) | ((refine BoolB.mk (fun h => ?_) (fun h => ?_)) <;> first | (exact absurd h (by decide)) | (conv => whnf)) | (refine ⟨_, wrap_ok (by omega) (by omega), ?_⟩; conv => whnf) | (refine and_idx (by omega) (by omega) ?_; conv => whnf) | (refine reg_ok (by decide +kernel) ?_; conv => whnf) | (refine bar_ok (by decide +kernel) (by decide +kernel) ?_; conv => whnf) | (refine late_ok rfl rfl ?_; conv => whnf) | (refine src_ok rfl ?_; conv => whnf) | (refine LitB.data ?_; conv => whnf) | (refine BoxB.own ?_; conv => whnf)))
    refine awp_for tab_ok (fun k => ([S.junk, S.junk, S.c (C.t (evP e)), S.junk, S.junk, S.junk, S.junk, S.junk, S.junk, S.junk, S.junk, S.junk, S.junk, S.junk, S.junk, histS hh, intS .i64 hh.length, intS .i64 k, S.junk, S.junk, S.junk, S.junk, S.junk, S.junk, S.junk, S.junk, S.junk, S.junk, S.junk, S.junk, S.junk, S.junk, S.junk, S.junk, S.junk, S.junk, S.junk], [])) hh.length (fun k => (hh.take k).all P = true) [] rfl
      ⟨rfl, rfl, trivial, ⟨rfl, ent_t rfl, ent_i (by simp), rfl, trivial⟩⟩ ?_
    intro k hk hI
    by_cases hlt : k < hh.length
    · obtain ⟨l, hl⟩ : ∃ l, hh[k]? = some l := ⟨_, List.getElem?_eq_getElem hlt⟩
      have hmem := List.mem_of_getElem? hl
      have l2 := hs.l2 l hmem
      have m3 : (l.map frRow).length = l.length := by simp
      have hall : (hh.take (k + 1)).all P = P l := by rw [all_take_succ hl, hI, Bool.true_and]
      conv => whnf
      (repeat' (first | ((refine DecB.mk (fun h => ?_) (fun h => ?_)) <;> first | (exfalso; omega) | (conv => whnf)) | ((refine BoolB.mk (fun h => ?_) (fun h => ?_)) <;> first | (exact absurd h (by decide)) | (conv => whnf)) | (refine ⟨_, wrap_ok (by omega) (by omega), ?_⟩; conv => whnf) | (refine and_idx (by omega) (by omega) ?_; conv => whnf) | (refine reg_ok (by decide +kernel) ?_; conv => whnf) | (refine bar_ok (by decide +kernel) (by decide +kernel) ?_; conv => whnf) | (refine late_ok rfl rfl ?_; conv => whnf) | (refine src_ok rfl ?_; conv => whnf) | (refine ex_row hl ?_; conv => whnf) | (refine LitB.data ?_; conv => whnf) | (refine BoxB.own ?_; conv => whnf)))
      · have hd : ¬ (l.length : Int) = e.mats := by omega
        refine fin_bool ?_
        rw [hP, all_of_get hl (by simp [P, hd])]; simp
      · have hd : (l.length : Int) = e.mats := by omega
        refine awp_for tab_ok (fun j => ([S.junk, S.junk, S.c (C.t (evP e)), S.junk, S.junk, S.junk, S.junk, S.junk, S.junk, S.junk, S.junk, S.junk, S.junk, S.junk, S.junk, histS hh, intS .i64 hh.length, intS .i64 k, S.junk, S.junk, S.junk, S.junk, S.junk, S.junk, S.junk, S.junk, fracsS l, intS .i64 l.length, intS .i64 j, S.junk, S.junk, S.junk, S.junk, S.junk, S.junk, S.junk, S.junk], [])) l.length (fun j => (l.take j).all rightF = true) [] rfl
          ⟨rfl, rfl, trivial, ⟨rfl, rfl, rfl, rfl, ent_t rfl, ent_i (by simp), rfl, trivial⟩⟩ ?_
        intro j hj hJ
        by_cases hjt : j < l.length
        · obtain ⟨f, hf⟩ : ∃ f, l[j]? = some f := ⟨_, List.getElem?_eq_getElem hjt⟩
          have l3 := hs.l3 l hmem f (List.mem_of_getElem? hf)
          have r := a_fRight f l3.1 l3.2
          conv => whnf
          (repeat' (first | ((refine DecB.mk (fun h => ?_) (fun h => ?_)) <;> first | (exfalso; omega) | (conv => whnf)) | ((refine BoolB.mk (fun h => ?_) (fun h => ?_)) <;> first | (exact absurd h (by decide)) | (conv => whnf)) | (refine ⟨_, wrap_ok (by omega) (by omega), ?_⟩; conv => whnf) | (refine and_idx (by omega) (by omega) ?_; conv => whnf) | (refine reg_ok (by decide +kernel) ?_; conv => whnf) | (refine bar_ok (by decide +kernel) (by decide +kernel) ?_; conv => whnf) | (refine late_ok rfl rfl ?_; conv => whnf) | (refine src_ok rfl ?_; conv => whnf) | (refine .inl ⟨_, _, qcall_pure (r) rfl rfl, ?_⟩; conv => whnf) | (refine ex_row hf ?_; conv => whnf) | (refine LitB.data ?_; conv => whnf) | (refine BoxB.own ?_; conv => whnf)))
          all_goals first
            | (exfalso; omega)
            | (have hr : rightF f = true := by assumption
               exact ⟨hjt, by rw [all_take_succ hf, hJ, hr]; rfl, [], rfl, rfl, trivial, ⟨rfl, rfl, rfl, rfl, rfl, rfl, rfl, trivial⟩⟩)
            | (have hr : rightF f = false := by assumption
               refine fin_bool ?_
               rw [hP, all_of_get hl (by simp only [P]; rw [all_of_get hf hr, Bool.and_false]), Bool.and_false])
        · have hje : j = l.length := by omega
          subst hje
          conv => whnf
          (repeat' (first | ((refine DecB.mk (fun h => ?_) (fun h => ?_)) <;> first | (exfalso; omega) | (conv => whnf)) | ((refine BoolB.mk (fun h => ?_) (fun h => ?_)) <;> first | (exact absurd h (by decide)) | (conv => whnf)) | (refine ⟨_, wrap_ok (by omega) (by omega), ?_⟩; conv => whnf) | (refine and_idx (by omega) (by omega) ?_; conv => whnf) | (refine reg_ok (by decide +kernel) ?_; conv => whnf) | (refine bar_ok (by decide +kernel) (by decide +kernel) ?_; conv => whnf) | (refine late_ok rfl rfl ?_; conv => whnf) | (refine src_ok rfl ?_; conv => whnf) | (refine LitB.data ?_; conv => whnf) | (refine BoxB.own ?_; conv => whnf)))
          all_goals first
            | (exfalso; omega)
            | exact ⟨hlt, by rw [hall]; simp only [P]; rw [all_take_full hJ]; simp [hd], [], rfl, rfl, trivial, ⟨rfl, rfl, rfl, rfl, trivial⟩⟩
    · have hke : k = hh.length := by omega
      subst hke
      conv => whnf
      (repeat' (first | ((refine DecB.mk (fun h => ?_) (fun h => ?_)) <;> first | (exfalso; omega) | (conv => whnf)) | ((refine BoolB.mk (fun h => ?_) (fun h => ?_)) <;> first | (exact absurd h (by decide)) | (conv => whnf)) | (refine ⟨_, wrap_ok (by omega) (by omega), ?_⟩; conv => whnf) | (refine and_idx (by omega) (by omega) ?_; conv => whnf) | (refine reg_ok (by decide +kernel) ?_; conv => whnf) | (refine bar_ok (by decide +kernel) (by decide +kernel) ?_; conv => whnf) | (refine late_ok rfl rfl ?_; conv => whnf) | (refine src_ok rfl ?_; conv => whnf) | (refine LitB.data ?_; conv => whnf) | (refine BoxB.own ?_; conv => whnf)))
      all_goals first
        | (exfalso; omega)
        | (refine fin_bool ?_; rw [hP, all_take_full hI]; simp [hlen])
  · (refine acall_of tab_ok Try.func66 rfl (by decide) ?_; (conv => whnf); repeat (first | (refine LitB.data ?_; conv => whnf) | (refine BoxB.data ?_; conv => whnf)))
    (repeat' (first | ((refine DecB.mk (fun h => ?_) (fun h => ?_)) <;> first | (exfalso; omega) | (conv => whnf)) | ((refine BoolB.mk (fun h => ?_) (fun h => ?_)) <;> first | (exact absurd h (by decide)) | (conv => whnf)) | (refine ⟨_, wrap_ok (by omega) (by omega), ?_⟩; conv => whnf) | (refine and_idx (by omega) (by omega) ?_; conv => whnf) | (refine reg_ok (by decide +kernel) ?_; conv => whnf) | (refine bar_ok (by decide +kernel) (by decide +kernel) ?_; conv => whnf) | (refine late_ok rfl rfl ?_; conv => whnf) | (refine src_ok rfl ?_; conv => whnf) | (refine LitB.data ?_; conv => whnf) | (refine BoxB.own ?_; conv => whnf)))
    all_goals first
      | (exfalso; omega)
      | (refine fin_bool ?_; rw [hP]; simp [hlen])
theorem zero_get (l : List Rat) {k : Nat} {x : Rat} (h : l[k]? = some x) : (l.map fz)[k]? = some (fz x) := by rw [List.getElem?_map, h]; rfl
theorem sumR_take {l : List Rat} {k : Nat} {x : Rat} (h : l[k]? = some x) : sumR (l.take (k + 1)) = sumR (l.take k) + x := by rw [List.take_add_one, h]; exact sumR_snoc _ _
theorem fin_f {f f' : Fr} {H1 : Hp} (h : f = f') : Fin 0 (frS f) H1 (frS f') [] := by subst h; exact fin_t ⟨rfl, rfl, rfl, rfl, trivial⟩
abbrev frB (f : Fr) : Blk := { mode := .live, elem := 51, size := 4, rows := [frC f], box := true }
theorem rowsT_fr (f : Fr) : rowsT [frC f] := by
  intro r hr c hc
  simp at hr
  subst hr
  simp [frC] at hc
  rcases hc with rfl | rfl | rfl | rfl <;> rfl
theorem z_sum (l : List Rat) (hB : ∀ x ∈ l, rl x ≤ 200) (hl : l.length ≤ 200) : ACall Try.prog 70 [fracsS (l.map fz)] [] (frS (fz (sumR l))) [] := by
  have m1 : ((l.map fz).map frRow).length = l.length := by simp
  have i0 := z_fInt 0 (by decide) (by decide)
  (refine acall_of tab_ok Try.func70 rfl (by decide) ?_; (conv => whnf); repeat (first | (refine LitB.data ?_; conv => whnf) | (refine BoxB.own ?_; conv => whnf)))
  (repeat' (first | ((refine DecB.mk (fun h => ?_) (fun h => ?_)) <;> first | (exfalso; omega) | (conv => whnf)) | ((refine BoolB.mk (fun h => ?_) (fun h => ?_)) <;> first | (exact absurd h (by decide)) | (conv => whnf)) | (refine ⟨_, wrap_ok (by omega) (by omega), ?_⟩; conv => whnf) | (refine and_idx (by omega) (by omega) ?_; conv => whnf) | (refine reg_ok (by decide +kernel) ?_; conv => whnf) | (refine bar_ok (by decide +kernel) (by decide +kernel) ?_; conv => whnf) | (refine late_ok rfl rfl ?_; conv => whnf) | (refine src_ok rfl ?_; conv => whnf) | (refine .inl ⟨_, _, qcall_pure (i0) rfl rfl, ?_⟩; conv => whnf) | (refine LitB.data ?_; conv => whnf) | (refine BoxB.own ?_; conv => whnf)))
  refine awp_for tab_ok (fun k => ([S.junk, S.junk, S.c (C.ptr 0 0 0), S.c (C.ptr 1 0 0), S.junk, S.junk, S.junk, fracsS (l.map fz), intS .i64 l.length, intS .i64 k, S.junk, S.junk, S.junk, S.junk, S.junk, S.junk, S.junk, S.junk, S.junk, S.junk, S.junk], [frB zeroF, frB (fz (sumR (l.take k)))])) l.length (fun _ => True) [some 0, some 1] trivial
    ⟨rfl, rfl, ⟨⟨rfl, rfl, rfl, .inr ⟨⟨rfl, rfl, rfl, rfl, trivial⟩, trivial⟩⟩, ⟨rfl, rfl, rfl, .inl ⟨rfl, rowsT_fr _⟩⟩, trivial⟩, ⟨⟨rfl, rfl, rfl⟩, ⟨rfl, rfl, rfl⟩, ent_t rfl, ent_i (by simp), rfl, trivial⟩⟩ ?_
  intro k hk _
  by_cases hlt : k < l.length
  · obtain ⟨x, hx⟩ : ∃ x, l[k]? = some x := ⟨_, List.getElem?_eq_getElem hlt⟩
    have bx := hB x (List.mem_of_getElem? hx)
    have bs := rl_sumR (l := l.take k) (B := 200) fun y hy => hB y (List.mem_of_mem_take hy)
    have lt : (l.take k).length ≤ 200 := by simp; omega
    have bs2 : rl (sumR (l.take k)) ≤ 200 * 201 + 1 := Nat.le_trans bs (by have := Nat.mul_le_mul_right (200 + 1) lt; omega)
    have ad := z_fAdd (sumR (l.take k)) x (by omega) (by omega)
    rw [← sumR_take hx] at ad
    conv => whnf
    (repeat' (first | ((refine DecB.mk (fun h => ?_) (fun h => ?_)) <;> first | (exfalso; omega) | (conv => whnf)) | ((refine BoolB.mk (fun h => ?_) (fun h => ?_)) <;> first | (exact absurd h (by decide)) | (conv => whnf)) | (refine ⟨_, wrap_ok (by omega) (by omega), ?_⟩; conv => whnf) | (refine and_idx (by omega) (by omega) ?_; conv => whnf) | (refine reg_ok (by decide +kernel) ?_; conv => whnf) | (refine bar_ok (by decide +kernel) (by decide +kernel) ?_; conv => whnf) | (refine late_ok rfl rfl ?_; conv => whnf) | (refine src_ok rfl ?_; conv => whnf) | (refine .inl ⟨_, _, qcall_pure (ad) rfl rfl, ?_⟩; conv => whnf) | (refine .inl ⟨_, _, qcall_pure (5) rfl rfl, ?_⟩; conv => whnf) | (refine ex_row (zero_get l hx) ?_; conv => whnf) | (refine bar_late [5] (by decide +kernel) (by decide +kernel) ?_; conv => whnf) | (refine LitB.data ?_; conv => whnf) | (refine BoxB.own ?_; conv => whnf)))
    all_goals first
      | (exfalso; omega)
      | exact ⟨hlt, trivial, [some 0, some 1], rfl, rfl, ⟨⟨rfl, rfl, rfl, .inl ⟨rfl, rowsT_fr _⟩⟩, ⟨rfl, rfl, rfl, .inl ⟨rfl, rowsT_fr _⟩⟩, trivial⟩, ⟨⟨rfl, rfl, rfl⟩, ⟨rfl, rfl, rfl⟩, rfl, rfl, rfl, trivial⟩⟩
  · have hke : k = l.length := by omega
    subst hke
    rw [List.take_of_length_le (Nat.le_refl _)]
    conv => whnf
    (repeat' (first | ((refine DecB.mk (fun h => ?_) (fun h => ?_)) <;> first | (exfalso; omega) | (conv => whnf)) | ((refine BoolB.mk (fun h => ?_) (fun h => ?_)) <;> first | (exact absurd h (by decide)) | (conv => whnf)) | (refine ⟨_, wrap_ok (by omega) (by omega), ?_⟩; conv => whnf) | (refine and_idx (by omega) (by omega) ?_; conv => whnf) | (refine reg_ok (by decide +kernel) ?_; conv => whnf) | (refine bar_ok (by decide +kernel) (by decide +kernel) ?_; conv => whnf) | (refine late_ok rfl rfl ?_; conv => whnf) | (refine src_ok rfl ?_; conv => whnf) | (refine LitB.data ?_; conv => whnf) | (refine BoxB.own ?_; conv => whnf)))
    all_goals first
      | (exfalso; omega)
      | exact fin_f rfl
theorem sgR_neg {x : Rat} : sgR x < 0 ↔ x < 0 := by unfold sgR; split <;> (try split) <;> simp_all
theorem z_negative (l : List Rat) (hB : ∀ x ∈ l, rl x ≤ 200) (hl : l.length ≤ 200) : ACall Try.prog 68 [fracsS (l.map fz)] [] (boolS (l.any fun v => decide (v < 0))) [] := by
  have m1 : ((l.map fz).map frRow).length = l.length := by simp
  (refine acall_of tab_ok Try.func68 rfl (by decide) ?_; (conv => whnf); repeat (first | (refine LitB.data ?_; conv => whnf) | (refine BoxB.own ?_; conv => whnf)))
  (repeat' (first | ((refine DecB.mk (fun h => ?_) (fun h => ?_)) <;> first | (exfalso; omega) | (conv => whnf)) | ((refine BoolB.mk (fun h => ?_) (fun h => ?_)) <;> first | (exact absurd h (by decide)) | (conv => whnf)) | (refine ⟨_, wrap_ok (by omega) (by omega), ?_⟩; conv => whnf) | (refine and_idx (by omega) (by omega) ?_; conv => whnf) | (refine reg_ok (by decide +kernel) ?_; conv => whnf) | (refine bar_ok (by decide +kernel) (by decide +kernel) ?_; conv => whnf) | (refine late_ok rfl rfl ?_; conv => whnf) | (refine src_ok rfl ?_; conv => whnf) | (refine LitB.data ?_; conv => whnf) | (refine BoxB.own ?_; conv => whnf)))
  refine awp_for tab_ok (fun k => ([S.junk, S.junk, S.junk, S.junk, S.junk, fracsS (l.map fz), intS .i64 l.length, intS .i64 k, S.junk, S.junk, S.junk, S.junk, S.junk, S.junk, S.junk], [])) l.length (fun k => (l.take k).any (fun v => decide (v < 0)) = false) [] rfl
    ⟨rfl, rfl, trivial, ⟨ent_t rfl, ent_i (by simp), rfl, trivial⟩⟩ ?_
  intro k hk hI
  by_cases hlt : k < l.length
  · obtain ⟨x, hx⟩ : ∃ x, l[k]? = some x := ⟨_, List.getElem?_eq_getElem hlt⟩
    have bx := hB x (List.mem_of_getElem? hx)
    have sg := z_fSign x (by omega)
    conv => whnf
    (repeat' (first | ((refine DecB.mk (fun h => ?_) (fun h => ?_)) <;> first | (exfalso; omega) | (conv => whnf)) | ((refine BoolB.mk (fun h => ?_) (fun h => ?_)) <;> first | (exact absurd h (by decide)) | (conv => whnf)) | (refine ⟨_, wrap_ok (by omega) (by omega), ?_⟩; conv => whnf) | (refine and_idx (by omega) (by omega) ?_; conv => whnf) | (refine reg_ok (by decide +kernel) ?_; conv => whnf) | (refine bar_ok (by decide +kernel) (by decide +kernel) ?_; conv => whnf) | (refine late_ok rfl rfl ?_; conv => whnf) | (refine src_ok rfl ?_; conv => whnf) | (refine .inl ⟨_, _, qcall_pure (sg) rfl rfl, ?_⟩; conv => whnf) | (refine ex_row (zero_get l hx) ?_; conv => whnf) | (refine LitB.data ?_; conv => whnf) | (refine BoxB.own ?_; conv => whnf)))
    all_goals first
      | (exfalso; omega)
      | (have h0 : sgR x < 0 := by omega
         refine fin_bool ?_; rw [any_of_get hx (by simpa using sgR_neg.1 h0)])
      | (have h0 : ¬ sgR x < 0 := by omega
         have h1 : ¬ x < 0 := fun h => h0 (sgR_neg.2 h)
         exact ⟨hlt, by rw [any_take_succ hx, hI]; simpa using h1, [], rfl, rfl, trivial, ⟨rfl, rfl, rfl, trivial⟩⟩)
  · have hke : k = l.length := by omega
    subst hke
    rw [List.take_of_length_le (Nat.le_refl _)] at hI
    conv => whnf
    (repeat' (first | ((refine DecB.mk (fun h => ?_) (fun h => ?_)) <;> first | (exfalso; omega) | (conv => whnf)) | ((refine BoolB.mk (fun h => ?_) (fun h => ?_)) <;> first | (exact absurd h (by decide)) | (conv => whnf)) | (refine ⟨_, wrap_ok (by omega) (by omega), ?_⟩; conv => whnf) | (refine and_idx (by omega) (by omega) ?_; conv => whnf) | (refine reg_ok (by decide +kernel) ?_; conv => whnf) | (refine bar_ok (by decide +kernel) (by decide +kernel) ?_; conv => whnf) | (refine late_ok rfl rfl ?_; conv => whnf) | (refine src_ok rfl ?_; conv => whnf) | (refine LitB.data ?_; conv => whnf) | (refine BoxB.own ?_; conv => whnf)))
    all_goals first
      | (exfalso; omega)
      | exact fin_bool hI.symm
theorem cmpR_le {x y : Rat} : cmpR x y ≤ 0 ↔ x ≤ y := by
  unfold cmpR
  split
  · simp; grind
  · split
    · simp; grind
    · simp; grind
theorem z_weighed (e : Ev) (x : Move) (mass : Rat) (hm : rl mass ≤ 60000) (hs : e.Sized) : ACall Try.prog 71 [evS e, moveS x, frS (fz mass)] [] (boolS (weighedB e x mass)) [] := by
  have l1 := hs.s3
  have l2 := hs.s4
  have iv := a_Interval e.certs e.recalls (by omega) (by omega) x.scale x.reading x.day
  unfold weighedB
  by_cases hsc : x.scale = -1
  · rw [if_pos hsc]
    (refine acall_of tab_ok Try.func71 rfl (by decide) ?_; (conv => whnf); repeat (first | (refine LitB.data ?_; conv => whnf) | (refine BoxB.own ?_; conv => whnf)))
    (repeat' (first | ((refine DecB.mk (fun h => ?_) (fun h => ?_)) <;> first | (exfalso; omega) | (conv => whnf)) | ((refine BoolB.mk (fun h => ?_) (fun h => ?_)) <;> first | (exact absurd h (by decide)) | (conv => whnf)) | (refine ⟨_, wrap_ok (by omega) (by omega), ?_⟩; conv => whnf) | (refine and_idx (by omega) (by omega) ?_; conv => whnf) | (refine reg_ok (by decide +kernel) ?_; conv => whnf) | (refine bar_ok (by decide +kernel) (by decide +kernel) ?_; conv => whnf) | (refine late_ok rfl rfl ?_; conv => whnf) | (refine src_ok rfl ?_; conv => whnf) | (refine LitB.data ?_; conv => whnf) | (refine BoxB.own ?_; conv => whnf)))
    all_goals first
      | (exfalso; omega)
      | exact fin_bool rfl
  · rw [if_neg hsc]
    cases hiv : interval e.certs e.recalls x.scale x.reading x.day with
    | none =>
      rw [hiv] at iv
      (refine acall_of tab_ok Try.func71 rfl (by decide) ?_; (conv => whnf); repeat (first | (refine LitB.data ?_; conv => whnf) | (refine BoxB.own ?_; conv => whnf)))
      (repeat' (first | ((refine DecB.mk (fun h => ?_) (fun h => ?_)) <;> first | (exfalso; omega) | (conv => whnf)) | ((refine BoolB.mk (fun h => ?_) (fun h => ?_)) <;> first | (exact absurd h (by decide)) | (conv => whnf)) | (refine ⟨_, wrap_ok (by omega) (by omega), ?_⟩; conv => whnf) | (refine and_idx (by omega) (by omega) ?_; conv => whnf) | (refine reg_ok (by decide +kernel) ?_; conv => whnf) | (refine bar_ok (by decide +kernel) (by decide +kernel) ?_; conv => whnf) | (refine late_ok rfl rfl ?_; conv => whnf) | (refine src_ok rfl ?_; conv => whnf) | (refine .inl ⟨_, _, qcall_pure (iv) rfl rfl, ?_⟩; conv => whnf) | (refine LitB.data ?_; conv => whnf) | (refine BoxB.own ?_; conv => whnf)))
      all_goals first
        | (exfalso; simp_all; done)
        | exact fin_bool rfl
    | some p =>
      obtain ⟨lo, hi⟩ := p
      obtain ⟨b1, b2⟩ := rl_interval hiv
      rw [hiv] at iv
      have c1 := z_fCompare lo mass (by omega) (by omega)
      have c2 := z_fCompare mass hi (by omega) (by omega)
      (refine acall_of tab_ok Try.func71 rfl (by decide) ?_; (conv => whnf); repeat (first | (refine LitB.data ?_; conv => whnf) | (refine BoxB.own ?_; conv => whnf)))
      (repeat' (first | ((refine DecB.mk (fun h => ?_) (fun h => ?_)) <;> first | (exfalso; omega) | (conv => whnf)) | ((refine BoolB.mk (fun h => ?_) (fun h => ?_)) <;> first | (exact absurd h (by decide)) | (conv => whnf)) | (refine ⟨_, wrap_ok (by omega) (by omega), ?_⟩; conv => whnf) | (refine and_idx (by omega) (by omega) ?_; conv => whnf) | (refine reg_ok (by decide +kernel) ?_; conv => whnf) | (refine bar_ok (by decide +kernel) (by decide +kernel) ?_; conv => whnf) | (refine late_ok rfl rfl ?_; conv => whnf) | (refine src_ok rfl ?_; conv => whnf) | (refine .inl ⟨_, _, qcall_pure (iv) rfl rfl, ?_⟩; conv => whnf) | (refine .inl ⟨_, _, qcall_pure (c1) rfl rfl, ?_⟩; conv => whnf) | (refine .inl ⟨_, _, qcall_pure (c2) rfl rfl, ?_⟩; conv => whnf) | (refine LitB.data ?_; conv => whnf) | (refine BoxB.own ?_; conv => whnf)))
      all_goals first
        | (exfalso; simp_all; done)
        | (refine fin_bool ?_; simp only [inB, ← cmpR_le]; simp; omega)
theorem cmpR_lt' {x y : Rat} : cmpR x y > 0 ↔ y < x := by
  have := cmpR_le (x := x) (y := y)
  constructor
  · intro h; have h2 : ¬ x ≤ y := fun h' => by have := this.2 h'; omega
    grind
  · intro h; have h2 : ¬ cmpR x y ≤ 0 := fun h' => by have := this.1 h'; grind
    omega
theorem purity_get {e : Ev} (h0 : saidOk e = true) {p : Purity} (hp : p ∈ e.purities) : 0 ≤ p.mat ∧ p.mat < e.mats ∧ 0 ≤ p.least ∧ p.least ≤ p.most ∧ p.most ≤ 1000 := by
  unfold saidOk at h0
  simp only [Bool.and_eq_true, List.all_eq_true] at h0
  have := h0.2 p hp
  unfold purityOk at this
  simp only [Bool.and_eq_true, decide_eq_true_eq, idx_iff] at this
  omega
theorem z_pure (e : Ev) (i : Nat) (l : List Rat) (mass : Rat) (hm : rl mass ≤ 50000) (hB : ∀ x ∈ l, rl x ≤ 200) (hl : l.length ≤ 200) (hw : (l.length : Int) = e.mats) (h0 : saidOk e = true) (hs : e.Sized) (hi : i ≤ 1000000) :
    ACall Try.prog 72 [evS e, intS .i64 i, fracsS (l.map fz), frS (fz mass)] [] (boolS (pureB e.purities i l mass)) [] := by
  have m1 : (e.purities.map Purity.row).length = e.purities.length := by simp
  have m2 : ((l.map fz).map frRow).length = l.length := by simp
  have l1 := hs.s5
  let P : Purity → Bool := fun p => decide (p.move ≠ (i : Int)) || pureOne p l mass
  have hP : pureB e.purities i l mass = e.purities.all P := rfl
  (refine acall_of tab_ok Try.func72 rfl (by decide) ?_; (conv => whnf); repeat (first | (refine LitB.data ?_; conv => whnf) | (refine BoxB.data ?_; conv => whnf)))
  (repeat' (first | ((refine DecB.mk (fun h => ?_) (fun h => ?_)) <;> first | (exfalso; omega) | (conv => whnf)) | ((refine BoolB.mk (fun h => ?_) (fun h => ?_)) <;> first | (exact absurd h (by decide)) | (conv => whnf)) | (refine ⟨_, wrap_ok (by omega) (by omega), ?_⟩; conv => whnf) | (refine and_idx (by omega) (by omega) ?_; conv => whnf) | (refine reg_ok (by decide +kernel) ?_; conv => whnf) | (refine bar_ok (by decide +kernel) (by decide +kernel) ?_; conv => whnf) | (refine late_ok rfl rfl ?_; conv => whnf) | (refine src_ok rfl ?_; conv => whnf) | (refine LitB.data ?_; conv => whnf) | (refine BoxB.own ?_; conv => whnf)))
  refine awp_for tab_ok (fun k => ([S.junk, intS .i64 i, fracsS (l.map fz), S.junk, S.junk, S.junk, S.junk, S.c (C.t (T.ptr (frRow (fz mass)))), S.junk, S.junk, S.junk, S.junk, S.junk, S.junk, S.junk, S.junk, S.junk, S.junk, S.c (C.t (puritiesT e.purities)), intS .i64 e.purities.length, intS .i64 k, S.junk, S.junk, S.junk, S.junk, S.junk, S.junk, S.junk, S.junk, S.junk, S.junk, S.junk, S.junk, S.junk, S.junk, S.junk, S.junk, S.junk, S.junk, S.junk, S.junk, S.junk, S.junk, S.junk, S.junk, S.junk, S.junk, S.junk, S.junk, S.junk, S.junk, S.junk, S.junk, S.junk, S.junk, S.junk, S.junk, S.junk, S.junk, S.junk, S.junk, S.junk, S.junk, S.junk, S.junk], [])) e.purities.length (fun k => (e.purities.take k).all P = true) [] rfl
    ⟨rfl, rfl, trivial, ⟨rfl, ent_t rfl, ent_t rfl, ent_t rfl, ent_i (by simp), rfl, trivial⟩⟩ ?_
  intro k hk hI
  by_cases hlt : k < e.purities.length
  · obtain ⟨p, hp⟩ : ∃ p, e.purities[k]? = some p := ⟨_, List.getElem?_eq_getElem hlt⟩
    have hall : (e.purities.take (k + 1)).all P = P p := by rw [all_take_succ hp, hI, Bool.true_and]
    by_cases hmv : p.move = (i : Int)
    · obtain ⟨q1, q2, q3, q4, q5⟩ := purity_get h0 (List.mem_of_getElem? hp)
      obtain ⟨x, hx⟩ : ∃ x, l[p.mat.toNat]? = some x := ⟨_, List.getElem?_eq_getElem (by omega)⟩
      have hxd : l.getD p.mat.toNat 0 = x := by rw [List.getD_eq_getElem?_getD, hx]; rfl
      have bx := hB x (List.mem_of_getElem? hx)
      have b1 : rl ((1000 : Int) : Rat) ≤ 4 := by rw [rl_int]; have := bl_int (x := 1000) (by decide) (by decide); omega
      have b2 : rl (p.least : Rat) ≤ 4 := by rw [rl_int]; have := bl_int (x := p.least) (by omega) (by omega); omega
      have b3 : rl (p.most : Rat) ≤ 4 := by rw [rl_int]; have := bl_int (x := p.most) (by omega) (by omega); omega
      have i1 := z_fInt 1000 (by decide) (by decide)
      have i2 := z_fInt p.least (by omega) (by omega)
      have i3 := z_fInt p.most (by omega) (by omega)
      have u1 := z_fMul ((1000 : Int) : Rat) x (by omega) (by omega)
      have u2 := z_fMul (p.least : Rat) mass (by omega) (by omega)
      have u3 := z_fMul (p.most : Rat) mass (by omega) (by omega)
      have k1 := rl_mul ((1000 : Int) : Rat) x
      have k2 := rl_mul (p.least : Rat) mass
      have k3 := rl_mul (p.most : Rat) mass
      have c1 := z_fCompare (((1000 : Int) : Rat) * x) ((p.least : Rat) * mass) (by omega) (by omega)
      have c2 := z_fCompare (((1000 : Int) : Rat) * x) ((p.most : Rat) * mass) (by omega) (by omega)
      have hPp : P p = (decide (¬ cmpR (((1000 : Int) : Rat) * x) ((p.least : Rat) * mass) < 0) && decide (cmpR (((1000 : Int) : Rat) * x) ((p.most : Rat) * mass) ≤ 0)) := by
        simp only [P, pureOne, hmv, hxd]
        simp only [cmpR_lt, cmpR_le]
        have e1 : ((p.least : Rat) * mass ≤ ((1000 : Int) : Rat) * x) ↔ ¬ (((1000 : Int) : Rat) * x < (p.least : Rat) * mass) := by grind
        simp only [e1]
        simp
      conv => whnf
      (repeat' (first | ((refine DecB.mk (fun h => ?_) (fun h => ?_)) <;> first | (exfalso; omega) | (conv => whnf)) | ((refine BoolB.mk (fun h => ?_) (fun h => ?_)) <;> first | (exact absurd h (by decide)) | (conv => whnf)) | (refine ⟨_, wrap_ok (by omega) (by omega), ?_⟩; conv => whnf) | (refine and_idx (by omega) (by omega) ?_; conv => whnf) | (refine reg_ok (by decide +kernel) ?_; conv => whnf) | (refine bar_ok (by decide +kernel) (by decide +kernel) ?_; conv => whnf) | (refine late_ok rfl rfl ?_; conv => whnf) | (refine src_ok rfl ?_; conv => whnf) | (refine .inl ⟨_, _, qcall_pure (i1) rfl rfl, ?_⟩; conv => whnf) | (refine .inl ⟨_, _, qcall_pure (i2) rfl rfl, ?_⟩; conv => whnf) | (refine .inl ⟨_, _, qcall_pure (i3) rfl rfl, ?_⟩; conv => whnf) | (refine .inl ⟨_, _, qcall_pure (u1) rfl rfl, ?_⟩; conv => whnf) | (refine .inl ⟨_, _, qcall_pure (u2) rfl rfl, ?_⟩; conv => whnf) | (refine .inl ⟨_, _, qcall_pure (u3) rfl rfl, ?_⟩; conv => whnf) | (refine .inl ⟨_, _, qcall_pure (c1) rfl rfl, ?_⟩; conv => whnf) | (refine .inl ⟨_, _, qcall_pure (c2) rfl rfl, ?_⟩; conv => whnf) | (refine .inl ⟨_, _, qcall_pure (9) rfl rfl, ?_⟩; conv => whnf) | (refine .inl ⟨_, _, qcall_pure (7) rfl rfl, ?_⟩; conv => whnf) | (refine ex_row hp ?_; conv => whnf) | (refine ex_rowI (by omega) (zero_get l hx) ?_; conv => whnf) | (refine bar_late [9] (by decide +kernel) (by decide +kernel) ?_; conv => whnf) | (refine bar_late [7] (by decide +kernel) (by decide +kernel) ?_; conv => whnf) | (refine LitB.data ?_; conv => whnf) | (refine BoxB.own ?_; conv => whnf)))
      · refine fin_bool ?_
        rw [hP, all_of_get hp (by rw [hPp]; simp only [Bool.and_eq_false_iff, decide_eq_false_iff_not]; omega)]
      · refine fin_bool ?_
        rw [hP, all_of_get hp (by rw [hPp]; simp only [Bool.and_eq_false_iff, decide_eq_false_iff_not]; omega)]
      · exact ⟨hlt, by rw [hall, hPp]; simp only [Bool.and_eq_true, decide_eq_true_eq]; omega, [], rfl, rfl, trivial, ⟨rfl, rfl, rfl, rfl, rfl, rfl, trivial⟩⟩
    · conv => whnf
      (repeat' (first | ((refine DecB.mk (fun h => ?_) (fun h => ?_)) <;> first | (exfalso; omega) | (conv => whnf)) | ((refine BoolB.mk (fun h => ?_) (fun h => ?_)) <;> first | (exact absurd h (by decide)) | (conv => whnf)) | (refine ⟨_, wrap_ok (by omega) (by omega), ?_⟩; conv => whnf) | (refine and_idx (by omega) (by omega) ?_; conv => whnf) | (refine reg_ok (by decide +kernel) ?_; conv => whnf) | (refine bar_ok (by decide +kernel) (by decide +kernel) ?_; conv => whnf) | (refine late_ok rfl rfl ?_; conv => whnf) | (refine src_ok rfl ?_; conv => whnf) | (refine ex_row hp ?_; conv => whnf) | (refine LitB.data ?_; conv => whnf) | (refine BoxB.own ?_; conv => whnf)))
      all_goals first
        | (exfalso; omega)
        | exact ⟨hlt, by rw [hall]; simp [P, hmv], [], rfl, rfl, trivial, ⟨rfl, rfl, rfl, rfl, rfl, rfl, trivial⟩⟩
  · have hke : k = e.purities.length := by omega
    subst hke
    conv => whnf
    (repeat' (first | ((refine DecB.mk (fun h => ?_) (fun h => ?_)) <;> first | (exfalso; omega) | (conv => whnf)) | ((refine BoolB.mk (fun h => ?_) (fun h => ?_)) <;> first | (exact absurd h (by decide)) | (conv => whnf)) | (refine ⟨_, wrap_ok (by omega) (by omega), ?_⟩; conv => whnf) | (refine and_idx (by omega) (by omega) ?_; conv => whnf) | (refine reg_ok (by decide +kernel) ?_; conv => whnf) | (refine bar_ok (by decide +kernel) (by decide +kernel) ?_; conv => whnf) | (refine late_ok rfl rfl ?_; conv => whnf) | (refine src_ok rfl ?_; conv => whnf) | (refine LitB.data ?_; conv => whnf) | (refine BoxB.own ?_; conv => whnf)))
    all_goals first
      | (exfalso; omega)
      | (refine fin_bool ?_; rw [hP, all_take_full hI])
end Go.Proofs.Ytomfnfbijgjfeaa
/- Chapter 15 in plain Lean: what the statements say of histories. No program is in sight. -/
namespace Go.Proofs.Ytomfnfbijgjfeaa
set_option linter.unusedVariables false
set_option linter.unusedSimpArgs false

def stepAt (e : Ev) (G : List (List Rat)) (k : Nat) (x : Move) : Int := stepE e x (G.getD k []) (stk e G k) k
theorem movesE_cons (e : Ev) (G : List (List Rat)) (k : Nat) (x : Move) (r : List Move) : movesE e G k (x :: r) = if stepAt e G k x ≠ 0 then stepAt e G k x else movesE e G (k + 1) r := rfl
theorem movesE_zero {e : Ev} {G : List (List Rat)} : ∀ {ms : List Move} {k : Nat}, movesE e G k ms = 0 ↔ ∀ j x, ms[j]? = some x → stepAt e G (k + j) x = 0
  | [], k => by simp [movesE]
  | y :: r, k => by
    rw [movesE_cons]
    constructor
    · intro h j x hx
      by_cases h0 : stepAt e G k y = 0
      · rw [if_neg (by simpa using h0)] at h
        cases j with
        | zero => simp at hx; subst hx; exact h0
        | succ j => rw [show k + (j + 1) = k + 1 + j by omega]; exact movesE_zero.1 h j x (by simpa using hx)
      · rw [if_pos h0] at h; exact absurd h h0
    · intro h
      have h0 := h 0 y rfl
      rw [if_neg (by simpa using h0)]
      exact movesE_zero.2 fun j x hx => by rw [show k + 1 + j = k + (j + 1) by omega]; exact h (j + 1) x (by simpa using hx)
theorem histE_zero {e : Ev} {G : List (List Rat)} : histE e G = 0 ↔ ∀ (k : Nat) (x : Move), e.moves[k]? = some x → stepAt e G k x = 0 := by
  unfold histE
  rw [movesE_zero]
  simp
structure StepOk (e : Ev) (x : Move) (l : List Rat) (f : Nat → Nat → Rat) (i : Nat) : Prop where
  pos : ∀ v ∈ l, ¬ v < 0
  tak : takenE e f x l = 0
  wei : weighedB e x (sumR l) = true
  pur : pureB e.purities i l (sumR l) = true
theorem stepE_zero {e : Ev} {x : Move} {l : List Rat} {f : Nat → Nat → Rat} {i : Nat} : stepE e x l f i = 0 ↔ StepOk e x l f i := by
  unfold stepE
  constructor
  · intro h
    by_cases h1 : l.any (fun v => decide (v < 0)) = true
    · rw [if_pos h1] at h; cases h
    rw [if_neg h1] at h
    by_cases h2 : takenE e f x l = 0
    · rw [if_neg (by simpa using h2)] at h
      by_cases h3 : weighedB e x (sumR l) = false
      · rw [if_pos h3] at h; cases h
      rw [if_neg h3] at h
      by_cases h4 : pureB e.purities i l (sumR l) = false
      · rw [if_pos h4] at h; cases h
      refine ⟨fun v hv hn => h1 (List.any_eq_true.2 ⟨v, hv, by simpa using hn⟩), h2, by simpa using h3, by simpa using h4⟩
    · rw [if_pos h2] at h; exact absurd h h2
  · rintro ⟨h1, h2, h3, h4⟩
    rw [if_neg (by rw [List.any_eq_true]; rintro ⟨v, hv, hn⟩; exact h1 v hv (by simpa using hn)), if_neg (by simpa using h2), if_neg (by simp [h3]), if_neg (by simp [h4])]
theorem takenF_zero (f : Nat → Rat) (all : Bool) : ∀ (l : List Rat) (k : Nat) (rest : Bool), takenF f all l k rest = 0 ↔ (∀ m v, l[m]? = some v → ¬ f (k + m) < v) ∧ (all = true → rest = false ∧ ∀ m v, l[m]? = some v → ¬ v < f (k + m))
  | [], k, rest => by unfold takenF; cases rest <;> cases all <;> simp
  | v :: r, k, rest => by
    unfold takenF
    by_cases h : f k < v
    · rw [if_pos h]
      constructor
      · intro h'; cases h'
      · rintro ⟨h1, _⟩; exact absurd h (h1 0 v rfl)
    · rw [if_neg h, takenF_zero f all r (k + 1)]
      constructor
      · rintro ⟨h1, h2⟩
        refine ⟨fun m u hm => ?_, fun ha => ?_⟩
        · cases m with
          | zero => simp at hm; subst hm; exact h
          | succ m => have := h1 m u (by simpa using hm); rwa [show k + 1 + m = k + (m + 1) by omega] at this
        · obtain ⟨q1, q2⟩ := h2 ha
          simp only [Bool.or_eq_false_iff, decide_eq_false_iff_not] at q1
          refine ⟨q1.1, fun m u hm => ?_⟩
          cases m with
          | zero => simp at hm; subst hm; exact q1.2
          | succ m => have := q2 m u (by simpa using hm); rwa [show k + 1 + m = k + (m + 1) by omega] at this
      · rintro ⟨h1, h2⟩
        refine ⟨fun m u hm => ?_, fun ha => ?_⟩
        · have := h1 (m + 1) u (by simpa using hm); rwa [show k + (m + 1) = k + 1 + m by omega] at this
        · obtain ⟨q1, q2⟩ := h2 ha
          refine ⟨?_, fun m u hm => ?_⟩
          · simp only [Bool.or_eq_false_iff, decide_eq_false_iff_not]
            exact ⟨q1, q2 0 v rfl⟩
          · have := q2 (m + 1) u (by simpa using hm); rwa [show k + (m + 1) = k + 1 + m by omega] at this
/-- the stocks depend on the ways of the moves alone -/
theorem stk_congr {e e' : Ev} {G G' : List (List Rat)} : ∀ k, (∀ j, j < k → (e'.moves[j]?).map (fun x => (x.src, x.dst)) = (e.moves[j]?).map (fun x => (x.src, x.dst))) → (∀ j, j < k → hAt G' j = hAt G j) → stk e' G' k = stk e G k
  | 0, _, _ => rfl
  | k + 1, h, hG => by
    have ih := stk_congr k (fun j hj => h j (by omega)) (fun j hj => hG j (by omega))
    have hk := h k (by omega)
    have hg := hG k (by omega)
    unfold stk
    cases h1 : e'.moves[k]? with
    | none => cases h2 : e.moves[k]? with
      | none => exact ih
      | some x => rw [h1, h2] at hk; cases hk
    | some x' => cases h2 : e.moves[k]? with
      | none => rw [h1, h2] at hk; cases hk
      | some x =>
        rw [h1, h2] at hk
        simp at hk
        simp only [ih, hg]
        funext p m
        unfold carryF
        rw [hk.1, hk.2]
/-- more recalls: what the interval of a move is -/
theorem interval_more {cs : List Cert} {rs : List Recall} {r : Recall} {scale reading day : Int} : interval cs (rs ++ [r]) scale reading day = none ∨ interval cs (rs ++ [r]) scale reading day = interval cs rs scale reading day := by
  unfold interval
  cases findTo cs scale day cs.length with
  | none => exact .inl rfl
  | some i =>
    simp only
    have : recalled (rs ++ [r]) scale day = (recalled rs scale day || (decide (r.scale = scale) && decide (r.since ≤ day))) := by simp [recalled]
    rw [this]
    cases recalled rs scale day <;> cases (decide (r.scale = scale) && decide (r.since ≤ day)) <;> simp
def moreR (e : Ev) (r : Recall) : Ev := { e with recalls := e.recalls ++ [r] }
theorem histCheck_zero {e : Ev} {hh : List (List Fr)} (h : histCheck e hh = 0) : check e = 0 ∧ shapedB e hh = true ∧ histE e (hh.map (·.map fv)) = 0 := by
  unfold histCheck at h
  by_cases h0 : check e ≠ 0
  · rw [if_pos h0] at h; cases h
  rw [if_neg h0] at h
  cases hs : shapedB e hh with
  | false => rw [hs] at h; cases h
  | true => rw [hs] at h; exact ⟨by omega, rfl, h⟩
end Go.Proofs.Ytomfnfbijgjfeaa
/- Chapter 15 in plain Lean: mixtures of histories; what is conserved. No program is in sight. -/
namespace Go.Proofs.Ytomfnfbijgjfeaa
set_option linter.unusedVariables false
set_option linter.unusedSimpArgs false

/-- sums of the first numbers -/
def sumN (f : Nat → Rat) : Nat → Rat
  | 0 => ((0 : Int) : Rat)
  | n + 1 => sumN f n + f n
theorem zero_eq : ((0 : Int) : Rat) = 0 := rfl
theorem sumR_get (l : List Rat) : ∀ n, n ≤ l.length → sumR (l.take n) = sumN (fun m => l.getD m 0) n
  | 0, _ => rfl
  | n + 1, h => by
    have hg : l[n]? = some (l.getD n 0) := by rw [List.getD_eq_getElem?_getD, List.getElem?_eq_getElem (by omega)]; rfl
    rw [List.take_add_one, hg]
    show sumR (l.take n ++ [l.getD n 0]) = _
    rw [sumR_snoc, sumR_get l n (by omega)]; rfl
theorem sumR_all (l : List Rat) : sumR l = sumN (fun m => l.getD m 0) l.length := by
  have := sumR_get l l.length (Nat.le_refl _)
  rwa [List.take_of_length_le (Nat.le_refl _)] at this
theorem sumN_congr {f g : Nat → Rat} : ∀ {n : Nat}, (∀ m, m < n → f m = g m) → sumN f n = sumN g n
  | 0, _ => rfl
  | n + 1, h => by simp only [sumN]; rw [sumN_congr fun m hm => h m (by omega), h n (by omega)]
/-- a sum in which one place gives what another one gets -/
theorem sumN_add (f : Nat → Rat) (v : Rat) (d : Nat) : ∀ n, sumN (fun p => if p = d then f p + v else f p) n = sumN f n + (if d < n then v else 0)
  | 0 => by simp only [sumN, zero_eq]; rw [if_neg (by omega)]; grind
  | n + 1 => by
    simp only [sumN]
    rw [sumN_add f v d n]
    rcases Nat.lt_trichotomy d n with h | h | h
    · rw [if_pos h, if_neg (by omega), if_pos (by omega)]; grind
    · subst h; rw [if_neg (by omega), if_pos rfl, if_pos (by omega)]; grind
    · rw [if_neg (by omega), if_neg (by omega), if_neg (by omega)]; grind
theorem sumN_move (f : Nat → Rat) (v : Rat) {s d n : Nat} (hs : s < n) (hd : d < n) (hsd : s ≠ d) : sumN (fun p => if p = s then f p - v else if p = d then f p + v else f p) n = sumN f n := by
  have e : ∀ m, m < n → (if m = s then f m - v else if m = d then f m + v else f m) = (if m = s then (if m = d then f m + v else f m) + -v else (if m = d then f m + v else f m)) := fun m _ => by
    by_cases h : m = s
    · subst h; rw [if_pos rfl, if_pos rfl, if_neg hsd]; grind
    · rw [if_neg h, if_neg h]
  rw [sumN_congr e, sumN_add (fun p => if p = d then f p + v else f p) (-v) s n, sumN_add f v d n, if_pos hs, if_pos hd]
  grind
end Go.Proofs.Ytomfnfbijgjfeaa
/- Chapter 15 in plain Lean: a mixture of two histories that the evidence allows is one that it allows. No program is in sight. -/
namespace Go.Proofs.Ytomfnfbijgjfeaa
set_option linter.unusedVariables false
set_option linter.unusedSimpArgs false

theorem getD_some {l : List Rat} {m : Nat} (h : m < l.length) : l[m]? = some (l.getD m 0) := by rw [List.getD_eq_getElem?_getD, List.getElem?_eq_getElem h]; rfl
end Go.Proofs.Ytomfnfbijgjfeaa
/- FlowOnce in plain Lean: the counts. -/
namespace Go.Proofs.Ytomfnfbijgjfeaa
set_option linter.unusedSimpArgs false
set_option linter.unusedVariables false

theorem moveOk_dstKind {e : Ev} {m : Move} (h : moveOk e m = true) : kindAt e m.dst ≠ 0 := by
  simp [moveOk] at h; exact h.1.2
/-- the count of each move: 1 if it is before 'up' and its place d is below p, or it is among S -/
def Cnt (l : List Move) (d : Move → Int) (up : Int) (p : Nat) (S : List Int) (L : List Int) : Prop :=
  L.length = l.length ∧ ∀ (j : Nat) (m : Move), l[j]? = some m → L[j]? = some (if (j : Int) ∈ S ∨ ((j : Int) < up ∧ d m < (p : Int)) then 1 else 0)
theorem Cnt.zero {l : List Move} {d : Move → Int} {up : Int} (hd : ∀ m ∈ l, 0 ≤ d m) : Cnt l d up 0 [] (List.replicate l.length 0) := by
  refine ⟨by simp, fun j m hm => ?_⟩
  have hl := (List.getElem?_eq_some_iff.1 hm).1
  have := hd m (List.mem_of_getElem? hm)
  rw [if_neg (by simp; omega)]
  simp [List.getElem?_replicate, hl]
/-- one more of the picked ones is counted -/
theorem Cnt.step {l : List Move} {d : Move → Int} {up : Int} {p : Nat} {a L : List Int} {i j : Nat} {m : Move} (h : Cnt l d up p (a.take i) L) (hs : a.Pairwise (· < ·)) (hx : a[i]? = some (j : Int)) (hm : l[j]? = some m) (hdm : d m = (p : Int)) :
    L[j]? = some 0 ∧ Cnt l d up p (a.take (i + 1)) (L.set j 1) := by
  obtain ⟨hi, hxi⟩ := List.getElem?_eq_some_iff.1 hx
  have hnot : (j : Int) ∉ a.take i := by
    intro hmem
    obtain ⟨k, hk, e⟩ := List.getElem_of_mem hmem
    have hk' : k < i := by simp at hk; omega
    rw [List.getElem_take] at e
    have := List.pairwise_iff_getElem.1 hs k i (by omega) hi hk'
    omega
  refine ⟨?_, by simpa using h.1, fun j' m' hm' => ?_⟩
  · rw [h.2 j m hm, if_neg]
    rintro (h1 | ⟨_, h2⟩)
    · exact hnot h1
    · omega
  · have hmem : (j' : Int) ∈ a.take (i + 1) ↔ (j' : Int) ∈ a.take i ∨ j' = j := by
      rw [List.take_succ_eq_append_getElem hi, List.mem_append, hxi, List.mem_singleton]
      constructor
      · rintro (h1 | h1)
        · exact .inl h1
        · exact .inr (by omega)
      · rintro (h1 | h1)
        · exact .inl h1
        · exact .inr (by omega)
    by_cases hj : j' = j
    · subst hj
      rw [List.getElem?_set_self (by rw [h.1]; exact (List.getElem?_eq_some_iff.1 hm').1), if_pos (.inl (hmem.2 (.inr rfl)))]
    · rw [List.getElem?_set_ne (by omega), h.2 j' m' hm']
      have : (j' : Int) ∈ a.take (i + 1) ↔ (j' : Int) ∈ a.take i := by rw [hmem]; simp [hj]
      simp only [this]
/-- all of them are counted: on to the next place -/
theorem Cnt.next {l : List Move} {d : Move → Int} {up : Int} {p : Nat} {a L : List Int} (h : Cnt l d up p a L) (ha : ∀ (j : Nat) (m : Move), l[j]? = some m → ((j : Int) ∈ a ↔ (j : Int) < up ∧ d m = (p : Int))) : Cnt l d up (p + 1) [] L := by
  refine ⟨h.1, fun j m hm => ?_⟩
  rw [h.2 j m hm]
  have hj := ha j m hm
  have hiff : ((j : Int) ∈ a ∨ ((j : Int) < up ∧ d m < (p : Int))) ↔ ((j : Int) ∈ ([] : List Int) ∨ ((j : Int) < up ∧ d m < ((p + 1 : Nat) : Int))) := by
    rw [hj]
    constructor
    · rintro (h1 | h1)
      · exact .inr ⟨h1.1, by omega⟩
      · exact .inr ⟨h1.1, by omega⟩
    · rintro (h1 | h1)
      · cases h1
      · by_cases h2 : d m = (p : Int)
        · exact .inl ⟨h1.1, h2⟩
        · exact .inr ⟨h1.1, by omega⟩
  by_cases h : (j : Int) ∈ a ∨ ((j : Int) < up ∧ d m < (p : Int))
  · rw [if_pos h, if_pos (hiff.1 h)]
  · rw [if_neg h, if_neg (fun h' => h (hiff.2 h'))]
theorem Cnt.last {l : List Move} {d : Move → Int} {up : Int} {p : Nat} {L : List Int} (h : Cnt l d up p [] L) (hd : ∀ m ∈ l, d m < (p : Int)) {j : Nat} {m : Move} (hm : l[j]? = some m) : L[j]? = some (if (j : Int) < up then 1 else 0) := by
  rw [h.2 j m hm]
  have := hd m (List.mem_of_getElem? hm)
  congr 1
  by_cases h1 : (j : Int) < up
  · rw [if_pos (.inr ⟨h1, this⟩), if_pos h1]
  · rw [if_neg (by simp; omega), if_neg h1]
end Go.Proofs.Ytomfnfbijgjfeaa
/- Chapter 15 in plain Lean: no place but a bin has less than nothing; at a buyer there is never less later on. No program is in sight. -/
namespace Go.Proofs.Ytomfnfbijgjfeaa
set_option linter.unusedVariables false
set_option linter.unusedSimpArgs false

theorem stk_succ {e : Ev} {G : List (List Rat)} {k : Nat} {x : Move} (hx : e.moves[k]? = some x) : stk e G (k + 1) = carryF x (hAt G k) (stk e G k) := by
  conv => lhs; unfold stk
  rw [hx]
theorem stk_end {e : Ev} {G : List (List Rat)} {k : Nat} (hx : e.moves[k]? = none) : stk e G (k + 1) = stk e G k := by
  conv => lhs; unfold stk
  rw [hx]
end Go.Proofs.Ytomfnfbijgjfeaa
/- Chapter 15 in plain Lean: at a buyer there is never less later on; after a move with All nothing is left; masses of mixtures. No program is in sight. -/
namespace Go.Proofs.Ytomfnfbijgjfeaa
set_option linter.unusedVariables false
set_option linter.unusedSimpArgs false

theorem moveOk_all {e : Ev} {x : Move} (h : moveOk e x = true) (ha : x.all = true) : kindAt e x.src ≠ 0 := by
  unfold moveOk at h
  simp only [Bool.and_eq_true, decide_eq_true_eq] at h
  have := h.1.1.2
  rw [ha] at this
  simpa using this
end Go.Proofs.Ytomfnfbijgjfeaa
/- The reference of chapter 15 in plain Lean: stocks that are summed anew, what a move takes. No program is in sight. -/
namespace Go.Proofs.Ytomfnfbijgjfeaa
set_option linter.unusedVariables false
set_option linter.unusedSimpArgs false

/-- the interval of a move -/
def ivOf (e : Ev) (x : Move) : Option (Rat × Rat) := if x.scale = -1 then none else interval e.certs e.recalls x.scale x.reading x.day
theorem weighed_iv (e : Ev) (x : Move) (m : Rat) : weighedB e x m = inB (ivOf e x) m := by
  unfold weighedB ivOf
  by_cases h : x.scale = -1
  · rw [if_pos h, if_pos h]; rfl
  · rw [if_neg h, if_neg h]
end Go.Proofs.Ytomfnfbijgjfeaa
/- Chapter 21 in plain Lean: traces, what taint.Check and taint.Matter compute, and what the statements say of them. No program is in sight. -/
namespace Go.Proofs.Ytomfnfbijgjfeaa
set_option linter.unusedVariables false
set_option linter.unusedSimpArgs false

structure Find where
  mv : Int
  kind : Int
  grams : Int
structure Clean where
  mv : Int
  kind : Int
structure Trace where
  ev : Ev
  finds : List Find
  cleans : List Clean
def markE (e : Ev) (mv kind : Int) : Int := if mv < 0 ∨ (e.moves.length : Int) ≤ mv then 4 else if kind < 0 ∨ 8 ≤ kind then 1 else 0
def findsE (e : Ev) : List Find → Int
  | [] => 0
  | f :: r => if markE e f.mv f.kind ≠ 0 then markE e f.mv f.kind else if f.grams < 1 ∨ 1099511627776 < f.grams then 3 else findsE e r
def cleansE (e : Ev) : List Clean → Int
  | [] => 0
  | c :: r => if markE e c.mv c.kind ≠ 0 then markE e c.mv c.kind else cleansE e r
def traceE (t : Trace) : Int :=
  if check t.ev ≠ 0 then check t.ev else if 20 < t.finds.length ∨ 50 < t.cleans.length then 6
  else if findsE t.ev t.finds ≠ 0 then findsE t.ev t.finds else cleansE t.ev t.cleans
def gramsOf (l : List Find) (kind : Int) (i : Nat) : List Int := (l.filter fun f => decide (f.kind = kind) && decide (f.mv = (i : Int))).map (·.grams)
def cleansOf (l : List Clean) (kind : Int) (i : Nat) : Nat := (l.filter fun c => decide (c.kind = kind) && decide (c.mv = (i : Int))).length
def col (z : List Rat) : List (List Rat) := z.map fun v => [v]
theorem hAt_col (z : List Rat) (k : Nat) : hAt (col z) k 0 = z.getD k 0 := by
  unfold hAt col
  cases h : z[k]? <;> simp [List.getD_eq_getElem?_getD, h]
/-- the matter at a place after k moves -/
def tstk (e : Ev) (z : List Rat) (k p : Nat) : Rat := stk e (col z) k p 0
def capB (iv : Option (Rat × Rat)) (v : Rat) : Bool := match iv with
  | none => true
  | some (_, hi) => decide (v ≤ hi)
def allowsE (t : Trace) (kind : Int) (i : Nat) (x : Move) (v : Rat) : Int :=
  if capB (ivOf t.ev x) v = false then 20 else if (gramsOf t.finds kind i).any (fun g => decide (v < (g : Rat))) then 24
  else if 0 < cleansOf t.cleans kind i ∧ v ≠ 0 then 13 else 0
/-- what matter a move takes of what is there -/
def tookE (e : Ev) (x : Move) (v f : Rat) : Int := if v < 0 then 3 else if kindAt e x.src ≠ 0 ∧ f < v then 4 else if x.all = true ∧ v ≠ f then 7 else 0
def tstepE (t : Trace) (kind : Int) (i : Nat) (x : Move) (v f : Rat) : Int := if tookE t.ev x v f ≠ 0 then tookE t.ev x v f else allowsE t kind i x v
def tAt (t : Trace) (kind : Int) (z : List Rat) (i : Nat) (x : Move) : Int := tstepE t kind i x (z.getD i 0) (tstk t.ev z i x.src.toNat)
def tmovesE (t : Trace) (kind : Int) (z : List Rat) : Nat → List Move → Int
  | _, [] => 0
  | k, x :: r => if tAt t kind z k x ≠ 0 then tAt t kind z k x else tmovesE t kind z (k + 1) r
def matterE (t : Trace) (kind : Int) (z : List Fr) : Int :=
  if traceE t ≠ 0 ∨ kind < 0 ∨ 8 ≤ kind then 1 else if z.length ≠ t.ev.moves.length then 2
  else if z.all rightF then tmovesE t kind (z.map fv) 0 t.ev.moves else 2
theorem tmovesE_zero {t : Trace} {kind : Int} {z : List Rat} : ∀ {ms : List Move} {k : Nat}, tmovesE t kind z k ms = 0 ↔ ∀ j x, ms[j]? = some x → tAt t kind z (k + j) x = 0
  | [], k => by simp [tmovesE]
  | y :: r, k => by
    unfold tmovesE
    constructor
    · intro h j x hx
      by_cases h0 : tAt t kind z k y = 0
      · rw [if_neg (by simpa using h0)] at h
        cases j with
        | zero => simp at hx; subst hx; exact h0
        | succ j => rw [show k + (j + 1) = k + 1 + j by omega]; exact tmovesE_zero.1 h j x (by simpa using hx)
      · rw [if_pos h0] at h; exact absurd h h0
    · intro h
      have h0 := h 0 y rfl
      rw [if_neg (by simpa using h0)]
      exact tmovesE_zero.2 fun j x hx => by rw [show k + 1 + j = k + (j + 1) by omega]; exact h (j + 1) x (by simpa using hx)
structure Took (e : Ev) (x : Move) (v f : Rat) : Prop where
  pos : 0 ≤ v
  most : kindAt e x.src ≠ 0 → v ≤ f
  all : x.all = true → v = f
theorem tookE_zero {e : Ev} {x : Move} {v f : Rat} : tookE e x v f = 0 ↔ Took e x v f := by
  unfold tookE
  by_cases h1 : v < 0
  · rw [if_pos h1]; exact ⟨fun h => (by cases h), fun h => absurd h.pos (by grind)⟩
  · rw [if_neg h1]
    by_cases h2 : kindAt e x.src ≠ 0 ∧ f < v
    · rw [if_pos h2]; exact ⟨fun h => (by cases h), fun h => absurd (h.most h2.1) (by grind)⟩
    · rw [if_neg h2]
      by_cases h3 : x.all = true ∧ v ≠ f
      · rw [if_pos h3]; exact ⟨fun h => (by cases h), fun h => absurd (h.all h3.1) h3.2⟩
      · rw [if_neg h3]
        refine ⟨fun _ => ⟨Rat.not_lt.1 h1, fun h => Rat.not_lt.1 fun h' => h2 ⟨h, h'⟩, fun h => ?_⟩, fun _ => rfl⟩
        by_cases h4 : v = f
        · exact h4
        · exact absurd ⟨h, h4⟩ h3
structure Allows (t : Trace) (kind : Int) (i : Nat) (x : Move) (v : Rat) : Prop where
  cap : capB (ivOf t.ev x) v = true
  fin : ∀ g ∈ gramsOf t.finds kind i, (g : Rat) ≤ v
  cln : 0 < cleansOf t.cleans kind i → v = 0
theorem allowsE_zero {t : Trace} {kind : Int} {i : Nat} {x : Move} {v : Rat} : allowsE t kind i x v = 0 ↔ Allows t kind i x v := by
  unfold allowsE
  by_cases h1 : capB (ivOf t.ev x) v = false
  · rw [if_pos h1]; exact ⟨fun h => (by cases h), fun h => (by rw [h.cap] at h1; cases h1)⟩
  · rw [if_neg h1]
    by_cases h2 : (gramsOf t.finds kind i).any (fun g => decide (v < (g : Rat))) = true
    · rw [if_pos h2]
      obtain ⟨g, hg, hv⟩ := List.any_eq_true.1 h2
      exact ⟨fun h => (by cases h), fun h => absurd (h.fin g hg) (by have := of_decide_eq_true hv; grind)⟩
    · rw [if_neg h2]
      by_cases h3 : 0 < cleansOf t.cleans kind i ∧ v ≠ 0
      · rw [if_pos h3]; exact ⟨fun h => (by cases h), fun h => absurd (h.cln h3.1) h3.2⟩
      · rw [if_neg h3]
        refine ⟨fun _ => ⟨by simpa using h1, fun g hg => Rat.not_lt.1 fun h' => h2 (List.any_eq_true.2 ⟨g, hg, decide_eq_true h'⟩), fun h => ?_⟩, fun _ => rfl⟩
        by_cases h4 : v = 0
        · exact h4
        · exact absurd ⟨h, h4⟩ h3
theorem tstepE_zero {t : Trace} {kind : Int} {i : Nat} {x : Move} {v f : Rat} : tstepE t kind i x v f = 0 ↔ Took t.ev x v f ∧ Allows t kind i x v := by
  unfold tstepE
  by_cases h : tookE t.ev x v f ≠ 0
  · rw [if_pos h]; exact ⟨fun h' => absurd h' h, fun h' => absurd (tookE_zero.2 h'.1) h⟩
  · rw [if_neg h, allowsE_zero]
    exact ⟨fun h' => ⟨tookE_zero.1 (by simpa using h), h'⟩, fun h' => h'.2⟩
/-- matter that is possible -/
structure Poss (t : Trace) (kind : Int) (z : List Rat) : Prop where
  tr : traceE t = 0
  k0 : 0 ≤ kind
  k1 : kind < 8
  len : z.length = t.ev.moves.length
  step : ∀ i x, t.ev.moves[i]? = some x → Took t.ev x (z.getD i 0) (tstk t.ev z i x.src.toNat) ∧ Allows t kind i x (z.getD i 0)
theorem fv_map (z : List Rat) : (z.map fz).map fv = z := by
  rw [List.map_map]
  conv => rhs; rw [← List.map_id z]
  exact List.map_congr_left fun x _ => fv_fz x
theorem matter_zero {t : Trace} {kind : Int} {z : List Fr} : matterE t kind z = 0 ↔ ∃ Z : List Rat, z = Z.map fz ∧ Poss t kind Z := by
  unfold matterE
  by_cases h1 : traceE t ≠ 0 ∨ kind < 0 ∨ 8 ≤ kind
  · rw [if_pos h1]
    refine ⟨fun h => (by cases h), fun ⟨Z, _, h⟩ => ?_⟩
    have := h.tr; have := h.k0; have := h.k1
    omega
  rw [if_neg h1]
  by_cases h2 : z.length ≠ t.ev.moves.length
  · rw [if_pos h2]
    refine ⟨fun h => (by cases h), fun ⟨Z, hz, h⟩ => ?_⟩
    subst hz
    exact absurd (by rw [List.length_map]; exact h.len) h2
  rw [if_neg h2]
  by_cases h3 : z.all rightF = true
  · rw [if_pos h3]
    obtain ⟨Z, rfl⟩ := right_rats h3
    rw [fv_map, tmovesE_zero]
    constructor
    · intro h
      refine ⟨Z, rfl, by omega, by omega, by omega, by simpa using h2, fun i x hx => ?_⟩
      have := h i x hx
      rw [Nat.zero_add] at this
      exact tstepE_zero.1 this
    · rintro ⟨Y, hy, h⟩
      have e : Z = Y := by rw [← fv_map Z, ← fv_map Y, hy]
      subst e
      intro j x hx
      rw [Nat.zero_add]
      exact tstepE_zero.2 (h.step j x hx)
  · rw [if_neg h3]
    refine ⟨fun h => (by cases h), fun ⟨Z, hz, h⟩ => ?_⟩
    subst hz
    exact absurd (List.all_eq_true.2 fun f hf => by obtain ⟨x, _, rfl⟩ := List.mem_map.1 hf; exact fz_right x) h3
theorem matter_map {t : Trace} {kind : Int} {Z : List Rat} : matterE t kind (Z.map fz) = 0 ↔ Poss t kind Z := by
  rw [matter_zero]
  constructor
  · rintro ⟨Y, hy, h⟩
    have e : Z = Y := by rw [← fv_map Z, ← fv_map Y, hy]
    rw [e]; exact h
  · intro h; exact ⟨Z, rfl, h⟩
theorem traceE_zero {t : Trace} (h : traceE t = 0) : check t.ev = 0 ∧ t.finds.length ≤ 20 ∧ t.cleans.length ≤ 50 ∧ findsE t.ev t.finds = 0 ∧ cleansE t.ev t.cleans = 0 := by
  unfold traceE at h
  by_cases h1 : check t.ev ≠ 0
  · rw [if_pos h1] at h; exact absurd h h1
  rw [if_neg h1] at h
  by_cases h2 : 20 < t.finds.length ∨ 50 < t.cleans.length
  · rw [if_pos h2] at h; cases h
  rw [if_neg h2] at h
  by_cases h3 : findsE t.ev t.finds ≠ 0
  · rw [if_pos h3] at h; exact absurd h h3
  rw [if_neg h3] at h
  exact ⟨by simpa using h1, by omega, by omega, by simpa using h3, h⟩
theorem traceE_mk {t : Trace} (h1 : check t.ev = 0) (h2 : t.finds.length ≤ 20) (h3 : t.cleans.length ≤ 50) (h4 : findsE t.ev t.finds = 0) (h5 : cleansE t.ev t.cleans = 0) : traceE t = 0 := by
  unfold traceE
  rw [if_neg (by simp [h1]), if_neg (by omega), if_neg (by simp [h4]), h5]
theorem findsE_get {e : Ev} : ∀ {l : List Find}, findsE e l = 0 → ∀ f ∈ l, 0 ≤ f.mv ∧ f.mv < e.moves.length ∧ 0 ≤ f.kind ∧ f.kind < 8 ∧ 1 ≤ f.grams ∧ f.grams ≤ 1099511627776
  | [], _, f, hf => by cases hf
  | g :: r, h, f, hf => by
    unfold findsE at h
    by_cases h1 : markE e g.mv g.kind ≠ 0
    · rw [if_pos h1] at h; exact absurd h h1
    rw [if_neg h1] at h
    by_cases h2 : g.grams < 1 ∨ 1099511627776 < g.grams
    · rw [if_pos h2] at h; cases h
    rw [if_neg h2] at h
    rcases List.mem_cons.1 hf with rfl | hf
    · unfold markE at h1
      by_cases h3 : f.mv < 0 ∨ (e.moves.length : Int) ≤ f.mv
      · rw [if_pos h3] at h1; exact absurd (by decide) h1
      rw [if_neg h3] at h1
      by_cases h4 : f.kind < 0 ∨ 8 ≤ f.kind
      · rw [if_pos h4] at h1; exact absurd (by decide) h1
      omega
    · exact findsE_get h f hf
/-- a further find -/
def moreF (t : Trace) (f : Find) : Trace := { t with finds := t.finds ++ [f] }
def moreC (t : Trace) (c : Clean) : Trace := { t with cleans := t.cleans ++ [c] }
def moreRc (t : Trace) (r : Recall) : Trace := { t with ev := moreR t.ev r }
theorem gramsOf_more (l : List Find) (f : Find) (kind : Int) (i : Nat) : gramsOf (l ++ [f]) kind i = gramsOf l kind i ++ (if f.kind = kind ∧ f.mv = (i : Int) then [f.grams] else []) := by
  unfold gramsOf
  rw [List.filter_append, List.map_append]
  by_cases h : f.kind = kind ∧ f.mv = (i : Int)
  · rw [if_pos h]; simp [h.1, h.2]
  · rw [if_neg h]
    have : (decide (f.kind = kind) && decide (f.mv = (i : Int))) = false := by
      rw [← Bool.not_eq_true]; simp only [Bool.and_eq_true, decide_eq_true_eq]; exact h
    simp [this]
theorem cleansOf_more (l : List Clean) (c : Clean) (kind : Int) (i : Nat) : cleansOf (l ++ [c]) kind i = cleansOf l kind i + (if c.kind = kind ∧ c.mv = (i : Int) then 1 else 0) := by
  unfold cleansOf
  rw [List.filter_append, List.length_append]
  by_cases h : c.kind = kind ∧ c.mv = (i : Int)
  · rw [if_pos h]; simp [h.1, h.2]
  · rw [if_neg h]
    have : (decide (c.kind = kind) && decide (c.mv = (i : Int))) = false := by
      rw [← Bool.not_eq_true]; simp only [Bool.and_eq_true, decide_eq_true_eq]; exact h
    simp [this]
theorem poss_moreF {t : Trace} {f : Find} {kind : Int} {z : List Rat} (h0 : traceE t = 0) (h : Poss (moreF t f) kind z) : Poss t kind z := by
  refine ⟨h0, h.k0, h.k1, h.len, fun i x hx => ?_⟩
  obtain ⟨h1, h2⟩ := h.step i x hx
  refine ⟨h1, h2.cap, fun g hg => h2.fin g ?_, h2.cln⟩
  show g ∈ gramsOf (t.finds ++ [f]) kind i
  rw [gramsOf_more]; exact List.mem_append.2 (.inl hg)
theorem poss_moreC {t : Trace} {c : Clean} {kind : Int} {z : List Rat} (h0 : traceE t = 0) (h : Poss (moreC t c) kind z) : Poss t kind z := by
  refine ⟨h0, h.k0, h.k1, h.len, fun i x hx => ?_⟩
  obtain ⟨h1, h2⟩ := h.step i x hx
  refine ⟨h1, h2.cap, h2.fin, fun hg => h2.cln ?_⟩
  show 0 < cleansOf (t.cleans ++ [c]) kind i
  rw [cleansOf_more]; omega
theorem matter_congr {t t' : Trace} {kind : Int} {z : List Fr} (h0 : traceE t = 0) (h1 : traceE t' = 0) (he : t'.ev = t.ev) (hf : ∀ i, gramsOf t'.finds kind i = gramsOf t.finds kind i) (hc : ∀ i, cleansOf t'.cleans kind i = cleansOf t.cleans kind i) : matterE t' kind z = matterE t kind z := by
  have hm : ∀ (Z : List Rat) (ms : List Move) (k : Nat), tmovesE t' kind Z k ms = tmovesE t kind Z k ms := fun Z ms => by
    induction ms with
    | nil => intro k; rfl
    | cons x r ih =>
      intro k
      have : tAt t' kind Z k x = tAt t kind Z k x := by
        unfold tAt tstepE allowsE
        rw [he, hf, hc]
      unfold tmovesE
      rw [this, ih]
  unfold matterE
  rw [h0, h1, he, hm]
theorem poss_moreR {t : Trace} {r : Recall} {kind : Int} {z : List Rat} (hc : check (moreR t.ev r) = 0) (h : Poss t kind z) : Poss (moreRc t r) kind z := by
  obtain ⟨q1, q2, q3, q4, q5⟩ := traceE_zero h.tr
  have hs : ∀ k, stk (moreR t.ev r) (col z) k = stk t.ev (col z) k := fun k => stk_congr k (fun _ _ => rfl) fun _ _ => rfl
  have hfe : ∀ l : List Find, findsE (moreR t.ev r) l = findsE t.ev l := fun l => by
    induction l with
    | nil => rfl
    | cons f l ih => unfold findsE; rw [ih]; rfl
  have hce : ∀ l : List Clean, cleansE (moreR t.ev r) l = cleansE t.ev l := fun l => by
    induction l with
    | nil => rfl
    | cons f l ih => unfold cleansE; rw [ih]; rfl
  refine ⟨traceE_mk hc q2 q3 ?_ ?_, h.k0, h.k1, h.len, fun i x hx => ?_⟩
  · show findsE (moreR t.ev r) t.finds = 0
    rw [hfe]; exact q4
  · show cleansE (moreR t.ev r) t.cleans = 0
    rw [hce]; exact q5
  · obtain ⟨h1, h2⟩ := h.step i x hx
    refine ⟨⟨h1.pos, fun hk => ?_, fun ha => ?_⟩, ?_, h2.fin, h2.cln⟩
    · show _ ≤ stk (moreR t.ev r) (col z) i _ 0
      rw [hs]; exact h1.most hk
    · show _ = stk (moreR t.ev r) (col z) i _ 0
      rw [hs]; exact h1.all ha
    · have hcap := h2.cap
      show capB (ivOf (moreR t.ev r) x) _ = true
      unfold ivOf at hcap ⊢
      by_cases hsc : x.scale = -1
      · rw [if_pos hsc]; rfl
      · rw [if_neg hsc] at hcap ⊢
        rcases interval_more (cs := t.ev.certs) (rs := t.ev.recalls) (r := r) (scale := x.scale) (reading := x.reading) (day := x.day) with hi | hi
        · show capB (interval t.ev.certs (t.ev.recalls ++ [r]) _ _ _) _ = true
          rw [hi]; rfl
        · show capB (interval t.ev.certs (t.ev.recalls ++ [r]) _ _ _) _ = true
          rw [hi]; exact hcap
end Go.Proofs.Ytomfnfbijgjfeaa
/- Chapter 21 in plain Lean: mixtures of matter, parts of it, what left the bins. No program is in sight. -/
namespace Go.Proofs.Ytomfnfbijgjfeaa
set_option linter.unusedVariables false
set_option linter.unusedSimpArgs false

theorem stk_lin {e : Ev} {W A B : List (List Rat)} {a b : Rat} {m ma mb : Nat} (h : ∀ i, i < e.moves.length → hAt W i m = a * hAt A i ma + b * hAt B i mb) : ∀ k p, stk e W k p m = a * stk e A k p ma + b * stk e B k p mb
  | 0, p => by simp only [stk, zero_eq]; grind
  | k + 1, p => by
    have ih := stk_lin h k p
    cases hx : e.moves[k]? with
    | none => rw [stk_end hx, stk_end hx, stk_end hx]; exact ih
    | some x =>
      have hk : k < e.moves.length := (List.getElem?_eq_some_iff.1 hx).1
      rw [stk_succ hx, stk_succ hx, stk_succ hx]
      unfold carryF
      have hv := h k hk
      split
      · rw [ih, hv]; grind
      · split
        · rw [ih, hv]; grind
        · exact ih
theorem tstk_lin {e : Ev} {w y z : List Rat} {a b : Rat} (h : ∀ i, i < e.moves.length → w.getD i 0 = a * z.getD i 0 + b * y.getD i 0) (k p : Nat) : tstk e w k p = a * tstk e z k p + b * tstk e y k p :=
  stk_lin (fun i hi => by rw [hAt_col, hAt_col, hAt_col]; exact h i hi) k p
theorem mul_le_mulR {a b c : Rat} (h : a ≤ b) (hc : 0 ≤ c) : c * a ≤ c * b := by
  have := Rat.mul_nonneg hc (show 0 ≤ b - a by grind)
  grind
theorem mul_le_one {a c : Rat} (h : 0 ≤ a) (hc : c ≤ 1) : c * a ≤ a := by
  have := Rat.mul_nonneg (show 0 ≤ 1 - c by grind) h
  grind
theorem poss_mix {t : Trace} {kind : Int} {z y w : List Rat} {s : Rat} (hz : Poss t kind z) (hy : Poss t kind y) (s0 : 0 ≤ s) (s1 : s ≤ 1) (hl : w.length = z.length)
    (hw : ∀ i, i < t.ev.moves.length → w.getD i 0 = (1 - s) * z.getD i 0 + s * y.getD i 0) : Poss t kind w := by
  have r0 : 0 ≤ 1 - s := by grind
  refine ⟨hz.tr, hz.k0, hz.k1, by rw [hl]; exact hz.len, fun i x hx => ?_⟩
  obtain ⟨a1, a2⟩ := hz.step i x hx
  obtain ⟨b1, b2⟩ := hy.step i x hx
  have hi : i < t.ev.moves.length := (List.getElem?_eq_some_iff.1 hx).1
  rw [hw i hi, tstk_lin hw]
  refine ⟨⟨?_, fun hk => ?_, fun ha => ?_⟩, ?_, fun g hg => ?_, fun hc => ?_⟩
  · have h1 := Rat.mul_nonneg r0 a1.pos
    have h2 := Rat.mul_nonneg s0 b1.pos
    grind
  · have h1 := mul_le_mulR (a1.most hk) r0
    have h2 := mul_le_mulR (b1.most hk) s0
    grind
  · rw [a1.all ha, b1.all ha]
  · have c1 := a2.cap
    have c2 := b2.cap
    cases hiv : ivOf t.ev x with
    | none => rfl
    | some p =>
      obtain ⟨lo, hi'⟩ := p
      rw [hiv] at c1 c2
      simp only [capB, decide_eq_true_eq] at *
      have h1 := mul_le_mulR c1 r0
      have h2 := mul_le_mulR c2 s0
      grind
  · have h1 := mul_le_mulR (a2.fin g hg) r0
    have h2 := mul_le_mulR (b2.fin g hg) s0
    grind
  · rw [a2.cln hc, b2.cln hc]; grind
def bareT (t : Trace) : Trace := { t with finds := [] }
theorem bare_zero {t : Trace} (h : traceE t = 0) : traceE (bareT t) = 0 := by
  obtain ⟨q1, q2, q3, q4, q5⟩ := traceE_zero h
  exact traceE_mk q1 (by simp [bareT]) q3 rfl q5
theorem poss_part {t : Trace} {kind : Int} {z w : List Rat} {s : Rat} (hz : Poss t kind z) (s0 : 0 ≤ s) (s1 : s ≤ 1) (hl : w.length = z.length)
    (hw : ∀ i, i < t.ev.moves.length → w.getD i 0 = s * z.getD i 0) : Poss (bareT t) kind w := by
  have hw' : ∀ i, i < t.ev.moves.length → w.getD i 0 = s * z.getD i 0 + 0 * z.getD i 0 := fun i hi => by rw [hw i hi]; grind
  refine ⟨bare_zero hz.tr, hz.k0, hz.k1, by rw [hl]; exact hz.len, fun i x hx => ?_⟩
  obtain ⟨a1, a2⟩ := hz.step i x hx
  have hi : i < t.ev.moves.length := (List.getElem?_eq_some_iff.1 hx).1
  have hs : tstk (bareT t).ev w i x.src.toNat = s * tstk t.ev z i x.src.toNat := by
    show tstk t.ev w i x.src.toNat = _
    rw [tstk_lin hw']; grind
  rw [hw i hi, hs]
  refine ⟨⟨Rat.mul_nonneg s0 a1.pos, fun hk => mul_le_mulR (a1.most hk) s0, fun ha => by rw [a1.all ha]⟩, ?_, fun g hg => (by cases hg), fun hc => ?_⟩
  · have c1 := a2.cap
    show capB (ivOf t.ev x) _ = true
    cases hiv : ivOf t.ev x with
    | none => rfl
    | some p =>
      obtain ⟨lo, hi'⟩ := p
      rw [hiv] at c1
      simp only [capB, decide_eq_true_eq] at *
      have h1 := mul_le_one a1.pos s1
      grind
  · rw [a2.cln hc]; grind
/-- what the first moves took out of bins -/
def liftF (e : Ev) (z : List Rat) (j : Nat) : Rat := match e.moves[j]? with
  | none => 0
  | some x => if kindAt e x.src = 0 then z.getD j 0 else 0
theorem tstk_succ {e : Ev} {z : List Rat} {k : Nat} {x : Move} (hx : e.moves[k]? = some x) (p : Nat) : tstk e z (k + 1) p = if x.src = (p : Int) then tstk e z k p - z.getD k 0 else if x.dst = (p : Int) then tstk e z k p + z.getD k 0 else tstk e z k p := by
  unfold tstk
  rw [stk_succ hx]
  unfold carryF
  rw [hAt_col]
theorem tstk_end {e : Ev} {z : List Rat} {k : Nat} (hx : e.moves[k]? = none) (p : Nat) : tstk e z (k + 1) p = tstk e z k p := by
  unfold tstk
  rw [stk_end hx]
/-- what is at a place that is no bin -/
def openF (e : Ev) (z : List Rat) (k p : Nat) : Rat := if kindAt e p = 0 then 0 else tstk e z k p
theorem tstk_pos {t : Trace} {kind : Int} {z : List Rat} (h : Poss t kind z) : ∀ k p : Nat, kindAt t.ev p ≠ 0 → 0 ≤ tstk t.ev z k p
  | 0, p, _ => Rat.le_refl
  | k + 1, p, hp => by
    have ih := tstk_pos h k p hp
    cases hx : t.ev.moves[k]? with
    | none => rw [tstk_end hx]; exact ih
    | some x =>
      obtain ⟨h1, _⟩ := h.step k x hx
      have hz := h1.pos
      rw [tstk_succ hx]
      split
      · rename_i hs
        have := h1.most (by rw [hs]; exact hp)
        rw [hs, show ((p : Int)).toNat = p by omega] at this
        grind
      · split
        · grind
        · exact ih
theorem open_sum {t : Trace} {kind : Int} {z : List Rat} (h : Poss t kind z) : ∀ k, sumN (openF t.ev z k) t.ev.places.length = sumN (liftF t.ev z) k
  | 0 => by
    have : ∀ n, sumN (openF t.ev z 0) n = 0 := fun n => by
      induction n with
      | zero => rfl
      | succ n ih =>
        simp only [sumN]; rw [ih]
        have : openF t.ev z 0 n = 0 := by unfold openF; split <;> rfl
        rw [this]; grind
    exact this _
  | k + 1 => by
    have ih := open_sum h k
    have h0 := (traceE_zero h.tr).1
    simp only [sumN]
    rw [← ih]
    cases hx : t.ev.moves[k]? with
    | none =>
      have e1 : liftF t.ev z k = 0 := by unfold liftF; rw [hx]
      rw [e1]
      have : openF t.ev z (k + 1) = openF t.ev z k := by funext p; unfold openF; rw [tstk_end hx]
      rw [this]; grind
    | some x =>
      have hm := check_move h0 (List.mem_of_getElem? hx)
      have ms := moveOk_src hm
      have md := moveOk_dst hm
      have hd := moveOk_dstKind hm
      have hne : x.src ≠ x.dst := by unfold moveOk at hm; simp only [Bool.and_eq_true, decide_eq_true_eq] at hm; exact hm.1.1.1.1.1.2
      by_cases hb : kindAt t.ev x.src = 0
      · have e1 : liftF t.ev z k = z.getD k 0 := by unfold liftF; rw [hx]; simp [hb]
        rw [e1]
        have := sumN_add (openF t.ev z k) (z.getD k 0) x.dst.toNat t.ev.places.length
        rw [if_pos (by omega)] at this
        rw [← this]
        refine sumN_congr fun p _ => ?_
        unfold openF
        rw [tstk_succ hx]
        by_cases c2 : p = x.dst.toNat
        · have : x.dst = (p : Int) := by omega
          have hk : kindAt t.ev (p : Int) ≠ 0 := by rw [← this]; exact hd
          rw [if_pos c2]
          simp only [if_neg hk]
          rw [if_neg (show ¬ x.src = (p : Int) by omega), if_pos this]
        · rw [if_neg c2]
          by_cases c1 : x.src = (p : Int)
          · simp only [← c1, if_pos hb]
          · rw [if_neg c1, if_neg (show ¬ x.dst = (p : Int) by omega)]
      · have e1 : liftF t.ev z k = 0 := by unfold liftF; rw [hx]; simp [hb]
        rw [e1]
        have := sumN_move (openF t.ev z k) (z.getD k 0) (s := x.src.toNat) (d := x.dst.toNat) (n := t.ev.places.length) (by omega) (by omega) (by omega)
        rw [show sumN (openF t.ev z k) t.ev.places.length + 0 = sumN (openF t.ev z k) t.ev.places.length by grind, ← this]
        refine sumN_congr fun p _ => ?_
        unfold openF
        rw [tstk_succ hx]
        by_cases c1 : p = x.src.toNat
        · have : x.src = (p : Int) := by omega
          have hk : kindAt t.ev (p : Int) ≠ 0 := by rw [← this]; exact hb
          rw [if_pos c1, if_pos this]
          simp only [if_neg hk]
        · rw [if_neg c1, if_neg (c := x.src = (p : Int)) (by omega)]
          by_cases c2 : p = x.dst.toNat
          · have : x.dst = (p : Int) := by omega
            have hk : kindAt t.ev (p : Int) ≠ 0 := by rw [← this]; exact hd
            rw [if_pos c2, if_pos this]
            simp only [if_neg hk]
          · rw [if_neg c2, if_neg (c := x.dst = (p : Int)) (by omega)]
theorem sumN_pos {f : Nat → Rat} : ∀ {n : Nat}, (∀ p, p < n → 0 ≤ f p) → 0 ≤ sumN f n
  | 0, _ => Rat.le_refl
  | n + 1, h => by
    have h1 := sumN_pos (n := n) fun p hp => h p (by omega)
    have h2 := h n (by omega)
    simp only [sumN]; grind
theorem sumN_one {f : Nat → Rat} : ∀ {n p : Nat}, (∀ p, p < n → 0 ≤ f p) → p < n → f p ≤ sumN f n
  | n + 1, p, h, hp => by
    simp only [sumN]
    rcases Nat.lt_or_ge p n with hpn | hpn
    · have h1 := sumN_one (f := f) (n := n) (p := p) (fun q hq => h q (by omega)) hpn
      have h2 := h n (by omega)
      grind
    · obtain rfl : p = n := by omega
      have h1 := sumN_pos (f := f) (n := p) fun q hq => h q (by omega)
      grind
theorem lift_pos {t : Trace} {kind : Int} {z : List Rat} (h : Poss t kind z) (j : Nat) : 0 ≤ liftF t.ev z j := by
  unfold liftF
  cases hx : t.ev.moves[j]? with
  | none => exact Rat.le_refl
  | some x =>
    simp only
    split
    · exact (h.step j x hx).1.pos
    · exact Rat.le_refl
/-- a move of matter has at most what the lifts before it have together -/
theorem lift_ge {t : Trace} {kind : Int} {z : List Rat} (h : Poss t kind z) {i : Nat} {x : Move} (hx : t.ev.moves[i]? = some x) : z.getD i 0 ≤ sumN (liftF t.ev z) (i + 1) := by
  have h0 := (traceE_zero h.tr).1
  have hm := check_move h0 (List.mem_of_getElem? hx)
  have ms := moveOk_src hm
  by_cases hb : kindAt t.ev x.src = 0
  · have e1 : liftF t.ev z i = z.getD i 0 := by unfold liftF; rw [hx]; simp [hb]
    rw [← e1]
    exact sumN_one (fun q _ => lift_pos h q) (by omega)
  · have h1 := (h.step i x hx).1.most hb
    have hk : kindAt t.ev ((x.src.toNat : Nat) : Int) ≠ 0 := by rw [show ((x.src.toNat : Nat) : Int) = x.src by omega]; exact hb
    have h2 : openF t.ev z i x.src.toNat = tstk t.ev z i x.src.toNat := by unfold openF; rw [if_neg hk]
    have h3 : openF t.ev z i x.src.toNat ≤ sumN (openF t.ev z i) t.ev.places.length := by
      refine sumN_one (fun q _ => ?_) (by omega)
      unfold openF
      split
      · exact Rat.le_refl
      · exact tstk_pos h i q ‹_›
    rw [open_sum h] at h3
    have h4 := lift_pos h i
    simp only [sumN]
    grind
theorem grams_le {t : Trace} {kind : Int} {z : List Rat} (h : Poss t kind z) {i : Nat} {x : Move} (hx : t.ev.moves[i]? = some x) {f : Find} (hf : f ∈ t.finds) (h1 : f.mv = (i : Int)) (h2 : f.kind = kind) : (f.grams : Rat) ≤ sumN (liftF t.ev z) (i + 1) := by
  have := (h.step i x hx).2.fin f.grams (by
    unfold gramsOf
    exact List.mem_map.2 ⟨f, List.mem_filter.2 ⟨hf, by simp [h1, h2]⟩, rfl⟩)
  have h3 := lift_ge h hx
  grind
/-- a part of the masses of a material of a history -/
theorem le_sumR {l : List Rat} {m : Nat} (h : ∀ v ∈ l, ¬ v < 0) (hm : m < l.length) : l.getD m 0 ≤ sumR l := by
  rw [sumR_all]
  refine sumN_one (f := fun m => l.getD m 0) (fun q hq => ?_) hm
  have := h _ (List.mem_of_getElem? (getD_some hq))
  grind
structure MassOk (t : Trace) (w : List Rat) (i : Nat) (x : Move) : Prop where
  took : Took t.ev x (w.getD i 0) (tstk t.ev w i x.src.toNat)
  cap : capB (ivOf t.ev x) (w.getD i 0) = true
theorem mass_ok {t : Trace} {G : List (List Rat)} {w : List Rat} {m : Nat} {c : Rat} (h0 : check t.ev = 0) (h : histE t.ev G = 0) (sG : Shape t.ev G) (hm : (m : Int) < t.ev.mats) (c0 : 0 ≤ c) (c1 : c ≤ 1)
    (hw : ∀ i, i < t.ev.moves.length → w.getD i 0 = c * hAt G i m) {i : Nat} {x : Move} (hx : t.ev.moves[i]? = some x) : MassOk t w i x := by
  have hi : i < t.ev.moves.length := (List.getElem?_eq_some_iff.1 hx).1
  have st := histE_zero.1 h i x hx
  unfold stepAt at st
  rw [stepE_zero] at st
  have h1 : G[i]? = some (G[i]'(by rw [sG.len]; exact hi)) := List.getElem?_eq_getElem _
  have hl : m < (G.getD i []).length := by
    rw [List.getD_eq_getElem?_getD, h1]
    have := sG.wid _ (List.mem_of_getElem? h1)
    simp only [Option.getD_some]
    omega
  have hp : 0 ≤ hAt G i m := by
    have := st.pos _ (List.mem_of_getElem? (getD_some hl))
    unfold hAt; grind
  have hs : ∀ k p, tstk t.ev w k p = c * stk t.ev G k p m := fun k p => by
    have := stk_lin (e := t.ev) (W := col w) (A := G) (B := G) (a := c) (b := 0) (m := 0) (ma := m) (mb := m) (fun i hi => by rw [hAt_col, hw i hi]; grind) k p
    unfold tstk
    rw [this]; grind
  have ht := st.tak
  unfold takenE at ht
  refine ⟨⟨?_, fun hk => ?_, fun ha => ?_⟩, ?_⟩
  · rw [hw i hi]; exact Rat.mul_nonneg c0 hp
  · rw [hw i hi, hs]
    rw [if_neg hk, takenF_zero] at ht
    have := ht.1 m _ (getD_some hl)
    rw [Nat.zero_add] at this
    exact mul_le_mulR (Rat.not_lt.1 this) c0
  · have hk := moveOk_all (check_move h0 (List.mem_of_getElem? hx)) ha
    rw [hw i hi, hs]
    rw [if_neg hk, takenF_zero] at ht
    have q1 := ht.1 m _ (getD_some hl)
    have q2 := (ht.2 ha).2 m _ (getD_some hl)
    rw [Nat.zero_add] at q1 q2
    have : hAt G i m = stk t.ev G i x.src.toNat m := by unfold hAt; grind
    rw [this]
  · have hwe := st.wei
    rw [weighed_iv] at hwe
    rw [hw i hi]
    cases hiv : ivOf t.ev x with
    | none => rfl
    | some p =>
      obtain ⟨lo, hi'⟩ := p
      rw [hiv] at hwe
      simp only [inB, capB, Bool.and_eq_true, decide_eq_true_eq] at *
      have q1 := le_sumR st.pos hl
      have q2 := mul_le_one hp c1
      unfold hAt at q2 ⊢
      grind
def onlyE (e : Ev) : Trace := ⟨e, [], []⟩
theorem mass_only {e : Ev} {G : List (List Rat)} {w : List Rat} {m : Nat} {c : Rat} {kind : Int} (h0 : check e = 0) (h : histE e G = 0) (sG : Shape e G) (hm : (m : Int) < e.mats) (c0 : 0 ≤ c) (c1 : c ≤ 1) (k0 : 0 ≤ kind) (k1 : kind < 8)
    (hl : w.length = e.moves.length) (hw : ∀ i, i < e.moves.length → w.getD i 0 = c * hAt G i m) : Poss (onlyE e) kind w := by
  refine ⟨traceE_mk h0 (by simp [onlyE]) (by simp [onlyE]) rfl rfl, k0, k1, hl, fun i x hx => ?_⟩
  have ok := mass_ok (t := onlyE e) h0 h sG hm c0 c1 hw hx
  exact ⟨ok.took, ok.cap, fun g hg => (by cases hg), fun hc => absurd hc (by simp [onlyE, cleansOf])⟩
theorem mass_some {t : Trace} {G : List (List Rat)} {w : List Rat} {m : Nat} {c : Rat} {kind : Int} (ht : traceE t = 0) (h : histE t.ev G = 0) (sG : Shape t.ev G) (hm : (m : Int) < t.ev.mats) (c0 : 0 ≤ c) (c1 : c ≤ 1) (k0 : 0 ≤ kind) (k1 : kind < 8)
    (hl : w.length = t.ev.moves.length) (hw : ∀ i, i < t.ev.moves.length → w.getD i 0 = c * hAt G i m) : matterE t kind (w.map fz) = 0 ∨ matterE t kind (w.map fz) = 24 ∨ matterE t kind (w.map fz) = 13 := by
  have h0 := (traceE_zero ht).1
  have key : ∀ (ms : List Move) (k : Nat), (∀ j x, ms[j]? = some x → t.ev.moves[k + j]? = some x) → tmovesE t kind w k ms = 0 ∨ tmovesE t kind w k ms = 24 ∨ tmovesE t kind w k ms = 13 := fun ms => by
    induction ms with
    | nil => intro k _; exact .inl rfl
    | cons x r ih =>
      intro k hk
      have hx := hk 0 x rfl
      rw [Nat.add_zero] at hx
      have ok := mass_ok (t := t) h0 h sG hm c0 c1 hw hx
      have ha : tAt t kind w k x = 0 ∨ tAt t kind w k x = 24 ∨ tAt t kind w k x = 13 := by
        unfold tAt tstepE
        rw [if_neg (by rw [tookE_zero.2 ok.took]; decide)]
        unfold allowsE
        rw [if_neg (by rw [ok.cap]; decide)]
        split
        · exact .inr (.inl rfl)
        · split
          · exact .inr (.inr rfl)
          · exact .inl rfl
      unfold tmovesE
      by_cases hz : tAt t kind w k x ≠ 0
      · rw [if_pos hz]
        rcases ha with ha | ha | ha
        · exact absurd ha hz
        · exact .inr (.inl ha)
        · exact .inr (.inr ha)
      · rw [if_neg hz]
        exact ih (k + 1) fun j y hy => by rw [show k + 1 + j = k + (j + 1) by omega]; exact hk (j + 1) y (by simpa using hy)
  unfold matterE
  rw [if_neg (by rw [ht]; omega), if_neg (by rw [List.length_map]; omega), if_pos (List.all_eq_true.2 fun f hf => by obtain ⟨x, _, rfl⟩ := List.mem_map.1 hf; exact fz_right x), fv_map]
  exact key _ 0 fun j x hx => by rw [Nat.zero_add]; exact hx
end Go.Proofs.Ytomfnfbijgjfeaa
/- Chapter 21 in plain Lean: the system of a kind of foreign matter, and its solutions. No program is in sight. -/
namespace Go.Proofs.Ytomfnfbijgjfeaa
set_option linter.unusedVariables false
set_option linter.unusedSimpArgs false

structure RowP where
  terms : List (Int × Rat)
  kind : Int
  value : Rat
structure SysP where
  n : Int
  rows : List RowP
/-- the value of terms -/
def valT (l : List (Int × Rat)) (z : List Rat) : Rat := l.foldl (fun a t => a + t.2 * z.getD t.1.toNat 0) ((0 : Int) : Rat)
theorem valT_snoc (l : List (Int × Rat)) (t : Int × Rat) (z : List Rat) : valT (l ++ [t]) z = valT l z + t.2 * z.getD t.1.toNat 0 := by unfold valT; rw [List.foldl_append]; rfl
/-- right terms: the variables ascend -/
def rightT : Int → Int → List (Int × Rat) → Bool
  | _, _, [] => true
  | last, n, t :: r => decide (last < t.1) && decide (t.1 < n) && decide (t.2 ≠ 0) && rightT t.1 n r
def rightRow (n : Int) (w : RowP) : Bool := rightT (-1) n w.terms && decide (0 ≤ w.kind) && decide (w.kind < 3)
def rightSys (s : SysP) : Bool := decide (0 ≤ s.n) && decide (s.n ≤ 1500) && decide (s.rows.length ≤ 6000) && s.rows.all (rightRow s.n)
def rowB3 (w : RowP) (z : List Rat) : Bool := !((decide (valT w.terms z < w.value) && decide (w.kind ≠ 1)) || (decide (w.value < valT w.terms z) && decide (w.kind ≠ 0)))
def holdsSys (s : SysP) (z : List Rat) : Bool := rightSys s && decide ((z.length : Int) = s.n) && z.all (fun v => decide (0 ≤ v)) && s.rows.all (fun w => rowB3 w z)
def termsTo (e : Ev) (p : Int) : Nat → List (Int × Rat)
  | 0 => []
  | k + 1 => match e.moves[k]? with
    | none => termsTo e p k
    | some y => if y.dst = p then termsTo e p k ++ [((k : Int), ((1 : Int) : Rat))] else if y.src = p then termsTo e p k ++ [((k : Int), ((-1 : Int) : Rat))] else termsTo e p k
def stockRow (e : Ev) (i : Nat) (x : Move) : RowP := ⟨termsTo e x.src i ++ [((i : Int), ((-1 : Int) : Rat))], if x.all then 2 else 0, ((0 : Int) : Rat)⟩
def oneRow (i : Nat) (kind : Int) (v : Rat) : RowP := ⟨[((i : Int), ((1 : Int) : Rat))], kind, v⟩
def capRows (iv : Option (Rat × Rat)) (i : Nat) : List RowP := match iv with
  | none => []
  | some (_, hi) => [oneRow i 1 hi]
def moveRows (t : Trace) (kind : Int) (i : Nat) (x : Move) : List RowP :=
  (if kindAt t.ev x.src = 0 then [] else [stockRow t.ev i x]) ++ capRows (ivOf t.ev x) i ++ (gramsOf t.finds kind i).map (fun g : Int => oneRow i 0 (g : Rat)) ++ List.replicate (cleansOf t.cleans kind i) (oneRow i 2 ((0 : Int) : Rat))
def sysRows (t : Trace) (kind : Int) : Nat → List RowP
  | 0 => []
  | k + 1 => match t.ev.moves[k]? with
    | none => sysRows t kind k
    | some x => sysRows t kind k ++ moveRows t kind k x
def sysOf (t : Trace) (kind : Int) : SysP := ⟨t.ev.moves.length, sysRows t kind t.ev.moves.length⟩
theorem valT_terms {e : Ev} (h0 : check e = 0) (z : List Rat) (p : Nat) : ∀ k, valT (termsTo e p k) z = tstk e z k p
  | 0 => rfl
  | k + 1 => by
    have ih := valT_terms h0 z p k
    unfold termsTo
    cases hx : e.moves[k]? with
    | none => rw [tstk_end hx]; exact ih
    | some y =>
      have hm := check_move h0 (List.mem_of_getElem? hx)
      have hne : y.src ≠ y.dst := by unfold moveOk at hm; simp only [Bool.and_eq_true, decide_eq_true_eq] at hm; exact hm.1.1.1.1.1.2
      rw [tstk_succ hx]
      simp only
      by_cases c1 : y.dst = (p : Int)
      · rw [if_pos c1, if_neg (by omega), if_pos c1, valT_snoc, ih]
        simp only [Int.toNat_natCast]
        have : ((1 : Int) : Rat) = 1 := rfl
        rw [this]; grind
      · rw [if_neg c1]
        by_cases c2 : y.src = (p : Int)
        · rw [if_pos c2, if_pos c2, valT_snoc, ih]
          simp only [Int.toNat_natCast]
          have : ((-1 : Int) : Rat) = -1 := rfl
          rw [this]; grind
        · rw [if_neg c2, if_neg c2, if_neg c1]; exact ih
theorem rowB3_iff {w : RowP} {z : List Rat} : rowB3 w z = true ↔ (valT w.terms z < w.value → w.kind = 1) ∧ (w.value < valT w.terms z → w.kind = 0) := by
  unfold rowB3
  simp only [Bool.not_eq_true', Bool.or_eq_false_iff, Bool.and_eq_false_iff, decide_eq_false_iff_not, Classical.not_not]
  constructor
  · rintro ⟨h1, h2⟩
    exact ⟨fun h => h1.resolve_left (fun h' => h' h), fun h => h2.resolve_left (fun h' => h' h)⟩
  · rintro ⟨h1, h2⟩
    refine ⟨?_, ?_⟩
    · by_cases h : valT w.terms z < w.value
      · exact .inr (h1 h)
      · exact .inl h
    · by_cases h : w.value < valT w.terms z
      · exact .inr (h2 h)
      · exact .inl h
theorem one_val (i : Nat) (kind : Int) (v : Rat) (z : List Rat) : valT (oneRow i kind v).terms z = z.getD i 0 := by
  show ((0 : Int) : Rat) + ((1 : Int) : Rat) * z.getD ((i : Int)).toNat 0 = _
  rw [Int.toNat_natCast]
  have h0 : ((0 : Int) : Rat) = 0 := rfl
  have h1 : ((1 : Int) : Rat) = 1 := rfl
  rw [h0, h1]; grind
theorem one_most {i : Nat} {v : Rat} {z : List Rat} : rowB3 (oneRow i 1 v) z = true ↔ z.getD i 0 ≤ v := by
  rw [rowB3_iff, one_val]
  show (_ → (1 : Int) = 1) ∧ (v < z.getD i 0 → (1 : Int) = 0) ↔ _
  constructor
  · rintro ⟨_, h⟩; exact Rat.not_lt.1 fun h' => absurd (h h') (by decide)
  · intro h; exact ⟨fun _ => rfl, fun h' => absurd h' (Rat.not_lt.2 h)⟩
theorem one_least {i : Nat} {v : Rat} {z : List Rat} : rowB3 (oneRow i 0 v) z = true ↔ v ≤ z.getD i 0 := by
  rw [rowB3_iff, one_val]
  show (z.getD i 0 < v → (0 : Int) = 1) ∧ (_ → (0 : Int) = 0) ↔ _
  constructor
  · rintro ⟨h, _⟩; exact Rat.not_lt.1 fun h' => absurd (h h') (by decide)
  · intro h; exact ⟨fun h' => absurd h' (Rat.not_lt.2 h), fun _ => rfl⟩
theorem one_equal {i : Nat} {v : Rat} {z : List Rat} : rowB3 (oneRow i 2 v) z = true ↔ z.getD i 0 = v := by
  rw [rowB3_iff, one_val]
  show (z.getD i 0 < v → (2 : Int) = 1) ∧ (v < z.getD i 0 → (2 : Int) = 0) ↔ _
  constructor
  · rintro ⟨h, h2⟩
    have q1 : ¬ z.getD i 0 < v := fun h' => absurd (h h') (by decide)
    have q2 : ¬ v < z.getD i 0 := fun h' => absurd (h2 h') (by decide)
    grind
  · intro h; exact ⟨fun h' => by grind, fun h' => by grind⟩
theorem stock_holds {e : Ev} (h0 : check e = 0) {i : Nat} {x : Move} (hx : e.moves[i]? = some x) {z : List Rat} : rowB3 (stockRow e i x) z = true ↔ z.getD i 0 ≤ tstk e z i x.src.toNat ∧ (x.all = true → z.getD i 0 = tstk e z i x.src.toNat) := by
  have hm := check_move h0 (List.mem_of_getElem? hx)
  have ms := moveOk_src hm
  have hv : valT (stockRow e i x).terms z = tstk e z i x.src.toNat - z.getD i 0 := by
    unfold stockRow
    simp only
    rw [valT_snoc, show termsTo e x.src i = termsTo e ((x.src.toNat : Nat) : Int) i by rw [show ((x.src.toNat : Nat) : Int) = x.src by omega], valT_terms h0]
    simp only [Int.toNat_natCast]
    have : ((-1 : Int) : Rat) = -1 := rfl
    rw [this]; grind
  have hz : (stockRow e i x).value = 0 := rfl
  have hk : (stockRow e i x).kind = if x.all then 2 else 0 := rfl
  rw [rowB3_iff, hv, hz, hk]
  cases hal : x.all with
  | true =>
    simp only [if_true]
    constructor
    · rintro ⟨h, h2⟩
      have q1 : ¬ tstk e z i x.src.toNat - z.getD i 0 < 0 := fun h' => absurd (h h') (by decide)
      have q2 : ¬ 0 < tstk e z i x.src.toNat - z.getD i 0 := fun h' => absurd (h2 h') (by decide)
      exact ⟨by grind, fun _ => by grind⟩
    · rintro ⟨h, h2⟩
      have h2 := h2 trivial
      exact ⟨fun h' => by grind, fun h' => by grind⟩
  | false =>
    simp only [Bool.false_eq_true, if_false]
    constructor
    · rintro ⟨h, h2⟩
      have q1 : ¬ tstk e z i x.src.toNat - z.getD i 0 < 0 := fun h' => absurd (h h') (by decide)
      exact ⟨by grind, fun h => (by cases h)⟩
    · rintro ⟨h, _⟩
      exact ⟨fun h' => by grind, fun _ => trivial⟩
theorem move_holds {t : Trace} {kind : Int} (h0 : check t.ev = 0) {i : Nat} {x : Move} (hx : t.ev.moves[i]? = some x) {z : List Rat} (hz : 0 ≤ z.getD i 0) :
    (moveRows t kind i x).all (fun w => rowB3 w z) = true ↔ Took t.ev x (z.getD i 0) (tstk t.ev z i x.src.toNat) ∧ Allows t kind i x (z.getD i 0) := by
  have hmo := check_move h0 (List.mem_of_getElem? hx)
  unfold moveRows
  simp only [List.all_append, Bool.and_eq_true, List.all_map]
  have e1 : (if kindAt t.ev x.src = 0 then ([] : List RowP) else [stockRow t.ev i x]).all (fun w => rowB3 w z) = true ↔ (kindAt t.ev x.src ≠ 0 → z.getD i 0 ≤ tstk t.ev z i x.src.toNat ∧ (x.all = true → z.getD i 0 = tstk t.ev z i x.src.toNat)) := by
    by_cases hb : kindAt t.ev x.src = 0
    · rw [if_pos hb]; exact ⟨fun _ h => absurd hb h, fun _ => rfl⟩
    · rw [if_neg hb]
      simp only [List.all_cons, List.all_nil, Bool.and_true]
      rw [stock_holds h0 hx]
      exact ⟨fun h _ => h, fun h => h hb⟩
  have e2 : (capRows (ivOf t.ev x) i).all (fun w => rowB3 w z) = true ↔ capB (ivOf t.ev x) (z.getD i 0) = true := by
    cases hiv : ivOf t.ev x with
    | none => exact ⟨fun _ => rfl, fun _ => rfl⟩
    | some p =>
      obtain ⟨lo, hi⟩ := p
      simp only [capRows, capB, List.all_cons, List.all_nil, Bool.and_true, decide_eq_true_eq]
      exact one_most
  have e3 : (gramsOf t.finds kind i).all ((fun w => rowB3 w z) ∘ fun g : Int => oneRow i 0 (g : Rat)) = true ↔ ∀ g ∈ gramsOf t.finds kind i, (g : Rat) ≤ z.getD i 0 := by
    rw [List.all_eq_true]
    exact ⟨fun h g hg => one_least.1 (h g hg), fun h g hg => one_least.2 (h g hg)⟩
  have e4 : (List.replicate (cleansOf t.cleans kind i) (oneRow i 2 ((0 : Int) : Rat))).all (fun w => rowB3 w z) = true ↔ (0 < cleansOf t.cleans kind i → z.getD i 0 = 0) := by
    rw [List.all_eq_true]
    constructor
    · intro h hc; exact one_equal.1 (h _ (List.mem_replicate.2 ⟨by omega, rfl⟩))
    · intro h w hw
      obtain ⟨h1, rfl⟩ := List.mem_replicate.1 hw
      exact one_equal.2 (h (by omega))
  rw [e1, e2, e3, e4]
  constructor
  · rintro ⟨⟨⟨q1, q2⟩, q3⟩, q4⟩
    exact ⟨⟨hz, fun h => (q1 h).1, fun h => (q1 (moveOk_all hmo h)).2 h⟩, ⟨q2, q3, q4⟩⟩
  · rintro ⟨p1, p2⟩
    exact ⟨⟨⟨fun h => ⟨p1.most h, p1.all⟩, p2.cap⟩, p2.fin⟩, p2.cln⟩
theorem sysRows_all {t : Trace} {kind : Int} {q : RowP → Bool} : ∀ n, n ≤ t.ev.moves.length → ((sysRows t kind n).all q = true ↔ ∀ i x, i < n → t.ev.moves[i]? = some x → (moveRows t kind i x).all q = true)
  | 0, _ => ⟨fun _ i x h => by omega, fun _ => rfl⟩
  | n + 1, h => by
    obtain ⟨y, hy⟩ : ∃ y, t.ev.moves[n]? = some y := ⟨_, List.getElem?_eq_getElem (by omega)⟩
    unfold sysRows
    rw [hy]
    simp only [List.all_append, Bool.and_eq_true]
    rw [sysRows_all n (by omega)]
    constructor
    · rintro ⟨h1, h2⟩ i x hi hx
      rcases Nat.lt_or_ge i n with h3 | h3
      · exact h1 i x h3 hx
      · obtain rfl : i = n := by omega
        rw [hy] at hx; injection hx with hx; subst hx; exact h2
    · intro h1
      exact ⟨fun i x hi hx => h1 i x (by omega) hx, h1 n y (by omega) hy⟩
theorem rightT_one {last n i : Int} {c : Rat} (h1 : last < i) (h2 : i < n) (h3 : c ≠ 0) : rightT last n [(i, c)] = true := by
  unfold rightT
  simp [h1, h2, h3, rightT]
theorem rightT_snoc {n : Int} {c : Rat} {i : Int} (h2 : i < n) (h3 : c ≠ 0) : ∀ {l : List (Int × Rat)} {last : Int}, rightT last n l = true → last < i → (∀ t ∈ l, t.1 < i) → rightT last n (l ++ [(i, c)]) = true
  | [], last, _, h, _ => rightT_one h h2 h3
  | t :: r, last, h, h1, ht => by
    unfold rightT at h
    simp only [Bool.and_eq_true, decide_eq_true_eq] at h
    show rightT last n (t :: (r ++ [(i, c)])) = true
    unfold rightT
    simp only [Bool.and_eq_true, decide_eq_true_eq]
    exact ⟨h.1, rightT_snoc h2 h3 h.2 (ht t (by simp)) fun u hu => ht u (by simp [hu])⟩
theorem rat_one_ne : ((1 : Int) : Rat) ≠ 0 := by decide
theorem rat_mone_ne : ((-1 : Int) : Rat) ≠ 0 := by decide
theorem termsTo_right {e : Ev} {p : Int} {n : Int} : ∀ k : Nat, (k : Int) ≤ n → rightT (-1) n (termsTo e p k) = true ∧ ∀ t ∈ termsTo e p k, t.1 < (k : Int)
  | 0, _ => ⟨rfl, fun t ht => by cases ht⟩
  | k + 1, h => by
    obtain ⟨h1, h2⟩ := termsTo_right (e := e) (p := p) (n := n) k (by omega)
    have h3 : ∀ c : Rat, c ≠ 0 → rightT (-1) n (termsTo e p k ++ [((k : Int), c)]) = true ∧ ∀ t ∈ termsTo e p k ++ [((k : Int), c)], t.1 < ((k + 1 : Nat) : Int) := fun c hc =>
      ⟨rightT_snoc (by omega) hc h1 (by omega) h2, fun t ht => by
        rcases List.mem_append.1 ht with ht | ht
        · have := h2 t ht; omega
        · simp at ht; subst ht; simp; omega⟩
    unfold termsTo
    cases hx : e.moves[k]? with
    | none => exact ⟨h1, fun t ht => by have := h2 t ht; omega⟩
    | some y =>
      simp only
      split
      · exact h3 _ rat_one_ne
      · split
        · exact h3 _ rat_mone_ne
        · exact ⟨h1, fun t ht => by have := h2 t ht; omega⟩
theorem move_right {t : Trace} {kind : Int} {i : Nat} {x : Move} {n : Int} (hi : (i : Int) < n) : (moveRows t kind i x).all (rightRow n) = true := by
  have ho : ∀ (k : Int) (v : Rat), 0 ≤ k → k < 3 → rightRow n (oneRow i k v) = true := fun k v h1 h2 => by
    unfold rightRow oneRow
    simp only [Bool.and_eq_true, decide_eq_true_eq]
    exact ⟨⟨rightT_one (by omega) hi rat_one_ne, h1⟩, h2⟩
  unfold moveRows
  simp only [List.all_append, Bool.and_eq_true, List.all_eq_true]
  refine ⟨⟨⟨fun w hw => ?_, fun w hw => ?_⟩, fun w hw => ?_⟩, fun w hw => ?_⟩
  · by_cases hb : kindAt t.ev x.src = 0
    · rw [if_pos hb] at hw; cases hw
    · rw [if_neg hb] at hw
      simp at hw
      subst hw
      obtain ⟨h1, h2⟩ := termsTo_right (e := t.ev) (p := x.src) (n := n) i (by omega)
      unfold rightRow stockRow
      simp only [Bool.and_eq_true, decide_eq_true_eq]
      refine ⟨⟨rightT_snoc hi rat_mone_ne h1 (by omega) h2, ?_⟩, ?_⟩ <;> split <;> decide
  · cases hiv : ivOf t.ev x with
    | none => rw [hiv] at hw; cases hw
    | some p =>
      obtain ⟨lo, hi⟩ := p
      rw [hiv] at hw
      simp [capRows] at hw
      subst hw
      exact ho 1 hi (by decide) (by decide)
  · obtain ⟨g, _, rfl⟩ := List.mem_map.1 hw
    exact ho 0 _ (by decide) (by decide)
  · obtain ⟨_, rfl⟩ := List.mem_replicate.1 hw
    exact ho 2 _ (by decide) (by decide)
theorem moveRows_len {t : Trace} {kind : Int} {i : Nat} {x : Move} : (moveRows t kind i x).length ≤ 2 + t.finds.length + t.cleans.length := by
  unfold moveRows
  have h1 : (capRows (ivOf t.ev x) i).length ≤ 1 := by unfold capRows; split <;> simp
  have h2 : (gramsOf t.finds kind i).length ≤ t.finds.length := by unfold gramsOf; rw [List.length_map]; exact List.length_filter_le _ _
  have h3 : cleansOf t.cleans kind i ≤ t.cleans.length := List.length_filter_le _ _
  have h4 : (if kindAt t.ev x.src = 0 then ([] : List RowP) else [stockRow t.ev i x]).length ≤ 1 := by split <;> simp
  simp only [List.length_append, List.length_map, List.length_replicate]
  omega
theorem sysRows_len {t : Trace} {kind : Int} : ∀ n, (sysRows t kind n).length ≤ n * (2 + t.finds.length + t.cleans.length)
  | 0 => by simp [sysRows]
  | n + 1 => by
    have ih := sysRows_len (t := t) (kind := kind) n
    unfold sysRows
    rw [Nat.succ_mul]
    cases hx : t.ev.moves[n]? with
    | none => simp only; omega
    | some x =>
      have := moveRows_len (t := t) (kind := kind) (i := n) (x := x)
      simp only [List.length_append]
      omega
theorem sys_right {t : Trace} {kind : Int} (hm : t.ev.moves.length ≤ 14) (hf : t.finds.length ≤ 20) (hc : t.cleans.length ≤ 50) : rightSys (sysOf t kind) = true := by
  unfold rightSys sysOf
  have h1 := sysRows_len (t := t) (kind := kind) t.ev.moves.length
  have h2 : t.ev.moves.length * (2 + t.finds.length + t.cleans.length) ≤ 14 * 72 := Nat.mul_le_mul hm (by omega)
  simp only [Bool.and_eq_true, decide_eq_true_eq]
  refine ⟨⟨⟨by omega, by omega⟩, by omega⟩, ?_⟩
  rw [sysRows_all _ (Nat.le_refl _)]
  intro i x hi hx
  exact move_right (by omega)
/-- the matter is possible exactly if it is a solution of the system -/
theorem sys_holds {t : Trace} {kind : Int} {z : List Rat} (ht : traceE t = 0) (k0 : 0 ≤ kind) (k1 : kind < 8) (hm : t.ev.moves.length ≤ 14) : holdsSys (sysOf t kind) z = true ↔ Poss t kind z := by
  obtain ⟨q1, q2, q3, q4, q5⟩ := traceE_zero ht
  unfold holdsSys
  rw [sys_right hm q2 q3]
  simp only [Bool.true_and, Bool.and_eq_true, decide_eq_true_eq]
  constructor
  · rintro ⟨⟨h1, h2⟩, h3⟩
    have hl : z.length = t.ev.moves.length := by have : (z.length : Int) = t.ev.moves.length := h1; omega
    refine ⟨ht, k0, k1, hl, fun i x hx => ?_⟩
    have hi : i < t.ev.moves.length := (List.getElem?_eq_some_iff.1 hx).1
    have hz : 0 ≤ z.getD i 0 := of_decide_eq_true (List.all_eq_true.1 h2 _ (List.mem_of_getElem? (getD_some (by omega))))
    exact (move_holds q1 hx hz).1 ((sysRows_all _ (Nat.le_refl _)).1 h3 i x hi hx)
  · intro h
    refine ⟨⟨?_, ?_⟩, ?_⟩
    · show (z.length : Int) = t.ev.moves.length
      rw [h.len]
    · rw [List.all_eq_true]
      intro v hv
      obtain ⟨i, hi, rfl⟩ := List.getElem_of_mem hv
      obtain ⟨x, hx⟩ : ∃ x, t.ev.moves[i]? = some x := ⟨_, List.getElem?_eq_getElem (by rw [← h.len]; exact hi)⟩
      have := (h.step i x hx).1.pos
      rw [List.getD_eq_getElem?_getD, List.getElem?_eq_getElem hi] at this
      exact decide_eq_true this
    · show (sysRows t kind t.ev.moves.length).all _ = true
      rw [sysRows_all _ (Nat.le_refl _)]
      intro i x hi hx
      obtain ⟨a, b⟩ := h.step i x hx
      exact (move_holds q1 hx a.pos).2 ⟨a, b⟩
end Go.Proofs.Ytomfnfbijgjfeaa
/- taint: mark, Check, bin, stock. -/
namespace Go.Proofs.Ytomfnfbijgjfeaa
open Go.RowKit
set_option linter.unusedVariables false
set_option linter.unusedSimpArgs false
set_option maxRecDepth 100000

def Find.row (f : Find) : List T := [ti f.mv, ti f.kind, ti f.grams]
def Clean.row (c : Clean) : List T := [ti c.mv, ti c.kind]
abbrev findsT (l : List Find) : T := .sl 3 .any (l.map Find.row)
abbrev cleansT (l : List Clean) : T := .sl 2 .any (l.map Clean.row)
def trT (t : Trace) : List T := [ti t.ev.mats, ti t.ev.hhs, ti t.ev.scs, placesT t.ev.places, movesT t.ev.moves, certsT t.ev.certs, recallsT t.ev.recalls, puritiesT t.ev.purities, findsT t.finds, cleansT t.cleans]
def trC (t : Trace) : List C := [.t (ti t.ev.mats), .t (ti t.ev.hhs), .t (ti t.ev.scs), .t (placesT t.ev.places), .t (movesT t.ev.moves), .t (certsT t.ev.certs), .t (recallsT t.ev.recalls), .t (puritiesT t.ev.purities), .t (findsT t.finds), .t (cleansT t.cleans)]
abbrev trS (t : Trace) : S := .agg (trC t)
structure Trace.Sized (t : Trace) : Prop where
  ev : t.ev.Sized
  f : t.finds.length ≤ 1000000
  c : t.cleans.length ≤ 1000000
theorem sgR_zero {x : Rat} : sgR x = 0 ↔ x = 0 := by unfold sgR; split <;> (try split) <;> simp_all <;> grind
theorem a_mark (e : Ev) (mv kind : Int) : ACall Try.prog 44 [evS e, intS .i64 mv, intS .i64 kind] [] (intS .i64 (markE e mv kind)) [] := by
  have l2 : (e.moves.map Move.row).length = e.moves.length := by simp
  (refine acall_of tab_ok Try.func44 rfl (by decide) ?_; (conv => whnf); repeat (first | (refine LitB.data ?_; conv => whnf) | (refine BoxB.data ?_; conv => whnf)))
  (repeat' (first | ((refine DecB.mk (fun h => ?_) (fun h => ?_)) <;> first | (exfalso; omega) | (conv => whnf)) | ((refine BoolB.mk (fun h => ?_) (fun h => ?_)) <;> first | (exact absurd h (by decide)) | (conv => whnf)) | (refine ⟨_, wrap_ok (by omega) (by omega), ?_⟩; conv => whnf) | (refine and_idx (by omega) (by omega) ?_; conv => whnf) | (refine reg_ok (by decide +kernel) ?_; conv => whnf) | (refine bar_ok (by decide +kernel) (by decide +kernel) ?_; conv => whnf) | (refine late_ok rfl rfl ?_; conv => whnf) | (refine src_ok rfl ?_; conv => whnf) | (refine LitB.data ?_; conv => whnf) | (refine BoxB.own ?_; conv => whnf)))
  all_goals (refine fin_int ?_; unfold markE; (repeat' split) <;> first | rfl | omega)
theorem a_TCheck (t : Trace) (hs : t.Sized) : ACall Try.prog 12 [trS t] [] (intS .i64 (traceE t)) [] := by
  have l1 := hs.f
  have l2 := hs.c
  have ck := a_Check t.ev hs.ev
  have m1 : (t.finds.map Find.row).length = t.finds.length := by simp
  have m2 : (t.cleans.map Clean.row).length = t.cleans.length := by simp
  by_cases h0 : check t.ev ≠ 0
  · have e1 : traceE t = check t.ev := by unfold traceE; rw [if_pos h0]
    rw [e1]
    (refine acall_of tab_ok Try.func12 rfl (by decide) ?_; (conv => whnf); repeat (first | (refine LitB.data ?_; conv => whnf) | (refine BoxB.data ?_; conv => whnf)))
    (repeat' (first | ((refine DecB.mk (fun h => ?_) (fun h => ?_)) <;> first | (exfalso; omega) | (conv => whnf)) | ((refine BoolB.mk (fun h => ?_) (fun h => ?_)) <;> first | (exact absurd h (by decide)) | (conv => whnf)) | (refine ⟨_, wrap_ok (by omega) (by omega), ?_⟩; conv => whnf) | (refine and_idx (by omega) (by omega) ?_; conv => whnf) | (refine reg_ok (by decide +kernel) ?_; conv => whnf) | (refine bar_ok (by decide +kernel) (by decide +kernel) ?_; conv => whnf) | (refine late_ok rfl rfl ?_; conv => whnf) | (refine src_ok rfl ?_; conv => whnf) | (refine .inl ⟨_, _, qcall_pure (ck) rfl rfl, ?_⟩; conv => whnf) | (refine LitB.data ?_; conv => whnf) | (refine BoxB.own ?_; conv => whnf)))
    all_goals first
      | (exfalso; omega)
      | exact fin_int rfl
  have h0 : check t.ev = 0 := by omega
  rw [h0] at ck
  by_cases h1 : 20 < t.finds.length ∨ 50 < t.cleans.length
  · have e1 : traceE t = 6 := by unfold traceE; rw [if_neg (by omega), if_pos h1]
    rw [e1]
    (refine acall_of tab_ok Try.func12 rfl (by decide) ?_; (conv => whnf); repeat (first | (refine LitB.data ?_; conv => whnf) | (refine BoxB.data ?_; conv => whnf)))
    (repeat' (first | ((refine DecB.mk (fun h => ?_) (fun h => ?_)) <;> first | (exfalso; omega) | (conv => whnf)) | ((refine BoolB.mk (fun h => ?_) (fun h => ?_)) <;> first | (exact absurd h (by decide)) | (conv => whnf)) | (refine ⟨_, wrap_ok (by omega) (by omega), ?_⟩; conv => whnf) | (refine and_idx (by omega) (by omega) ?_; conv => whnf) | (refine reg_ok (by decide +kernel) ?_; conv => whnf) | (refine bar_ok (by decide +kernel) (by decide +kernel) ?_; conv => whnf) | (refine late_ok rfl rfl ?_; conv => whnf) | (refine src_ok rfl ?_; conv => whnf) | (refine .inl ⟨_, _, qcall_pure (ck) rfl rfl, ?_⟩; conv => whnf) | (refine LitB.data ?_; conv => whnf) | (refine BoxB.own ?_; conv => whnf)))
    all_goals first
      | (exfalso; omega)
      | exact fin_int rfl
  have e1 : traceE t = if findsE t.ev t.finds ≠ 0 then findsE t.ev t.finds else cleansE t.ev t.cleans := by unfold traceE; rw [if_neg (by omega), if_neg h1]
  rw [e1]
  (refine acall_of tab_ok Try.func12 rfl (by decide) ?_; (conv => whnf); repeat (first | (refine LitB.data ?_; conv => whnf) | (refine BoxB.data ?_; conv => whnf)))
  (repeat' (first | ((refine DecB.mk (fun h => ?_) (fun h => ?_)) <;> first | (exfalso; omega) | (conv => whnf)) | ((refine BoolB.mk (fun h => ?_) (fun h => ?_)) <;> first | (exact absurd h (by decide)) | (conv => whnf)) | (refine ⟨_, wrap_ok (by omega) (by omega), ?_⟩; conv => whnf) | (refine and_idx (by omega) (by omega) ?_; conv => whnf) | (refine reg_ok (by decide +kernel) ?_; conv => whnf) | (refine bar_ok (by decide +kernel) (by decide +kernel) ?_; conv => whnf) | (refine late_ok rfl rfl ?_; conv => whnf) | (refine src_ok rfl ?_; conv => whnf) | (refine .inl ⟨_, _, qcall_pure (ck) rfl rfl, ?_⟩; conv => whnf) | (refine LitB.data ?_; conv => whnf) | (refine BoxB.own ?_; conv => whnf)))
  all_goals try (exfalso; omega)
  refine awp_for tab_ok (fun k => ([S.junk, S.c (C.t (T.ptr (trT t))), S.junk, S.junk, S.junk, S.junk, S.junk, S.junk, S.junk, S.junk, S.junk, S.junk, S.junk, S.junk, S.junk, S.junk, S.junk, S.junk, S.junk, S.junk, S.junk, S.junk, S.junk, S.junk, S.junk, S.junk, S.junk, S.c (C.t (findsT t.finds)), intS .i64 t.finds.length, intS .i64 k, S.junk, S.junk, S.junk, S.junk, S.junk, S.junk, S.junk, S.junk, S.junk, S.junk, S.junk, S.junk, S.junk, S.junk, S.junk, S.junk, S.junk, S.junk, S.junk, S.junk, S.junk, S.junk, S.junk, S.junk, S.junk, S.junk, S.junk, S.junk, S.junk, S.junk, S.junk, S.junk, S.junk, S.junk, S.junk, S.junk, S.junk, S.junk, S.junk, S.junk], [])) t.finds.length (fun k => findsE t.ev t.finds = findsE t.ev (t.finds.drop k)) [] rfl
    ⟨rfl, rfl, trivial, ⟨rfl, rfl, ent_i (by simp), rfl, trivial⟩⟩ ?_
  intro k hk hI
  by_cases hlt : k < t.finds.length
  · obtain ⟨f, hf⟩ : ∃ f, t.finds[k]? = some f := ⟨_, List.getElem?_eq_getElem hlt⟩
    have mk := a_mark t.ev f.mv f.kind
    rw [drop_get hf, findsE] at hI
    by_cases hm : markE t.ev f.mv f.kind ≠ 0
    · rw [if_pos hm] at hI
      rw [hI, if_pos hm]
      conv => whnf
      (repeat' (first | ((refine DecB.mk (fun h => ?_) (fun h => ?_)) <;> first | (exfalso; omega) | (conv => whnf)) | ((refine BoolB.mk (fun h => ?_) (fun h => ?_)) <;> first | (exact absurd h (by decide)) | (conv => whnf)) | (refine ⟨_, wrap_ok (by omega) (by omega), ?_⟩; conv => whnf) | (refine and_idx (by omega) (by omega) ?_; conv => whnf) | (refine reg_ok (by decide +kernel) ?_; conv => whnf) | (refine bar_ok (by decide +kernel) (by decide +kernel) ?_; conv => whnf) | (refine late_ok rfl rfl ?_; conv => whnf) | (refine src_ok rfl ?_; conv => whnf) | (refine .inl ⟨_, _, qcall_pure (mk) rfl rfl, ?_⟩; conv => whnf) | (refine ex_row hf ?_; conv => whnf) | (refine LitB.data ?_; conv => whnf) | (refine BoxB.own ?_; conv => whnf)))
      all_goals first
        | (exfalso; omega)
        | exact fin_int rfl
    · rw [if_neg hm] at hI
      by_cases hg : f.grams < 1 ∨ 1099511627776 < f.grams
      · rw [if_pos hg] at hI
        rw [hI]
        conv => whnf
        (repeat' (first | ((refine DecB.mk (fun h => ?_) (fun h => ?_)) <;> first | (exfalso; omega) | (conv => whnf)) | ((refine BoolB.mk (fun h => ?_) (fun h => ?_)) <;> first | (exact absurd h (by decide)) | (conv => whnf)) | (refine ⟨_, wrap_ok (by omega) (by omega), ?_⟩; conv => whnf) | (refine and_idx (by omega) (by omega) ?_; conv => whnf) | (refine reg_ok (by decide +kernel) ?_; conv => whnf) | (refine bar_ok (by decide +kernel) (by decide +kernel) ?_; conv => whnf) | (refine late_ok rfl rfl ?_; conv => whnf) | (refine src_ok rfl ?_; conv => whnf) | (refine .inl ⟨_, _, qcall_pure (mk) rfl rfl, ?_⟩; conv => whnf) | (refine ex_row hf ?_; conv => whnf) | (refine LitB.data ?_; conv => whnf) | (refine BoxB.own ?_; conv => whnf)))
        all_goals first
          | (exfalso; omega)
          | exact fin_int rfl
      · rw [if_neg hg] at hI
        conv => whnf
        (repeat' (first | ((refine DecB.mk (fun h => ?_) (fun h => ?_)) <;> first | (exfalso; omega) | (conv => whnf)) | ((refine BoolB.mk (fun h => ?_) (fun h => ?_)) <;> first | (exact absurd h (by decide)) | (conv => whnf)) | (refine ⟨_, wrap_ok (by omega) (by omega), ?_⟩; conv => whnf) | (refine and_idx (by omega) (by omega) ?_; conv => whnf) | (refine reg_ok (by decide +kernel) ?_; conv => whnf) | (refine bar_ok (by decide +kernel) (by decide +kernel) ?_; conv => whnf) | (refine late_ok rfl rfl ?_; conv => whnf) | (refine src_ok rfl ?_; conv => whnf) | (refine .inl ⟨_, _, qcall_pure (mk) rfl rfl, ?_⟩; conv => whnf) | (refine ex_row hf ?_; conv => whnf) | (refine LitB.data ?_; conv => whnf) | (refine BoxB.own ?_; conv => whnf)))
        all_goals first
          | (exfalso; omega)
          | exact ⟨hlt, hI, [], rfl, rfl, trivial, ⟨rfl, rfl, rfl, rfl, trivial⟩⟩
  · rw [List.drop_of_length_le (by omega)] at hI
    have hI : findsE t.ev t.finds = 0 := hI
    rw [hI, if_neg (by omega)]
    conv => whnf
    (repeat' (first | ((refine DecB.mk (fun h => ?_) (fun h => ?_)) <;> first | (exfalso; omega) | (conv => whnf)) | ((refine BoolB.mk (fun h => ?_) (fun h => ?_)) <;> first | (exact absurd h (by decide)) | (conv => whnf)) | (refine ⟨_, wrap_ok (by omega) (by omega), ?_⟩; conv => whnf) | (refine and_idx (by omega) (by omega) ?_; conv => whnf) | (refine reg_ok (by decide +kernel) ?_; conv => whnf) | (refine bar_ok (by decide +kernel) (by decide +kernel) ?_; conv => whnf) | (refine late_ok rfl rfl ?_; conv => whnf) | (refine src_ok rfl ?_; conv => whnf) | (refine LitB.data ?_; conv => whnf) | (refine BoxB.own ?_; conv => whnf)))
    all_goals try (exfalso; omega)
    refine awp_for tab_ok (fun k => ([S.junk, S.c (C.t (T.ptr (trT t))), S.junk, S.junk, S.junk, S.junk, S.junk, S.junk, S.junk, S.junk, S.junk, S.junk, S.junk, S.junk, S.junk, S.junk, S.junk, S.junk, S.junk, S.junk, S.junk, S.junk, S.junk, S.junk, S.junk, S.junk, S.junk, S.junk, S.junk, S.junk, S.junk, S.junk, S.junk, S.junk, S.junk, S.junk, S.junk, S.junk, S.junk, S.junk, S.junk, S.junk, S.junk, S.junk, S.junk, S.junk, S.junk, S.junk, S.junk, S.junk, S.junk, S.junk, S.junk, S.c (C.t (cleansT t.cleans)), intS .i64 t.cleans.length, intS .i64 k, S.junk, S.junk, S.junk, S.junk, S.junk, S.junk, S.junk, S.junk, S.junk, S.junk, S.junk, S.junk, S.junk, S.junk], [])) t.cleans.length (fun k => cleansE t.ev t.cleans = cleansE t.ev (t.cleans.drop k)) [] rfl
      ⟨rfl, rfl, trivial, ⟨rfl, rfl, ent_i (by simp), rfl, trivial⟩⟩ ?_
    intro j hj hJ
    by_cases hjt : j < t.cleans.length
    · obtain ⟨c, hc⟩ : ∃ c, t.cleans[j]? = some c := ⟨_, List.getElem?_eq_getElem hjt⟩
      have mk := a_mark t.ev c.mv c.kind
      rw [drop_get hc, cleansE] at hJ
      by_cases hm : markE t.ev c.mv c.kind ≠ 0
      · rw [if_pos hm] at hJ
        rw [hJ]
        conv => whnf
        (repeat' (first | ((refine DecB.mk (fun h => ?_) (fun h => ?_)) <;> first | (exfalso; omega) | (conv => whnf)) | ((refine BoolB.mk (fun h => ?_) (fun h => ?_)) <;> first | (exact absurd h (by decide)) | (conv => whnf)) | (refine ⟨_, wrap_ok (by omega) (by omega), ?_⟩; conv => whnf) | (refine and_idx (by omega) (by omega) ?_; conv => whnf) | (refine reg_ok (by decide +kernel) ?_; conv => whnf) | (refine bar_ok (by decide +kernel) (by decide +kernel) ?_; conv => whnf) | (refine late_ok rfl rfl ?_; conv => whnf) | (refine src_ok rfl ?_; conv => whnf) | (refine .inl ⟨_, _, qcall_pure (mk) rfl rfl, ?_⟩; conv => whnf) | (refine ex_row hc ?_; conv => whnf) | (refine LitB.data ?_; conv => whnf) | (refine BoxB.own ?_; conv => whnf)))
        all_goals first
          | (exfalso; omega)
          | exact fin_int rfl
      · rw [if_neg hm] at hJ
        conv => whnf
        (repeat' (first | ((refine DecB.mk (fun h => ?_) (fun h => ?_)) <;> first | (exfalso; omega) | (conv => whnf)) | ((refine BoolB.mk (fun h => ?_) (fun h => ?_)) <;> first | (exact absurd h (by decide)) | (conv => whnf)) | (refine ⟨_, wrap_ok (by omega) (by omega), ?_⟩; conv => whnf) | (refine and_idx (by omega) (by omega) ?_; conv => whnf) | (refine reg_ok (by decide +kernel) ?_; conv => whnf) | (refine bar_ok (by decide +kernel) (by decide +kernel) ?_; conv => whnf) | (refine late_ok rfl rfl ?_; conv => whnf) | (refine src_ok rfl ?_; conv => whnf) | (refine .inl ⟨_, _, qcall_pure (mk) rfl rfl, ?_⟩; conv => whnf) | (refine ex_row hc ?_; conv => whnf) | (refine LitB.data ?_; conv => whnf) | (refine BoxB.own ?_; conv => whnf)))
        all_goals first
          | (exfalso; omega)
          | exact ⟨hjt, hJ, [], rfl, rfl, trivial, ⟨rfl, rfl, rfl, rfl, trivial⟩⟩
    · rw [List.drop_of_length_le (by omega)] at hJ
      have hJ : cleansE t.ev t.cleans = 0 := hJ
      rw [hJ]
      conv => whnf
      (repeat' (first | ((refine DecB.mk (fun h => ?_) (fun h => ?_)) <;> first | (exfalso; omega) | (conv => whnf)) | ((refine BoolB.mk (fun h => ?_) (fun h => ?_)) <;> first | (exact absurd h (by decide)) | (conv => whnf)) | (refine ⟨_, wrap_ok (by omega) (by omega), ?_⟩; conv => whnf) | (refine and_idx (by omega) (by omega) ?_; conv => whnf) | (refine reg_ok (by decide +kernel) ?_; conv => whnf) | (refine bar_ok (by decide +kernel) (by decide +kernel) ?_; conv => whnf) | (refine late_ok rfl rfl ?_; conv => whnf) | (refine src_ok rfl ?_; conv => whnf) | (refine LitB.data ?_; conv => whnf) | (refine BoxB.own ?_; conv => whnf)))
      all_goals first
        | (exfalso; omega)
        | exact fin_int rfl
theorem a_bin (e : Ev) {i : Nat} {x : Move} (h0 : check e = 0) (hx : e.moves[i]? = some x) : ACall Try.prog 42 [evS e, intS .i64 i] [] (boolS (decide (kindAt e x.src = 0))) [] := by
  have hm := check_move h0 (List.mem_of_getElem? hx)
  have ms := moveOk_src hm
  obtain ⟨s, hsn⟩ : ∃ s : Nat, x.src = s := ⟨x.src.toNat, by omega⟩
  obtain ⟨pl, hpl⟩ : ∃ pl, e.places[s]? = some pl := ⟨_, List.getElem?_eq_getElem (by omega)⟩
  have hkd : kindAt e x.src = pl.kind := by rw [hsn]; exact kindAt_of hpl
  rw [hkd]
  (refine acall_of tab_ok Try.func42 rfl (by decide) ?_; (conv => whnf); repeat (first | (refine LitB.data ?_; conv => whnf) | (refine BoxB.data ?_; conv => whnf)))
  (repeat' (first | ((refine DecB.mk (fun h => ?_) (fun h => ?_)) <;> first | (exfalso; omega) | (conv => whnf)) | ((refine BoolB.mk (fun h => ?_) (fun h => ?_)) <;> first | (exact absurd h (by decide)) | (conv => whnf)) | (refine ⟨_, wrap_ok (by omega) (by omega), ?_⟩; conv => whnf) | (refine and_idx (by omega) (by omega) ?_; conv => whnf) | (refine reg_ok (by decide +kernel) ?_; conv => whnf) | (refine bar_ok (by decide +kernel) (by decide +kernel) ?_; conv => whnf) | (refine late_ok rfl rfl ?_; conv => whnf) | (refine src_ok rfl ?_; conv => whnf) | (refine ex_row hx ?_; conv => whnf) | (refine ex_rowE hsn hpl ?_; conv => whnf) | (refine LitB.data ?_; conv => whnf) | (refine BoxB.own ?_; conv => whnf)))
  all_goals (refine fin_bool ?_; simp [*])
def termRow (x : Int × Rat) : List T := ti x.1 :: frRow (fz x.2)
abbrev termsT (l : List (Int × Rat)) : T := .sl 5 .any (l.map termRow)
def rowRow (w : RowP) : List T := termsT w.terms :: ti w.kind :: frRow (fz w.value)
def rowC (w : RowP) : List C := .t (termsT w.terms) :: .t (ti w.kind) :: frC (fz w.value)
abbrev rowS (w : RowP) : S := .agg (rowC w)
abbrev rowsTT (l : List RowP) : T := .sl 6 .any (l.map rowRow)
abbrev sysS (s : SysP) : S := .agg [.t (ti s.n), .t (rowsTT s.rows)]
end Go.Proofs.Ytomfnfbijgjfeaa
