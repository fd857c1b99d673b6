/- big: Add, Sub, Mul, Div at right integers. -/
import Derived.Test.YtfieodjihaodiaaGreatEc3
namespace Go.Proofs.YtfieodjihaodiaaGreat
open Go.RowKit
set_option linter.unusedVariables false
set_option linter.unusedSimpArgs false
set_option maxRecDepth 100000

theorem a_addD (m n : Nat) (lm : (dg m).length ≤ 300000) (ln : (dg n).length ≤ 300000) :
    ACall Tryz.prog 135 [intsS (dg m), intsS (dg n)] [] (intsS (dg (m + n))) [] := by
  have h := a_add (dg m) (dg n) (okd_dg m) (okd_dg n) (by omega) (by omega)
  rw [val_dg, val_dg, show ((m : Int) + n).toNat = m + n by omega] at h
  exact h
theorem a_subD (m n : Nat) (lm : (dg m).length ≤ 300000) (h : n ≤ m) :
    ACall Tryz.prog 136 [intsS (dg m), intsS (dg n)] [] (intsS (dg (m - n))) [] := by
  have h := a_sub (dg m) (dg n) (okd_dg m) (okd_dg n) (by omega) (dg_len_mono h) (by rw [val_dg, val_dg]; omega)
  rw [val_dg, val_dg, show ((m : Int) - n).toNat = m - n by omega] at h
  exact h
theorem a_mulD (m n : Nat) (lm : (dg m).length ≤ 300000) (ln : (dg n).length ≤ 300000) :
    ACall Tryz.prog 148 [intsS (dg m), intsS (dg n)] [] (intsS (dg (m * n))) [] := by
  have h := a_mul (dg m) (dg n) (okd_dg m) (okd_dg n) (by omega) (by omega)
  rw [val_dg, val_dg, show ((m : Int) * n).toNat = m * n by rw [← Int.natCast_mul]; rfl] at h
  exact h
theorem a_cmpD (m n : Nat) (lm : (dg m).length ≤ 300000) (ln : (dg n).length ≤ 300000) :
    ACall Tryz.prog 121 [intsS (dg m), intsS (dg n)] [] (intS .i64 (cmpI m n)) [] := by
  have h := a_compare (dg m) (dg n) (dg_can m) (dg_can n) (by omega) (by omega)
  rw [val_dg, val_dg] at h
  exact h
theorem a_signedD (s : Int) (k : Nat) (h : s = 1 ∨ s = -1 ∨ k = 0) (lk : (dg k).length ≤ 700000) :
    ACall Tryz.prog 126 [intS .i64 s, intsS (dg k)] [] (bgS (bz (s * k))) [] := by
  have e := a_signed s (dg k) (by omega)
  rw [sgn_bz (okd_dg k) (by rw [val_dg]; omega), val_dg] at e
  exact e
/-- a sign and a size -/
def Sg (s : Int) (m : Nat) : Prop := (s = 0 ∧ m = 0) ∨ (s = 1 ∧ 0 < m) ∨ (s = -1 ∧ 0 < m)
theorem sg_bz (x : Int) : Sg x.sign x.natAbs := by
  rcases sign_cases x with ⟨e, h1⟩ | ⟨e, h1⟩ | ⟨e, h1⟩
  · exact .inl ⟨e, by omega⟩
  · exact .inr (.inl ⟨e, by omega⟩)
  · exact .inr (.inr ⟨e, by omega⟩)
theorem bz_of_sg {s : Int} {m : Nat} (h : Sg s m) : bz (s * m) = ⟨s, dg m⟩ := by
  rcases h with ⟨rfl, rfl⟩ | ⟨rfl, h⟩ | ⟨rfl, h⟩
  · rfl
  · unfold bz; rw [Int.one_mul, Int.sign_eq_one_of_pos (by omega)]; rfl
  · unfold bz; rw [Int.sign_eq_neg_one_of_neg (by omega)]; congr 2; omega
theorem r_bRight (s : Int) (m : Nat) (h : Sg s m) (lm : (dg m).length ≤ 300000) : ACall Tryz.prog 95 [bgS ⟨s, dg m⟩] [] (boolS true) [] := by
  have := a_bRight ⟨s, dg m⟩ (show (dg m).length ≤ 1000000 by omega)
  rw [← bz_of_sg h, bz_right, bz_of_sg h] at this
  exact this
theorem fin_be {b b' : Bg} {e : Int} {H1 : Hp} (h : b = b') : Fin 0 (.tup [bgS b, intS .i64 e]) H1 (.tup [bgS b', intS .i64 e]) [] := by
  subst h; exact fin_t ⟨⟨rfl, rfl, trivial⟩, rfl, trivial⟩
theorem le_of_len {a b c d : Nat} (h : a ≤ max b c + 1) (h2 : max b c + 1 ≤ d) : a ≤ d := Nat.le_trans h h2
theorem r_bAdd (s t : Int) (m n : Nat) (hs : Sg s m) (ht : Sg t n) (lm : (dg m).length ≤ 200000) (ln : (dg n).length ≤ 200000) :
    ACall Tryz.prog 109 [bgS ⟨s, dg m⟩, bgS ⟨t, dg n⟩] [] (.tup [bgS (bz (s * m + t * n)), intS .i64 0]) [] := by
  have r1 := r_bRight s m hs (by omega)
  have r2 := r_bRight t n ht (by omega)
  have ad := a_addD m n (by omega) (by omega)
  have c := a_cmpD m n (by omega) (by omega)
  have ls := dg_add_len m n
  have fin : ∀ (z : Int) (H1 : Hp), z = s * m + t * n → Fin 0 (.tup [bgS (if true then bz z else ⟨0, []⟩), intS .i64 0]) H1 (.tup [bgS (bz (s * m + t * n)), intS .i64 0]) [] := fun z H1 h => fin_be (by rw [h]; rfl)
  rcases hs with ⟨rfl, rfl⟩ | ⟨rfl, h1⟩ | ⟨rfl, h1⟩ <;> rcases ht with ⟨rfl, rfl⟩ | ⟨rfl, h2⟩ | ⟨rfl, h2⟩
  case inl.inl =>
    have sg := a_signedD (0) _ (by omega) (le_of_len ls (by omega))
    have co := a_cmpOr (0) (0)
    (refine acall_of tab_ok Tryz.func109 rfl (by decide) ?_; (conv => whnf); repeat (first | (refine LitB.data ?_; conv => whnf) | (refine BoxB.own ?_; conv => whnf)))
    (repeat' (first | ((refine DecB.mk (fun h => ?_) (fun h => ?_)) <;> first | (exfalso; omega) | (conv => whnf)) | ((refine BoolB.mk (fun h => ?_) (fun h => ?_)) <;> first | (exact absurd h (by decide)) | (conv => whnf)) | ((first | refine zzW ?_ | refine zzI ?_ | refine zzR ?_ | refine zzB ?_ | refine late_ok rfl rfl ?_ | refine src_ok rfl ?_ | refine .inl ⟨_, _, qcall_pure (r1) rfl rfl, ?_⟩ | refine .inl ⟨_, _, qcall_pure (r2) rfl rfl, ?_⟩ | refine .inl ⟨_, _, qcall_pure (ad) rfl rfl, ?_⟩ | refine .inl ⟨_, _, qcall_pure (sg) rfl rfl, ?_⟩ | refine .inl ⟨_, _, qcall_pure (a_checked true _) rfl rfl, ?_⟩ | refine .inl ⟨_, _, qcall_pure (co) rfl rfl, ?_⟩ | refine ⟨_, wrap_eq (y := 0) rfl (by decide) (by decide), ?_⟩ | refine LitB.data ?_ | refine BoxB.own ?_); conv => whnf)))
    all_goals first | (exfalso; omega) | exact fin _ _ (by omega)
  case inl.inr.inl =>
    have sg := a_signedD (1) _ (by omega) (le_of_len ls (by omega))
    have co := a_cmpOr (0) (1)
    (refine acall_of tab_ok Tryz.func109 rfl (by decide) ?_; (conv => whnf); repeat (first | (refine LitB.data ?_; conv => whnf) | (refine BoxB.own ?_; conv => whnf)))
    (repeat' (first | ((refine DecB.mk (fun h => ?_) (fun h => ?_)) <;> first | (exfalso; omega) | (conv => whnf)) | ((refine BoolB.mk (fun h => ?_) (fun h => ?_)) <;> first | (exact absurd h (by decide)) | (conv => whnf)) | ((first | refine zzW ?_ | refine zzI ?_ | refine zzR ?_ | refine zzB ?_ | refine late_ok rfl rfl ?_ | refine src_ok rfl ?_ | refine .inl ⟨_, _, qcall_pure (r1) rfl rfl, ?_⟩ | refine .inl ⟨_, _, qcall_pure (r2) rfl rfl, ?_⟩ | refine .inl ⟨_, _, qcall_pure (ad) rfl rfl, ?_⟩ | refine .inl ⟨_, _, qcall_pure (sg) rfl rfl, ?_⟩ | refine .inl ⟨_, _, qcall_pure (a_checked true _) rfl rfl, ?_⟩ | refine .inl ⟨_, _, qcall_pure (co) rfl rfl, ?_⟩ | refine ⟨_, wrap_eq (y := 0) rfl (by decide) (by decide), ?_⟩ | refine LitB.data ?_ | refine BoxB.own ?_); conv => whnf)))
    all_goals first | (exfalso; omega) | exact fin _ _ (by omega)
  case inl.inr.inr =>
    have sg := a_signedD (-1) _ (by omega) (le_of_len ls (by omega))
    have co := a_cmpOr (0) (-1)
    (refine acall_of tab_ok Tryz.func109 rfl (by decide) ?_; (conv => whnf); repeat (first | (refine LitB.data ?_; conv => whnf) | (refine BoxB.own ?_; conv => whnf)))
    (repeat' (first | ((refine DecB.mk (fun h => ?_) (fun h => ?_)) <;> first | (exfalso; omega) | (conv => whnf)) | ((refine BoolB.mk (fun h => ?_) (fun h => ?_)) <;> first | (exact absurd h (by decide)) | (conv => whnf)) | ((first | refine zzW ?_ | refine zzI ?_ | refine zzR ?_ | refine zzB ?_ | refine late_ok rfl rfl ?_ | refine src_ok rfl ?_ | refine .inl ⟨_, _, qcall_pure (r1) rfl rfl, ?_⟩ | refine .inl ⟨_, _, qcall_pure (r2) rfl rfl, ?_⟩ | refine .inl ⟨_, _, qcall_pure (ad) rfl rfl, ?_⟩ | refine .inl ⟨_, _, qcall_pure (sg) rfl rfl, ?_⟩ | refine .inl ⟨_, _, qcall_pure (a_checked true _) rfl rfl, ?_⟩ | refine .inl ⟨_, _, qcall_pure (co) rfl rfl, ?_⟩ | refine ⟨_, wrap_eq (y := 0) rfl (by decide) (by decide), ?_⟩ | refine LitB.data ?_ | refine BoxB.own ?_); conv => whnf)))
    all_goals first | (exfalso; omega) | exact fin _ _ (by omega)
  case inr.inl.inl =>
    have sg := a_signedD (1) _ (by omega) (le_of_len ls (by omega))
    have co := a_cmpOr (1) (0)
    (refine acall_of tab_ok Tryz.func109 rfl (by decide) ?_; (conv => whnf); repeat (first | (refine LitB.data ?_; conv => whnf) | (refine BoxB.own ?_; conv => whnf)))
    (repeat' (first | ((refine DecB.mk (fun h => ?_) (fun h => ?_)) <;> first | (exfalso; omega) | (conv => whnf)) | ((refine BoolB.mk (fun h => ?_) (fun h => ?_)) <;> first | (exact absurd h (by decide)) | (conv => whnf)) | ((first | refine zzW ?_ | refine zzI ?_ | refine zzR ?_ | refine zzB ?_ | refine late_ok rfl rfl ?_ | refine src_ok rfl ?_ | refine .inl ⟨_, _, qcall_pure (r1) rfl rfl, ?_⟩ | refine .inl ⟨_, _, qcall_pure (r2) rfl rfl, ?_⟩ | refine .inl ⟨_, _, qcall_pure (ad) rfl rfl, ?_⟩ | refine .inl ⟨_, _, qcall_pure (sg) rfl rfl, ?_⟩ | refine .inl ⟨_, _, qcall_pure (a_checked true _) rfl rfl, ?_⟩ | refine .inl ⟨_, _, qcall_pure (co) rfl rfl, ?_⟩ | refine ⟨_, wrap_eq (y := 0) rfl (by decide) (by decide), ?_⟩ | refine LitB.data ?_ | refine BoxB.own ?_); conv => whnf)))
    all_goals first | (exfalso; omega) | exact fin _ _ (by omega)
  case inr.inr.inl =>
    have sg := a_signedD (-1) _ (by omega) (le_of_len ls (by omega))
    have co := a_cmpOr (-1) (0)
    (refine acall_of tab_ok Tryz.func109 rfl (by decide) ?_; (conv => whnf); repeat (first | (refine LitB.data ?_; conv => whnf) | (refine BoxB.own ?_; conv => whnf)))
    (repeat' (first | ((refine DecB.mk (fun h => ?_) (fun h => ?_)) <;> first | (exfalso; omega) | (conv => whnf)) | ((refine BoolB.mk (fun h => ?_) (fun h => ?_)) <;> first | (exact absurd h (by decide)) | (conv => whnf)) | ((first | refine zzW ?_ | refine zzI ?_ | refine zzR ?_ | refine zzB ?_ | refine late_ok rfl rfl ?_ | refine src_ok rfl ?_ | refine .inl ⟨_, _, qcall_pure (r1) rfl rfl, ?_⟩ | refine .inl ⟨_, _, qcall_pure (r2) rfl rfl, ?_⟩ | refine .inl ⟨_, _, qcall_pure (ad) rfl rfl, ?_⟩ | refine .inl ⟨_, _, qcall_pure (sg) rfl rfl, ?_⟩ | refine .inl ⟨_, _, qcall_pure (a_checked true _) rfl rfl, ?_⟩ | refine .inl ⟨_, _, qcall_pure (co) rfl rfl, ?_⟩ | refine ⟨_, wrap_eq (y := 0) rfl (by decide) (by decide), ?_⟩ | refine LitB.data ?_ | refine BoxB.own ?_); conv => whnf)))
    all_goals first | (exfalso; omega) | exact fin _ _ (by omega)
  case inr.inl.inr.inl =>
    have sg := a_signedD (1) _ (by omega) (le_of_len ls (by omega))
    have co := a_cmpOr (1) (1)
    (refine acall_of tab_ok Tryz.func109 rfl (by decide) ?_; (conv => whnf); repeat (first | (refine LitB.data ?_; conv => whnf) | (refine BoxB.own ?_; conv => whnf)))
    (repeat' (first | ((refine DecB.mk (fun h => ?_) (fun h => ?_)) <;> first | (exfalso; omega) | (conv => whnf)) | ((refine BoolB.mk (fun h => ?_) (fun h => ?_)) <;> first | (exact absurd h (by decide)) | (conv => whnf)) | ((first | refine zzW ?_ | refine zzI ?_ | refine zzR ?_ | refine zzB ?_ | refine late_ok rfl rfl ?_ | refine src_ok rfl ?_ | refine .inl ⟨_, _, qcall_pure (r1) rfl rfl, ?_⟩ | refine .inl ⟨_, _, qcall_pure (r2) rfl rfl, ?_⟩ | refine .inl ⟨_, _, qcall_pure (ad) rfl rfl, ?_⟩ | refine .inl ⟨_, _, qcall_pure (sg) rfl rfl, ?_⟩ | refine .inl ⟨_, _, qcall_pure (a_checked true _) rfl rfl, ?_⟩ | refine .inl ⟨_, _, qcall_pure (co) rfl rfl, ?_⟩ | refine ⟨_, wrap_eq (y := 1) rfl (by decide) (by decide), ?_⟩ | refine LitB.data ?_ | refine BoxB.own ?_); conv => whnf)))
    all_goals first | (exfalso; omega) | exact fin _ _ (by omega)
  case inr.inr.inr.inr =>
    have sg := a_signedD (-1) _ (by omega) (le_of_len ls (by omega))
    have co := a_cmpOr (-1) (-1)
    (refine acall_of tab_ok Tryz.func109 rfl (by decide) ?_; (conv => whnf); repeat (first | (refine LitB.data ?_; conv => whnf) | (refine BoxB.own ?_; conv => whnf)))
    (repeat' (first | ((refine DecB.mk (fun h => ?_) (fun h => ?_)) <;> first | (exfalso; omega) | (conv => whnf)) | ((refine BoolB.mk (fun h => ?_) (fun h => ?_)) <;> first | (exact absurd h (by decide)) | (conv => whnf)) | ((first | refine zzW ?_ | refine zzI ?_ | refine zzR ?_ | refine zzB ?_ | refine late_ok rfl rfl ?_ | refine src_ok rfl ?_ | refine .inl ⟨_, _, qcall_pure (r1) rfl rfl, ?_⟩ | refine .inl ⟨_, _, qcall_pure (r2) rfl rfl, ?_⟩ | refine .inl ⟨_, _, qcall_pure (ad) rfl rfl, ?_⟩ | refine .inl ⟨_, _, qcall_pure (sg) rfl rfl, ?_⟩ | refine .inl ⟨_, _, qcall_pure (a_checked true _) rfl rfl, ?_⟩ | refine .inl ⟨_, _, qcall_pure (co) rfl rfl, ?_⟩ | refine ⟨_, wrap_eq (y := 1) rfl (by decide) (by decide), ?_⟩ | refine LitB.data ?_ | refine BoxB.own ?_); conv => whnf)))
    all_goals first | (exfalso; omega) | exact fin _ _ (by omega)
  case inr.inl.inr.inr =>
    rcases Nat.lt_or_ge m n with hmn | hmn
    · rw [cmpI_lt (by omega)] at c
      have l3 := dg_len_mono (Nat.sub_le n m)
      (refine acall_of tab_ok Tryz.func109 rfl (by decide) ?_; (conv => whnf); repeat (first | (refine LitB.data ?_; conv => whnf) | (refine BoxB.own ?_; conv => whnf)))
      (repeat' (first | ((refine DecB.mk (fun h => ?_) (fun h => ?_)) <;> first | (exfalso; omega) | (conv => whnf)) | ((refine BoolB.mk (fun h => ?_) (fun h => ?_)) <;> first | (exact absurd h (by decide)) | (conv => whnf)) | ((first | refine zzW ?_ | refine zzI ?_ | refine zzR ?_ | refine zzB ?_ | refine late_ok rfl rfl ?_ | refine src_ok rfl ?_ | refine .inl ⟨_, _, qcall_pure (r1) rfl rfl, ?_⟩ | refine .inl ⟨_, _, qcall_pure (r2) rfl rfl, ?_⟩ | refine .inl ⟨_, _, qcall_pure (c) rfl rfl, ?_⟩ | refine .inl ⟨_, _, qcall_pure (a_subD n m (by omega) (by omega)) rfl rfl, ?_⟩ | refine .inl ⟨_, _, qcall_pure (a_signedD (-1) (n - m) (by omega) (by omega)) rfl rfl, ?_⟩ | refine .inl ⟨_, _, qcall_pure (a_checked true _) rfl rfl, ?_⟩ | refine ⟨_, wrap_eq (y := -1) rfl (by decide) (by decide), ?_⟩ | refine LitB.data ?_ | refine BoxB.own ?_); conv => whnf)))
      all_goals first | (exfalso; omega) | exact fin _ _ (by omega)
    · have hc : 0 ≤ cmpI m n := by unfold cmpI; split <;> (try split) <;> omega
      have l3 := dg_len_mono (Nat.sub_le m n)
      (refine acall_of tab_ok Tryz.func109 rfl (by decide) ?_; (conv => whnf); repeat (first | (refine LitB.data ?_; conv => whnf) | (refine BoxB.own ?_; conv => whnf)))
      (repeat' (first | ((refine DecB.mk (fun h => ?_) (fun h => ?_)) <;> first | (exfalso; omega) | (conv => whnf)) | ((refine BoolB.mk (fun h => ?_) (fun h => ?_)) <;> first | (exact absurd h (by decide)) | (conv => whnf)) | ((first | refine zzW ?_ | refine zzI ?_ | refine zzR ?_ | refine zzB ?_ | refine late_ok rfl rfl ?_ | refine src_ok rfl ?_ | refine .inl ⟨_, _, qcall_pure (r1) rfl rfl, ?_⟩ | refine .inl ⟨_, _, qcall_pure (r2) rfl rfl, ?_⟩ | refine .inl ⟨_, _, qcall_pure (c) rfl rfl, ?_⟩ | refine .inl ⟨_, _, qcall_pure (a_subD m n (by omega) (by omega)) rfl rfl, ?_⟩ | refine .inl ⟨_, _, qcall_pure (a_signedD (1) (m - n) (by omega) (by omega)) rfl rfl, ?_⟩ | refine .inl ⟨_, _, qcall_pure (a_checked true _) rfl rfl, ?_⟩ | refine ⟨_, wrap_eq (y := -1) rfl (by decide) (by decide), ?_⟩ | refine LitB.data ?_ | refine BoxB.own ?_); conv => whnf)))
      all_goals first | (exfalso; omega) | exact fin _ _ (by omega)
  case inr.inr.inr.inl =>
    rcases Nat.lt_or_ge m n with hmn | hmn
    · rw [cmpI_lt (by omega)] at c
      have l3 := dg_len_mono (Nat.sub_le n m)
      (refine acall_of tab_ok Tryz.func109 rfl (by decide) ?_; (conv => whnf); repeat (first | (refine LitB.data ?_; conv => whnf) | (refine BoxB.own ?_; conv => whnf)))
      (repeat' (first | ((refine DecB.mk (fun h => ?_) (fun h => ?_)) <;> first | (exfalso; omega) | (conv => whnf)) | ((refine BoolB.mk (fun h => ?_) (fun h => ?_)) <;> first | (exact absurd h (by decide)) | (conv => whnf)) | ((first | refine zzW ?_ | refine zzI ?_ | refine zzR ?_ | refine zzB ?_ | refine late_ok rfl rfl ?_ | refine src_ok rfl ?_ | refine .inl ⟨_, _, qcall_pure (r1) rfl rfl, ?_⟩ | refine .inl ⟨_, _, qcall_pure (r2) rfl rfl, ?_⟩ | refine .inl ⟨_, _, qcall_pure (c) rfl rfl, ?_⟩ | refine .inl ⟨_, _, qcall_pure (a_subD n m (by omega) (by omega)) rfl rfl, ?_⟩ | refine .inl ⟨_, _, qcall_pure (a_signedD (1) (n - m) (by omega) (by omega)) rfl rfl, ?_⟩ | refine .inl ⟨_, _, qcall_pure (a_checked true _) rfl rfl, ?_⟩ | refine ⟨_, wrap_eq (y := -1) rfl (by decide) (by decide), ?_⟩ | refine LitB.data ?_ | refine BoxB.own ?_); conv => whnf)))
      all_goals first | (exfalso; omega) | exact fin _ _ (by omega)
    · have hc : 0 ≤ cmpI m n := by unfold cmpI; split <;> (try split) <;> omega
      have l3 := dg_len_mono (Nat.sub_le m n)
      (refine acall_of tab_ok Tryz.func109 rfl (by decide) ?_; (conv => whnf); repeat (first | (refine LitB.data ?_; conv => whnf) | (refine BoxB.own ?_; conv => whnf)))
      (repeat' (first | ((refine DecB.mk (fun h => ?_) (fun h => ?_)) <;> first | (exfalso; omega) | (conv => whnf)) | ((refine BoolB.mk (fun h => ?_) (fun h => ?_)) <;> first | (exact absurd h (by decide)) | (conv => whnf)) | ((first | refine zzW ?_ | refine zzI ?_ | refine zzR ?_ | refine zzB ?_ | refine late_ok rfl rfl ?_ | refine src_ok rfl ?_ | refine .inl ⟨_, _, qcall_pure (r1) rfl rfl, ?_⟩ | refine .inl ⟨_, _, qcall_pure (r2) rfl rfl, ?_⟩ | refine .inl ⟨_, _, qcall_pure (c) rfl rfl, ?_⟩ | refine .inl ⟨_, _, qcall_pure (a_subD m n (by omega) (by omega)) rfl rfl, ?_⟩ | refine .inl ⟨_, _, qcall_pure (a_signedD (-1) (m - n) (by omega) (by omega)) rfl rfl, ?_⟩ | refine .inl ⟨_, _, qcall_pure (a_checked true _) rfl rfl, ?_⟩ | refine ⟨_, wrap_eq (y := -1) rfl (by decide) (by decide), ?_⟩ | refine LitB.data ?_ | refine BoxB.own ?_); conv => whnf)))
      all_goals first | (exfalso; omega) | exact fin _ _ (by omega)
end Go.Proofs.YtfieodjihaodiaaGreat
/- big: Add, Sub, Neg, Mul, Compare, Div at right integers. -/
namespace Go.Proofs.YtfieodjihaodiaaGreat
open Go.RowKit
set_option linter.unusedVariables false
set_option linter.unusedSimpArgs false
set_option maxRecDepth 100000

theorem sgm (x : Int) : x.sign * x.natAbs = x := Int.sign_mul_natAbs x
theorem z_bRight (x : Int) (lx : bl x ≤ 300000) : ACall Tryz.prog 95 [bgS (bz x)] [] (boolS true) [] := r_bRight _ _ (sg_bz x) lx
theorem z_bAdd (x y : Int) (lx : bl x ≤ 200000) (ly : bl y ≤ 200000) : ACall Tryz.prog 109 [bgS (bz x), bgS (bz y)] [] (.tup [bgS (bz (x + y)), intS .i64 0]) [] := by
  have h := r_bAdd _ _ _ _ (sg_bz x) (sg_bz y) lx ly
  rw [sgm, sgm] at h
  exact h
theorem z_bNeg (x : Int) (lx : bl x ≤ 300000) : ACall Tryz.prog 108 [bgS (bz x)] [] (bgS (bz (-x))) [] := by
  have h := a_bNeg (bz x) (show bl x ≤ 1000000 by omega)
  unfold negB at h
  rw [bz_right, bv_bz] at h
  exact h
abbrev bg2 (s : Int) (l : List Int) : S := .agg [.t (ti s), .t (intsT l)]
theorem r_bMul (s t : Int) (m n : Nat) (hs : Sg s m) (ht : Sg t n) (lm : (dg m).length ≤ 200000) (ln : (dg n).length ≤ 200000) :
    ACall Tryz.prog 122 [bgS ⟨s, dg m⟩, bgS ⟨t, dg n⟩] [] (.tup [bgS (bz ((s * t) * (m * n : Nat))), intS .i64 0]) [] := by
  have r1 := r_bRight s m hs (by omega)
  have r2 := r_bRight t n ht (by omega)
  have mu := a_mulD m n (by omega) (by omega)
  have ls := dg_mul_len m n
  have hst : -1 ≤ s * t ∧ s * t ≤ 1 ∧ (s * t = 1 ∨ s * t = -1 ∨ m * n = 0) := by
    rcases hs with ⟨rfl, rfl⟩ | ⟨rfl, h1⟩ | ⟨rfl, h1⟩ <;> rcases ht with ⟨rfl, rfl⟩ | ⟨rfl, h2⟩ | ⟨rfl, h2⟩ <;> simp
  obtain ⟨q1, q2, q3⟩ := hst
  have sg := a_signedD (s * t) (m * n) q3 (by omega)
  have ck := a_checked true (bz ((s * t) * (m * n : Nat)))
  (refine acall_of tab_ok Tryz.func122 rfl (by decide) ?_; (conv => whnf); repeat (first | (refine LitB.data ?_; conv => whnf) | (refine BoxB.own ?_; conv => whnf)))
  (repeat' (first | ((refine DecB.mk (fun h => ?_) (fun h => ?_)) <;> first | (exfalso; omega) | (conv => whnf)) | ((refine BoolB.mk (fun h => ?_) (fun h => ?_)) <;> first | (exact absurd h (by decide)) | (conv => whnf)) | ((first | refine zzW ?_ | refine zzI ?_ | refine zzR ?_ | refine zzB ?_ | refine late_ok rfl rfl ?_ | refine src_ok rfl ?_ | refine .inl ⟨_, _, qcall_pure (r1) rfl rfl, ?_⟩ | refine .inl ⟨_, _, qcall_pure (r2) rfl rfl, ?_⟩ | refine .inl ⟨_, _, qcall_pure (mu) rfl rfl, ?_⟩ | refine .inl ⟨_, _, qcall_pure (sg) rfl rfl, ?_⟩ | refine .inl ⟨_, _, qcall_pure (ck) rfl rfl, ?_⟩ | refine ⟨_, wrap_eq (y := s * t) rfl (by omega) (by omega), ?_⟩ | refine LitB.data ?_ | refine BoxB.own ?_); conv => whnf)))
  all_goals first | (exfalso; simp_all; done) | exact fin_be rfl
theorem z_bMul (x y : Int) (lx : bl x ≤ 200000) (ly : bl y ≤ 200000) : ACall Tryz.prog 122 [bgS (bz x), bgS (bz y)] [] (.tup [bgS (bz (x * y)), intS .i64 0]) [] := by
  have h := r_bMul _ _ _ _ (sg_bz x) (sg_bz y) lx ly
  have e : (x.sign * y.sign) * ((x.natAbs * y.natAbs : Nat) : Int) = x * y := by
    rw [Int.natCast_mul]
    have h1 := sgm x
    have h2 := sgm y
    grind
  rw [e] at h
  exact h
theorem z_bCompare (x y : Int) (lx : bl x ≤ 300000) (ly : bl y ≤ 300000) : ACall Tryz.prog 92 [bgS (bz x), bgS (bz y)] [] (intS .i64 (cmpI x y)) [] := by
  have h := a_bCompare (bz x) (bz y) (show bl x ≤ 1000000 by omega) (show bl y ≤ 1000000 by omega)
  unfold cmpB at h
  rw [bz_right, bz_right, bv_bz, bv_bz] at h
  exact h
theorem fin_be2 {b b' c c' : Bg} {e : Int} {H1 : Hp} (h : b = b') (h2 : c = c') : Fin 0 (.tup [bgS b, bgS c, intS .i64 e]) H1 (.tup [bgS b', bgS c', intS .i64 e]) [] := by
  subst h h2; exact fin_t ⟨⟨rfl, rfl, trivial⟩, ⟨rfl, rfl, trivial⟩, rfl, trivial⟩
theorem r_bDiv (s : Int) (m n : Nat) (hs : Sg s m) (hn : 0 < n) (lm : (dg m).length ≤ 200000) (ln : (dg n).length ≤ 200000) :
    ACall Tryz.prog 137 [bgS ⟨s, dg m⟩, bgS ⟨1, dg n⟩] [] (.tup [bgS (bz (s * m / n)), bgS (bz (s * m % n)), intS .i64 0]) [] := by
  show ACall Tryz.prog 137 [bg2 s (dg m), bg2 1 (dg n)] [] _ []
  have r1 := r_bRight s m hs (by omega)
  have r2 := r_bRight 1 n (.inr (.inl ⟨rfl, hn⟩)) (by omega)
  have dv := a_div m n hn (by omega) (by omega)
  have lq := dg_len_mono (Nat.div_le_self m n)
  have hr := Nat.mod_lt m hn
  have lr := dg_len_mono (Nat.le_of_lt hr)
  have lr2 : ((dg (m % n)).map intRow).length = (dg (m % n)).length := by simp
  have hz : (dg (m % n)).length = 0 ↔ m % n = 0 := by rw [List.length_eq_zero_iff, dg_eq_nil]
  have hm := Nat.div_add_mod m n
  have fin : ∀ (a b : Int) (H1 : Hp), a = s * m / n → b = s * m % n → Fin 0 (.tup [bgS (bz a), bgS (bz b), intS .i64 0]) H1 (.tup [bgS (bz (s * m / n)), bgS (bz (s * m % n)), intS .i64 0]) [] := fun a b H1 h1 h2 => fin_be2 (by rw [h1]) (by rw [h2])
  rcases hs with ⟨rfl, rfl⟩ | ⟨rfl, h1⟩ | ⟨rfl, h1⟩
  · have s1 := a_signedD 0 (0 / n) (by simp) (by omega)
    have s2 := a_signedD 0 (0 % n) (by simp) (by omega)
    (refine acall_of tab_ok Tryz.func137 rfl (by decide) ?_; (conv => whnf); repeat (first | (refine LitB.data ?_; conv => whnf) | (refine BoxB.own ?_; conv => whnf)))
    (repeat' (first | ((refine DecB.mk (fun h => ?_) (fun h => ?_)) <;> first | (exfalso; omega) | (conv => whnf)) | ((refine BoolB.mk (fun h => ?_) (fun h => ?_)) <;> first | (exact absurd h (by decide)) | (conv => whnf)) | ((first | refine zzW ?_ | refine zzI ?_ | refine zzR ?_ | refine zzB ?_ | refine late_ok rfl rfl ?_ | refine src_ok rfl ?_ | refine .inl ⟨_, _, qcall_pure (r1) rfl rfl, ?_⟩ | refine .inl ⟨_, _, qcall_pure (r2) rfl rfl, ?_⟩ | refine .inl ⟨_, _, qcall_pure (dv) rfl rfl, ?_⟩ | refine .inl ⟨_, _, qcall_pure (s1) rfl rfl, ?_⟩ | refine .inl ⟨_, _, qcall_pure (s2) rfl rfl, ?_⟩ | refine ⟨_, wrap_eq (y := 0) rfl (by decide) (by decide), ?_⟩ | refine LitB.data ?_ | refine BoxB.own ?_); conv => whnf)))
    all_goals first | (exfalso; omega) | exact fin _ _ _ (by first | rfl | simp) (by first | rfl | simp)
  · have s1 := a_signedD 1 (m / n) (by simp) (by omega)
    have s2 := a_signedD 1 (m % n) (by simp) (by omega)
    (refine acall_of tab_ok Tryz.func137 rfl (by decide) ?_; (conv => whnf); repeat (first | (refine LitB.data ?_; conv => whnf) | (refine BoxB.own ?_; conv => whnf)))
    (repeat' (first | ((refine DecB.mk (fun h => ?_) (fun h => ?_)) <;> first | (exfalso; omega) | (conv => whnf)) | ((refine BoolB.mk (fun h => ?_) (fun h => ?_)) <;> first | (exact absurd h (by decide)) | (conv => whnf)) | ((first | refine zzW ?_ | refine zzI ?_ | refine zzR ?_ | refine zzB ?_ | refine late_ok rfl rfl ?_ | refine src_ok rfl ?_ | refine .inl ⟨_, _, qcall_pure (r1) rfl rfl, ?_⟩ | refine .inl ⟨_, _, qcall_pure (r2) rfl rfl, ?_⟩ | refine .inl ⟨_, _, qcall_pure (dv) rfl rfl, ?_⟩ | refine .inl ⟨_, _, qcall_pure (s1) rfl rfl, ?_⟩ | refine .inl ⟨_, _, qcall_pure (s2) rfl rfl, ?_⟩ | refine ⟨_, wrap_eq (y := 1) rfl (by decide) (by decide), ?_⟩ | refine LitB.data ?_ | refine BoxB.own ?_); conv => whnf)))
    all_goals first | (exfalso; omega) | exact fin _ _ _ (by first | rfl | simp) (by first | rfl | simp)
  · by_cases h0 : m % n = 0
    · have hz0 := hz.2 h0
      have s1 := a_signedD (-1) (m / n) (by simp) (by omega)
      have s2 := a_signedD (-1) (m % n) (by simp) (by omega)
      have e1 : -1 * ((m / n : Nat) : Int) = -1 * (m : Int) / n := by
        have e : (m : Int) = n * (m / n : Nat) := by rw [← Int.natCast_mul]; congr 1; omega
        rw [e, show -1 * ((n : Int) * (m / n : Nat)) = n * (-1 * (m / n : Nat)) by grind, Int.mul_ediv_cancel_left _ (by omega)]
      have e2 : -1 * ((m % n : Nat) : Int) = -1 * (m : Int) % n := by
        have e : (m : Int) = n * (m / n : Nat) := by rw [← Int.natCast_mul]; congr 1; omega
        rw [h0, e, show -1 * ((n : Int) * (m / n : Nat)) = n * (-1 * (m / n : Nat)) by grind, Int.mul_emod_right]
        simp
      (refine acall_of tab_ok Tryz.func137 rfl (by decide) ?_; (conv => whnf); repeat (first | (refine LitB.data ?_; conv => whnf) | (refine BoxB.own ?_; conv => whnf)))
      (repeat' (first | ((refine DecB.mk (fun h => ?_) (fun h => ?_)) <;> first | (exfalso; omega) | (conv => whnf)) | ((refine BoolB.mk (fun h => ?_) (fun h => ?_)) <;> first | (exact absurd h (by decide)) | (conv => whnf)) | ((first | refine zzW ?_ | refine zzI ?_ | refine zzR ?_ | refine zzB ?_ | refine late_ok rfl rfl ?_ | refine src_ok rfl ?_ | refine .inl ⟨_, _, qcall_pure (r1) rfl rfl, ?_⟩ | refine .inl ⟨_, _, qcall_pure (r2) rfl rfl, ?_⟩ | refine .inl ⟨_, _, qcall_pure (dv) rfl rfl, ?_⟩ | refine .inl ⟨_, _, qcall_pure (s1) rfl rfl, ?_⟩ | refine .inl ⟨_, _, qcall_pure (s2) rfl rfl, ?_⟩ | refine ⟨_, wrap_eq (y := -1) rfl (by decide) (by decide), ?_⟩ | refine LitB.data ?_ | refine BoxB.own ?_); conv => whnf)))
      all_goals first | (exfalso; omega) | exact fin _ _ _ e1 e2
    · have hz0 : (dg (m % n)).length ≠ 0 := fun h => h0 (hz.1 h)
      have one : dg 1 = [1] := rfl
      have ad := a_addD (m / n) 1 (by omega) (by simp [one])
      have sb := a_subD n (m % n) (by omega) (by omega)
      have l1 := dg_add_len (m / n) 1
      have l2 := dg_len_mono (Nat.sub_le n (m % n))
      have s1 := a_signedD (-1) (m / n + 1) (by simp) (by rw [one] at l1; simp at l1; omega)
      have s2 := a_signedD 1 (n - m % n) (by simp) (by omega)
      have key : (-1 * (m : Int)) = (n - m % n : Nat) + n * (-1 * ((m / n + 1 : Nat) : Int)) := by
        have e : (m : Int) = n * (m / n : Nat) + (m % n : Nat) := by rw [← Int.natCast_mul]; omega
        have e2 : ((n - m % n : Nat) : Int) = n - (m % n : Nat) := by omega
        have e3 : ((m / n + 1 : Nat) : Int) = (m / n : Nat) + 1 := by omega
        rw [e2, e3]
        grind
      have e1 : -1 * ((m / n + 1 : Nat) : Int) = -1 * (m : Int) / n := by
        rw [key, Int.add_mul_ediv_left _ _ (by omega), Int.ediv_eq_zero_of_lt (by omega) (by omega)]
        simp
      have e2 : 1 * ((n - m % n : Nat) : Int) = -1 * (m : Int) % n := by
        rw [key, Int.add_mul_emod_self_left, Int.emod_eq_of_lt (by omega) (by omega)]
        simp
      (refine acall_of tab_ok Tryz.func137 rfl (by decide) ?_; (conv => whnf); repeat (first | (refine LitB.data ?_; conv => whnf) | (refine BoxB.own ?_; conv => whnf)))
      (repeat' (first | ((refine DecB.mk (fun h => ?_) (fun h => ?_)) <;> first | (exfalso; omega) | (conv => whnf)) | ((refine BoolB.mk (fun h => ?_) (fun h => ?_)) <;> first | (exact absurd h (by decide)) | (conv => whnf)) | ((first | refine zzW ?_ | refine zzI ?_ | refine zzR ?_ | refine zzB ?_ | refine late_ok rfl rfl ?_ | refine src_ok rfl ?_ | refine .inl ⟨_, _, qcall_pure (r1) rfl rfl, ?_⟩ | refine .inl ⟨_, _, qcall_pure (r2) rfl rfl, ?_⟩ | refine .inl ⟨_, _, qcall_pure (dv) rfl rfl, ?_⟩ | refine .inl ⟨_, _, qcall_pure (s1) rfl rfl, ?_⟩ | refine .inl ⟨_, _, qcall_pure (s2) rfl rfl, ?_⟩ | refine .inl ⟨_, _, qcall_pure (sb) rfl rfl, ?_⟩ | refine .inl ⟨_, _, qcall_data ad ⟨vs_t, vs_c (vc_t rfl), trivial⟩ rfl, ?_⟩ | refine ⟨_, wrap_eq (y := -1) rfl (by decide) (by decide), ?_⟩ | refine LitB.data ?_ | refine BoxB.own ?_); conv => whnf)))
      all_goals first | (exfalso; omega) | exact fin _ _ _ e1 e2
theorem z_bDiv (x y : Int) (hy : 0 < y) (lx : bl x ≤ 200000) (ly : bl y ≤ 200000) : ACall Tryz.prog 137 [bgS (bz x), bgS (bz y)] [] (.tup [bgS (bz (x / y)), bgS (bz (x % y)), intS .i64 0]) [] := by
  have h := r_bDiv _ _ y.natAbs (sg_bz x) (by omega) lx ly
  rw [sgm, show (y.natAbs : Int) = y by omega] at h
  unfold bz at *
  rw [Int.sign_eq_one_of_pos hy]
  exact h
end Go.Proofs.YtfieodjihaodiaaGreat
/- big: Gcd, Of, Int. -/
namespace Go.Proofs.YtfieodjihaodiaaGreat
open Go.RowKit
set_option linter.unusedVariables false
set_option linter.unusedSimpArgs false
set_option maxRecDepth 100000

abbrev zBox : Blk := { mode := .live, elem := 61, size := 2, rows := [[constC (.int .i64 0), constC (.slice none 0 0)]], box := true }
theorem rowsT_z : rowsT [[constC (.int .i64 0), constC (.slice none 0 0)]] := by
  intro r hr c hc
  simp at hr
  subst hr
  simp at hc
  rcases hc with rfl | rfl <;> rfl
structure GcdI (x y : Int) (X Y : Nat) : Prop where
  g : Nat.gcd X Y = Nat.gcd x.natAbs y.natAbs
  lx : (dg X).length ≤ 200000
  ly : (dg Y).length ≤ 200000
theorem z_bGcd (x y : Int) (lx : bl x ≤ 200000) (ly : bl y ≤ 200000) : ACall Tryz.prog 96 [bgS (bz x), bgS (bz y)] [] (.tup [bgS (bz (Int.gcd x y)), intS .i64 0]) [] := by
  have r1 := z_bRight x (by omega)
  have r2 := z_bRight y (by omega)
  have cl := a_Clone (bz x).dl (show bl x ≤ 1000000 by omega)
  (refine acall_of tab_ok Tryz.func96 rfl (by decide) ?_; (conv => whnf); repeat (first | (refine LitB.data ?_; conv => whnf) | (refine BoxB.own ?_; conv => whnf)))
  (repeat' (first | ((refine DecB.mk (fun h => ?_) (fun h => ?_)) <;> first | (exfalso; omega) | (conv => whnf)) | ((refine BoolB.mk (fun h => ?_) (fun h => ?_)) <;> first | (exact absurd h (by decide)) | (conv => whnf)) | ((first | refine zzW ?_ | refine zzI ?_ | refine zzR ?_ | refine zzB ?_ | refine late_ok rfl rfl ?_ | refine src_ok rfl ?_ | refine .inl ⟨_, _, qcall_pure (r1) rfl rfl, ?_⟩ | refine .inl ⟨_, _, qcall_pure (r2) rfl rfl, ?_⟩ | refine .inl ⟨_, _, qcall_pure (cl) rfl rfl, ?_⟩ | refine LitB.data ?_ | refine BoxB.own ?_); conv => whnf)))
  all_goals first
    | (exfalso; simp_all; done)
    | skip
  refine awp_while tab_ok (σ := Nat × Nat) (fun | (X, Y) => ([J, J, J, J, S.c (C.ptr 0 0 0), J, intsS (dg X), intsS (dg Y), J, J, J, J, J, J, J, J, J, J, J, J, J, J, J, J, J, J, J, J, J, J, J, J, J, J, J, J, J, J, J, J, J, J, J, J], [zBox])) (fun s => GcdI x y s.1 s.2) (fun s => s.2) (x.natAbs, y.natAbs) [some 2]
    ⟨rfl, lx, ly⟩ ⟨rfl, rfl, ⟨⟨rfl, rfl, rfl, .inl ⟨rfl, rowsT_z⟩⟩, trivial⟩, ⟨⟨rfl, rfl, rfl⟩, rfl, rfl, trivial⟩⟩ ?_
  rintro ⟨X, Y⟩ hI
  have hI : GcdI x y X Y := hI
  obtain ⟨g1, g2, g3⟩ := hI
  have l2 : ((dg Y).map intRow).length = (dg Y).length := by simp
  conv => whnf
  by_cases hY : 0 < Y
  · have hp : (dg Y).length ≠ 0 := by rw [Ne, List.length_eq_zero_iff, dg_eq_nil]; omega
    have dv := a_div X Y hY (by omega) (by omega)
    (repeat' (first | ((refine DecB.mk (fun h => ?_) (fun h => ?_)) <;> first | (exfalso; omega) | (conv => whnf)) | ((refine BoolB.mk (fun h => ?_) (fun h => ?_)) <;> first | (exact absurd h (by decide)) | (conv => whnf)) | ((first | refine zzW ?_ | refine zzI ?_ | refine zzR ?_ | refine zzB ?_ | refine late_ok rfl rfl ?_ | refine src_ok rfl ?_ | refine .inl ⟨_, _, qcall_pure (dv) rfl rfl, ?_⟩ | refine LitB.data ?_ | refine BoxB.own ?_); conv => whnf)))
    all_goals first
      | (exfalso; omega)
      | skip
    exact ⟨[some 0], (Y, X % Y), ⟨rfl, rfl, ⟨⟨rfl, rfl, rfl, .inl ⟨rfl, rowsT_z⟩⟩, trivial⟩, ⟨⟨rfl, rfl, rfl⟩, rfl, rfl, trivial⟩⟩, ⟨by rw [← g1, Nat.gcd_comm Y, ← Nat.gcd_rec, Nat.gcd_comm], g3, Nat.le_trans (dg_len_mono (Nat.le_of_lt (Nat.mod_lt X hY))) g3⟩, Nat.mod_lt X hY⟩
  · have hY : Y = 0 := by omega
    subst hY
    have hp : (dg 0).length = 0 := rfl
    have c2 := a_Clone (dg X) (by omega)
    have s1 := a_signedD 1 X (by simp) (by omega)
    have ck := a_checked true (bz (1 * X))
    (repeat' (first | ((refine DecB.mk (fun h => ?_) (fun h => ?_)) <;> first | (exfalso; omega) | (conv => whnf)) | ((refine BoolB.mk (fun h => ?_) (fun h => ?_)) <;> first | (exact absurd h (by decide)) | (conv => whnf)) | ((first | refine zzW ?_ | refine zzI ?_ | refine zzR ?_ | refine zzB ?_ | refine late_ok rfl rfl ?_ | refine src_ok rfl ?_ | refine .inl ⟨_, _, qcall_pure (c2) rfl rfl, ?_⟩ | refine .inl ⟨_, _, qcall_pure (s1) rfl rfl, ?_⟩ | refine .inl ⟨_, _, qcall_pure (ck) rfl rfl, ?_⟩ | refine LitB.data ?_ | refine BoxB.own ?_); conv => whnf)))
    all_goals first
      | (exfalso; omega)
      | skip
    refine fin_be ?_
    rw [Int.one_mul, show X = Int.gcd x y by rw [Int.gcd, ← g1, Nat.gcd_zero_right]]
    rfl
end Go.Proofs.YtfieodjihaodiaaGreat
/- big: Of, Int. -/
namespace Go.Proofs.YtfieodjihaodiaaGreat
open Go.RowKit
set_option linter.unusedVariables false
set_option linter.unusedSimpArgs false
set_option maxRecDepth 100000

theorem wrapu_mod {x y : Int} (h : x % 18446744073709551616 = y) : IsWrap .u64 x y := by
  unfold IsWrap
  simp only [IntKind.wrap, IntKind.bits, IntKind.signed]
  simp
  omega
theorem masku20 (a : Int) : IsBits .and .u64 a 1048575 (a % 1048576) := (and_mask_u64 (a := a) 20 (by decide)).symm
theorem shru20 (a : Int) : IsShr .u64 a 20 (a / 1048576) := by
  show a / 1048576 = a.fdiv 1048576
  exact (Int.fdiv_eq_ediv_of_nonneg _ (by decide)).symm
structure OfI (n : Int) (acc : List Int) (u : Nat) : Prop where
  eq : acc ++ dg u = dg n.natAbs
theorem OfI.len {n : Int} {acc : List Int} {u : Nat} (h : OfI n acc u) (h0 : -9223372036854775808 ≤ n) (h1 : n ≤ 9223372036854775807) : acc.length ≤ 4 := by
  have h2 : (dg n.natAbs).length ≤ 4 := dg_len_le (by simp only [pw]; omega)
  have h3 := congrArg List.length h.eq
  simp at h3
  omega
theorem OfI.step {n : Int} {acc : List Int} {u : Nat} (h : OfI n acc u) (hu : 0 < u) : OfI n (acc ++ [(u : Int) % 1048576]) (u / 1048576) := by
  refine ⟨?_⟩
  rw [← h.eq, dg_pos hu]
  simp
theorem OfI.le {n : Int} {acc : List Int} {u : Nat} (h : OfI n acc u) : u ≤ n.natAbs := by
  have h1 := congrArg val h.eq
  rw [val_append, val_dg, val_dg] at h1
  have h2 : Okd acc := fun x hx => okd_dg n.natAbs x (by rw [← h.eq]; simp [hx])
  have h3 := val_nonneg h2
  have h4 := pw_pos acc.length
  have h5 := Int.mul_le_mul_of_nonneg_right (a := 1) (b := pw acc.length) (c := (u : Int)) (by omega) (by omega)
  omega
theorem toC_app1 {xs : List Int} {x : Int} : (toC (xs.map intRow)).take xs.length ++ toC [[ti x]] = toC ((xs ++ [x]).map intRow) := toC_app (f := intRow)
theorem z_bOf (n : Int) (h0 : -9223372036854775808 ≤ n) (h1 : n ≤ 9223372036854775807) : ACall Tryz.prog 107 [intS .i64 n] [] (bgS (bz n)) [] := by
  by_cases hn : n < 0
  · (refine acall_of tab_ok Tryz.func107 rfl (by decide) ?_; (conv => whnf); repeat (first | (refine LitB.data ?_; conv => whnf) | (refine BoxB.own ?_; conv => whnf)))
    (repeat' (first | ((refine DecB.mk (fun h => ?_) (fun h => ?_)) <;> first | (exfalso; omega) | (conv => whnf)) | ((refine BoolB.mk (fun h => ?_) (fun h => ?_)) <;> first | (exact absurd h (by decide)) | (conv => whnf)) | ((first | refine zzW ?_ | refine zzI ?_ | refine zzR ?_ | refine zzB ?_ | refine late_ok rfl rfl ?_ | refine src_ok rfl ?_ | refine ⟨_, wrapu_mod (y := n + 18446744073709551616) (by omega), ?_⟩ | refine ⟨_, wrapu_mod (y := (n.natAbs : Int)) (by omega), ?_⟩ | refine LitB.data ?_ | refine BoxB.own ?_); conv => whnf)))
    refine awp_while tab_ok (σ := List Int × Nat) (fun | (acc, u) => ([J, J, S.c (C.ptr 0 0 0), intS .i64 (-1), intS .u64 u, ownI 1 acc, J, J, J, J, J, J, J, J, J, J, J, J, J, J, J, J, J, J, J], [zBox, intsB acc])) (fun s => OfI n s.1 s.2) (fun s => s.2) ([], n.natAbs) [some 0, none]
      ⟨rfl⟩ ⟨rfl, rfl, ⟨⟨rfl, rfl, rfl, .inl ⟨rfl, rowsT_z⟩⟩, ⟨rfl, rfl⟩, trivial⟩, ⟨⟨rfl, rfl, rfl⟩, rfl, ent_i (by omega), ⟨rfl, rfl, rfl⟩, trivial⟩⟩ ?_
    rintro ⟨acc, u⟩ hI
    have hI : OfI n acc u := hI
    have hl := hI.len h0 h1
    have hu := hI.le
    conv => whnf
    (repeat' (first | ((refine DecB.mk (fun h => ?_) (fun h => ?_)) <;> first | (exfalso; omega) | (conv => whnf)) | ((refine BoolB.mk (fun h => ?_) (fun h => ?_)) <;> first | (exact absurd h (by decide)) | (conv => whnf)) | ((first | refine zzW ?_ | refine zzI ?_ | refine zzR ?_ | refine zzB ?_ | refine late_ok rfl rfl ?_ | refine src_ok rfl ?_ | refine .inl ⟨_, _, qcall_pure (toC) rfl rfl, ?_⟩ | refine .inl ⟨_, _, qcall_pure (toC) rfl rfl, ?_⟩ | refine ⟨_, masku20 _, ?_⟩ | refine ⟨by decide, _, shru20 _, ?_⟩ | refine app_ok (by simp [toC]) (by simp [toC]; omega) ?_ | refine ⟨_, wrapu_mod (by omega), ?_⟩ | refine LitB.data ?_ | refine BoxB.own ?_); conv => whnf)))
    · refine ⟨[some 0, some 2], (acc ++ [(u : Int) % 1048576], u / 1048576), ⟨rfl, rfl, ⟨⟨rfl, rfl, rfl, .inl ⟨rfl, rowsT_z⟩⟩, entB_rows rfl rfl rfl toC_app1 rfl, trivial⟩, ⟨⟨rfl, rfl, rfl⟩, rfl, ent_i (by simp), ent_own rfl (by simp [toC]), trivial⟩⟩, hI.step (by omega), by show u / 1048576 < u; omega⟩
    · have h0u : u = 0 := by omega
      subst h0u
      have e : acc = dg n.natAbs := by have := hI.eq; rw [dg_zero, List.append_nil] at this; exact this
      have sg := a_signedD (-1) n.natAbs (by omega) (by rw [← e]; omega)
      rw [← e, show (-1) * (n.natAbs : Int) = n by omega] at sg
      refine .inr ⟨_, _, acall_freeze [1] sg ⟨vs_t, vs_c (vc_all (by simp) rfl (by intro h; cases h) rfl rfl (by simp)), trivial⟩ rfl, ?_⟩
      conv => whnf
      exact fin_t ⟨rfl, rfl, trivial⟩
  · (refine acall_of tab_ok Tryz.func107 rfl (by decide) ?_; (conv => whnf); repeat (first | (refine LitB.data ?_; conv => whnf) | (refine BoxB.own ?_; conv => whnf)))
    (repeat' (first | ((refine DecB.mk (fun h => ?_) (fun h => ?_)) <;> first | (exfalso; omega) | (conv => whnf)) | ((refine BoolB.mk (fun h => ?_) (fun h => ?_)) <;> first | (exact absurd h (by decide)) | (conv => whnf)) | ((first | refine zzW ?_ | refine zzI ?_ | refine zzR ?_ | refine zzB ?_ | refine late_ok rfl rfl ?_ | refine src_ok rfl ?_ | refine ⟨_, wrapu_mod (y := (n.natAbs : Int)) (by omega), ?_⟩ | refine LitB.data ?_ | refine BoxB.own ?_); conv => whnf)))
    refine awp_while tab_ok (σ := List Int × Nat) (fun | (acc, u) => ([J, J, S.c (C.ptr 0 0 0), intS .i64 1, intS .u64 u, ownI 1 acc, J, J, J, J, J, J, J, J, J, J, J, J, J, J, J, J, J, J, J], [zBox, intsB acc])) (fun s => OfI n s.1 s.2) (fun s => s.2) ([], n.natAbs) [some 0, none]
      ⟨rfl⟩ ⟨rfl, rfl, ⟨⟨rfl, rfl, rfl, .inl ⟨rfl, rowsT_z⟩⟩, ⟨rfl, rfl⟩, trivial⟩, ⟨⟨rfl, rfl, rfl⟩, rfl, ent_i (by omega), ⟨rfl, rfl, rfl⟩, trivial⟩⟩ ?_
    rintro ⟨acc, u⟩ hI
    have hI : OfI n acc u := hI
    have hl := hI.len h0 h1
    have hu := hI.le
    conv => whnf
    (repeat' (first | ((refine DecB.mk (fun h => ?_) (fun h => ?_)) <;> first | (exfalso; omega) | (conv => whnf)) | ((refine BoolB.mk (fun h => ?_) (fun h => ?_)) <;> first | (exact absurd h (by decide)) | (conv => whnf)) | ((first | refine zzW ?_ | refine zzI ?_ | refine zzR ?_ | refine zzB ?_ | refine late_ok rfl rfl ?_ | refine src_ok rfl ?_ | refine .inl ⟨_, _, qcall_pure (toC) rfl rfl, ?_⟩ | refine .inl ⟨_, _, qcall_pure (toC) rfl rfl, ?_⟩ | refine ⟨_, masku20 _, ?_⟩ | refine ⟨by decide, _, shru20 _, ?_⟩ | refine app_ok (by simp [toC]) (by simp [toC]; omega) ?_ | refine ⟨_, wrapu_mod (by omega), ?_⟩ | refine LitB.data ?_ | refine BoxB.own ?_); conv => whnf)))
    · refine ⟨[some 0, some 2], (acc ++ [(u : Int) % 1048576], u / 1048576), ⟨rfl, rfl, ⟨⟨rfl, rfl, rfl, .inl ⟨rfl, rowsT_z⟩⟩, entB_rows rfl rfl rfl toC_app1 rfl, trivial⟩, ⟨⟨rfl, rfl, rfl⟩, rfl, ent_i (by simp), ent_own rfl (by simp [toC]), trivial⟩⟩, hI.step (by omega), by show u / 1048576 < u; omega⟩
    · have h0u : u = 0 := by omega
      subst h0u
      have e : acc = dg n.natAbs := by have := hI.eq; rw [dg_zero, List.append_nil] at this; exact this
      have sg := a_signedD (1) n.natAbs (by omega) (by rw [← e]; omega)
      rw [← e, show (1) * (n.natAbs : Int) = n by omega] at sg
      refine .inr ⟨_, _, acall_freeze [1] sg ⟨vs_t, vs_c (vc_all (by simp) rfl (by intro h; cases h) rfl rfl (by simp)), trivial⟩ rfl, ?_⟩
      conv => whnf
      exact fin_t ⟨rfl, rfl, trivial⟩
end Go.Proofs.YtfieodjihaodiaaGreat
/- big: Int. -/
namespace Go.Proofs.YtfieodjihaodiaaGreat
open Go.RowKit
set_option linter.unusedVariables false
set_option linter.unusedSimpArgs false
set_option maxRecDepth 100000

theorem pw_two (i : Nat) : pw i = ((2 ^ (20 * i) : Nat) : Int) := by
  unfold pw; rw [show (1048576 : Int) = ((2 ^ 20 : Nat) : Int) by decide, ← Int.natCast_pow, ← Nat.pow_mul]
theorem shlu {d : Int} {i : Nat} {b : Int} (hi : i ≤ 3) (h : 0 ≤ d) (h2 : d * pw i < 18446744073709551616) (hb : b = 20 * i) : IsWrap .u64 (d * 2 ^ min b.toNat (IntKind.bits .u64)) (d * pw i) := by
  have e : min b.toNat (IntKind.bits .u64) = 20 * i := by show min b.toNat 64 = _; omega
  have hp := pw_pos i
  have h3 : 0 ≤ d * pw i := Int.mul_nonneg h (by omega)
  rw [e, show (2 : Int) ^ (20 * i) = pw i by rw [pw_two]; simp]
  exact wrapu_ok h3 h2
theorem oru {u d : Int} {i : Nat} (hu : 0 ≤ u) (hu2 : u < pw i) (h : 0 ≤ d) (h2 : u + d * pw i < 18446744073709551616) : IsBits .or .u64 u (d * pw i) (u + d * pw i) := by
  obtain ⟨U, rfl⟩ := Int.eq_ofNat_of_zero_le hu
  obtain ⟨D, rfl⟩ := Int.eq_ofNat_of_zero_le h
  have hp := pw_pos i
  have e2 : (U : Int) + D * pw i = ((U + 2 ^ (20 * i) * D : Nat) : Int) := by rw [pw_two]; simp [Int.mul_comm]
  have e3 : (D : Int) * pw i = ((2 ^ (20 * i) * D : Nat) : Int) := by rw [pw_two]; simp [Int.mul_comm]
  rw [e2] at h2
  have hU : U < 2 ^ (20 * i) := by rw [pw_two] at hu2; omega
  have k1 : (BitVec.ofInt (IntKind.bits .u64) (U : Int) ||| BitVec.ofInt (IntKind.bits .u64) ((2 ^ (20 * i) * D : Nat) : Int)).toNat = U + 2 ^ (20 * i) * D := by
    show (BitVec.ofInt 64 _ ||| BitVec.ofInt 64 _).toNat = _
    rw [BitVec.toNat_or, BitVec.toNat_ofInt, BitVec.toNat_ofInt]
    rw [Int.emod_eq_of_lt (by omega) (by omega), Int.emod_eq_of_lt (by omega) (by omega), Int.toNat_natCast, Int.toNat_natCast, Nat.or_comm, ← Nat.two_pow_add_eq_or_of_lt hU, Nat.add_comm]
  rw [e2, e3]
  unfold IsBits
  simp only
  rw [k1]
  exact (wrap_u64 (by omega) h2).symm
structure IntI (n : Nat) (k : Nat) (u : Int) : Prop where
  eq : u = val ((dg n).take k)
  le : k ≤ (dg n).length
  lt : k = 4 → u < 9 * 1152921504606846976
theorem IntI.rng {n k : Nat} {u : Int} (h : IntI n k u) : 0 ≤ u ∧ u < pw k := by
  have h1 := val_nonneg ((okd_dg n).take k)
  have h2 := val_lt ((okd_dg n).take k)
  rw [List.length_take, Nat.min_eq_left h.le, ← h.eq] at h2
  rw [← h.eq] at h1
  exact ⟨h1, h2⟩
theorem IntI.step {n k : Nat} {u : Int} (h : IntI n k u) (hk : k < (dg n).length) (hd : k = 3 → dat (dg n) k ≤ 8) : IntI n (k + 1) (u + dat (dg n) k * pw k) := by
  have hr := h.rng
  refine ⟨by rw [val_take_dat, h.eq, Int.mul_comm], hk, fun h4 => ?_⟩
  have : k = 3 := by omega
  subst this
  have := hd rfl
  simp only [pw] at hr ⊢
  omega
theorem pw_le3 {k : Nat} (h : k ≤ 3) : pw k ≤ 1152921504606846976 := by
  have := pw_mono h
  simp only [pw] at this ⊢
  omega
theorem pw_le2 {k : Nat} (h : k ≤ 2) : pw k ≤ 1099511627776 := by
  have := pw_mono h
  simp only [pw] at this ⊢
  omega
theorem fin_ib {a a' : Int} {b b' : Bool} {k : IntKind} {H1 : Hp} (h : a = a') (h2 : b = b') : Fin 0 (.tup [intS k a, boolS b]) H1 (.tup [intS k a', boolS b']) [] := by
  subst h h2; exact fin_t ⟨rfl, rfl, trivial⟩
theorem wrapi_high {x : Int} (h1 : 9223372036854775808 ≤ x) (h2 : x < 18446744073709551616) : IsWrap .i64 x (x - 18446744073709551616) := by
  unfold IsWrap
  simp only [IntKind.wrap, IntKind.bits, IntKind.signed]
  simp
  omega
abbrev fitI (x : Int) : Prop := -9223372036854775808 ≤ x ∧ x ≤ 9223372036854775807
theorem z_bInt (x : Int) (lx : bl x ≤ 200000) : ACall Tryz.prog 127 [bgS (bz x)] [] (.tup [intS .i64 (if fitI x then x else 0), boolS (decide (fitI x))]) [] := by
  have r1 := z_bRight x (by omega)
  have l1 : ((bz x).dl.map intRow).length = (dg x.natAbs).length := by simp [bz]
  have l2 : (bz x).dl = dg x.natAbs := rfl
  have hlast : ∀ k : Nat, k < (dg x.natAbs).length → pw k ≤ x.natAbs := fun k hk => Int.le_trans (pw_mono (by omega)) (dg_last (by
    rcases Nat.eq_zero_or_pos x.natAbs with h | h
    · rw [h, dg_zero] at hk; simp at hk
    · exact h))
  (refine acall_of tab_ok Tryz.func127 rfl (by decide) ?_; (conv => whnf); repeat (first | (refine LitB.data ?_; conv => whnf) | (refine BoxB.own ?_; conv => whnf)))
  (repeat' (first | ((refine DecB.mk (fun h => ?_) (fun h => ?_)) <;> first | (exfalso; omega) | (conv => whnf)) | ((refine BoolB.mk (fun h => ?_) (fun h => ?_)) <;> first | (exact absurd h (by decide)) | (conv => whnf)) | ((first | refine zzW ?_ | refine zzI ?_ | refine zzR ?_ | refine zzB ?_ | refine late_ok rfl rfl ?_ | refine src_ok rfl ?_ | refine .inl ⟨_, _, qcall_pure (r1) rfl rfl, ?_⟩ | refine LitB.data ?_ | refine BoxB.own ?_); conv => whnf)))
  · have hl : 4 < (dg x.natAbs).length := by omega
    have := hlast 4 hl
    simp only [pw] at this
    have hn : ¬ fitI x := by unfold fitI; omega
    exact fin_ib (by rw [if_neg hn]) (by simp [hn])
  · refine awp_while tab_ok (σ := Nat × Int) (fun | (k, u) => ([J, S.c (C.ptr 0 0 0), J, J, intS .u64 u, J, J, J, J, J, J, J, J, J, J, J, J, intsS (dg x.natAbs), intS .i64 (dg x.natAbs).length, intS .i64 k, J, J, J, J, J, J, J, J, J, J, J, J, J, J, J, J, J, J, J, J, J, J, J, J, J, J, J, J, J, J, J, J, J, J, J, J, J, J, J], [bgB (bz x)])) (fun s => IntI x.natAbs s.1 s.2) (fun s => (dg x.natAbs).length - s.1) (0, 0) [some 0]
      ⟨by simp [val], by omega, by omega⟩ ⟨rfl, rfl, ⟨⟨rfl, rfl, rfl, .inl ⟨rfl, rowsT_bg _⟩⟩, trivial⟩, ⟨⟨rfl, rfl, rfl⟩, rfl, ent_t rfl, ent_i (by omega), rfl, trivial⟩⟩ ?_
    rintro ⟨k, u⟩ hI
    have hI : IntI x.natAbs k u := hI
    have hr := hI.rng
    have hle := hI.le
    have hd := (okd_dg x.natAbs).dat k
    have hp := pw_pos k
    have hp3 : k ≤ 3 → pw k ≤ 1152921504606846976 := pw_le3
    have hdm : 0 ≤ dat (dg x.natAbs) k * pw k := Int.mul_nonneg hd.1 (by omega)
    have l3 : ((dg x.natAbs).map intRow).length = (dg x.natAbs).length := by simp
    have hp2 : k ≤ 2 → pw k ≤ 1099511627776 := pw_le2
    have hA : k ≤ 3 → (k = 3 → dat (dg x.natAbs) k ≤ 8) → u + dat (dg x.natAbs) k * pw k < 18446744073709551616 := fun h3 h8 => by
      by_cases hk : k = 3
      · have := Int.mul_le_mul_of_nonneg_right (c := pw k) (h8 hk) (by omega)
        have := hp3 h3
        omega
      · have := Int.mul_le_mul_of_nonneg_right (c := pw k) (show dat (dg x.natAbs) k ≤ 1048575 by omega) (by omega)
        have := hp2 (by omega)
        omega
    have hE : k = (dg x.natAbs).length → u = x.natAbs := fun h => by
      have := hI.eq
      rw [h, List.take_of_length_le (Nat.le_refl _), val_dg] at this
      exact this
    have hs := sign_cases x
    have hsg : (bz x).sg = x.sign := rfl
    conv => whnf
    (repeat' (first | ((refine DecB.mk (fun h => ?_) (fun h => ?_)) <;> first | (exfalso; omega) | (conv => whnf)) | ((refine BoolB.mk (fun h => ?_) (fun h => ?_)) <;> first | (exact absurd h (by decide)) | (conv => whnf)) | ((first | refine zzW ?_ | refine zzI ?_ | refine zzR ?_ | refine zzB ?_ | refine late_ok rfl rfl ?_ | refine src_ok rfl ?_ | refine ex_row (get_dat (by omega)) ?_ | refine ⟨_, wrapu_ok (by omega) (by omega), ?_⟩ | refine ⟨by omega, _, shlu (i := k) (by omega) (by omega) (by omega) (by omega), ?_⟩ | refine ⟨_, oru (by omega) (by omega) (by omega) (by omega), ?_⟩ | refine ⟨_, wrapu_mod (y := 18446744073709551616 - u) (by omega), ?_⟩ | refine ⟨_, wrapi_high (by omega) (by omega), ?_⟩ | refine LitB.data ?_ | refine BoxB.own ?_); conv => whnf)))
    · have hk : k = 3 := by omega
      have h8 : 9 ≤ dat (dg x.natAbs) k := by omega
      have h1 := val_take_dat (dg x.natAbs) k
      have h4 : val (dg x.natAbs) = val ((dg x.natAbs).take (k + 1)) := by rw [List.take_of_length_le (by omega)]
      rw [val_dg] at h4
      have h5 := val_nonneg ((okd_dg x.natAbs).take k)
      have h6 := Int.mul_le_mul_of_nonneg_left (a := 9) (b := dat (dg x.natAbs) k) (c := pw k) h8 (by omega)
      have h7 : pw k = 1152921504606846976 := by rw [hk]; rfl
      have hn : ¬ fitI x := by unfold fitI; omega
      exact fin_ib (by rw [if_neg hn]) (by simp [hn])
    · have hst := hI.step (by omega) (by omega)
      exact ⟨[some 0], (k + 1, u + dat (dg x.natAbs) k * pw k), ⟨rfl, rfl, ⟨⟨rfl, rfl, rfl, .inl ⟨rfl, rowsT_bg _⟩⟩, trivial⟩, ⟨⟨rfl, rfl, rfl⟩, rfl, rfl, rfl, ent_i (by omega), trivial⟩⟩, hst, by show (dg x.natAbs).length - (k + 1) < (dg x.natAbs).length - k; omega⟩
    · have hst := hI.step (by omega) (by omega)
      exact ⟨[some 0], (k + 1, u + dat (dg x.natAbs) k * pw k), ⟨rfl, rfl, ⟨⟨rfl, rfl, rfl, .inl ⟨rfl, rowsT_bg _⟩⟩, trivial⟩, ⟨⟨rfl, rfl, rfl⟩, rfl, rfl, rfl, ent_i (by omega), trivial⟩⟩, hst, by show (dg x.natAbs).length - (k + 1) < (dg x.natAbs).length - k; omega⟩
    all_goals
      have hu := hE (by omega)
      first
        | (have hn : fitI x := by unfold fitI; omega
           exact fin_ib (by rw [if_pos hn]; omega) (by simp [hn]))
        | (have hn : ¬ fitI x := by unfold fitI; omega
           exact fin_ib (by rw [if_neg hn]) (by simp [hn]))
end Go.Proofs.YtfieodjihaodiaaGreat
/- frac: one, Right, times, New, Add, Sub, Mul, Compare. -/
namespace Go.Proofs.YtfieodjihaodiaaGreat
open Go.RowKit
set_option linter.unusedVariables false
set_option linter.unusedSimpArgs false
set_option maxRecDepth 100000

abbrev frC (f : Fr) : List C := [.t (ti f.p.sg), .t (intsT f.p.dl), .t (ti f.q.sg), .t (intsT f.q.dl)]
abbrev frS (f : Fr) : S := .agg (frC f)
theorem a_one (x : Int) (lx : bl x ≤ 200000) : ACall Tryz.prog 97 [bgS (bz x)] [] (boolS (x == 1)) [] := by
  have i := z_bInt x lx
  by_cases h : fitI x
  · rw [if_pos h, show decide (fitI x) = true by simp [h]] at i
    (refine acall_of tab_ok Tryz.func97 rfl (by decide) ?_; (conv => whnf); repeat (first | (refine LitB.data ?_; conv => whnf) | (refine BoxB.own ?_; conv => whnf)))
    (repeat' (first | ((refine DecB.mk (fun h => ?_) (fun h => ?_)) <;> first | (exfalso; omega) | (conv => whnf)) | ((refine BoolB.mk (fun h => ?_) (fun h => ?_)) <;> first | (exact absurd h (by decide)) | (conv => whnf)) | ((first | refine zzW ?_ | refine zzI ?_ | refine zzR ?_ | refine zzB ?_ | refine late_ok rfl rfl ?_ | refine src_ok rfl ?_ | refine .inl ⟨_, _, qcall_pure (i) rfl rfl, ?_⟩ | refine LitB.data ?_ | refine BoxB.own ?_); conv => whnf)))
    all_goals (refine fin_bool ?_; simp; omega)
  · rw [if_neg h, show decide (fitI x) = false by simp [h]] at i
    have hx : x ≠ 1 := by rintro rfl; exact h (by decide)
    (refine acall_of tab_ok Tryz.func97 rfl (by decide) ?_; (conv => whnf); repeat (first | (refine LitB.data ?_; conv => whnf) | (refine BoxB.own ?_; conv => whnf)))
    (repeat' (first | ((refine DecB.mk (fun h => ?_) (fun h => ?_)) <;> first | (exfalso; omega) | (conv => whnf)) | ((refine BoolB.mk (fun h => ?_) (fun h => ?_)) <;> first | (exact absurd h (by decide)) | (conv => whnf)) | ((first | refine zzW ?_ | refine zzI ?_ | refine zzR ?_ | refine zzB ?_ | refine late_ok rfl rfl ?_ | refine src_ok rfl ?_ | refine .inl ⟨_, _, qcall_pure (i) rfl rfl, ?_⟩ | refine LitB.data ?_ | refine BoxB.own ?_); conv => whnf)))
    all_goals (refine fin_bool ?_; simp; omega)
theorem a_fRight (f : Fr) (lp : f.p.dl.length ≤ 200000) (lq : f.q.dl.length ≤ 200000) : ACall Tryz.prog 64 [frS f] [] (boolS (rightF f)) [] := by
  obtain ⟨p, q⟩ := f
  simp only at lp lq
  have r1 := a_bRight p (by omega)
  have r2 := a_bRight q (by omega)
  cases hp : rightB p with
  | false =>
    rw [hp] at r1
    (refine acall_of tab_ok Tryz.func64 rfl (by decide) ?_; (conv => whnf); repeat (first | (refine LitB.data ?_; conv => whnf) | (refine BoxB.own ?_; conv => whnf)))
    (repeat' (first | ((refine DecB.mk (fun h => ?_) (fun h => ?_)) <;> first | (exfalso; omega) | (conv => whnf)) | ((refine BoolB.mk (fun h => ?_) (fun h => ?_)) <;> first | (exact absurd h (by decide)) | (conv => whnf)) | ((first | refine zzW ?_ | refine zzI ?_ | refine zzR ?_ | refine zzB ?_ | refine late_ok rfl rfl ?_ | refine src_ok rfl ?_ | refine .inl ⟨_, _, qcall_pure (r1) rfl rfl, ?_⟩ | refine .inl ⟨_, _, qcall_pure (r2) rfl rfl, ?_⟩ | refine LitB.data ?_ | refine BoxB.own ?_); conv => whnf)))
    all_goals (first | (exfalso; simp_all; done) | (refine fin_bool ?_; unfold rightF; simp [hp]))
  | true =>
    rw [hp] at r1
    cases hq : rightB q with
    | false =>
      rw [hq] at r2
      (refine acall_of tab_ok Tryz.func64 rfl (by decide) ?_; (conv => whnf); repeat (first | (refine LitB.data ?_; conv => whnf) | (refine BoxB.own ?_; conv => whnf)))
      (repeat' (first | ((refine DecB.mk (fun h => ?_) (fun h => ?_)) <;> first | (exfalso; omega) | (conv => whnf)) | ((refine BoolB.mk (fun h => ?_) (fun h => ?_)) <;> first | (exact absurd h (by decide)) | (conv => whnf)) | ((first | refine zzW ?_ | refine zzI ?_ | refine zzR ?_ | refine zzB ?_ | refine late_ok rfl rfl ?_ | refine src_ok rfl ?_ | refine .inl ⟨_, _, qcall_pure (r1) rfl rfl, ?_⟩ | refine .inl ⟨_, _, qcall_pure (r2) rfl rfl, ?_⟩ | refine LitB.data ?_ | refine BoxB.own ?_); conv => whnf)))
      all_goals (first | (exfalso; simp_all; done) | (refine fin_bool ?_; unfold rightF; simp [hq]))
    | true =>
      rw [hq] at r2
      obtain ⟨x, rfl⟩ := bz_of hp
      obtain ⟨y, rfl⟩ := bz_of hq
      have g := z_bGcd x y lp lq
      have o := a_one (Int.gcd x y) (bl_gcd x y lp lq)
      (refine acall_of tab_ok Tryz.func64 rfl (by decide) ?_; (conv => whnf); repeat (first | (refine LitB.data ?_; conv => whnf) | (refine BoxB.own ?_; conv => whnf)))
      (repeat' (first | ((refine DecB.mk (fun h => ?_) (fun h => ?_)) <;> first | (exfalso; omega) | (conv => whnf)) | ((refine BoolB.mk (fun h => ?_) (fun h => ?_)) <;> first | (exact absurd h (by decide)) | (conv => whnf)) | ((first | refine zzW ?_ | refine zzI ?_ | refine zzR ?_ | refine zzB ?_ | refine late_ok rfl rfl ?_ | refine src_ok rfl ?_ | refine .inl ⟨_, _, qcall_pure (r1) rfl rfl, ?_⟩ | refine .inl ⟨_, _, qcall_pure (r2) rfl rfl, ?_⟩ | refine .inl ⟨_, _, qcall_pure (g) rfl rfl, ?_⟩ | refine .inl ⟨_, _, qcall_pure (o) rfl rfl, ?_⟩ | refine LitB.data ?_ | refine BoxB.own ?_); conv => whnf)))
      all_goals (refine fin_bool ?_; unfold rightF; simp only [bz_right, bv_bz, Bool.true_and]; symm; simp_all <;> omega)
theorem z_times (x y : Int) (lx : bl x ≤ 200000) (ly : bl y ≤ 200000) : ACall Tryz.prog 93 [bgS (bz x), bgS (bz y)] [] (bgS (bz (x * y))) [] := by
  have mu := z_bMul x y lx ly
  (refine acall_of tab_ok Tryz.func93 rfl (by decide) ?_; (conv => whnf); repeat (first | (refine LitB.data ?_; conv => whnf) | (refine BoxB.own ?_; conv => whnf)))
  (repeat' (first | ((refine DecB.mk (fun h => ?_) (fun h => ?_)) <;> first | (exfalso; omega) | (conv => whnf)) | ((refine BoolB.mk (fun h => ?_) (fun h => ?_)) <;> first | (exact absurd h (by decide)) | (conv => whnf)) | ((first | refine zzW ?_ | refine zzI ?_ | refine zzR ?_ | refine zzB ?_ | refine late_ok rfl rfl ?_ | refine src_ok rfl ?_ | refine .inl ⟨_, _, qcall_pure (mu) rfl rfl, ?_⟩ | refine LitB.data ?_ | refine BoxB.own ?_); conv => whnf)))
  exact fin_t ⟨rfl, rfl, trivial⟩
theorem fin_fe {f f' : Fr} {e : Int} {H1 : Hp} (h : f = f') : Fin 0 (.tup [frS f, intS .i64 e]) H1 (.tup [frS f', intS .i64 e]) [] := by
  subst h; exact fin_t ⟨⟨rfl, rfl, rfl, rfl, trivial⟩, rfl, trivial⟩
theorem z_fNew (p q : Int) (hq : q ≠ 0) (lp : bl p ≤ 200000) (lq : bl q ≤ 200000) : ACall Tryz.prog 110 [bgS (bz p), bgS (bz q)] [] (.tup [frS (fz (Rat.divInt p q)), intS .i64 0]) [] := by
  have r1 := z_bRight p (by omega)
  have r2 := z_bRight q (by omega)
  have hs := sign_cases q
  have hsg : (bz q).sg = q.sign := rfl
  by_cases h : q < 0
  · have n1 := z_bNeg p (by omega)
    have n2 := z_bNeg q (by omega)
    have lg := bl_gcd (-p) (-q) (by rw [bl_neg]; exact lp) (by rw [bl_neg]; exact lq)
    have hg : 0 < (Int.gcd (-p) (-q) : Int) := by have := Int.gcd_pos_of_ne_zero_right (-p) (b := -q) (by omega); omega
    have g := z_bGcd (-p) (-q) (by rw [bl_neg]; exact lp) (by rw [bl_neg]; exact lq)
    have d1 := z_bDiv (-p) _ hg (by rw [bl_neg]; exact lp) lg
    have d2 := z_bDiv (-q) _ hg (by rw [bl_neg]; exact lq) lg
    have e := fz_divInt (p := -p) (q := -q) (by omega) rfl
    rw [Rat.neg_divInt_neg] at e
    (refine acall_of tab_ok Tryz.func110 rfl (by decide) ?_; (conv => whnf); repeat (first | (refine LitB.data ?_; conv => whnf) | (refine BoxB.own ?_; conv => whnf)))
    (repeat' (first | ((refine DecB.mk (fun h => ?_) (fun h => ?_)) <;> first | (exfalso; omega) | (conv => whnf)) | ((refine BoolB.mk (fun h => ?_) (fun h => ?_)) <;> first | (exact absurd h (by decide)) | (conv => whnf)) | ((first | refine zzW ?_ | refine zzI ?_ | refine zzR ?_ | refine zzB ?_ | refine late_ok rfl rfl ?_ | refine src_ok rfl ?_ | refine .inl ⟨_, _, qcall_pure (r1) rfl rfl, ?_⟩ | refine .inl ⟨_, _, qcall_pure (r2) rfl rfl, ?_⟩ | refine .inl ⟨_, _, qcall_pure (n1) rfl rfl, ?_⟩ | refine .inl ⟨_, _, qcall_pure (n2) rfl rfl, ?_⟩ | refine .inl ⟨_, _, qcall_pure (g) rfl rfl, ?_⟩ | refine .inl ⟨_, _, qcall_pure (d1) rfl rfl, ?_⟩ | refine .inl ⟨_, _, qcall_pure (d2) rfl rfl, ?_⟩ | refine LitB.data ?_ | refine BoxB.own ?_); conv => whnf)))
    all_goals first
      | (exfalso; simp_all; done)
      | (exfalso; omega)
      | exact fin_fe e.symm
  · have lg := bl_gcd p q lp lq
    have hg : 0 < (Int.gcd p q : Int) := by have := Int.gcd_pos_of_ne_zero_right p (b := q) (by omega); omega
    have g := z_bGcd p q lp lq
    have d1 := z_bDiv p _ hg lp lg
    have d2 := z_bDiv q _ hg lq lg
    have e := fz_divInt (p := p) (q := q) (by omega) rfl
    (refine acall_of tab_ok Tryz.func110 rfl (by decide) ?_; (conv => whnf); repeat (first | (refine LitB.data ?_; conv => whnf) | (refine BoxB.own ?_; conv => whnf)))
    (repeat' (first | ((refine DecB.mk (fun h => ?_) (fun h => ?_)) <;> first | (exfalso; omega) | (conv => whnf)) | ((refine BoolB.mk (fun h => ?_) (fun h => ?_)) <;> first | (exact absurd h (by decide)) | (conv => whnf)) | ((first | refine zzW ?_ | refine zzI ?_ | refine zzR ?_ | refine zzB ?_ | refine late_ok rfl rfl ?_ | refine src_ok rfl ?_ | refine .inl ⟨_, _, qcall_pure (r1) rfl rfl, ?_⟩ | refine .inl ⟨_, _, qcall_pure (r2) rfl rfl, ?_⟩ | refine .inl ⟨_, _, qcall_pure (g) rfl rfl, ?_⟩ | refine .inl ⟨_, _, qcall_pure (d1) rfl rfl, ?_⟩ | refine .inl ⟨_, _, qcall_pure (d2) rfl rfl, ?_⟩ | refine LitB.data ?_ | refine BoxB.own ?_); conv => whnf)))
    all_goals first
      | (exfalso; omega)
      | (exfalso; simp_all; done)
      | exact fin_fe e.symm
theorem z_fRight (x : Rat) (lx : rl x ≤ 200000) : ACall Tryz.prog 64 [frS (fz x)] [] (boolS true) [] := by
  have h := a_fRight (fz x) (Nat.le_trans (rl_num x) lx) (Nat.le_trans (rl_den x) lx)
  rw [fz_right] at h
  exact h
theorem z_fAdd (x y : Rat) (lx : rl x ≤ 60000) (ly : rl y ≤ 60000) : ACall Tryz.prog 71 [frS (fz x), frS (fz y)] [] (.tup [frS (fz (x + y)), intS .i64 0]) [] := by
  have r1 := z_fRight x (by omega)
  have r2 := z_fRight y (by omega)
  have x1 := rl_num x
  have x2 := rl_den x
  have y1 := rl_num y
  have y2 := rl_den y
  have l1 := bl_mul x.num y.den
  have l2 := bl_mul y.num x.den
  have l3 := bl_mul x.den y.den
  have l4 := bl_add (x.num * y.den) (y.num * x.den)
  have t1 := z_times x.num y.den (by omega) (by omega)
  have t2 := z_times y.num x.den (by omega) (by omega)
  have t3 := z_times x.den y.den (by omega) (by omega)
  have a := z_bAdd (x.num * y.den) (y.num * x.den) (by omega) (by omega)
  have n := z_fNew (x.num * y.den + y.num * x.den) (x.den * y.den) (den2_ne x y) (by omega) (by omega)
  rw [← rat_add] at n
  (refine acall_of tab_ok Tryz.func71 rfl (by decide) ?_; (conv => whnf); repeat (first | (refine LitB.data ?_; conv => whnf) | (refine BoxB.own ?_; conv => whnf)))
  (repeat' (first | ((refine DecB.mk (fun h => ?_) (fun h => ?_)) <;> first | (exfalso; omega) | (conv => whnf)) | ((refine BoolB.mk (fun h => ?_) (fun h => ?_)) <;> first | (exact absurd h (by decide)) | (conv => whnf)) | ((first | refine zzW ?_ | refine zzI ?_ | refine zzR ?_ | refine zzB ?_ | refine late_ok rfl rfl ?_ | refine src_ok rfl ?_ | refine .inl ⟨_, _, qcall_pure (r1) rfl rfl, ?_⟩ | refine .inl ⟨_, _, qcall_pure (r2) rfl rfl, ?_⟩ | refine .inl ⟨_, _, qcall_pure (t1) rfl rfl, ?_⟩ | refine .inl ⟨_, _, qcall_pure (t2) rfl rfl, ?_⟩ | refine .inl ⟨_, _, qcall_pure (t3) rfl rfl, ?_⟩ | refine .inl ⟨_, _, qcall_pure (a) rfl rfl, ?_⟩ | refine .inl ⟨_, _, qcall_pure (n) rfl rfl, ?_⟩ | refine .inl ⟨_, _, qcall_pure (13) rfl rfl, ?_⟩ | refine bar_late [13] (by decide +kernel) (by decide +kernel) ?_ | refine LitB.data ?_ | refine BoxB.own ?_); conv => whnf)))
  all_goals first
    | (exfalso; simp_all; done)
    | exact fin_fe rfl
theorem z_fSub (x y : Rat) (lx : rl x ≤ 60000) (ly : rl y ≤ 60000) : ACall Tryz.prog 70 [frS (fz x), frS (fz y)] [] (.tup [frS (fz (x - y)), intS .i64 0]) [] := by
  have r1 := z_fRight x (by omega)
  have r2 := z_fRight y (by omega)
  have y1 := rl_num y
  have n := z_bNeg y.num (by omega)
  have a := z_fAdd x (-y) lx (by rw [rl_neg]; exact ly)
  rw [← Rat.sub_eq_add_neg] at a
  have e : fz (-y) = ⟨bz (-y.num), bz y.den⟩ := rfl
  rw [e] at a
  (refine acall_of tab_ok Tryz.func70 rfl (by decide) ?_; (conv => whnf); repeat (first | (refine LitB.data ?_; conv => whnf) | (refine BoxB.own ?_; conv => whnf)))
  (repeat' (first | ((refine DecB.mk (fun h => ?_) (fun h => ?_)) <;> first | (exfalso; omega) | (conv => whnf)) | ((refine BoolB.mk (fun h => ?_) (fun h => ?_)) <;> first | (exact absurd h (by decide)) | (conv => whnf)) | ((first | refine zzW ?_ | refine zzI ?_ | refine zzR ?_ | refine zzB ?_ | refine late_ok rfl rfl ?_ | refine src_ok rfl ?_ | refine .inl ⟨_, _, qcall_pure (r1) rfl rfl, ?_⟩ | refine .inl ⟨_, _, qcall_pure (r2) rfl rfl, ?_⟩ | refine .inl ⟨_, _, qcall_pure (n) rfl rfl, ?_⟩ | refine .inl ⟨_, _, qcall_pure (a) rfl rfl, ?_⟩ | refine LitB.data ?_ | refine BoxB.own ?_); conv => whnf)))
  all_goals first
    | (exfalso; simp_all; done)
    | exact fin_fe rfl
theorem z_fMul (x y : Rat) (lx : rl x ≤ 60000) (ly : rl y ≤ 60000) : ACall Tryz.prog 94 [frS (fz x), frS (fz y)] [] (.tup [frS (fz (x * y)), intS .i64 0]) [] := by
  have r1 := z_fRight x (by omega)
  have r2 := z_fRight y (by omega)
  have x1 := rl_num x
  have x2 := rl_den x
  have y1 := rl_num y
  have y2 := rl_den y
  have l1 := bl_mul x.num y.num
  have l3 := bl_mul x.den y.den
  have t1 := z_times x.num y.num (by omega) (by omega)
  have t3 := z_times x.den y.den (by omega) (by omega)
  have n := z_fNew (x.num * y.num) (x.den * y.den) (den2_ne x y) (by omega) (by omega)
  rw [← rat_mul] at n
  (refine acall_of tab_ok Tryz.func94 rfl (by decide) ?_; (conv => whnf); repeat (first | (refine LitB.data ?_; conv => whnf) | (refine BoxB.own ?_; conv => whnf)))
  (repeat' (first | ((refine DecB.mk (fun h => ?_) (fun h => ?_)) <;> first | (exfalso; omega) | (conv => whnf)) | ((refine BoolB.mk (fun h => ?_) (fun h => ?_)) <;> first | (exact absurd h (by decide)) | (conv => whnf)) | ((first | refine zzW ?_ | refine zzI ?_ | refine zzR ?_ | refine zzB ?_ | refine late_ok rfl rfl ?_ | refine src_ok rfl ?_ | refine .inl ⟨_, _, qcall_pure (r1) rfl rfl, ?_⟩ | refine .inl ⟨_, _, qcall_pure (r2) rfl rfl, ?_⟩ | refine .inl ⟨_, _, qcall_pure (t1) rfl rfl, ?_⟩ | refine .inl ⟨_, _, qcall_pure (t3) rfl rfl, ?_⟩ | refine .inl ⟨_, _, qcall_pure (n) rfl rfl, ?_⟩ | refine LitB.data ?_ | refine BoxB.own ?_); conv => whnf)))
  all_goals first
    | (exfalso; simp_all; done)
    | exact fin_fe rfl
theorem cmpR_num (x y : Rat) : cmpI (x.num * y.den) (y.num * x.den) = cmpR x y := by
  unfold cmpI cmpR
  simp only [← Rat.lt_iff]
theorem z_fCompare (x y : Rat) (lx : rl x ≤ 60000) (ly : rl y ≤ 60000) : ACall Tryz.prog 53 [frS (fz x), frS (fz y)] [] (intS .i64 (cmpR x y)) [] := by
  have r1 := z_fRight x (by omega)
  have r2 := z_fRight y (by omega)
  have x1 := rl_num x
  have x2 := rl_den x
  have y1 := rl_num y
  have y2 := rl_den y
  have l1 := bl_mul x.num y.den
  have l2 := bl_mul y.num x.den
  have t1 := z_times x.num y.den (by omega) (by omega)
  have t2 := z_times y.num x.den (by omega) (by omega)
  have c := z_bCompare (x.num * y.den) (y.num * x.den) (by omega) (by omega)
  rw [cmpR_num] at c
  (refine acall_of tab_ok Tryz.func53 rfl (by decide) ?_; (conv => whnf); repeat (first | (refine LitB.data ?_; conv => whnf) | (refine BoxB.own ?_; conv => whnf)))
  (repeat' (first | ((refine DecB.mk (fun h => ?_) (fun h => ?_)) <;> first | (exfalso; omega) | (conv => whnf)) | ((refine BoolB.mk (fun h => ?_) (fun h => ?_)) <;> first | (exact absurd h (by decide)) | (conv => whnf)) | ((first | refine zzW ?_ | refine zzI ?_ | refine zzR ?_ | refine zzB ?_ | refine late_ok rfl rfl ?_ | refine src_ok rfl ?_ | refine .inl ⟨_, _, qcall_pure (r1) rfl rfl, ?_⟩ | refine .inl ⟨_, _, qcall_pure (r2) rfl rfl, ?_⟩ | refine .inl ⟨_, _, qcall_pure (t1) rfl rfl, ?_⟩ | refine .inl ⟨_, _, qcall_pure (t2) rfl rfl, ?_⟩ | refine .inl ⟨_, _, qcall_pure (c) rfl rfl, ?_⟩ | refine LitB.data ?_ | refine BoxB.own ?_); conv => whnf)))
  all_goals first
    | (exfalso; simp_all; done)
    | exact fin_int rfl
theorem z_fSign (x : Rat) (lx : rl x ≤ 60000) : ACall Tryz.prog 52 [frS (fz x)] [] (intS .i64 (sgR x)) [] := by
  have r1 := z_fRight x (by omega)
  (refine acall_of tab_ok Tryz.func52 rfl (by decide) ?_; (conv => whnf); repeat (first | (refine LitB.data ?_; conv => whnf) | (refine BoxB.own ?_; conv => whnf)))
  (repeat' (first | ((refine DecB.mk (fun h => ?_) (fun h => ?_)) <;> first | (exfalso; omega) | (conv => whnf)) | ((refine BoolB.mk (fun h => ?_) (fun h => ?_)) <;> first | (exact absurd h (by decide)) | (conv => whnf)) | ((first | refine zzW ?_ | refine zzI ?_ | refine zzR ?_ | refine zzB ?_ | refine late_ok rfl rfl ?_ | refine src_ok rfl ?_ | refine .inl ⟨_, _, qcall_pure (r1) rfl rfl, ?_⟩ | refine LitB.data ?_ | refine BoxB.own ?_); conv => whnf)))
  all_goals first
    | (exfalso; simp_all; done)
    | exact fin_int (sign_num x)
theorem z_fOf (p q : Int) (hq : q ≠ 0) (p0 : -9223372036854775808 ≤ p) (p1 : p ≤ 9223372036854775807) (q0 : -9223372036854775808 ≤ q) (q1 : q ≤ 9223372036854775807) :
    ACall Tryz.prog 106 [intS .i64 p, intS .i64 q] [] (.tup [frS (fz (Rat.divInt p q)), intS .i64 0]) [] := by
  have l1 := bl_int p0 p1
  have l2 := bl_int q0 q1
  have o1 := z_bOf p p0 p1
  have o2 := z_bOf q q0 q1
  have n := z_fNew p q hq (by omega) (by omega)
  (refine acall_of tab_ok Tryz.func106 rfl (by decide) ?_; (conv => whnf); repeat (first | (refine LitB.data ?_; conv => whnf) | (refine BoxB.own ?_; conv => whnf)))
  (repeat' (first | ((refine DecB.mk (fun h => ?_) (fun h => ?_)) <;> first | (exfalso; omega) | (conv => whnf)) | ((refine BoolB.mk (fun h => ?_) (fun h => ?_)) <;> first | (exact absurd h (by decide)) | (conv => whnf)) | ((first | refine zzW ?_ | refine zzI ?_ | refine zzR ?_ | refine zzB ?_ | refine late_ok rfl rfl ?_ | refine src_ok rfl ?_ | refine .inl ⟨_, _, qcall_pure (o1) rfl rfl, ?_⟩ | refine .inl ⟨_, _, qcall_pure (o2) rfl rfl, ?_⟩ | refine .inl ⟨_, _, qcall_pure (n) rfl rfl, ?_⟩ | refine LitB.data ?_ | refine BoxB.own ?_); conv => whnf)))
  all_goals exact fin_fe rfl
theorem fz_int (n : Int) : fz (n : Rat) = ⟨bz n, bz 1⟩ := by unfold fz; rw [Rat.num_intCast, Rat.den_intCast]; rfl
theorem z_fInt (n : Int) (p0 : -9223372036854775808 ≤ n) (p1 : n ≤ 9223372036854775807) : ACall Tryz.prog 69 [intS .i64 n] [] (frS (fz (n : Rat))) [] := by
  have o1 := z_bOf n p0 p1
  have o2 := z_bOf 1 (by decide) (by decide)
  rw [fz_int]
  (refine acall_of tab_ok Tryz.func69 rfl (by decide) ?_; (conv => whnf); repeat (first | (refine LitB.data ?_; conv => whnf) | (refine BoxB.own ?_; conv => whnf)))
  (repeat' (first | ((refine DecB.mk (fun h => ?_) (fun h => ?_)) <;> first | (exfalso; omega) | (conv => whnf)) | ((refine BoolB.mk (fun h => ?_) (fun h => ?_)) <;> first | (exact absurd h (by decide)) | (conv => whnf)) | ((first | refine zzW ?_ | refine zzI ?_ | refine zzR ?_ | refine zzB ?_ | refine late_ok rfl rfl ?_ | refine src_ok rfl ?_ | refine .inl ⟨_, _, qcall_pure (o1) rfl rfl, ?_⟩ | refine .inl ⟨_, _, qcall_pure (o2) rfl rfl, ?_⟩ | refine LitB.data ?_ | refine BoxB.own ?_); conv => whnf)))
  all_goals exact fin_t ⟨rfl, rfl, rfl, rfl, trivial⟩
theorem z_slim (x : Int) (lx : bl x ≤ 200000) : ACall Tryz.prog 138 [bgS (bz x)] [] (bgS (bz x)) [] := by
  have n1 := z_bNeg x (by omega)
  have n2 := z_bNeg (-x) (by rw [bl_neg]; omega)
  rw [Int.neg_neg] at n2
  (refine acall_of tab_ok Tryz.func138 rfl (by decide) ?_; (conv => whnf); repeat (first | (refine LitB.data ?_; conv => whnf) | (refine BoxB.own ?_; conv => whnf)))
  (repeat' (first | ((refine DecB.mk (fun h => ?_) (fun h => ?_)) <;> first | (exfalso; omega) | (conv => whnf)) | ((refine BoolB.mk (fun h => ?_) (fun h => ?_)) <;> first | (exact absurd h (by decide)) | (conv => whnf)) | ((first | refine zzW ?_ | refine zzI ?_ | refine zzR ?_ | refine zzB ?_ | refine late_ok rfl rfl ?_ | refine src_ok rfl ?_ | refine .inl ⟨_, _, qcall_pure (n1) rfl rfl, ?_⟩ | refine .inl ⟨_, _, qcall_pure (n2) rfl rfl, ?_⟩ | refine LitB.data ?_ | refine BoxB.own ?_); conv => whnf)))
  all_goals exact fin_t ⟨rfl, rfl, trivial⟩
end Go.Proofs.YtfieodjihaodiaaGreat
/- Chapters 13 and 15 in plain Lean: intervals of scales, stocks, what history.Check computes. No program is in sight. -/
namespace Go.Proofs.YtfieodjihaodiaaGreat
set_option linter.unusedVariables false
set_option linter.unusedSimpArgs false

def certRight (c : Cert) : Bool :=
  decide (0 ≤ c.since) && decide (c.since ≤ c.till) && decide (c.till ≤ 100000) && idx c.scale 30 && btw c.grams 0 1099511627776 && btw c.permille 0 1000 && btw c.drift 0 10000000
def covers (c : Cert) (day : Int) : Bool := certRight c && btw day c.since c.till
def sinceAt (cs : List Cert) (i : Nat) : Int := ((cs[i]?).map (·.since)).getD 0
def later (cs : List Cert) (o : Option Nat) (c : Cert) : Bool := match o with
  | none => true
  | some b => decide (sinceAt cs b ≤ c.since)
/-- the certificate in force, among the first k -/
def findTo (cs : List Cert) (scale day : Int) : Nat → Option Nat
  | 0 => none
  | k + 1 => match cs[k]? with
    | none => findTo cs scale day k
    | some c => if decide (c.scale = scale) && covers c day && later cs (findTo cs scale day k) c then some k else findTo cs scale day k
theorem findTo_some {cs : List Cert} {scale day : Int} : ∀ {k b : Nat}, findTo cs scale day k = some b → b < k ∧ ∃ c, cs[b]? = some c ∧ c.scale = scale ∧ covers c day = true
  | 0, b, h => by simp [findTo] at h
  | k + 1, b, h => by
    unfold findTo at h
    split at h
    · obtain ⟨h1, h2⟩ := findTo_some h; exact ⟨by omega, h2⟩
    · rename_i c hc
      split at h
      · rename_i hcc
        injection h with h
        subst h
        simp only [Bool.and_eq_true, decide_eq_true_eq] at hcc
        exact ⟨by omega, c, hc, hcc.1.1, hcc.1.2⟩
      · obtain ⟨h1, h2⟩ := findTo_some h; exact ⟨by omega, h2⟩
def recalled (rs : List Recall) (scale day : Int) : Bool := rs.any fun r => decide (r.scale = scale) && decide (r.since ≤ day)
def errR (c : Cert) (reading day : Int) : Rat := Rat.divInt (c.permille * reading) 1000 + ((c.grams + c.drift * (day - c.since) : Int) : Rat)
def maxR (x y : Rat) : Rat := if x < y then y else x
def zeroCert : Cert := ⟨0, 0, 0, 0, 0, 0⟩
def certAt (cs : List Cert) (i : Nat) : Cert := (cs[i]?).getD zeroCert
def interval (cs : List Cert) (rs : List Recall) (scale reading day : Int) : Option (Rat × Rat) :=
  match findTo cs scale day cs.length with
  | none => none
  | some i => if recalled rs scale day then none else if btw reading 0 1099511627776 then
      some (maxR ((reading : Rat) - errR (certAt cs i) reading day) ((0 : Int) : Rat), (reading : Rat) + errR (certAt cs i) reading day) else none

def sumR (l : List Rat) : Rat := l.foldl (· + ·) ((0 : Int) : Rat)
theorem sumR_snoc (l : List Rat) (x : Rat) : sumR (l ++ [x]) = sumR l + x := by simp [sumR]
theorem rl_sumR {l : List Rat} {B : Nat} (h : ∀ x ∈ l, rl x ≤ B) : rl (sumR l) ≤ l.length * (B + 1) + 1 := by
  have key : ∀ (l : List Rat) (a : Rat), (∀ x ∈ l, rl x ≤ B) → rl (l.foldl (· + ·) a) ≤ l.length * (B + 1) + rl a := fun l => by
    induction l with
    | nil => intro a _; simp
    | cons x r ih =>
      intro a hx
      have h1 := ih (a + x) fun y hy => hx y (by simp [hy])
      have h2 := rl_add a x
      have h3 := hx x (by simp)
      simp only [List.foldl_cons, List.length_cons, Nat.succ_mul]
      omega
  exact key l _ h
/-- a history's shape -/
def shapedB (e : Ev) (h : List (List Fr)) : Bool := decide (h.length = e.moves.length) && h.all fun l => decide ((l.length : Int) = e.mats) && l.all rightF
def hz (H : List (List Rat)) : List (List Fr) := H.map (·.map fz)
theorem right_rats {l : List Fr} (h : l.all rightF = true) : ∃ L : List Rat, l = L.map fz := by
  induction l with
  | nil => exact ⟨[], rfl⟩
  | cons f r ih =>
    simp only [List.all_cons, Bool.and_eq_true] at h
    obtain ⟨L, rfl⟩ := ih h.2
    exact ⟨fv f :: L, by simp [← fz_fv h.1]⟩
structure Shape (e : Ev) (H : List (List Rat)) : Prop where
  len : H.length = e.moves.length
  wid : ∀ l ∈ H, (l.length : Int) = e.mats
theorem shaped_rats {e : Ev} {h : List (List Fr)} (hs : shapedB e h = true) : ∃ H, h = hz H ∧ Shape e H := by
  unfold shapedB at hs
  simp only [Bool.and_eq_true, decide_eq_true_eq] at hs
  obtain ⟨h1, h2⟩ := hs
  have key : ∀ h : List (List Fr), (h.all fun l => decide ((l.length : Int) = e.mats) && l.all rightF) = true → ∃ H, h = hz H ∧ ∀ l ∈ H, (l.length : Int) = e.mats := fun h => by
    induction h with
    | nil => intro _; exact ⟨[], rfl, by simp⟩
    | cons l r ih =>
      intro hh
      simp only [List.all_cons, Bool.and_eq_true, decide_eq_true_eq] at hh
      obtain ⟨⟨q1, q2⟩, q3⟩ := hh
      obtain ⟨L, rfl⟩ := right_rats q2
      obtain ⟨H, rfl, hw⟩ := ih q3
      refine ⟨L :: H, rfl, fun l hl => ?_⟩
      rcases List.mem_cons.1 hl with rfl | hl
      · simpa using q1
      · exact hw l hl
  obtain ⟨H, rfl, hw⟩ := key h h2
  exact ⟨H, rfl, by simpa [hz] using h1, hw⟩
def hAt (H : List (List Rat)) (k m : Nat) : Rat := (H.getD k []).getD m 0
/-- what a move makes of the stocks -/
def carryF (x : Move) (v : Nat → Rat) (f : Nat → Nat → Rat) : Nat → Nat → Rat := fun p m => if x.src = (p : Int) then f p m - v m else if x.dst = (p : Int) then f p m + v m else f p m
/-- the stocks after k moves -/
def stk (e : Ev) (H : List (List Rat)) : Nat → Nat → Nat → Rat
  | 0 => fun _ _ => ((0 : Int) : Rat)
  | k + 1 => match e.moves[k]? with
    | none => stk e H k
    | some x => carryF x (hAt H k) (stk e H k)
/-- the error of what a move takes -/
def takenF (f : Nat → Rat) (all : Bool) : List Rat → Nat → Bool → Int
  | [], _, rest => if rest && all then 7 else 0
  | v :: r, m, rest => if f m < v then 4 else takenF f all r (m + 1) (rest || decide (v < f m))
def takenE (e : Ev) (f : Nat → Nat → Rat) (x : Move) (l : List Rat) : Int := if kindAt e x.src = 0 then 0 else takenF (f x.src.toNat) x.all l 0 false
def inB (iv : Option (Rat × Rat)) (mass : Rat) : Bool := match iv with
  | none => true
  | some (lo, hi) => decide (lo ≤ mass) && decide (mass ≤ hi)
def weighedB (e : Ev) (x : Move) (mass : Rat) : Bool := if x.scale = -1 then true else inB (interval e.certs e.recalls x.scale x.reading x.day) mass
def pureOne (p : Purity) (l : List Rat) (mass : Rat) : Bool :=
  decide ((p.least : Rat) * mass ≤ ((1000 : Int) : Rat) * l.getD p.mat.toNat 0) && decide (((1000 : Int) : Rat) * l.getD p.mat.toNat 0 ≤ (p.most : Rat) * mass)
def pureB (ps : List Purity) (i : Nat) (l : List Rat) (mass : Rat) : Bool := ps.all fun p => decide (p.move ≠ (i : Int)) || pureOne p l mass
def stepE (e : Ev) (x : Move) (l : List Rat) (f : Nat → Nat → Rat) (i : Nat) : Int :=
  if l.any (fun v => decide (v < 0)) then 3 else if takenE e f x l ≠ 0 then takenE e f x l else if weighedB e x (sumR l) = false then 24 else if pureB e.purities i l (sumR l) = false then 13 else 0
/-- the error of the moves from k on -/
def movesE (e : Ev) (H : List (List Rat)) : Nat → List Move → Int
  | _, [] => 0
  | k, x :: r => if stepE e x (H.getD k []) (stk e H k) k ≠ 0 then stepE e x (H.getD k []) (stk e H k) k else movesE e H (k + 1) r
def histE (e : Ev) (H : List (List Rat)) : Int := movesE e H 0 e.moves
def histCheck (e : Ev) (h : List (List Fr)) : Int := if check e ≠ 0 then 1 else if shapedB e h then histE e (h.map (·.map fv)) else 2
theorem unhz (H : List (List Rat)) : (hz H).map (·.map fv) = H := by
  unfold hz
  rw [List.map_map]
  conv => rhs; rw [← List.map_id H]
  refine List.map_congr_left fun l _ => ?_
  simp only [Function.comp, List.map_map, id]
  conv => rhs; rw [← List.map_id l]
  exact List.map_congr_left fun x _ => fv_fz x
theorem rl_carryF {x : Move} {v : Nat → Rat} {f : Nat → Nat → Rat} {B C : Nat} (hv : ∀ m, rl (v m) ≤ B) (hf : ∀ p m, rl (f p m) ≤ C) (p m : Nat) : rl (carryF x v f p m) ≤ C + (B + 1) := by
  unfold carryF
  have h1 := hf p m
  have h2 := hv m
  have h3 := rl_sub (f p m) (v m)
  have h4 := rl_add (f p m) (v m)
  split
  · omega
  · split <;> omega
theorem rl_zero : rl ((0 : Int) : Rat) = 1 := by rw [rl_int]; rfl
theorem rl_hAt {H : List (List Rat)} {B : Nat} (hB : ∀ l ∈ H, ∀ x ∈ l, rl x ≤ B) (h1 : 1 ≤ B) (k m : Nat) : rl (hAt H k m) ≤ B := by
  unfold hAt
  rw [List.getD_eq_getElem?_getD, List.getD_eq_getElem?_getD]
  cases hk : H[k]? with
  | none =>
    have : rl 0 = 1 := rl_zero
    simp only [Option.getD_none, List.getElem?_nil]
    omega
  | some l =>
    simp only [Option.getD_some]
    cases hm : l[m]? with
    | none =>
      have : rl 0 = 1 := rl_zero
      simp only [Option.getD_none]
      omega
    | some x => exact hB l (List.mem_of_getElem? hk) x (List.mem_of_getElem? hm)
theorem rl_stk {e : Ev} {H : List (List Rat)} {B : Nat} (hB : ∀ l ∈ H, ∀ x ∈ l, rl x ≤ B) (h1 : 1 ≤ B) : ∀ k p m, rl (stk e H k p m) ≤ k * (B + 1) + 1
  | 0, p, m => by unfold stk; rw [rl_zero]; omega
  | k + 1, p, m => by
    have ih := rl_stk hB h1 (e := e) k
    unfold stk
    cases hx : e.moves[k]? with
    | none => have := ih p m; rw [Nat.succ_mul]; simp only; omega
    | some x =>
      simp only
      have := rl_carryF (x := x) (rl_hAt hB h1 k) ih p m
      rw [Nat.succ_mul]; omega
end Go.Proofs.YtfieodjihaodiaaGreat
/- frac.Max; scale: Right, covers, Find, Recalled, Error, Interval. -/
namespace Go.Proofs.YtfieodjihaodiaaGreat
open Go.RowKit
set_option linter.unusedVariables false
set_option linter.unusedSimpArgs false
set_option maxRecDepth 100000

theorem cmpR_lt {x y : Rat} : cmpR x y < 0 ↔ x < y := by unfold cmpR; split <;> (try split) <;> simp_all
theorem cmpR_rng (x y : Rat) : -1 ≤ cmpR x y ∧ cmpR x y ≤ 1 := by unfold cmpR; split <;> (try split) <;> omega
theorem z_fMax (x y : Rat) (lx : rl x ≤ 60000) (ly : rl y ≤ 60000) : ACall Tryz.prog 72 [frS (fz x), frS (fz y)] [] (.tup [frS (fz (maxR x y)), intS .i64 0]) [] := by
  have e : ACall Tryz.prog 111 [frS (fz x), frS (fz y), intS .i64 1] [] (.tup [frS (fz (maxR x y)), intS .i64 0]) [] := by
    have r1 := z_fRight x (by omega)
    have r2 := z_fRight y (by omega)
    have x1 := rl_num x
    have x2 := rl_den x
    have y1 := rl_num y
    have y2 := rl_den y
    have c := z_fCompare x y lx ly
    have hr := cmpR_rng x y
    have s1 := z_slim x.num (by omega)
    have s2 := z_slim x.den (by omega)
    have s3 := z_slim y.num (by omega)
    have s4 := z_slim y.den (by omega)
    (refine acall_of tab_ok Tryz.func111 rfl (by decide) ?_; (conv => whnf); repeat (first | (refine LitB.data ?_; conv => whnf) | (refine BoxB.own ?_; conv => whnf)))
    (repeat' (first | ((refine DecB.mk (fun h => ?_) (fun h => ?_)) <;> first | (exfalso; omega) | (conv => whnf)) | ((refine BoolB.mk (fun h => ?_) (fun h => ?_)) <;> first | (exact absurd h (by decide)) | (conv => whnf)) | ((first | refine zzW ?_ | refine zzI ?_ | refine zzR ?_ | refine zzB ?_ | refine late_ok rfl rfl ?_ | refine src_ok rfl ?_ | refine .inl ⟨_, _, qcall_pure (r1) rfl rfl, ?_⟩ | refine .inl ⟨_, _, qcall_pure (r2) rfl rfl, ?_⟩ | refine .inl ⟨_, _, qcall_pure (c) rfl rfl, ?_⟩ | refine .inl ⟨_, _, qcall_pure (s1) rfl rfl, ?_⟩ | refine .inl ⟨_, _, qcall_pure (s2) rfl rfl, ?_⟩ | refine .inl ⟨_, _, qcall_pure (s3) rfl rfl, ?_⟩ | refine .inl ⟨_, _, qcall_pure (s4) rfl rfl, ?_⟩ | refine LitB.data ?_ | refine BoxB.own ?_); conv => whnf)))
    · have h : cmpR x y < 0 := by omega
      refine fin_fe (f := fz y) ?_
      unfold maxR; rw [if_pos (cmpR_lt.1 h)]
    · have h : ¬ cmpR x y < 0 := by omega
      refine fin_fe (f := fz x) ?_
      unfold maxR; rw [if_neg (fun h' => h (cmpR_lt.2 h'))]
  (refine acall_of tab_ok Tryz.func72 rfl (by decide) ?_; (conv => whnf); repeat (first | (refine LitB.data ?_; conv => whnf) | (refine BoxB.own ?_; conv => whnf)))
  (repeat' (first | ((refine DecB.mk (fun h => ?_) (fun h => ?_)) <;> first | (exfalso; omega) | (conv => whnf)) | ((refine BoolB.mk (fun h => ?_) (fun h => ?_)) <;> first | (exact absurd h (by decide)) | (conv => whnf)) | ((first | refine zzW ?_ | refine zzI ?_ | refine zzR ?_ | refine zzB ?_ | refine late_ok rfl rfl ?_ | refine src_ok rfl ?_ | refine .inl ⟨_, _, qcall_pure (e) rfl rfl, ?_⟩ | refine LitB.data ?_ | refine BoxB.own ?_); conv => whnf)))
  all_goals exact fin_fe rfl
theorem a_within (n m : Int) : ACall Tryz.prog 105 [intS .i64 n, intS .i64 m] [] (boolS (btw n 0 m)) [] := by
  (refine acall_of tab_ok Tryz.func105 rfl (by decide) ?_; (conv => whnf); repeat (first | (refine LitB.data ?_; conv => whnf) | (refine BoxB.own ?_; conv => whnf)))
  (repeat' (first | ((refine DecB.mk (fun h => ?_) (fun h => ?_)) <;> first | (exfalso; omega) | (conv => whnf)) | ((refine BoolB.mk (fun h => ?_) (fun h => ?_)) <;> first | (exact absurd h (by decide)) | (conv => whnf)) | ((first | refine zzW ?_ | refine zzI ?_ | refine zzR ?_ | refine zzB ?_ | refine late_ok rfl rfl ?_ | refine src_ok rfl ?_ | refine LitB.data ?_ | refine BoxB.own ?_); conv => whnf)))
  all_goals (refine fin_bool ?_; unfold btw; simp; omega)
abbrev certS (c : Cert) : S := .agg (c.row.map .t)
theorem btw_idx30 (n : Int) : btw n 0 29 = idx n 30 := btw_idx n 30
theorem a_certRight (c : Cert) : ACall Tryz.prog 132 [certS c] [] (boolS (certRight c)) [] := by
  have w1 := a_within c.scale 29
  have w2 := a_within c.grams 1099511627776
  have w3 := a_within c.permille 1000
  have w4 := a_within c.drift 10000000
  rw [btw_idx30] at w1
  unfold certRight
  cases h1 : idx c.scale 30 <;> cases h2 : btw c.grams 0 1099511627776 <;> cases h3 : btw c.permille 0 1000 <;> cases h4 : btw c.drift 0 10000000 <;> rw [h1] at w1 <;> rw [h2] at w2 <;> rw [h3] at w3 <;> rw [h4] at w4 <;>
  · (refine acall_of tab_ok Tryz.func132 rfl (by decide) ?_; (conv => whnf); repeat (first | (refine LitB.data ?_; conv => whnf) | (refine BoxB.own ?_; conv => whnf)))
    (repeat' (first | ((refine DecB.mk (fun h => ?_) (fun h => ?_)) <;> first | (exfalso; omega) | (conv => whnf)) | ((refine BoolB.mk (fun h => ?_) (fun h => ?_)) <;> first | (exact absurd h (by decide)) | (conv => whnf)) | ((first | refine zzW ?_ | refine zzI ?_ | refine zzR ?_ | refine zzB ?_ | refine late_ok rfl rfl ?_ | refine src_ok rfl ?_ | refine .inl ⟨_, _, qcall_pure (w1) rfl rfl, ?_⟩ | refine .inl ⟨_, _, qcall_pure (w2) rfl rfl, ?_⟩ | refine .inl ⟨_, _, qcall_pure (w3) rfl rfl, ?_⟩ | refine .inl ⟨_, _, qcall_pure (w4) rfl rfl, ?_⟩ | refine LitB.data ?_ | refine BoxB.own ?_); conv => whnf)))
    all_goals (refine fin_bool ?_; simp; try omega)
theorem a_covers (c : Cert) (day : Int) : ACall Tryz.prog 102 [certS c, intS .i64 day] [] (boolS (covers c day)) [] := by
  have w1 := a_certRight c
  unfold covers
  cases h1 : certRight c <;> rw [h1] at w1 <;>
  · (refine acall_of tab_ok Tryz.func102 rfl (by decide) ?_; (conv => whnf); repeat (first | (refine LitB.data ?_; conv => whnf) | (refine BoxB.own ?_; conv => whnf)))
    (repeat' (first | ((refine DecB.mk (fun h => ?_) (fun h => ?_)) <;> first | (exfalso; omega) | (conv => whnf)) | ((refine BoolB.mk (fun h => ?_) (fun h => ?_)) <;> first | (exact absurd h (by decide)) | (conv => whnf)) | ((first | refine zzW ?_ | refine zzI ?_ | refine zzR ?_ | refine zzB ?_ | refine late_ok rfl rfl ?_ | refine src_ok rfl ?_ | refine .inl ⟨_, _, qcall_pure (w1) rfl rfl, ?_⟩ | refine LitB.data ?_ | refine BoxB.own ?_); conv => whnf)))
    all_goals (refine fin_bool ?_; simp [btw]; try omega)
theorem cert_get {cs : List Cert} {k : Nat} {c : Cert} (h : cs[k]? = some c) : sinceAt cs k = c.since := by unfold sinceAt; rw [h]; rfl
abbrev boxT (n : Int) : T := .ptr [ti n]
theorem ent_b {a b : Bool} {ρ : List (Option Nat)} {H : Hp} (h : a = b) : EntS ρ H (boolS a) (boolS b) := by subst h; exact rfl
def bestOf (o : Option Nat) : Nat := o.getD 0
theorem a_Find (cs : List Cert) (scale day : Int) (hl : cs.length ≤ 1000000) :
    ACall Tryz.prog 66 [.c (.t (certsT cs)), intS .i64 scale, intS .i64 day] [] (.tup [intS .i64 (bestOf (findTo cs scale day cs.length)), boolS (findTo cs scale day cs.length).isSome]) [] := by
  have l1 : (cs.map Cert.row).length = cs.length := by simp
  (refine acall_of tab_ok Tryz.func66 rfl (by decide) ?_; (conv => whnf); repeat (first | (refine LitB.data ?_; conv => whnf) | (refine BoxB.own ?_; conv => whnf)))
  (repeat' (first | ((refine DecB.mk (fun h => ?_) (fun h => ?_)) <;> first | (exfalso; omega) | (conv => whnf)) | ((refine BoolB.mk (fun h => ?_) (fun h => ?_)) <;> first | (exact absurd h (by decide)) | (conv => whnf)) | ((first | refine zzW ?_ | refine zzI ?_ | refine zzR ?_ | refine zzB ?_ | refine late_ok rfl rfl ?_ | refine src_ok rfl ?_ | refine LitB.data ?_ | refine BoxB.own ?_); conv => whnf)))
  refine awp_for tab_ok (fun k => ([S.c (C.t (certsT cs)), intS .i64 scale, intS .i64 day, J, J, J, J, J, intS .i64 (bestOf (findTo cs scale day k)), boolS (findTo cs scale day k).isSome, J, J, S.c (C.t (certsT cs)), intS .i64 cs.length, intS .i64 k, J, J, J, J, J, J, J, J, J, J, J, J, J, J, J, J, J, J, J, J, J, J, J, J, J, J, J, J, J, J, J], [])) cs.length (fun _ => True) [] trivial
    ⟨rfl, rfl, trivial, ⟨ent_t rfl, rfl, rfl, rfl, rfl, ent_t rfl, ent_i (by simp), rfl, trivial⟩⟩ ?_
  intro k hk _
  by_cases hlt : k < cs.length
  · obtain ⟨c, hc⟩ : ∃ c, cs[k]? = some c := ⟨_, List.getElem?_eq_getElem hlt⟩
    have cv := a_covers c day
    have hst : findTo cs scale day (k + 1) = if decide (c.scale = scale) && covers c day && later cs (findTo cs scale day k) c then some k else findTo cs scale day k := by
      conv => lhs; unfold findTo
      rw [hc]
    cases hcv : covers c day with
    | false =>
      rw [hcv] at cv hst
      simp only [Bool.and_false, Bool.false_and, Bool.false_eq_true, if_false] at hst
      rw [← hst]
      conv => whnf
      (repeat' (first | ((refine DecB.mk (fun h => ?_) (fun h => ?_)) <;> first | (exfalso; omega) | (conv => whnf)) | ((refine BoolB.mk (fun h => ?_) (fun h => ?_)) <;> first | (exact absurd h (by decide)) | (conv => whnf)) | ((first | refine zzW ?_ | refine zzI ?_ | refine zzR ?_ | refine zzB ?_ | refine late_ok rfl rfl ?_ | refine src_ok rfl ?_ | refine .inl ⟨_, _, qcall_pure (cv) rfl rfl, ?_⟩ | refine ex_row hc ?_ | refine LitB.data ?_ | refine BoxB.own ?_); conv => whnf)))
      all_goals first
        | (exfalso; omega)
        | exact ⟨hlt, trivial, [], rfl, rfl, trivial, ⟨rfl, rfl, rfl, rfl, rfl, rfl, rfl, rfl, trivial⟩⟩
    | true =>
      rw [hcv] at cv hst
      cases hf : findTo cs scale day k with
      | none =>
        rw [hf] at hst
        conv => whnf
        (repeat' (first | ((refine DecB.mk (fun h => ?_) (fun h => ?_)) <;> first | (exfalso; omega) | (conv => whnf)) | ((refine BoolB.mk (fun h => ?_) (fun h => ?_)) <;> first | (exact absurd h (by decide)) | (conv => whnf)) | ((first | refine zzW ?_ | refine zzI ?_ | refine zzR ?_ | refine zzB ?_ | refine late_ok rfl rfl ?_ | refine src_ok rfl ?_ | refine .inl ⟨_, _, qcall_pure (cv) rfl rfl, ?_⟩ | refine ex_row hc ?_ | refine LitB.data ?_ | refine BoxB.own ?_); conv => whnf)))
        · exact ⟨hlt, trivial, [], rfl, rfl, trivial, ⟨rfl, rfl, rfl, ent_i (by rw [hst]; simp [*, later, bestOf]), ent_b (by rw [hst]; simp [*, later]), rfl, rfl, rfl, trivial⟩⟩
        · exact ⟨hlt, trivial, [], rfl, rfl, trivial, ⟨rfl, rfl, rfl, ent_i (by rw [hst]; simp [*, later, bestOf]), ent_b (by rw [hst]; simp [*, later]), rfl, rfl, rfl, trivial⟩⟩
      | some b =>
        rw [hf] at hst
        obtain ⟨hb, cb, hcb, _⟩ := findTo_some hf
        have hsb := cert_get hcb
        conv => whnf
        (repeat' (first | ((refine DecB.mk (fun h => ?_) (fun h => ?_)) <;> first | (exfalso; omega) | (conv => whnf)) | ((refine BoolB.mk (fun h => ?_) (fun h => ?_)) <;> first | (exact absurd h (by decide)) | (conv => whnf)) | ((first | refine zzW ?_ | refine zzI ?_ | refine zzR ?_ | refine zzB ?_ | refine late_ok rfl rfl ?_ | refine src_ok rfl ?_ | refine .inl ⟨_, _, qcall_pure (cv) rfl rfl, ?_⟩ | refine ex_row hc ?_ | refine ex_row hcb ?_ | refine LitB.data ?_ | refine BoxB.own ?_); conv => whnf)))
        all_goals first
          | exact ⟨hlt, trivial, [], rfl, rfl, trivial, ⟨rfl, rfl, rfl, ent_i (by rw [hst]; simp [*, later, bestOf]), ent_b (by rw [hst]; simp [*, later]), rfl, rfl, rfl, trivial⟩⟩
          | (exfalso; simp_all; done)
  · have hke : k = cs.length := by omega
    subst hke
    conv => whnf
    (repeat' (first | ((refine DecB.mk (fun h => ?_) (fun h => ?_)) <;> first | (exfalso; omega) | (conv => whnf)) | ((refine BoolB.mk (fun h => ?_) (fun h => ?_)) <;> first | (exact absurd h (by decide)) | (conv => whnf)) | ((first | refine zzW ?_ | refine zzI ?_ | refine zzR ?_ | refine zzB ?_ | refine late_ok rfl rfl ?_ | refine src_ok rfl ?_ | refine LitB.data ?_ | refine BoxB.own ?_); conv => whnf)))
    all_goals first
      | (exfalso; omega)
      | exact fin_t ⟨rfl, rfl, trivial⟩
theorem a_RecalledIs (r : Recall) (scale day : Int) : ACall Tryz.prog 104 (.agg (r.row.map .t) :: [boxT scale, boxT day].map fun x => .c (.t x)) [] (boolS (decide (r.scale = scale) && decide (r.since ≤ day))) [] := by
  (refine acall_of tab_ok Tryz.func104 rfl (by decide) ?_; (conv => whnf); repeat (first | (refine LitB.data ?_; conv => whnf) | (refine BoxB.own ?_; conv => whnf)))
  (repeat' (first | ((refine DecB.mk (fun h => ?_) (fun h => ?_)) <;> first | (exfalso; omega) | (conv => whnf)) | ((refine BoolB.mk (fun h => ?_) (fun h => ?_)) <;> first | (exact absurd h (by decide)) | (conv => whnf)) | ((first | refine zzW ?_ | refine zzI ?_ | refine zzR ?_ | refine zzB ?_ | refine late_ok rfl rfl ?_ | refine src_ok rfl ?_ | refine LitB.data ?_ | refine BoxB.own ?_); conv => whnf)))
  all_goals (refine fin_bool ?_; simp [*]; try omega)
abbrev recS (r : Recall) : S := .agg (r.row.map .t)
def indexI {α : Type} (q : α → Bool) : List α → Nat → Int
  | [], _ => -1
  | x :: r, k => if q x then k else indexI q r (k + 1)
theorem indexI_any {α : Type} (q : α → Bool) : ∀ (l : List α) (k : Nat), decide (0 ≤ indexI q l k) = l.any q
  | [], k => by simp [indexI]
  | x :: r, k => by
    unfold indexI
    rw [List.any_cons]
    cases h : q x with
    | true => simp
    | false => simpa using indexI_any q r (k + 1)
theorem a_IndexRec (rs : List Recall) (hl : rs.length ≤ 1000000) (g : FuncId) (caps : List T) (q : Recall → Bool) (hg : ∀ r ∈ rs, ACall Tryz.prog g (recS r :: caps.map fun x => .c (.t x)) [] (boolS (q r)) []) :
    ACall Tryz.prog 133 [.c (.t (recallsT rs)), .c (.t (.fn (.func g) caps))] [] (intS .i64 (indexI q rs 0)) [] := by
  have l1 : (rs.map Recall.row).length = rs.length := by simp
  (refine acall_of tab_ok Tryz.func133 rfl (by decide) ?_; (conv => whnf); repeat (first | (refine LitB.data ?_; conv => whnf) | (refine BoxB.own ?_; conv => whnf)))
  (repeat' (first | ((refine DecB.mk (fun h => ?_) (fun h => ?_)) <;> first | (exfalso; omega) | (conv => whnf)) | ((refine BoolB.mk (fun h => ?_) (fun h => ?_)) <;> first | (exact absurd h (by decide)) | (conv => whnf)) | ((first | refine zzW ?_ | refine zzI ?_ | refine zzR ?_ | refine zzB ?_ | refine late_ok rfl rfl ?_ | refine src_ok rfl ?_ | refine LitB.data ?_ | refine BoxB.own ?_); conv => whnf)))
  refine awp_for tab_ok (fun k => ([S.c (C.t (recallsT rs)), S.c (C.t (T.fn (.func g) caps)), J, J, J, J, J, intS .i64 rs.length, intS .i64 k, J, J, J, J, J, J, J, J, J, J], [])) rs.length (fun k => indexI q (rs.drop k) k = indexI q rs 0) [] rfl
    ⟨rfl, rfl, trivial, ⟨ent_t rfl, ent_t rfl, ent_i (by simp), rfl, trivial⟩⟩ ?_
  intro k hk hI
  by_cases hlt : k < rs.length
  · obtain ⟨r, hr⟩ : ∃ r, rs[k]? = some r := ⟨_, List.getElem?_eq_getElem hlt⟩
    have hd : rs.drop k = r :: rs.drop (k + 1) := by
      rw [List.drop_eq_getElem_cons hlt]
      rw [List.getElem?_eq_getElem hlt] at hr
      injection hr with hr
      rw [hr]
    have hgr := hg r (List.mem_of_getElem? hr)
    have ha : (recS r :: caps.map fun x => S.c (C.t x)).all S.isT = true := by simp [S.isT, C.isT, Recall.row]
    rw [hd] at hI
    have hI : (if q r then (k : Int) else indexI q (rs.drop (k + 1)) (k + 1)) = indexI q rs 0 := hI
    cases hq : q r with
    | true =>
      rw [hq] at hgr hI
      conv => whnf
      (repeat' (first | ((refine DecB.mk (fun h => ?_) (fun h => ?_)) <;> first | (exfalso; omega) | (conv => whnf)) | ((refine BoolB.mk (fun h => ?_) (fun h => ?_)) <;> first | (exact absurd h (by decide)) | (conv => whnf)) | ((first | refine zzW ?_ | refine zzI ?_ | refine zzR ?_ | refine zzB ?_ | refine late_ok rfl rfl ?_ | refine src_ok rfl ?_ | refine .inl ⟨_, _, qcall_pure hgr ha rfl, ?_⟩ | refine ex_row hr ?_ | refine LitB.data ?_ | refine BoxB.own ?_); conv => whnf)))
      all_goals first
        | (exfalso; omega)
        | exact fin_int hI
    | false =>
      rw [hq] at hgr hI
      conv => whnf
      (repeat' (first | ((refine DecB.mk (fun h => ?_) (fun h => ?_)) <;> first | (exfalso; omega) | (conv => whnf)) | ((refine BoolB.mk (fun h => ?_) (fun h => ?_)) <;> first | (exact absurd h (by decide)) | (conv => whnf)) | ((first | refine zzW ?_ | refine zzI ?_ | refine zzR ?_ | refine zzB ?_ | refine late_ok rfl rfl ?_ | refine src_ok rfl ?_ | refine .inl ⟨_, _, qcall_pure hgr ha rfl, ?_⟩ | refine ex_row hr ?_ | refine LitB.data ?_ | refine BoxB.own ?_); conv => whnf)))
      all_goals first
        | (exfalso; omega)
        | exact ⟨hlt, by simpa using hI, [], rfl, rfl, trivial, ⟨rfl, rfl, rfl, rfl, trivial⟩⟩
  · have hke : k = rs.length := by omega
    subst hke
    rw [List.drop_of_length_le (Nat.le_refl _)] at hI
    conv => whnf
    (repeat' (first | ((refine DecB.mk (fun h => ?_) (fun h => ?_)) <;> first | (exfalso; omega) | (conv => whnf)) | ((refine BoolB.mk (fun h => ?_) (fun h => ?_)) <;> first | (exact absurd h (by decide)) | (conv => whnf)) | ((first | refine zzW ?_ | refine zzI ?_ | refine zzR ?_ | refine zzB ?_ | refine late_ok rfl rfl ?_ | refine src_ok rfl ?_ | refine LitB.data ?_ | refine BoxB.own ?_); conv => whnf)))
    all_goals first
      | (exfalso; omega)
      | exact fin_int hI
theorem a_ContainsRec (rs : List Recall) (hl : rs.length ≤ 1000000) (g : FuncId) (caps : List T) (q : Recall → Bool) (hg : ∀ r ∈ rs, ACall Tryz.prog g (recS r :: caps.map fun x => .c (.t x)) [] (boolS (q r)) []) :
    ACall Tryz.prog 103 [.c (.t (recallsT rs)), .c (.t (.fn (.func g) caps))] [] (boolS (rs.any q)) [] := by
  have ix := a_IndexRec rs hl g caps q hg
  (refine acall_of tab_ok Tryz.func103 rfl (by decide) ?_; (conv => whnf); repeat (first | (refine LitB.data ?_; conv => whnf) | (refine BoxB.own ?_; conv => whnf)))
  (repeat' (first | ((refine DecB.mk (fun h => ?_) (fun h => ?_)) <;> first | (exfalso; omega) | (conv => whnf)) | ((refine BoolB.mk (fun h => ?_) (fun h => ?_)) <;> first | (exact absurd h (by decide)) | (conv => whnf)) | ((first | refine zzW ?_ | refine zzI ?_ | refine zzR ?_ | refine zzB ?_ | refine late_ok rfl rfl ?_ | refine src_ok rfl ?_ | refine .inl ⟨_, _, qcall_pure (ix) rfl rfl, ?_⟩ | refine LitB.data ?_ | refine BoxB.own ?_); conv => whnf)))
  all_goals (refine fin_bool ?_; rw [← indexI_any q rs 0]; simp; omega)
theorem a_Recalled (rs : List Recall) (hl : rs.length ≤ 1000000) (scale day : Int) : ACall Tryz.prog 67 [.c (.t (recallsT rs)), intS .i64 scale, intS .i64 day] [] (boolS (recalled rs scale day)) [] := by
  have ct := a_ContainsRec rs hl 104 [boxT scale, boxT day] _ (fun r _ => a_RecalledIs r scale day)
  (refine acall_of tab_ok Tryz.func67 rfl (by decide) ?_; (conv => whnf); repeat (first | (refine LitB.data ?_; conv => whnf) | (refine BoxB.data ?_; conv => whnf)))
  (repeat' (first | ((refine DecB.mk (fun h => ?_) (fun h => ?_)) <;> first | (exfalso; omega) | (conv => whnf)) | ((refine BoolB.mk (fun h => ?_) (fun h => ?_)) <;> first | (exact absurd h (by decide)) | (conv => whnf)) | ((first | refine zzW ?_ | refine zzI ?_ | refine zzR ?_ | refine zzB ?_ | refine late_ok rfl rfl ?_ | refine src_ok rfl ?_ | refine .inl ⟨_, _, qcall_pure (ct) rfl rfl, ?_⟩ | refine LitB.data ?_ | refine BoxB.own ?_); conv => whnf)))
  all_goals (refine fin_bool ?_; symm; assumption)
end Go.Proofs.YtfieodjihaodiaaGreat
/- scale: Error, Interval. -/
namespace Go.Proofs.YtfieodjihaodiaaGreat
open Go.RowKit
set_option linter.unusedVariables false
set_option linter.unusedSimpArgs false
set_option maxRecDepth 100000

theorem covers_iff {c : Cert} {day : Int} (h : covers c day = true) : 0 ≤ c.since ∧ c.since ≤ day ∧ day ≤ c.till ∧ c.till ≤ 100000 ∧ 0 ≤ c.grams ∧ c.grams ≤ 1099511627776 ∧ 0 ≤ c.permille ∧ c.permille ≤ 1000 ∧ 0 ≤ c.drift ∧ c.drift ≤ 10000000 := by
  unfold covers certRight btw at h
  simp only [Bool.and_eq_true, decide_eq_true_eq] at h
  omega
abbrev zeroF : Fr := ⟨⟨0, []⟩, ⟨0, []⟩⟩
theorem fin_fb {f f' : Fr} {b b' : Bool} {H1 : Hp} (h : f = f') (h2 : b = b') : Fin 0 (.tup [frS f, boolS b]) H1 (.tup [frS f', boolS b']) [] := by
  subst h h2; exact fin_t ⟨⟨rfl, rfl, rfl, rfl, trivial⟩, rfl, trivial⟩
structure ErrI (c : Cert) (reading day : Int) : Prop where
  p0 : 0 ≤ c.permille * reading
  p1 : c.permille * reading ≤ 1000 * 1099511627776
  d0 : 0 ≤ c.drift * (day - c.since)
  d1 : c.drift * (day - c.since) ≤ 10000000 * 100000
theorem ErrI.of {c : Cert} {reading day : Int} (h : covers c day = true) (hr : btw reading 0 1099511627776 = true) : ErrI c reading day := by
  have hc := covers_iff h
  rw [btw_iff] at hr
  exact ⟨Int.mul_nonneg (by omega) (by omega), Int.mul_le_mul (by omega) (by omega) (by omega) (by omega), Int.mul_nonneg (by omega) (by omega), Int.mul_le_mul (by omega) (by omega) (by omega) (by omega)⟩
theorem rl_err {c : Cert} {reading day : Int} (h : covers c day = true) (hr : btw reading 0 1099511627776 = true) : rl (errR c reading day) ≤ 9 := by
  have i := ErrI.of h hr
  have hc := covers_iff h
  obtain ⟨p0, p1, d0, d1⟩ := i
  unfold errR
  have h1 := rl_add (Rat.divInt (c.permille * reading) 1000) ((c.grams + c.drift * (day - c.since) : Int) : Rat)
  have h2 : rl (Rat.divInt (c.permille * reading) 1000) ≤ 4 := Nat.le_trans (rl_divInt (by decide)) (by have := bl_int (x := c.permille * reading) (by omega) (by omega); have := bl_int (x := 1000) (by decide) (by decide); omega)
  have h3 : rl ((c.grams + c.drift * (day - c.since) : Int) : Rat) ≤ 4 := by rw [rl_int]; have := bl_int (x := c.grams + c.drift * (day - c.since)) (by omega) (by omega); omega
  omega
theorem a_Error (c : Cert) (reading day : Int) (h : covers c day = true) : ACall Tryz.prog 68 [certS c, intS .i64 reading, intS .i64 day] []
    (.tup [frS (if btw reading 0 1099511627776 then fz (errR c reading day) else zeroF), boolS (btw reading 0 1099511627776)]) [] := by
  have cv := a_covers c day
  have wi := a_within reading 1099511627776
  rw [h] at cv
  have hc := covers_iff h
  cases hr : btw reading 0 1099511627776 with
  | false =>
    rw [hr] at wi
    (refine acall_of tab_ok Tryz.func68 rfl (by decide) ?_; (conv => whnf); repeat (first | (refine LitB.data ?_; conv => whnf) | (refine BoxB.own ?_; conv => whnf)))
    (repeat' (first | ((refine DecB.mk (fun h => ?_) (fun h => ?_)) <;> first | (exfalso; omega) | (conv => whnf)) | ((refine BoolB.mk (fun h => ?_) (fun h => ?_)) <;> first | (exact absurd h (by decide)) | (conv => whnf)) | ((first | refine zzW ?_ | refine zzI ?_ | refine zzR ?_ | refine zzB ?_ | refine late_ok rfl rfl ?_ | refine src_ok rfl ?_ | refine .inl ⟨_, _, qcall_pure (cv) rfl rfl, ?_⟩ | refine .inl ⟨_, _, qcall_pure (wi) rfl rfl, ?_⟩ | refine LitB.data ?_ | refine BoxB.own ?_); conv => whnf)))
    all_goals first
      | (exfalso; simp_all; done)
      | exact fin_t ⟨⟨rfl, rfl, rfl, rfl, trivial⟩, rfl, trivial⟩
  | true =>
    rw [hr] at wi
    obtain ⟨p0, p1, d0, d1⟩ := ErrI.of h hr
    rw [btw_iff] at hr
    have fo := z_fOf (c.permille * reading) 1000 (by decide) (by omega) (by omega) (by decide) (by decide)
    have fi := z_fInt (c.grams + c.drift * (day - c.since)) (by omega) (by omega)
    have h2 : rl (Rat.divInt (c.permille * reading) 1000) ≤ 4 := Nat.le_trans (rl_divInt (by decide)) (by have := bl_int (x := c.permille * reading) (by omega) (by omega); have := bl_int (x := 1000) (by decide) (by decide); omega)
    have h3 : rl ((c.grams + c.drift * (day - c.since) : Int) : Rat) ≤ 4 := by rw [rl_int]; have := bl_int (x := c.grams + c.drift * (day - c.since)) (by omega) (by omega); omega
    have ad := z_fAdd (Rat.divInt (c.permille * reading) 1000) ((c.grams + c.drift * (day - c.since) : Int) : Rat) (by omega) (by omega)
    (refine acall_of tab_ok Tryz.func68 rfl (by decide) ?_; (conv => whnf); repeat (first | (refine LitB.data ?_; conv => whnf) | (refine BoxB.own ?_; conv => whnf)))
    (repeat' (first | ((refine DecB.mk (fun h => ?_) (fun h => ?_)) <;> first | (exfalso; omega) | (conv => whnf)) | ((refine BoolB.mk (fun h => ?_) (fun h => ?_)) <;> first | (exact absurd h (by decide)) | (conv => whnf)) | ((first | refine zzW ?_ | refine zzI ?_ | refine zzR ?_ | refine zzB ?_ | refine late_ok rfl rfl ?_ | refine src_ok rfl ?_ | refine .inl ⟨_, _, qcall_pure (cv) rfl rfl, ?_⟩ | refine .inl ⟨_, _, qcall_pure (wi) rfl rfl, ?_⟩ | refine .inl ⟨_, _, qcall_pure (fo) rfl rfl, ?_⟩ | refine .inl ⟨_, _, qcall_pure (fi) rfl rfl, ?_⟩ | refine .inl ⟨_, _, qcall_pure (ad) rfl rfl, ?_⟩ | refine .inl ⟨_, _, qcall_pure (7) rfl rfl, ?_⟩ | refine .inl ⟨_, _, qcall_pure (15) rfl rfl, ?_⟩ | refine bar_late [7] (by decide +kernel) (by decide +kernel) ?_ | refine bar_late [15] (by decide +kernel) (by decide +kernel) ?_ | refine LitB.data ?_ | refine BoxB.own ?_); conv => whnf)))
    all_goals first
      | (exfalso; simp_all; done)
      | exact fin_fb rfl rfl
abbrev ivL (o : Option (Rat × Rat)) : List S := match o with
  | some (lo, hi) => [frS (fz lo), frS (fz hi), boolS true]
  | none => [frS zeroF, frS zeroF, boolS false]
theorem rl_maxR {x y : Rat} {n : Nat} (h1 : rl x ≤ n) (h2 : rl y ≤ n) : rl (maxR x y) ≤ n := by unfold maxR; split <;> assumption
theorem rl_interval {cs : List Cert} {rs : List Recall} {scale reading day : Int} {lo hi : Rat} (h : interval cs rs scale reading day = some (lo, hi)) : rl lo ≤ 20 ∧ rl hi ≤ 20 := by
  unfold interval at h
  split at h
  · cases h
  · rename_i i hi
    obtain ⟨hb, c, hc, _, hcv⟩ := findTo_some hi
    have e : certAt cs i = c := by unfold certAt; rw [hc]; rfl
    rw [e] at h
    split at h
    · cases h
    · split at h
      · rename_i hr
        injection h with h
        injection h with h1 h2
        have l1 := rl_err hcv hr
        rw [btw_iff] at hr
        have l2 : rl (reading : Rat) ≤ 4 := by rw [rl_int]; have := bl_int (x := reading) (by omega) (by omega); omega
        have l3 := rl_add (reading : Rat) (errR c reading day)
        have l4 := rl_sub (reading : Rat) (errR c reading day)
        refine ⟨?_, by rw [← h2]; omega⟩
        rw [← h1]
        exact rl_maxR (by omega) (by rw [rl_zero]; omega)
      · cases h
theorem a_Interval (cs : List Cert) (rs : List Recall) (hl : cs.length ≤ 1000000) (hl2 : rs.length ≤ 1000000) (scale reading day : Int) :
    ACall Tryz.prog 31 [.c (.t (certsT cs)), .c (.t (recallsT rs)), intS .i64 scale, intS .i64 reading, intS .i64 day] [] (.tup (ivL (interval cs rs scale reading day))) [] := by
  have f := a_Find cs scale day hl
  have r := a_Recalled rs hl2 scale day
  unfold interval
  cases hf : findTo cs scale day cs.length with
  | none =>
    rw [hf] at f
    (refine acall_of tab_ok Tryz.func31 rfl (by decide) ?_; (conv => whnf); repeat (first | (refine LitB.data ?_; conv => whnf) | (refine BoxB.own ?_; conv => whnf)))
    (repeat' (first | ((refine DecB.mk (fun h => ?_) (fun h => ?_)) <;> first | (exfalso; omega) | (conv => whnf)) | ((refine BoolB.mk (fun h => ?_) (fun h => ?_)) <;> first | (exact absurd h (by decide)) | (conv => whnf)) | ((first | refine zzW ?_ | refine zzI ?_ | refine zzR ?_ | refine zzB ?_ | refine late_ok rfl rfl ?_ | refine src_ok rfl ?_ | refine .inl ⟨_, _, qcall_pure (f) rfl rfl, ?_⟩ | refine .inl ⟨_, _, qcall_pure (r) rfl rfl, ?_⟩ | refine .inl ⟨_, _, qcall_pure (1) rfl rfl, ?_⟩ | refine .inl ⟨_, _, qcall_pure (6) rfl rfl, ?_⟩ | refine bar_late [1] (by decide +kernel) (by decide +kernel) ?_ | refine bar_late [6] (by decide +kernel) (by decide +kernel) ?_ | refine LitB.data ?_ | refine BoxB.own ?_); conv => whnf)))
    all_goals first
      | (exfalso; simp_all; done)
      | exact fin_t ⟨⟨rfl, rfl, rfl, rfl, trivial⟩, ⟨rfl, rfl, rfl, rfl, trivial⟩, rfl, trivial⟩
  | some i =>
    rw [hf] at f
    obtain ⟨hb, c, hc, _, hcv⟩ := findTo_some hf
    have e : certAt cs i = c := by unfold certAt; rw [hc]; rfl
    have er := a_Error c reading day hcv
    simp only [e]
    cases hrec : recalled rs scale day with
    | true =>
      rw [hrec] at r
      (refine acall_of tab_ok Tryz.func31 rfl (by decide) ?_; (conv => whnf); repeat (first | (refine LitB.data ?_; conv => whnf) | (refine BoxB.own ?_; conv => whnf)))
      (repeat' (first | ((refine DecB.mk (fun h => ?_) (fun h => ?_)) <;> first | (exfalso; omega) | (conv => whnf)) | ((refine BoolB.mk (fun h => ?_) (fun h => ?_)) <;> first | (exact absurd h (by decide)) | (conv => whnf)) | ((first | refine zzW ?_ | refine zzI ?_ | refine zzR ?_ | refine zzB ?_ | refine late_ok rfl rfl ?_ | refine src_ok rfl ?_ | refine .inl ⟨_, _, qcall_pure (f) rfl rfl, ?_⟩ | refine .inl ⟨_, _, qcall_pure (r) rfl rfl, ?_⟩ | refine .inl ⟨_, _, qcall_pure (1) rfl rfl, ?_⟩ | refine .inl ⟨_, _, qcall_pure (6) rfl rfl, ?_⟩ | refine bar_late [1] (by decide +kernel) (by decide +kernel) ?_ | refine bar_late [6] (by decide +kernel) (by decide +kernel) ?_ | refine LitB.data ?_ | refine BoxB.own ?_); conv => whnf)))
      all_goals first
        | (exfalso; simp_all; done)
        | exact fin_t ⟨⟨rfl, rfl, rfl, rfl, trivial⟩, ⟨rfl, rfl, rfl, rfl, trivial⟩, rfl, trivial⟩
    | false =>
      rw [hrec] at r
      cases hr : btw reading 0 1099511627776 with
      | false =>
        rw [hr] at er
        (refine acall_of tab_ok Tryz.func31 rfl (by decide) ?_; (conv => whnf); repeat (first | (refine LitB.data ?_; conv => whnf) | (refine BoxB.own ?_; conv => whnf)))
        (repeat' (first | ((refine DecB.mk (fun h => ?_) (fun h => ?_)) <;> first | (exfalso; omega) | (conv => whnf)) | ((refine BoolB.mk (fun h => ?_) (fun h => ?_)) <;> first | (exact absurd h (by decide)) | (conv => whnf)) | ((first | refine zzW ?_ | refine zzI ?_ | refine zzR ?_ | refine zzB ?_ | refine late_ok rfl rfl ?_ | refine src_ok rfl ?_ | refine .inl ⟨_, _, qcall_pure (f) rfl rfl, ?_⟩ | refine .inl ⟨_, _, qcall_pure (r) rfl rfl, ?_⟩ | refine .inl ⟨_, _, qcall_pure (er) rfl rfl, ?_⟩ | refine .inl ⟨_, _, qcall_pure (1) rfl rfl, ?_⟩ | refine .inl ⟨_, _, qcall_pure (9) rfl rfl, ?_⟩ | refine ex_row hc ?_ | refine bar_late [1] (by decide +kernel) (by decide +kernel) ?_ | refine bar_late [9] (by decide +kernel) (by decide +kernel) ?_ | refine LitB.data ?_ | refine BoxB.own ?_); conv => whnf)))
        all_goals first
          | exact fin_t ⟨⟨rfl, rfl, rfl, rfl, trivial⟩, ⟨rfl, rfl, rfl, rfl, trivial⟩, rfl, trivial⟩
          | (exfalso; simp_all; done)
      | true =>
        have l1 := rl_err hcv hr
        rw [hr] at er
        rw [btw_iff] at hr
        have l2 : rl (reading : Rat) ≤ 4 := by rw [rl_int]; have := bl_int (x := reading) (by omega) (by omega); omega
        have fi := z_fInt reading (by omega) (by omega)
        have f0 := z_fInt 0 (by omega) (by omega)
        have sb := z_fSub (reading : Rat) (errR c reading day) (by omega) (by omega)
        have ad := z_fAdd (reading : Rat) (errR c reading day) (by omega) (by omega)
        have l4 := rl_sub (reading : Rat) (errR c reading day)
        have mx := z_fMax ((reading : Rat) - errR c reading day) ((0 : Int) : Rat) (by omega) (by rw [rl_zero]; omega)
        (refine acall_of tab_ok Tryz.func31 rfl (by decide) ?_; (conv => whnf); repeat (first | (refine LitB.data ?_; conv => whnf) | (refine BoxB.own ?_; conv => whnf)))
        (repeat' (first | ((refine DecB.mk (fun h => ?_) (fun h => ?_)) <;> first | (exfalso; omega) | (conv => whnf)) | ((refine BoolB.mk (fun h => ?_) (fun h => ?_)) <;> first | (exact absurd h (by decide)) | (conv => whnf)) | ((first | refine zzW ?_ | refine zzI ?_ | refine zzR ?_ | refine zzB ?_ | refine late_ok rfl rfl ?_ | refine src_ok rfl ?_ | refine .inl ⟨_, _, qcall_pure (f) rfl rfl, ?_⟩ | refine .inl ⟨_, _, qcall_pure (r) rfl rfl, ?_⟩ | refine .inl ⟨_, _, qcall_pure (er) rfl rfl, ?_⟩ | refine .inl ⟨_, _, qcall_pure (fi) rfl rfl, ?_⟩ | refine .inl ⟨_, _, qcall_pure (f0) rfl rfl, ?_⟩ | refine .inl ⟨_, _, qcall_pure (sb) rfl rfl, ?_⟩ | refine .inl ⟨_, _, qcall_pure (ad) rfl rfl, ?_⟩ | refine .inl ⟨_, _, qcall_pure (mx) rfl rfl, ?_⟩ | refine .inl ⟨_, _, qcall_pure (1) rfl rfl, ?_⟩ | refine .inl ⟨_, _, qcall_pure (9) rfl rfl, ?_⟩ | refine .inl ⟨_, _, qcall_pure (5) rfl rfl, ?_⟩ | refine ex_row hc ?_ | refine bar_late [1] (by decide +kernel) (by decide +kernel) ?_ | refine bar_late [9] (by decide +kernel) (by decide +kernel) ?_ | refine bar_late [5] (by decide +kernel) (by decide +kernel) ?_ | refine LitB.data ?_ | refine BoxB.own ?_); conv => whnf)))
        all_goals first
          | exact fin_t ⟨⟨rfl, rfl, rfl, rfl, trivial⟩, ⟨rfl, rfl, rfl, rfl, trivial⟩, rfl, trivial⟩
          | (exfalso; simp_all; done)
end Go.Proofs.YtfieodjihaodiaaGreat
/- history: shaped, sum, negative, weighed, pure. -/
namespace Go.Proofs.YtfieodjihaodiaaGreat
open Go.RowKit
set_option linter.unusedVariables false
set_option linter.unusedSimpArgs false
set_option maxRecDepth 100000

def frRow (f : Fr) : List T := [ti f.p.sg, intsT f.p.dl, ti f.q.sg, intsT f.q.dl]
abbrev fracsT (l : List Fr) : T := .sl 4 .any (l.map frRow)
abbrev fracsS (l : List Fr) : S := .c (.t (fracsT l))
def fracsRow (l : List Fr) : List T := [fracsT l]
abbrev histT (h : List (List Fr)) : T := .sl 1 .any (h.map fracsRow)
abbrev histS (h : List (List Fr)) : S := .c (.t (histT h))
abbrev evP (e : Ev) : T := .ptr (evT e)
/-- small enough to be calculated with -/
structure SmallH (n : Nat) (h : List (List Fr)) : Prop where
  l1 : h.length ≤ 1000000
  l2 : ∀ l ∈ h, l.length ≤ 1000000
  l3 : ∀ l ∈ h, ∀ f ∈ l, f.p.dl.length ≤ n ∧ f.q.dl.length ≤ n
theorem all_take_full {α : Type} {l : List α} {f : α → Bool} (h : (l.take l.length).all f = true) : l.all f = true := by rwa [List.take_of_length_le (Nat.le_refl _)] at h
theorem a_shaped (e : Ev) (hh : List (List Fr)) (hs : SmallH 200000 hh) (hm : e.moves.length ≤ 1000000) : ACall Tryz.prog 55 [evS e, histS hh] [] (boolS (shapedB e hh)) [] := by
  have m1 : (hh.map fracsRow).length = hh.length := by simp
  have m2 : (e.moves.map Move.row).length = e.moves.length := by simp
  have l1 := hs.l1
  let P : List Fr → Bool := fun l => decide ((l.length : Int) = e.mats) && l.all rightF
  have hP : shapedB e hh = (decide (hh.length = e.moves.length) && hh.all P) := rfl
  by_cases hlen : hh.length = e.moves.length
  · (refine acall_of tab_ok Tryz.func55 rfl (by decide) ?_; (conv => whnf); repeat (first | (refine LitB.data ?_; conv => whnf) | (refine BoxB.data ?_; conv => whnf)))
    (repeat' (first | ((refine DecB.mk (fun h => ?_) (fun h => ?_)) <;> first | (exfalso; omega) | (conv => whnf)) | ((refine BoolB.mk (fun h => ?_) (fun h => ?_)) <;> first | (exact absurd h (by decide)) | (conv => whnf)) | ((first | refine zzW ?_ | refine zzI ?_ | refine zzR ?_ | refine zzB ?_ | refine late_ok rfl rfl ?_ | refine src_ok rfl ?_ | refine LitB.data ?_ | refine BoxB.own ?_); conv => whnf)))
    refine awp_for tab_ok (fun k => ([J, J, S.c (C.t (evP e)), J, J, J, J, J, J, J, J, J, J, J, J, histS hh, intS .i64 hh.length, intS .i64 k, J, J, J, J, J, J, J, J, J, J, J, J, J, J, J, J, J, J, J], [])) hh.length (fun k => (hh.take k).all P = true) [] rfl
      ⟨rfl, rfl, trivial, ⟨rfl, ent_t rfl, ent_i (by simp), rfl, trivial⟩⟩ ?_
    intro k hk hI
    by_cases hlt : k < hh.length
    · obtain ⟨l, hl⟩ : ∃ l, hh[k]? = some l := ⟨_, List.getElem?_eq_getElem hlt⟩
      have hmem := List.mem_of_getElem? hl
      have l2 := hs.l2 l hmem
      have m3 : (l.map frRow).length = l.length := by simp
      have hall : (hh.take (k + 1)).all P = P l := by rw [all_take_succ hl, hI, Bool.true_and]
      conv => whnf
      (repeat' (first | ((refine DecB.mk (fun h => ?_) (fun h => ?_)) <;> first | (exfalso; omega) | (conv => whnf)) | ((refine BoolB.mk (fun h => ?_) (fun h => ?_)) <;> first | (exact absurd h (by decide)) | (conv => whnf)) | ((first | refine zzW ?_ | refine zzI ?_ | refine zzR ?_ | refine zzB ?_ | refine late_ok rfl rfl ?_ | refine src_ok rfl ?_ | refine ex_row hl ?_ | refine LitB.data ?_ | refine BoxB.own ?_); conv => whnf)))
      · have hd : ¬ (l.length : Int) = e.mats := by omega
        refine fin_bool ?_
        rw [hP, all_of_get hl (by simp [P, hd])]; simp
      · have hd : (l.length : Int) = e.mats := by omega
        refine awp_for tab_ok (fun j => ([J, J, S.c (C.t (evP e)), J, J, J, J, J, J, J, J, J, J, J, J, histS hh, intS .i64 hh.length, intS .i64 k, J, J, J, J, J, J, J, J, fracsS l, intS .i64 l.length, intS .i64 j, J, J, J, J, J, J, J, J], [])) l.length (fun j => (l.take j).all rightF = true) [] rfl
          ⟨rfl, rfl, trivial, ⟨rfl, rfl, rfl, rfl, ent_t rfl, ent_i (by simp), rfl, trivial⟩⟩ ?_
        intro j hj hJ
        by_cases hjt : j < l.length
        · obtain ⟨f, hf⟩ : ∃ f, l[j]? = some f := ⟨_, List.getElem?_eq_getElem hjt⟩
          have l3 := hs.l3 l hmem f (List.mem_of_getElem? hf)
          have r := a_fRight f l3.1 l3.2
          conv => whnf
          (repeat' (first | ((refine DecB.mk (fun h => ?_) (fun h => ?_)) <;> first | (exfalso; omega) | (conv => whnf)) | ((refine BoolB.mk (fun h => ?_) (fun h => ?_)) <;> first | (exact absurd h (by decide)) | (conv => whnf)) | ((first | refine zzW ?_ | refine zzI ?_ | refine zzR ?_ | refine zzB ?_ | refine late_ok rfl rfl ?_ | refine src_ok rfl ?_ | refine .inl ⟨_, _, qcall_pure (r) rfl rfl, ?_⟩ | refine ex_row hf ?_ | refine LitB.data ?_ | refine BoxB.own ?_); conv => whnf)))
          all_goals first
            | (exfalso; omega)
            | (have hr : rightF f = true := by assumption
               exact ⟨hjt, by rw [all_take_succ hf, hJ, hr]; rfl, [], rfl, rfl, trivial, ⟨rfl, rfl, rfl, rfl, rfl, rfl, rfl, trivial⟩⟩)
            | (have hr : rightF f = false := by assumption
               refine fin_bool ?_
               rw [hP, all_of_get hl (by simp only [P]; rw [all_of_get hf hr, Bool.and_false]), Bool.and_false])
        · have hje : j = l.length := by omega
          subst hje
          conv => whnf
          (repeat' (first | ((refine DecB.mk (fun h => ?_) (fun h => ?_)) <;> first | (exfalso; omega) | (conv => whnf)) | ((refine BoolB.mk (fun h => ?_) (fun h => ?_)) <;> first | (exact absurd h (by decide)) | (conv => whnf)) | ((first | refine zzW ?_ | refine zzI ?_ | refine zzR ?_ | refine zzB ?_ | refine late_ok rfl rfl ?_ | refine src_ok rfl ?_ | refine LitB.data ?_ | refine BoxB.own ?_); conv => whnf)))
          all_goals first
            | (exfalso; omega)
            | exact ⟨hlt, by rw [hall]; simp only [P]; rw [all_take_full hJ]; simp [hd], [], rfl, rfl, trivial, ⟨rfl, rfl, rfl, rfl, trivial⟩⟩
    · have hke : k = hh.length := by omega
      subst hke
      conv => whnf
      (repeat' (first | ((refine DecB.mk (fun h => ?_) (fun h => ?_)) <;> first | (exfalso; omega) | (conv => whnf)) | ((refine BoolB.mk (fun h => ?_) (fun h => ?_)) <;> first | (exact absurd h (by decide)) | (conv => whnf)) | ((first | refine zzW ?_ | refine zzI ?_ | refine zzR ?_ | refine zzB ?_ | refine late_ok rfl rfl ?_ | refine src_ok rfl ?_ | refine LitB.data ?_ | refine BoxB.own ?_); conv => whnf)))
      all_goals first
        | (exfalso; omega)
        | (refine fin_bool ?_; rw [hP, all_take_full hI]; simp [hlen])
  · (refine acall_of tab_ok Tryz.func55 rfl (by decide) ?_; (conv => whnf); repeat (first | (refine LitB.data ?_; conv => whnf) | (refine BoxB.data ?_; conv => whnf)))
    (repeat' (first | ((refine DecB.mk (fun h => ?_) (fun h => ?_)) <;> first | (exfalso; omega) | (conv => whnf)) | ((refine BoolB.mk (fun h => ?_) (fun h => ?_)) <;> first | (exact absurd h (by decide)) | (conv => whnf)) | ((first | refine zzW ?_ | refine zzI ?_ | refine zzR ?_ | refine zzB ?_ | refine late_ok rfl rfl ?_ | refine src_ok rfl ?_ | refine LitB.data ?_ | refine BoxB.own ?_); conv => whnf)))
    all_goals first
      | (exfalso; omega)
      | (refine fin_bool ?_; rw [hP]; simp [hlen])
theorem zero_get (l : List Rat) {k : Nat} {x : Rat} (h : l[k]? = some x) : (l.map fz)[k]? = some (fz x) := by rw [List.getElem?_map, h]; rfl
theorem sumR_take {l : List Rat} {k : Nat} {x : Rat} (h : l[k]? = some x) : sumR (l.take (k + 1)) = sumR (l.take k) + x := by rw [List.take_add_one, h]; exact sumR_snoc _ _
theorem fin_f {f f' : Fr} {H1 : Hp} (h : f = f') : Fin 0 (frS f) H1 (frS f') [] := by subst h; exact fin_t ⟨rfl, rfl, rfl, rfl, trivial⟩
abbrev frB (f : Fr) : Blk := { mode := .live, elem := 63, size := 4, rows := [frC f], box := true }
theorem rowsT_fr (f : Fr) : rowsT [frC f] := by
  intro r hr c hc
  simp at hr
  subst hr
  simp [frC] at hc
  rcases hc with rfl | rfl | rfl | rfl <;> rfl
theorem z_sum (l : List Rat) (hB : ∀ x ∈ l, rl x ≤ 200) (hl : l.length ≤ 200) : ACall Tryz.prog 59 [fracsS (l.map fz)] [] (frS (fz (sumR l))) [] := by
  have m1 : ((l.map fz).map frRow).length = l.length := by simp
  have i0 := z_fInt 0 (by decide) (by decide)
  (refine acall_of tab_ok Tryz.func59 rfl (by decide) ?_; (conv => whnf); repeat (first | (refine LitB.data ?_; conv => whnf) | (refine BoxB.own ?_; conv => whnf)))
  (repeat' (first | ((refine DecB.mk (fun h => ?_) (fun h => ?_)) <;> first | (exfalso; omega) | (conv => whnf)) | ((refine BoolB.mk (fun h => ?_) (fun h => ?_)) <;> first | (exact absurd h (by decide)) | (conv => whnf)) | ((first | refine zzW ?_ | refine zzI ?_ | refine zzR ?_ | refine zzB ?_ | refine late_ok rfl rfl ?_ | refine src_ok rfl ?_ | refine .inl ⟨_, _, qcall_pure (i0) rfl rfl, ?_⟩ | refine LitB.data ?_ | refine BoxB.own ?_); conv => whnf)))
  refine awp_for tab_ok (fun k => ([J, J, S.c (C.ptr 0 0 0), S.c (C.ptr 1 0 0), J, J, J, fracsS (l.map fz), intS .i64 l.length, intS .i64 k, J, J, J, J, J, J, J, J, J, J, J], [frB zeroF, frB (fz (sumR (l.take k)))])) l.length (fun _ => True) [some 0, some 1] trivial
    ⟨rfl, rfl, ⟨⟨rfl, rfl, rfl, .inr ⟨⟨rfl, rfl, rfl, rfl, trivial⟩, trivial⟩⟩, ⟨rfl, rfl, rfl, .inl ⟨rfl, rowsT_fr _⟩⟩, trivial⟩, ⟨⟨rfl, rfl, rfl⟩, ⟨rfl, rfl, rfl⟩, ent_t rfl, ent_i (by simp), rfl, trivial⟩⟩ ?_
  intro k hk _
  by_cases hlt : k < l.length
  · obtain ⟨x, hx⟩ : ∃ x, l[k]? = some x := ⟨_, List.getElem?_eq_getElem hlt⟩
    have bx := hB x (List.mem_of_getElem? hx)
    have bs := rl_sumR (l := l.take k) (B := 200) fun y hy => hB y (List.mem_of_mem_take hy)
    have lt : (l.take k).length ≤ 200 := by simp; omega
    have bs2 : rl (sumR (l.take k)) ≤ 200 * 201 + 1 := Nat.le_trans bs (by have := Nat.mul_le_mul_right (200 + 1) lt; omega)
    have ad := z_fAdd (sumR (l.take k)) x (by omega) (by omega)
    rw [← sumR_take hx] at ad
    conv => whnf
    (repeat' (first | ((refine DecB.mk (fun h => ?_) (fun h => ?_)) <;> first | (exfalso; omega) | (conv => whnf)) | ((refine BoolB.mk (fun h => ?_) (fun h => ?_)) <;> first | (exact absurd h (by decide)) | (conv => whnf)) | ((first | refine zzW ?_ | refine zzI ?_ | refine zzR ?_ | refine zzB ?_ | refine late_ok rfl rfl ?_ | refine src_ok rfl ?_ | refine .inl ⟨_, _, qcall_pure (ad) rfl rfl, ?_⟩ | refine .inl ⟨_, _, qcall_pure (5) rfl rfl, ?_⟩ | refine ex_row (zero_get l hx) ?_ | refine bar_late [5] (by decide +kernel) (by decide +kernel) ?_ | refine LitB.data ?_ | refine BoxB.own ?_); conv => whnf)))
    all_goals first
      | (exfalso; omega)
      | exact ⟨hlt, trivial, [some 0, some 1], rfl, rfl, ⟨⟨rfl, rfl, rfl, .inl ⟨rfl, rowsT_fr _⟩⟩, ⟨rfl, rfl, rfl, .inl ⟨rfl, rowsT_fr _⟩⟩, trivial⟩, ⟨⟨rfl, rfl, rfl⟩, ⟨rfl, rfl, rfl⟩, rfl, rfl, rfl, trivial⟩⟩
  · have hke : k = l.length := by omega
    subst hke
    rw [List.take_of_length_le (Nat.le_refl _)]
    conv => whnf
    (repeat' (first | ((refine DecB.mk (fun h => ?_) (fun h => ?_)) <;> first | (exfalso; omega) | (conv => whnf)) | ((refine BoolB.mk (fun h => ?_) (fun h => ?_)) <;> first | (exact absurd h (by decide)) | (conv => whnf)) | ((first | refine zzW ?_ | refine zzI ?_ | refine zzR ?_ | refine zzB ?_ | refine late_ok rfl rfl ?_ | refine src_ok rfl ?_ | refine LitB.data ?_ | refine BoxB.own ?_); conv => whnf)))
    all_goals first
      | (exfalso; omega)
      | exact fin_f rfl
theorem sgR_neg {x : Rat} : sgR x < 0 ↔ x < 0 := by unfold sgR; split <;> (try split) <;> simp_all
theorem z_negative (l : List Rat) (hB : ∀ x ∈ l, rl x ≤ 200) (hl : l.length ≤ 200) : ACall Tryz.prog 57 [fracsS (l.map fz)] [] (boolS (l.any fun v => decide (v < 0))) [] := by
  have m1 : ((l.map fz).map frRow).length = l.length := by simp
  (refine acall_of tab_ok Tryz.func57 rfl (by decide) ?_; (conv => whnf); repeat (first | (refine LitB.data ?_; conv => whnf) | (refine BoxB.own ?_; conv => whnf)))
  (repeat' (first | ((refine DecB.mk (fun h => ?_) (fun h => ?_)) <;> first | (exfalso; omega) | (conv => whnf)) | ((refine BoolB.mk (fun h => ?_) (fun h => ?_)) <;> first | (exact absurd h (by decide)) | (conv => whnf)) | ((first | refine zzW ?_ | refine zzI ?_ | refine zzR ?_ | refine zzB ?_ | refine late_ok rfl rfl ?_ | refine src_ok rfl ?_ | refine LitB.data ?_ | refine BoxB.own ?_); conv => whnf)))
  refine awp_for tab_ok (fun k => ([J, J, J, J, J, fracsS (l.map fz), intS .i64 l.length, intS .i64 k, J, J, J, J, J, J, J], [])) l.length (fun k => (l.take k).any (fun v => decide (v < 0)) = false) [] rfl
    ⟨rfl, rfl, trivial, ⟨ent_t rfl, ent_i (by simp), rfl, trivial⟩⟩ ?_
  intro k hk hI
  by_cases hlt : k < l.length
  · obtain ⟨x, hx⟩ : ∃ x, l[k]? = some x := ⟨_, List.getElem?_eq_getElem hlt⟩
    have bx := hB x (List.mem_of_getElem? hx)
    have sg := z_fSign x (by omega)
    conv => whnf
    (repeat' (first | ((refine DecB.mk (fun h => ?_) (fun h => ?_)) <;> first | (exfalso; omega) | (conv => whnf)) | ((refine BoolB.mk (fun h => ?_) (fun h => ?_)) <;> first | (exact absurd h (by decide)) | (conv => whnf)) | ((first | refine zzW ?_ | refine zzI ?_ | refine zzR ?_ | refine zzB ?_ | refine late_ok rfl rfl ?_ | refine src_ok rfl ?_ | refine .inl ⟨_, _, qcall_pure (sg) rfl rfl, ?_⟩ | refine ex_row (zero_get l hx) ?_ | refine LitB.data ?_ | refine BoxB.own ?_); conv => whnf)))
    all_goals first
      | (exfalso; omega)
      | (have h0 : sgR x < 0 := by omega
         refine fin_bool ?_; rw [any_of_get hx (by simpa using sgR_neg.1 h0)])
      | (have h0 : ¬ sgR x < 0 := by omega
         have h1 : ¬ x < 0 := fun h => h0 (sgR_neg.2 h)
         exact ⟨hlt, by rw [any_take_succ hx, hI]; simpa using h1, [], rfl, rfl, trivial, ⟨rfl, rfl, rfl, trivial⟩⟩)
  · have hke : k = l.length := by omega
    subst hke
    rw [List.take_of_length_le (Nat.le_refl _)] at hI
    conv => whnf
    (repeat' (first | ((refine DecB.mk (fun h => ?_) (fun h => ?_)) <;> first | (exfalso; omega) | (conv => whnf)) | ((refine BoolB.mk (fun h => ?_) (fun h => ?_)) <;> first | (exact absurd h (by decide)) | (conv => whnf)) | ((first | refine zzW ?_ | refine zzI ?_ | refine zzR ?_ | refine zzB ?_ | refine late_ok rfl rfl ?_ | refine src_ok rfl ?_ | refine LitB.data ?_ | refine BoxB.own ?_); conv => whnf)))
    all_goals first
      | (exfalso; omega)
      | exact fin_bool hI.symm
theorem cmpR_le {x y : Rat} : cmpR x y ≤ 0 ↔ x ≤ y := by
  unfold cmpR
  split
  · simp; grind
  · split
    · simp; grind
    · simp; grind
theorem z_weighed (e : Ev) (x : Move) (mass : Rat) (hm : rl mass ≤ 60000) (hs : e.Sized) : ACall Tryz.prog 60 [evS e, moveS x, frS (fz mass)] [] (boolS (weighedB e x mass)) [] := by
  have l1 := hs.s3
  have l2 := hs.s4
  have iv := a_Interval e.certs e.recalls (by omega) (by omega) x.scale x.reading x.day
  unfold weighedB
  by_cases hsc : x.scale = -1
  · rw [if_pos hsc]
    (refine acall_of tab_ok Tryz.func60 rfl (by decide) ?_; (conv => whnf); repeat (first | (refine LitB.data ?_; conv => whnf) | (refine BoxB.own ?_; conv => whnf)))
    (repeat' (first | ((refine DecB.mk (fun h => ?_) (fun h => ?_)) <;> first | (exfalso; omega) | (conv => whnf)) | ((refine BoolB.mk (fun h => ?_) (fun h => ?_)) <;> first | (exact absurd h (by decide)) | (conv => whnf)) | ((first | refine zzW ?_ | refine zzI ?_ | refine zzR ?_ | refine zzB ?_ | refine late_ok rfl rfl ?_ | refine src_ok rfl ?_ | refine LitB.data ?_ | refine BoxB.own ?_); conv => whnf)))
    all_goals first
      | (exfalso; omega)
      | exact fin_bool rfl
  · rw [if_neg hsc]
    cases hiv : interval e.certs e.recalls x.scale x.reading x.day with
    | none =>
      rw [hiv] at iv
      (refine acall_of tab_ok Tryz.func60 rfl (by decide) ?_; (conv => whnf); repeat (first | (refine LitB.data ?_; conv => whnf) | (refine BoxB.own ?_; conv => whnf)))
      (repeat' (first | ((refine DecB.mk (fun h => ?_) (fun h => ?_)) <;> first | (exfalso; omega) | (conv => whnf)) | ((refine BoolB.mk (fun h => ?_) (fun h => ?_)) <;> first | (exact absurd h (by decide)) | (conv => whnf)) | ((first | refine zzW ?_ | refine zzI ?_ | refine zzR ?_ | refine zzB ?_ | refine late_ok rfl rfl ?_ | refine src_ok rfl ?_ | refine .inl ⟨_, _, qcall_pure (iv) rfl rfl, ?_⟩ | refine LitB.data ?_ | refine BoxB.own ?_); conv => whnf)))
      all_goals first
        | (exfalso; simp_all; done)
        | exact fin_bool rfl
    | some p =>
      obtain ⟨lo, hi⟩ := p
      obtain ⟨b1, b2⟩ := rl_interval hiv
      rw [hiv] at iv
      have c1 := z_fCompare lo mass (by omega) (by omega)
      have c2 := z_fCompare mass hi (by omega) (by omega)
      (refine acall_of tab_ok Tryz.func60 rfl (by decide) ?_; (conv => whnf); repeat (first | (refine LitB.data ?_; conv => whnf) | (refine BoxB.own ?_; conv => whnf)))
      (repeat' (first | ((refine DecB.mk (fun h => ?_) (fun h => ?_)) <;> first | (exfalso; omega) | (conv => whnf)) | ((refine BoolB.mk (fun h => ?_) (fun h => ?_)) <;> first | (exact absurd h (by decide)) | (conv => whnf)) | ((first | refine zzW ?_ | refine zzI ?_ | refine zzR ?_ | refine zzB ?_ | refine late_ok rfl rfl ?_ | refine src_ok rfl ?_ | refine .inl ⟨_, _, qcall_pure (iv) rfl rfl, ?_⟩ | refine .inl ⟨_, _, qcall_pure (c1) rfl rfl, ?_⟩ | refine .inl ⟨_, _, qcall_pure (c2) rfl rfl, ?_⟩ | refine LitB.data ?_ | refine BoxB.own ?_); conv => whnf)))
      all_goals first
        | (exfalso; simp_all; done)
        | (refine fin_bool ?_; simp only [inB, ← cmpR_le]; simp; omega)
theorem cmpR_lt' {x y : Rat} : cmpR x y > 0 ↔ y < x := by
  have := cmpR_le (x := x) (y := y)
  constructor
  · intro h; have h2 : ¬ x ≤ y := fun h' => by have := this.2 h'; omega
    grind
  · intro h; have h2 : ¬ cmpR x y ≤ 0 := fun h' => by have := this.1 h'; grind
    omega
theorem purity_get {e : Ev} (h0 : saidOk e = true) {p : Purity} (hp : p ∈ e.purities) : 0 ≤ p.mat ∧ p.mat < e.mats ∧ 0 ≤ p.least ∧ p.least ≤ p.most ∧ p.most ≤ 1000 := by
  unfold saidOk at h0
  simp only [Bool.and_eq_true, List.all_eq_true] at h0
  have := h0.2 p hp
  unfold purityOk at this
  simp only [Bool.and_eq_true, decide_eq_true_eq, idx_iff] at this
  omega
theorem z_pure (e : Ev) (i : Nat) (l : List Rat) (mass : Rat) (hm : rl mass ≤ 50000) (hB : ∀ x ∈ l, rl x ≤ 200) (hl : l.length ≤ 200) (hw : (l.length : Int) = e.mats) (h0 : saidOk e = true) (hs : e.Sized) (hi : i ≤ 1000000) :
    ACall Tryz.prog 61 [evS e, intS .i64 i, fracsS (l.map fz), frS (fz mass)] [] (boolS (pureB e.purities i l mass)) [] := by
  have m1 : (e.purities.map Purity.row).length = e.purities.length := by simp
  have m2 : ((l.map fz).map frRow).length = l.length := by simp
  have l1 := hs.s5
  let P : Purity → Bool := fun p => decide (p.move ≠ (i : Int)) || pureOne p l mass
  have hP : pureB e.purities i l mass = e.purities.all P := rfl
  (refine acall_of tab_ok Tryz.func61 rfl (by decide) ?_; (conv => whnf); repeat (first | (refine LitB.data ?_; conv => whnf) | (refine BoxB.data ?_; conv => whnf)))
  (repeat' (first | ((refine DecB.mk (fun h => ?_) (fun h => ?_)) <;> first | (exfalso; omega) | (conv => whnf)) | ((refine BoolB.mk (fun h => ?_) (fun h => ?_)) <;> first | (exact absurd h (by decide)) | (conv => whnf)) | ((first | refine zzW ?_ | refine zzI ?_ | refine zzR ?_ | refine zzB ?_ | refine late_ok rfl rfl ?_ | refine src_ok rfl ?_ | refine LitB.data ?_ | refine BoxB.own ?_); conv => whnf)))
  refine awp_for tab_ok (fun k => ([J, intS .i64 i, fracsS (l.map fz), J, J, J, J, S.c (C.t (T.ptr (frRow (fz mass)))), J, J, J, J, J, J, J, J, J, J, S.c (C.t (puritiesT e.purities)), intS .i64 e.purities.length, intS .i64 k, J, J, J, J, J, J, J, J, J, J, J, J, J, J, J, J, J, J, J, J, J, J, J, J, J, J, J, J, J, J, J, J, J, J, J, J, J, J, J, J, J, J, J, J], [])) e.purities.length (fun k => (e.purities.take k).all P = true) [] rfl
    ⟨rfl, rfl, trivial, ⟨rfl, ent_t rfl, ent_t rfl, ent_t rfl, ent_i (by simp), rfl, trivial⟩⟩ ?_
  intro k hk hI
  by_cases hlt : k < e.purities.length
  · obtain ⟨p, hp⟩ : ∃ p, e.purities[k]? = some p := ⟨_, List.getElem?_eq_getElem hlt⟩
    have hall : (e.purities.take (k + 1)).all P = P p := by rw [all_take_succ hp, hI, Bool.true_and]
    by_cases hmv : p.move = (i : Int)
    · obtain ⟨q1, q2, q3, q4, q5⟩ := purity_get h0 (List.mem_of_getElem? hp)
      obtain ⟨x, hx⟩ : ∃ x, l[p.mat.toNat]? = some x := ⟨_, List.getElem?_eq_getElem (by omega)⟩
      have hxd : l.getD p.mat.toNat 0 = x := by rw [List.getD_eq_getElem?_getD, hx]; rfl
      have bx := hB x (List.mem_of_getElem? hx)
      have b1 : rl ((1000 : Int) : Rat) ≤ 4 := by rw [rl_int]; have := bl_int (x := 1000) (by decide) (by decide); omega
      have b2 : rl (p.least : Rat) ≤ 4 := by rw [rl_int]; have := bl_int (x := p.least) (by omega) (by omega); omega
      have b3 : rl (p.most : Rat) ≤ 4 := by rw [rl_int]; have := bl_int (x := p.most) (by omega) (by omega); omega
      have i1 := z_fInt 1000 (by decide) (by decide)
      have i2 := z_fInt p.least (by omega) (by omega)
      have i3 := z_fInt p.most (by omega) (by omega)
      have u1 := z_fMul ((1000 : Int) : Rat) x (by omega) (by omega)
      have u2 := z_fMul (p.least : Rat) mass (by omega) (by omega)
      have u3 := z_fMul (p.most : Rat) mass (by omega) (by omega)
      have k1 := rl_mul ((1000 : Int) : Rat) x
      have k2 := rl_mul (p.least : Rat) mass
      have k3 := rl_mul (p.most : Rat) mass
      have c1 := z_fCompare (((1000 : Int) : Rat) * x) ((p.least : Rat) * mass) (by omega) (by omega)
      have c2 := z_fCompare (((1000 : Int) : Rat) * x) ((p.most : Rat) * mass) (by omega) (by omega)
      have hPp : P p = (decide (¬ cmpR (((1000 : Int) : Rat) * x) ((p.least : Rat) * mass) < 0) && decide (cmpR (((1000 : Int) : Rat) * x) ((p.most : Rat) * mass) ≤ 0)) := by
        simp only [P, pureOne, hmv, hxd]
        simp only [cmpR_lt, cmpR_le]
        have e1 : ((p.least : Rat) * mass ≤ ((1000 : Int) : Rat) * x) ↔ ¬ (((1000 : Int) : Rat) * x < (p.least : Rat) * mass) := by grind
        simp only [e1]
        simp
      conv => whnf
      (repeat' (first | ((refine DecB.mk (fun h => ?_) (fun h => ?_)) <;> first | (exfalso; omega) | (conv => whnf)) | ((refine BoolB.mk (fun h => ?_) (fun h => ?_)) <;> first | (exact absurd h (by decide)) | (conv => whnf)) | ((first | refine zzW ?_ | refine zzI ?_ | refine zzR ?_ | refine zzB ?_ | refine late_ok rfl rfl ?_ | refine src_ok rfl ?_ | refine .inl ⟨_, _, qcall_pure (i1) rfl rfl, ?_⟩ | refine .inl ⟨_, _, qcall_pure (i2) rfl rfl, ?_⟩ | refine .inl ⟨_, _, qcall_pure (i3) rfl rfl, ?_⟩ | refine .inl ⟨_, _, qcall_pure (u1) rfl rfl, ?_⟩ | refine .inl ⟨_, _, qcall_pure (u2) rfl rfl, ?_⟩ | refine .inl ⟨_, _, qcall_pure (u3) rfl rfl, ?_⟩ | refine .inl ⟨_, _, qcall_pure (c1) rfl rfl, ?_⟩ | refine .inl ⟨_, _, qcall_pure (c2) rfl rfl, ?_⟩ | refine .inl ⟨_, _, qcall_pure (9) rfl rfl, ?_⟩ | refine .inl ⟨_, _, qcall_pure (7) rfl rfl, ?_⟩ | refine ex_row hp ?_ | refine ex_rowI (by omega) (zero_get l hx) ?_ | refine bar_late [9] (by decide +kernel) (by decide +kernel) ?_ | refine bar_late [7] (by decide +kernel) (by decide +kernel) ?_ | refine LitB.data ?_ | refine BoxB.own ?_); conv => whnf)))
      · refine fin_bool ?_
        rw [hP, all_of_get hp (by rw [hPp]; simp only [Bool.and_eq_false_iff, decide_eq_false_iff_not]; omega)]
      · refine fin_bool ?_
        rw [hP, all_of_get hp (by rw [hPp]; simp only [Bool.and_eq_false_iff, decide_eq_false_iff_not]; omega)]
      · exact ⟨hlt, by rw [hall, hPp]; simp only [Bool.and_eq_true, decide_eq_true_eq]; omega, [], rfl, rfl, trivial, ⟨rfl, rfl, rfl, rfl, rfl, rfl, trivial⟩⟩
    · conv => whnf
      (repeat' (first | ((refine DecB.mk (fun h => ?_) (fun h => ?_)) <;> first | (exfalso; omega) | (conv => whnf)) | ((refine BoolB.mk (fun h => ?_) (fun h => ?_)) <;> first | (exact absurd h (by decide)) | (conv => whnf)) | ((first | refine zzW ?_ | refine zzI ?_ | refine zzR ?_ | refine zzB ?_ | refine late_ok rfl rfl ?_ | refine src_ok rfl ?_ | refine ex_row hp ?_ | refine LitB.data ?_ | refine BoxB.own ?_); conv => whnf)))
      all_goals first
        | (exfalso; omega)
        | exact ⟨hlt, by rw [hall]; simp [P, hmv], [], rfl, rfl, trivial, ⟨rfl, rfl, rfl, rfl, rfl, rfl, trivial⟩⟩
  · have hke : k = e.purities.length := by omega
    subst hke
    conv => whnf
    (repeat' (first | ((refine DecB.mk (fun h => ?_) (fun h => ?_)) <;> first | (exfalso; omega) | (conv => whnf)) | ((refine BoolB.mk (fun h => ?_) (fun h => ?_)) <;> first | (exact absurd h (by decide)) | (conv => whnf)) | ((first | refine zzW ?_ | refine zzI ?_ | refine zzR ?_ | refine zzB ?_ | refine late_ok rfl rfl ?_ | refine src_ok rfl ?_ | refine LitB.data ?_ | refine BoxB.own ?_); conv => whnf)))
    all_goals first
      | (exfalso; omega)
      | (refine fin_bool ?_; rw [hP, all_take_full hI])
end Go.Proofs.YtfieodjihaodiaaGreat
/- Chapter 15 in plain Lean: what the statements say of histories. No program is in sight. -/
namespace Go.Proofs.YtfieodjihaodiaaGreat
set_option linter.unusedVariables false
set_option linter.unusedSimpArgs false

structure StepOk (e : Ev) (x : Move) (l : List Rat) (f : Nat → Nat → Rat) (i : Nat) : Prop where
  pos : ∀ v ∈ l, ¬ v < 0
  tak : takenE e f x l = 0
  wei : weighedB e x (sumR l) = true
  pur : pureB e.purities i l (sumR l) = true
end Go.Proofs.YtfieodjihaodiaaGreat
/- Chapter 15 in plain Lean: a mixture of two histories that the evidence allows is one that it allows. No program is in sight. -/
namespace Go.Proofs.YtfieodjihaodiaaGreat
set_option linter.unusedVariables false
set_option linter.unusedSimpArgs false

theorem getD_some {l : List Rat} {m : Nat} (h : m < l.length) : l[m]? = some (l.getD m 0) := by rw [List.getD_eq_getElem?_getD, List.getElem?_eq_getElem h]; rfl
end Go.Proofs.YtfieodjihaodiaaGreat
/- FlowOnce in plain Lean: the counts. -/
namespace Go.Proofs.YtfieodjihaodiaaGreat
set_option linter.unusedSimpArgs false
set_option linter.unusedVariables false

/-- the count of each move: 1 if it is before 'up' and its place d is below p, or it is among S -/
def Cnt (l : List Move) (d : Move → Int) (up : Int) (p : Nat) (S : List Int) (L : List Int) : Prop :=
  L.length = l.length ∧ ∀ (j : Nat) (m : Move), l[j]? = some m → L[j]? = some (if (j : Int) ∈ S ∨ ((j : Int) < up ∧ d m < (p : Int)) then 1 else 0)
theorem Cnt.zero {l : List Move} {d : Move → Int} {up : Int} (hd : ∀ m ∈ l, 0 ≤ d m) : Cnt l d up 0 [] (List.replicate l.length 0) := by
  refine ⟨by simp, fun j m hm => ?_⟩
  have hl := (List.getElem?_eq_some_iff.1 hm).1
  have := hd m (List.mem_of_getElem? hm)
  rw [if_neg (by simp; omega)]
  simp [List.getElem?_replicate, hl]
/-- one more of the picked ones is counted -/
theorem Cnt.step {l : List Move} {d : Move → Int} {up : Int} {p : Nat} {a L : List Int} {i j : Nat} {m : Move} (h : Cnt l d up p (a.take i) L) (hs : a.Pairwise (· < ·)) (hx : a[i]? = some (j : Int)) (hm : l[j]? = some m) (hdm : d m = (p : Int)) :
    L[j]? = some 0 ∧ Cnt l d up p (a.take (i + 1)) (L.set j 1) := by
  obtain ⟨hi, hxi⟩ := List.getElem?_eq_some_iff.1 hx
  have hnot : (j : Int) ∉ a.take i := by
    intro hmem
    obtain ⟨k, hk, e⟩ := List.getElem_of_mem hmem
    have hk' : k < i := by simp at hk; omega
    rw [List.getElem_take] at e
    have := List.pairwise_iff_getElem.1 hs k i (by omega) hi hk'
    omega
  refine ⟨?_, by simpa using h.1, fun j' m' hm' => ?_⟩
  · rw [h.2 j m hm, if_neg]
    rintro (h1 | ⟨_, h2⟩)
    · exact hnot h1
    · omega
  · have hmem : (j' : Int) ∈ a.take (i + 1) ↔ (j' : Int) ∈ a.take i ∨ j' = j := by
      rw [List.take_succ_eq_append_getElem hi, List.mem_append, hxi, List.mem_singleton]
      constructor
      · rintro (h1 | h1)
        · exact .inl h1
        · exact .inr (by omega)
      · rintro (h1 | h1)
        · exact .inl h1
        · exact .inr (by omega)
    by_cases hj : j' = j
    · subst hj
      rw [List.getElem?_set_self (by rw [h.1]; exact (List.getElem?_eq_some_iff.1 hm').1), if_pos (.inl (hmem.2 (.inr rfl)))]
    · rw [List.getElem?_set_ne (by omega), h.2 j' m' hm']
      have : (j' : Int) ∈ a.take (i + 1) ↔ (j' : Int) ∈ a.take i := by rw [hmem]; simp [hj]
      simp only [this]
/-- all of them are counted: on to the next place -/
theorem Cnt.next {l : List Move} {d : Move → Int} {up : Int} {p : Nat} {a L : List Int} (h : Cnt l d up p a L) (ha : ∀ (j : Nat) (m : Move), l[j]? = some m → ((j : Int) ∈ a ↔ (j : Int) < up ∧ d m = (p : Int))) : Cnt l d up (p + 1) [] L := by
  refine ⟨h.1, fun j m hm => ?_⟩
  rw [h.2 j m hm]
  have hj := ha j m hm
  have hiff : ((j : Int) ∈ a ∨ ((j : Int) < up ∧ d m < (p : Int))) ↔ ((j : Int) ∈ ([] : List Int) ∨ ((j : Int) < up ∧ d m < ((p + 1 : Nat) : Int))) := by
    rw [hj]
    constructor
    · rintro (h1 | h1)
      · exact .inr ⟨h1.1, by omega⟩
      · exact .inr ⟨h1.1, by omega⟩
    · rintro (h1 | h1)
      · cases h1
      · by_cases h2 : d m = (p : Int)
        · exact .inl ⟨h1.1, h2⟩
        · exact .inr ⟨h1.1, by omega⟩
  by_cases h : (j : Int) ∈ a ∨ ((j : Int) < up ∧ d m < (p : Int))
  · rw [if_pos h, if_pos (hiff.1 h)]
  · rw [if_neg h, if_neg (fun h' => h (hiff.2 h'))]
theorem Cnt.last {l : List Move} {d : Move → Int} {up : Int} {p : Nat} {L : List Int} (h : Cnt l d up p [] L) (hd : ∀ m ∈ l, d m < (p : Int)) {j : Nat} {m : Move} (hm : l[j]? = some m) : L[j]? = some (if (j : Int) < up then 1 else 0) := by
  rw [h.2 j m hm]
  have := hd m (List.mem_of_getElem? hm)
  congr 1
  by_cases h1 : (j : Int) < up
  · rw [if_pos (.inr ⟨h1, this⟩), if_pos h1]
  · rw [if_neg (by simp; omega), if_neg h1]
end Go.Proofs.YtfieodjihaodiaaGreat
/- Chapter 15 in plain Lean: no place but a bin has less than nothing; at a buyer there is never less later on. No program is in sight. -/
namespace Go.Proofs.YtfieodjihaodiaaGreat
set_option linter.unusedVariables false
set_option linter.unusedSimpArgs false

theorem stk_succ {e : Ev} {G : List (List Rat)} {k : Nat} {x : Move} (hx : e.moves[k]? = some x) : stk e G (k + 1) = carryF x (hAt G k) (stk e G k) := by
  conv => lhs; unfold stk
  rw [hx]
theorem stk_end {e : Ev} {G : List (List Rat)} {k : Nat} (hx : e.moves[k]? = none) : stk e G (k + 1) = stk e G k := by
  conv => lhs; unfold stk
  rw [hx]
end Go.Proofs.YtfieodjihaodiaaGreat
/- Chapter 15 in plain Lean: at a buyer there is never less later on; after a move with All nothing is left; masses of mixtures. No program is in sight. -/
namespace Go.Proofs.YtfieodjihaodiaaGreat
set_option linter.unusedVariables false
set_option linter.unusedSimpArgs false

theorem moveOk_all {e : Ev} {x : Move} (h : moveOk e x = true) (ha : x.all = true) : kindAt e x.src ≠ 0 := by
  unfold moveOk at h
  simp only [Bool.and_eq_true, decide_eq_true_eq] at h
  have := h.1.1.2
  rw [ha] at this
  simpa using this
end Go.Proofs.YtfieodjihaodiaaGreat
/- The reference of chapter 15 in plain Lean: stocks that are summed anew, what a move takes. No program is in sight. -/
namespace Go.Proofs.YtfieodjihaodiaaGreat
set_option linter.unusedVariables false
set_option linter.unusedSimpArgs false

/-- the interval of a move -/
def ivOf (e : Ev) (x : Move) : Option (Rat × Rat) := if x.scale = -1 then none else interval e.certs e.recalls x.scale x.reading x.day
end Go.Proofs.YtfieodjihaodiaaGreat
/- Chapter 21 in plain Lean: traces, what taint.Check and taint.Matter compute, and what the statements say of them. No program is in sight. -/
namespace Go.Proofs.YtfieodjihaodiaaGreat
set_option linter.unusedVariables false
set_option linter.unusedSimpArgs false

structure Find where
  mv : Int
  kind : Int
  grams : Int
structure Clean where
  mv : Int
  kind : Int
structure Trace where
  ev : Ev
  finds : List Find
  cleans : List Clean
def markE (e : Ev) (mv kind : Int) : Int := if mv < 0 ∨ (e.moves.length : Int) ≤ mv then 4 else if kind < 0 ∨ 8 ≤ kind then 1 else 0
def findsE (e : Ev) : List Find → Int
  | [] => 0
  | f :: r => if markE e f.mv f.kind ≠ 0 then markE e f.mv f.kind else if f.grams < 1 ∨ 1099511627776 < f.grams then 3 else findsE e r
def cleansE (e : Ev) : List Clean → Int
  | [] => 0
  | c :: r => if markE e c.mv c.kind ≠ 0 then markE e c.mv c.kind else cleansE e r
def traceE (t : Trace) : Int :=
  if check t.ev ≠ 0 then check t.ev else if 20 < t.finds.length ∨ 50 < t.cleans.length then 6
  else if findsE t.ev t.finds ≠ 0 then findsE t.ev t.finds else cleansE t.ev t.cleans
def gramsOf (l : List Find) (kind : Int) (i : Nat) : List Int := (l.filter fun f => decide (f.kind = kind) && decide (f.mv = (i : Int))).map (·.grams)
def cleansOf (l : List Clean) (kind : Int) (i : Nat) : Nat := (l.filter fun c => decide (c.kind = kind) && decide (c.mv = (i : Int))).length
def col (z : List Rat) : List (List Rat) := z.map fun v => [v]
theorem hAt_col (z : List Rat) (k : Nat) : hAt (col z) k 0 = z.getD k 0 := by
  unfold hAt col
  cases h : z[k]? <;> simp [List.getD_eq_getElem?_getD, h]
/-- the matter at a place after k moves -/
def tstk (e : Ev) (z : List Rat) (k p : Nat) : Rat := stk e (col z) k p 0
def capB (iv : Option (Rat × Rat)) (v : Rat) : Bool := match iv with
  | none => true
  | some (_, hi) => decide (v ≤ hi)
structure Took (e : Ev) (x : Move) (v f : Rat) : Prop where
  pos : 0 ≤ v
  most : kindAt e x.src ≠ 0 → v ≤ f
  all : x.all = true → v = f
structure Allows (t : Trace) (kind : Int) (i : Nat) (x : Move) (v : Rat) : Prop where
  cap : capB (ivOf t.ev x) v = true
  fin : ∀ g ∈ gramsOf t.finds kind i, (g : Rat) ≤ v
  cln : 0 < cleansOf t.cleans kind i → v = 0
/-- matter that is possible -/
structure Poss (t : Trace) (kind : Int) (z : List Rat) : Prop where
  tr : traceE t = 0
  k0 : 0 ≤ kind
  k1 : kind < 8
  len : z.length = t.ev.moves.length
  step : ∀ i x, t.ev.moves[i]? = some x → Took t.ev x (z.getD i 0) (tstk t.ev z i x.src.toNat) ∧ Allows t kind i x (z.getD i 0)
theorem fv_map (z : List Rat) : (z.map fz).map fv = z := by
  rw [List.map_map]
  conv => rhs; rw [← List.map_id z]
  exact List.map_congr_left fun x _ => fv_fz x
theorem traceE_zero {t : Trace} (h : traceE t = 0) : check t.ev = 0 ∧ t.finds.length ≤ 20 ∧ t.cleans.length ≤ 50 ∧ findsE t.ev t.finds = 0 ∧ cleansE t.ev t.cleans = 0 := by
  unfold traceE at h
  by_cases h1 : check t.ev ≠ 0
  · rw [if_pos h1] at h; exact absurd h h1
  rw [if_neg h1] at h
  by_cases h2 : 20 < t.finds.length ∨ 50 < t.cleans.length
  · rw [if_pos h2] at h; cases h
  rw [if_neg h2] at h
  by_cases h3 : findsE t.ev t.finds ≠ 0
  · rw [if_pos h3] at h; exact absurd h h3
  rw [if_neg h3] at h
  exact ⟨by simpa using h1, by omega, by omega, by simpa using h3, h⟩
end Go.Proofs.YtfieodjihaodiaaGreat
/- Chapter 21 in plain Lean: mixtures of matter, parts of it, what left the bins. No program is in sight. -/
namespace Go.Proofs.YtfieodjihaodiaaGreat
set_option linter.unusedVariables false
set_option linter.unusedSimpArgs false

theorem tstk_succ {e : Ev} {z : List Rat} {k : Nat} {x : Move} (hx : e.moves[k]? = some x) (p : Nat) : tstk e z (k + 1) p = if x.src = (p : Int) then tstk e z k p - z.getD k 0 else if x.dst = (p : Int) then tstk e z k p + z.getD k 0 else tstk e z k p := by
  unfold tstk
  rw [stk_succ hx]
  unfold carryF
  rw [hAt_col]
theorem tstk_end {e : Ev} {z : List Rat} {k : Nat} (hx : e.moves[k]? = none) (p : Nat) : tstk e z (k + 1) p = tstk e z k p := by
  unfold tstk
  rw [stk_end hx]
structure MassOk (t : Trace) (w : List Rat) (i : Nat) (x : Move) : Prop where
  took : Took t.ev x (w.getD i 0) (tstk t.ev w i x.src.toNat)
  cap : capB (ivOf t.ev x) (w.getD i 0) = true
end Go.Proofs.YtfieodjihaodiaaGreat
/- Chapter 21 in plain Lean: the system of a kind of foreign matter, and its solutions. No program is in sight. -/
namespace Go.Proofs.YtfieodjihaodiaaGreat
set_option linter.unusedVariables false
set_option linter.unusedSimpArgs false

structure RowP where
  terms : List (Int × Rat)
  kind : Int
  value : Rat
structure SysP where
  n : Int
  rows : List RowP
/-- the value of terms -/
def valT (l : List (Int × Rat)) (z : List Rat) : Rat := l.foldl (fun a t => a + t.2 * z.getD t.1.toNat 0) ((0 : Int) : Rat)
theorem valT_snoc (l : List (Int × Rat)) (t : Int × Rat) (z : List Rat) : valT (l ++ [t]) z = valT l z + t.2 * z.getD t.1.toNat 0 := by unfold valT; rw [List.foldl_append]; rfl
/-- right terms: the variables ascend -/
def rightT : Int → Int → List (Int × Rat) → Bool
  | _, _, [] => true
  | last, n, t :: r => decide (last < t.1) && decide (t.1 < n) && decide (t.2 ≠ 0) && rightT t.1 n r
def rightRow (n : Int) (w : RowP) : Bool := rightT (-1) n w.terms && decide (0 ≤ w.kind) && decide (w.kind < 3)
def rightSys (s : SysP) : Bool := decide (0 ≤ s.n) && decide (s.n ≤ 1500) && decide (s.rows.length ≤ 6000) && s.rows.all (rightRow s.n)
def rowB3 (w : RowP) (z : List Rat) : Bool := !((decide (valT w.terms z < w.value) && decide (w.kind ≠ 1)) || (decide (w.value < valT w.terms z) && decide (w.kind ≠ 0)))
def holdsSys (s : SysP) (z : List Rat) : Bool := rightSys s && decide ((z.length : Int) = s.n) && z.all (fun v => decide (0 ≤ v)) && s.rows.all (fun w => rowB3 w z)
def termsTo (e : Ev) (p : Int) : Nat → List (Int × Rat)
  | 0 => []
  | k + 1 => match e.moves[k]? with
    | none => termsTo e p k
    | some y => if y.dst = p then termsTo e p k ++ [((k : Int), ((1 : Int) : Rat))] else if y.src = p then termsTo e p k ++ [((k : Int), ((-1 : Int) : Rat))] else termsTo e p k
def stockRow (e : Ev) (i : Nat) (x : Move) : RowP := ⟨termsTo e x.src i ++ [((i : Int), ((-1 : Int) : Rat))], if x.all then 2 else 0, ((0 : Int) : Rat)⟩
def oneRow (i : Nat) (kind : Int) (v : Rat) : RowP := ⟨[((i : Int), ((1 : Int) : Rat))], kind, v⟩
def capRows (iv : Option (Rat × Rat)) (i : Nat) : List RowP := match iv with
  | none => []
  | some (_, hi) => [oneRow i 1 hi]
def moveRows (t : Trace) (kind : Int) (i : Nat) (x : Move) : List RowP :=
  (if kindAt t.ev x.src = 0 then [] else [stockRow t.ev i x]) ++ capRows (ivOf t.ev x) i ++ (gramsOf t.finds kind i).map (fun g : Int => oneRow i 0 (g : Rat)) ++ List.replicate (cleansOf t.cleans kind i) (oneRow i 2 ((0 : Int) : Rat))
def sysRows (t : Trace) (kind : Int) : Nat → List RowP
  | 0 => []
  | k + 1 => match t.ev.moves[k]? with
    | none => sysRows t kind k
    | some x => sysRows t kind k ++ moveRows t kind k x
def sysOf (t : Trace) (kind : Int) : SysP := ⟨t.ev.moves.length, sysRows t kind t.ev.moves.length⟩
theorem valT_terms {e : Ev} (h0 : check e = 0) (z : List Rat) (p : Nat) : ∀ k, valT (termsTo e p k) z = tstk e z k p
  | 0 => rfl
  | k + 1 => by
    have ih := valT_terms h0 z p k
    unfold termsTo
    cases hx : e.moves[k]? with
    | none => rw [tstk_end hx]; exact ih
    | some y =>
      have hm := check_move h0 (List.mem_of_getElem? hx)
      have hne : y.src ≠ y.dst := by unfold moveOk at hm; simp only [Bool.and_eq_true, decide_eq_true_eq] at hm; exact hm.1.1.1.1.1.2
      rw [tstk_succ hx]
      simp only
      by_cases c1 : y.dst = (p : Int)
      · rw [if_pos c1, if_neg (by omega), if_pos c1, valT_snoc, ih]
        simp only [Int.toNat_natCast]
        have : ((1 : Int) : Rat) = 1 := rfl
        rw [this]; grind
      · rw [if_neg c1]
        by_cases c2 : y.src = (p : Int)
        · rw [if_pos c2, if_pos c2, valT_snoc, ih]
          simp only [Int.toNat_natCast]
          have : ((-1 : Int) : Rat) = -1 := rfl
          rw [this]; grind
        · rw [if_neg c2, if_neg c2, if_neg c1]; exact ih
theorem rowB3_iff {w : RowP} {z : List Rat} : rowB3 w z = true ↔ (valT w.terms z < w.value → w.kind = 1) ∧ (w.value < valT w.terms z → w.kind = 0) := by
  unfold rowB3
  simp only [Bool.not_eq_true', Bool.or_eq_false_iff, Bool.and_eq_false_iff, decide_eq_false_iff_not, Classical.not_not]
  constructor
  · rintro ⟨h1, h2⟩
    exact ⟨fun h => h1.resolve_left (fun h' => h' h), fun h => h2.resolve_left (fun h' => h' h)⟩
  · rintro ⟨h1, h2⟩
    refine ⟨?_, ?_⟩
    · by_cases h : valT w.terms z < w.value
      · exact .inr (h1 h)
      · exact .inl h
    · by_cases h : w.value < valT w.terms z
      · exact .inr (h2 h)
      · exact .inl h
theorem one_val (i : Nat) (kind : Int) (v : Rat) (z : List Rat) : valT (oneRow i kind v).terms z = z.getD i 0 := by
  show ((0 : Int) : Rat) + ((1 : Int) : Rat) * z.getD ((i : Int)).toNat 0 = _
  rw [Int.toNat_natCast]
  have h0 : ((0 : Int) : Rat) = 0 := rfl
  have h1 : ((1 : Int) : Rat) = 1 := rfl
  rw [h0, h1]; grind
theorem one_most {i : Nat} {v : Rat} {z : List Rat} : rowB3 (oneRow i 1 v) z = true ↔ z.getD i 0 ≤ v := by
  rw [rowB3_iff, one_val]
  show (_ → (1 : Int) = 1) ∧ (v < z.getD i 0 → (1 : Int) = 0) ↔ _
  constructor
  · rintro ⟨_, h⟩; exact Rat.not_lt.1 fun h' => absurd (h h') (by decide)
  · intro h; exact ⟨fun _ => rfl, fun h' => absurd h' (Rat.not_lt.2 h)⟩
theorem one_least {i : Nat} {v : Rat} {z : List Rat} : rowB3 (oneRow i 0 v) z = true ↔ v ≤ z.getD i 0 := by
  rw [rowB3_iff, one_val]
  show (z.getD i 0 < v → (0 : Int) = 1) ∧ (_ → (0 : Int) = 0) ↔ _
  constructor
  · rintro ⟨h, _⟩; exact Rat.not_lt.1 fun h' => absurd (h h') (by decide)
  · intro h; exact ⟨fun h' => absurd h' (Rat.not_lt.2 h), fun _ => rfl⟩
theorem one_equal {i : Nat} {v : Rat} {z : List Rat} : rowB3 (oneRow i 2 v) z = true ↔ z.getD i 0 = v := by
  rw [rowB3_iff, one_val]
  show (z.getD i 0 < v → (2 : Int) = 1) ∧ (v < z.getD i 0 → (2 : Int) = 0) ↔ _
  constructor
  · rintro ⟨h, h2⟩
    have q1 : ¬ z.getD i 0 < v := fun h' => absurd (h h') (by decide)
    have q2 : ¬ v < z.getD i 0 := fun h' => absurd (h2 h') (by decide)
    grind
  · intro h; exact ⟨fun h' => by grind, fun h' => by grind⟩
theorem stock_holds {e : Ev} (h0 : check e = 0) {i : Nat} {x : Move} (hx : e.moves[i]? = some x) {z : List Rat} : rowB3 (stockRow e i x) z = true ↔ z.getD i 0 ≤ tstk e z i x.src.toNat ∧ (x.all = true → z.getD i 0 = tstk e z i x.src.toNat) := by
  have hm := check_move h0 (List.mem_of_getElem? hx)
  have ms := moveOk_src hm
  have hv : valT (stockRow e i x).terms z = tstk e z i x.src.toNat - z.getD i 0 := by
    unfold stockRow
    simp only
    rw [valT_snoc, show termsTo e x.src i = termsTo e ((x.src.toNat : Nat) : Int) i by rw [show ((x.src.toNat : Nat) : Int) = x.src by omega], valT_terms h0]
    simp only [Int.toNat_natCast]
    have : ((-1 : Int) : Rat) = -1 := rfl
    rw [this]; grind
  have hz : (stockRow e i x).value = 0 := rfl
  have hk : (stockRow e i x).kind = if x.all then 2 else 0 := rfl
  rw [rowB3_iff, hv, hz, hk]
  cases hal : x.all with
  | true =>
    simp only [if_true]
    constructor
    · rintro ⟨h, h2⟩
      have q1 : ¬ tstk e z i x.src.toNat - z.getD i 0 < 0 := fun h' => absurd (h h') (by decide)
      have q2 : ¬ 0 < tstk e z i x.src.toNat - z.getD i 0 := fun h' => absurd (h2 h') (by decide)
      exact ⟨by grind, fun _ => by grind⟩
    · rintro ⟨h, h2⟩
      have h2 := h2 trivial
      exact ⟨fun h' => by grind, fun h' => by grind⟩
  | false =>
    simp only [Bool.false_eq_true, if_false]
    constructor
    · rintro ⟨h, h2⟩
      have q1 : ¬ tstk e z i x.src.toNat - z.getD i 0 < 0 := fun h' => absurd (h h') (by decide)
      exact ⟨by grind, fun h => (by cases h)⟩
    · rintro ⟨h, _⟩
      exact ⟨fun h' => by grind, fun _ => trivial⟩
theorem move_holds {t : Trace} {kind : Int} (h0 : check t.ev = 0) {i : Nat} {x : Move} (hx : t.ev.moves[i]? = some x) {z : List Rat} (hz : 0 ≤ z.getD i 0) :
    (moveRows t kind i x).all (fun w => rowB3 w z) = true ↔ Took t.ev x (z.getD i 0) (tstk t.ev z i x.src.toNat) ∧ Allows t kind i x (z.getD i 0) := by
  have hmo := check_move h0 (List.mem_of_getElem? hx)
  unfold moveRows
  simp only [List.all_append, Bool.and_eq_true, List.all_map]
  have e1 : (if kindAt t.ev x.src = 0 then ([] : List RowP) else [stockRow t.ev i x]).all (fun w => rowB3 w z) = true ↔ (kindAt t.ev x.src ≠ 0 → z.getD i 0 ≤ tstk t.ev z i x.src.toNat ∧ (x.all = true → z.getD i 0 = tstk t.ev z i x.src.toNat)) := by
    by_cases hb : kindAt t.ev x.src = 0
    · rw [if_pos hb]; exact ⟨fun _ h => absurd hb h, fun _ => rfl⟩
    · rw [if_neg hb]
      simp only [List.all_cons, List.all_nil, Bool.and_true]
      rw [stock_holds h0 hx]
      exact ⟨fun h _ => h, fun h => h hb⟩
  have e2 : (capRows (ivOf t.ev x) i).all (fun w => rowB3 w z) = true ↔ capB (ivOf t.ev x) (z.getD i 0) = true := by
    cases hiv : ivOf t.ev x with
    | none => exact ⟨fun _ => rfl, fun _ => rfl⟩
    | some p =>
      obtain ⟨lo, hi⟩ := p
      simp only [capRows, capB, List.all_cons, List.all_nil, Bool.and_true, decide_eq_true_eq]
      exact one_most
  have e3 : (gramsOf t.finds kind i).all ((fun w => rowB3 w z) ∘ fun g : Int => oneRow i 0 (g : Rat)) = true ↔ ∀ g ∈ gramsOf t.finds kind i, (g : Rat) ≤ z.getD i 0 := by
    rw [List.all_eq_true]
    exact ⟨fun h g hg => one_least.1 (h g hg), fun h g hg => one_least.2 (h g hg)⟩
  have e4 : (List.replicate (cleansOf t.cleans kind i) (oneRow i 2 ((0 : Int) : Rat))).all (fun w => rowB3 w z) = true ↔ (0 < cleansOf t.cleans kind i → z.getD i 0 = 0) := by
    rw [List.all_eq_true]
    constructor
    · intro h hc; exact one_equal.1 (h _ (List.mem_replicate.2 ⟨by omega, rfl⟩))
    · intro h w hw
      obtain ⟨h1, rfl⟩ := List.mem_replicate.1 hw
      exact one_equal.2 (h (by omega))
  rw [e1, e2, e3, e4]
  constructor
  · rintro ⟨⟨⟨q1, q2⟩, q3⟩, q4⟩
    exact ⟨⟨hz, fun h => (q1 h).1, fun h => (q1 (moveOk_all hmo h)).2 h⟩, ⟨q2, q3, q4⟩⟩
  · rintro ⟨p1, p2⟩
    exact ⟨⟨⟨fun h => ⟨p1.most h, p1.all⟩, p2.cap⟩, p2.fin⟩, p2.cln⟩
theorem sysRows_all {t : Trace} {kind : Int} {q : RowP → Bool} : ∀ n, n ≤ t.ev.moves.length → ((sysRows t kind n).all q = true ↔ ∀ i x, i < n → t.ev.moves[i]? = some x → (moveRows t kind i x).all q = true)
  | 0, _ => ⟨fun _ i x h => by omega, fun _ => rfl⟩
  | n + 1, h => by
    obtain ⟨y, hy⟩ : ∃ y, t.ev.moves[n]? = some y := ⟨_, List.getElem?_eq_getElem (by omega)⟩
    unfold sysRows
    rw [hy]
    simp only [List.all_append, Bool.and_eq_true]
    rw [sysRows_all n (by omega)]
    constructor
    · rintro ⟨h1, h2⟩ i x hi hx
      rcases Nat.lt_or_ge i n with h3 | h3
      · exact h1 i x h3 hx
      · obtain rfl : i = n := by omega
        rw [hy] at hx; injection hx with hx; subst hx; exact h2
    · intro h1
      exact ⟨fun i x hi hx => h1 i x (by omega) hx, h1 n y (by omega) hy⟩
theorem rightT_one {last n i : Int} {c : Rat} (h1 : last < i) (h2 : i < n) (h3 : c ≠ 0) : rightT last n [(i, c)] = true := by
  unfold rightT
  simp [h1, h2, h3, rightT]
theorem rightT_snoc {n : Int} {c : Rat} {i : Int} (h2 : i < n) (h3 : c ≠ 0) : ∀ {l : List (Int × Rat)} {last : Int}, rightT last n l = true → last < i → (∀ t ∈ l, t.1 < i) → rightT last n (l ++ [(i, c)]) = true
  | [], last, _, h, _ => rightT_one h h2 h3
  | t :: r, last, h, h1, ht => by
    unfold rightT at h
    simp only [Bool.and_eq_true, decide_eq_true_eq] at h
    show rightT last n (t :: (r ++ [(i, c)])) = true
    unfold rightT
    simp only [Bool.and_eq_true, decide_eq_true_eq]
    exact ⟨h.1, rightT_snoc h2 h3 h.2 (ht t (by simp)) fun u hu => ht u (by simp [hu])⟩
theorem rat_one_ne : ((1 : Int) : Rat) ≠ 0 := by decide
theorem rat_mone_ne : ((-1 : Int) : Rat) ≠ 0 := by decide
theorem termsTo_right {e : Ev} {p : Int} {n : Int} : ∀ k : Nat, (k : Int) ≤ n → rightT (-1) n (termsTo e p k) = true ∧ ∀ t ∈ termsTo e p k, t.1 < (k : Int)
  | 0, _ => ⟨rfl, fun t ht => by cases ht⟩
  | k + 1, h => by
    obtain ⟨h1, h2⟩ := termsTo_right (e := e) (p := p) (n := n) k (by omega)
    have h3 : ∀ c : Rat, c ≠ 0 → rightT (-1) n (termsTo e p k ++ [((k : Int), c)]) = true ∧ ∀ t ∈ termsTo e p k ++ [((k : Int), c)], t.1 < ((k + 1 : Nat) : Int) := fun c hc =>
      ⟨rightT_snoc (by omega) hc h1 (by omega) h2, fun t ht => by
        rcases List.mem_append.1 ht with ht | ht
        · have := h2 t ht; omega
        · simp at ht; subst ht; simp; omega⟩
    unfold termsTo
    cases hx : e.moves[k]? with
    | none => exact ⟨h1, fun t ht => by have := h2 t ht; omega⟩
    | some y =>
      simp only
      split
      · exact h3 _ rat_one_ne
      · split
        · exact h3 _ rat_mone_ne
        · exact ⟨h1, fun t ht => by have := h2 t ht; omega⟩
theorem move_right {t : Trace} {kind : Int} {i : Nat} {x : Move} {n : Int} (hi : (i : Int) < n) : (moveRows t kind i x).all (rightRow n) = true := by
  have ho : ∀ (k : Int) (v : Rat), 0 ≤ k → k < 3 → rightRow n (oneRow i k v) = true := fun k v h1 h2 => by
    unfold rightRow oneRow
    simp only [Bool.and_eq_true, decide_eq_true_eq]
    exact ⟨⟨rightT_one (by omega) hi rat_one_ne, h1⟩, h2⟩
  unfold moveRows
  simp only [List.all_append, Bool.and_eq_true, List.all_eq_true]
  refine ⟨⟨⟨fun w hw => ?_, fun w hw => ?_⟩, fun w hw => ?_⟩, fun w hw => ?_⟩
  · by_cases hb : kindAt t.ev x.src = 0
    · rw [if_pos hb] at hw; cases hw
    · rw [if_neg hb] at hw
      simp at hw
      subst hw
      obtain ⟨h1, h2⟩ := termsTo_right (e := t.ev) (p := x.src) (n := n) i (by omega)
      unfold rightRow stockRow
      simp only [Bool.and_eq_true, decide_eq_true_eq]
      refine ⟨⟨rightT_snoc hi rat_mone_ne h1 (by omega) h2, ?_⟩, ?_⟩ <;> split <;> decide
  · cases hiv : ivOf t.ev x with
    | none => rw [hiv] at hw; cases hw
    | some p =>
      obtain ⟨lo, hi⟩ := p
      rw [hiv] at hw
      simp [capRows] at hw
      subst hw
      exact ho 1 hi (by decide) (by decide)
  · obtain ⟨g, _, rfl⟩ := List.mem_map.1 hw
    exact ho 0 _ (by decide) (by decide)
  · obtain ⟨_, rfl⟩ := List.mem_replicate.1 hw
    exact ho 2 _ (by decide) (by decide)
theorem moveRows_len {t : Trace} {kind : Int} {i : Nat} {x : Move} : (moveRows t kind i x).length ≤ 2 + t.finds.length + t.cleans.length := by
  unfold moveRows
  have h1 : (capRows (ivOf t.ev x) i).length ≤ 1 := by unfold capRows; split <;> simp
  have h2 : (gramsOf t.finds kind i).length ≤ t.finds.length := by unfold gramsOf; rw [List.length_map]; exact List.length_filter_le _ _
  have h3 : cleansOf t.cleans kind i ≤ t.cleans.length := List.length_filter_le _ _
  have h4 : (if kindAt t.ev x.src = 0 then ([] : List RowP) else [stockRow t.ev i x]).length ≤ 1 := by split <;> simp
  simp only [List.length_append, List.length_map, List.length_replicate]
  omega
theorem sysRows_len {t : Trace} {kind : Int} : ∀ n, (sysRows t kind n).length ≤ n * (2 + t.finds.length + t.cleans.length)
  | 0 => by simp [sysRows]
  | n + 1 => by
    have ih := sysRows_len (t := t) (kind := kind) n
    unfold sysRows
    rw [Nat.succ_mul]
    cases hx : t.ev.moves[n]? with
    | none => simp only; omega
    | some x =>
      have := moveRows_len (t := t) (kind := kind) (i := n) (x := x)
      simp only [List.length_append]
      omega
theorem sys_right {t : Trace} {kind : Int} (hm : t.ev.moves.length ≤ 14) (hf : t.finds.length ≤ 20) (hc : t.cleans.length ≤ 50) : rightSys (sysOf t kind) = true := by
  unfold rightSys sysOf
  have h1 := sysRows_len (t := t) (kind := kind) t.ev.moves.length
  have h2 : t.ev.moves.length * (2 + t.finds.length + t.cleans.length) ≤ 14 * 72 := Nat.mul_le_mul hm (by omega)
  simp only [Bool.and_eq_true, decide_eq_true_eq]
  refine ⟨⟨⟨by omega, by omega⟩, by omega⟩, ?_⟩
  rw [sysRows_all _ (Nat.le_refl _)]
  intro i x hi hx
  exact move_right (by omega)
/-- the matter is possible exactly if it is a solution of the system -/
theorem sys_holds {t : Trace} {kind : Int} {z : List Rat} (ht : traceE t = 0) (k0 : 0 ≤ kind) (k1 : kind < 8) (hm : t.ev.moves.length ≤ 14) : holdsSys (sysOf t kind) z = true ↔ Poss t kind z := by
  obtain ⟨q1, q2, q3, q4, q5⟩ := traceE_zero ht
  unfold holdsSys
  rw [sys_right hm q2 q3]
  simp only [Bool.true_and, Bool.and_eq_true, decide_eq_true_eq]
  constructor
  · rintro ⟨⟨h1, h2⟩, h3⟩
    have hl : z.length = t.ev.moves.length := by have : (z.length : Int) = t.ev.moves.length := h1; omega
    refine ⟨ht, k0, k1, hl, fun i x hx => ?_⟩
    have hi : i < t.ev.moves.length := (List.getElem?_eq_some_iff.1 hx).1
    have hz : 0 ≤ z.getD i 0 := of_decide_eq_true (List.all_eq_true.1 h2 _ (List.mem_of_getElem? (getD_some (by omega))))
    exact (move_holds q1 hx hz).1 ((sysRows_all _ (Nat.le_refl _)).1 h3 i x hi hx)
  · intro h
    refine ⟨⟨?_, ?_⟩, ?_⟩
    · show (z.length : Int) = t.ev.moves.length
      rw [h.len]
    · rw [List.all_eq_true]
      intro v hv
      obtain ⟨i, hi, rfl⟩ := List.getElem_of_mem hv
      obtain ⟨x, hx⟩ : ∃ x, t.ev.moves[i]? = some x := ⟨_, List.getElem?_eq_getElem (by rw [← h.len]; exact hi)⟩
      have := (h.step i x hx).1.pos
      rw [List.getD_eq_getElem?_getD, List.getElem?_eq_getElem hi] at this
      exact decide_eq_true this
    · show (sysRows t kind t.ev.moves.length).all _ = true
      rw [sysRows_all _ (Nat.le_refl _)]
      intro i x hi hx
      obtain ⟨a, b⟩ := h.step i x hx
      exact (move_holds q1 hx a.pos).2 ⟨a, b⟩
end Go.Proofs.YtfieodjihaodiaaGreat
/- taint: mark, Check, bin, stock. -/
namespace Go.Proofs.YtfieodjihaodiaaGreat
open Go.RowKit
set_option linter.unusedVariables false
set_option linter.unusedSimpArgs false
set_option maxRecDepth 100000

def Find.row (f : Find) : List T := [ti f.mv, ti f.kind, ti f.grams]
def Clean.row (c : Clean) : List T := [ti c.mv, ti c.kind]
structure Trace.Sized (t : Trace) : Prop where
  ev : t.ev.Sized
  f : t.finds.length ≤ 1000000
  c : t.cleans.length ≤ 1000000
theorem sgR_zero {x : Rat} : sgR x = 0 ↔ x = 0 := by unfold sgR; split <;> (try split) <;> simp_all <;> grind
def termRow (x : Int × Rat) : List T := ti x.1 :: frRow (fz x.2)
abbrev termsT (l : List (Int × Rat)) : T := .sl 5 .any (l.map termRow)
def rowRow (w : RowP) : List T := termsT w.terms :: ti w.kind :: frRow (fz w.value)
def rowC (w : RowP) : List C := .t (termsT w.terms) :: .t (ti w.kind) :: frC (fz w.value)
abbrev rowS (w : RowP) : S := .agg (rowC w)
abbrev rowsTT (l : List RowP) : T := .sl 6 .any (l.map rowRow)
abbrev sysS (s : SysP) : S := .agg [.t (ti s.n), .t (rowsTT s.rows)]
end Go.Proofs.YtfieodjihaodiaaGreat
/- Heaps whose last part is symbolic: steps by lemma, views of nested blocks, calls over a first part of the heap. -/
namespace Go.Proofs.YtfieodjihaodiaaGreat
open Go.RowKit
set_option linter.unusedVariables false
set_option linter.unusedSimpArgs false

section
variable {α β : Type}
theorem getK_ok {l : List α} : ∀ {i : Nat} {x : α} {k : α → Prop}, l[i]? = some x → k x → getK i l k := by
  induction l with
  | nil => intro i x k h; simp at h
  | cons a r ih =>
    intro i x k h hk
    cases i with
    | zero => simp at h; subst h; exact hk
    | succ i => exact ih (by simpa using h) hk
theorem setK_ok {v : α} {l : List α} {i : Nat} {k : List α → Prop} (h : k (l.set i v)) : setK i v l k := setK_iff.2 h
theorem appK_ok {r l : List α} {k : List α → Prop} (h : k (l ++ r)) : appK l r k := appK_iff.2 h
theorem appK_nil {l : List α} {k : List α → Prop} (h : k l) : appK l [] k := appK_ok (by rw [List.append_nil]; exact h)
theorem lenK_ok {l : List α} {n : Nat} {k : Nat → Prop} (h : k (l.length + n)) : lenK l n k := lenK_iff.2 (by rw [Nat.add_comm]; exact h)
theorem lenK_map {f : β → α} {M : List β} {N n : Nat} {k : Nat → Prop} (h : M.length = N) (hk : k (N + n)) : lenK (M.map f) n k := lenK_ok (by simpa [h] using hk)
theorem lenK_mapA {f : β → α} {M : List β} {T : List α} {N n : Nat} {k : Nat → Prop} (h : M.length = N) (hk : lenK T n fun m => k (N + m)) : lenK (M.map f ++ T) n k := by
  refine lenK_ok ?_
  have := (lenK_iff (k := fun m => k (N + m))).1 hk
  simpa [h, Nat.add_assoc, Nat.add_comm n] using this
theorem appK_mapA {f : β → α} {M : List β} {T r : List α} {k : List α → Prop} (h : appK T r fun q => k (M.map f ++ q)) : appK (M.map f ++ T) r k := by
  refine appK_ok ?_
  rw [List.append_assoc]
  exact (appK_iff (k := fun q => k (M.map f ++ q))).1 h
theorem getK_mapA {f : β → α} {M : List β} {T : List α} {i : Nat} {x : β} {k : α → Prop} (h : M[i]? = some x) (hk : k (f x)) : getK i (M.map f ++ T) k :=
  getK_ok (by rw [List.getElem?_append_left (by simpa using (List.getElem?_eq_some_iff.1 h).1), List.getElem?_map, h]; rfl) hk
theorem getK_mapT {f : β → α} {M : List β} {T : List α} {N t : Nat} {k : α → Prop} (h : M.length = N) (hk : getK t T k) : getK (N + t) (M.map f ++ T) k := by
  obtain ⟨x, h1, h2⟩ := getK_iff hk
  exact getK_ok (by rw [List.getElem?_append_right (by simp [h])]; simpa [h] using h1) h2
theorem getK_map0 {f : β → α} {M : List β} {T : List α} {N : Nat} {k : α → Prop} (h : M.length = N) (hk : getK 0 T k) : getK N (M.map f ++ T) k := getK_mapT (t := 0) h hk
theorem setK_mapA {f : β → α} {M : List β} {T : List α} {i : Nat} {v : α} {x : β} {k : List α → Prop} (hi : i < M.length) (hv : v = f x) (h : k ((M.set i x).map f ++ T)) : setK i v (M.map f ++ T) k :=
  setK_ok (by rw [List.set_append_left _ _ (by simpa using hi), hv, ← List.map_set]; exact h)
theorem setK_mapT {f : β → α} {M : List β} {T : List α} {N t : Nat} {v : α} {k : List α → Prop} (h : M.length = N) (hk : setK t v T fun q => k (M.map f ++ q)) : setK (N + t) v (M.map f ++ T) k := by
  refine setK_ok ?_
  rw [List.set_append_right _ _ (by simp [h])]
  simpa [h] using (setK_iff (k := fun q => k (M.map f ++ q))).1 hk
theorem setK_map0 {f : β → α} {M : List β} {T : List α} {N : Nat} {v : α} {k : List α → Prop} (h : M.length = N) (hk : setK 0 v T fun q => k (M.map f ++ q)) : setK N v (M.map f ++ T) k := setK_mapT (t := 0) h hk
end

/-- nothing renamed -/
def idR (n : Nat) : List (Option Nat) := (List.range n).map some
theorem idR_len (n : Nat) : (idR n).length = n := by simp [idR]
theorem idR_get {n i : Nat} (h : i < n) : (idR n)[i]? = some (some i) := by simp [idR, h]
theorem idR_inv {n i j : Nat} (h : (idR n)[i]? = some (some j)) : i = j := by
  obtain ⟨h1, h2⟩ := List.getElem?_eq_some_iff.1 h
  simp [idR] at h2
  exact h2
theorem idR_keeps {n : Nat} : ∀ {m : Nat}, m ≤ n → keepsB (idR n) m = true
  | 0, _ => rfl
  | m + 1, h => by
    unfold keepsB
    rw [idR_get (by omega), idR_keeps (by omega)]
    simp
theorem sameL_no : ∀ {r : List (Option Nat)} {H : Hp} {n : Nat}, (∀ j : Nat, r[j]? ≠ some (some n)) → sameL n r H = false
  | [], H, n, _ => by cases H <;> rfl
  | x :: r, [], n, _ => by cases x <;> rfl
  | x :: r, k :: H, n, h => by
    unfold sameL
    rw [sameL_no (r := r) (H := H) (n := n) (fun j => by simpa using h (j + 1)), Bool.or_false]
    split
    · rfl
    · rename_i m _
      have : m ≠ n := by rintro rfl; exact h 0 rfl
      cases hb : Nat.beq m n with
      | false => rfl
      | true => exact absurd (Nat.eq_of_beq_eq_true hb) this
    · rfl
theorem nodupH_ok : ∀ {r : List (Option Nat)} {H : Hp}, (∀ i j n : Nat, r[i]? = some (some n) → r[j]? = some (some n) → i = j) → nodupH r H = true
  | [], H, _ => by cases H <;> rfl
  | x :: r, [], _ => by cases x <;> rfl
  | none :: r, k :: H, h => nodupH_ok (r := r) fun i j n h1 h2 => by have := h (i + 1) (j + 1) n (by simpa using h1) (by simpa using h2); omega
  | some n :: r, k :: H, h => by
    unfold nodupH
    rw [nodupH_ok (r := r) (H := H) fun i j n h1 h2 => by have := h (i + 1) (j + 1) n (by simpa using h1) (by simpa using h2); omega]
    rw [sameL_no (r := r) (n := n) (fun j hj => by have := h 0 (j + 1) n rfl (by simpa using hj); omega)]
    cases k.mode <;> rfl
theorem idR_nodup {n : Nat} {H : Hp} : nodupH (idR n) H = true := nodupH_ok fun i j n h1 h2 => by rw [idR_inv h1, idR_inv h2]
theorem entH_ok {ρ : List (Option Nat)} {H : Hp} : ∀ {r : List (Option Nat)} {H' : Hp}, r.length = H'.length → (∀ (i : Nat) (k' : Blk), H'[i]? = some k' → ∃ (j : Nat) (k : Blk), r[i]? = some (some j) ∧ H[j]? = some k ∧ EntB ρ H k k') → EntH ρ H r H'
  | [], [], _, _ => trivial
  | [], _ :: _, h, _ => by simp at h
  | _ :: _, [], h, _ => by simp at h
  | x :: r, k' :: H', hl, h => by
    obtain ⟨j, k, h1, h2, h3⟩ := h 0 k' rfl
    simp at h1
    subst h1
    refine ⟨?_, entH_ok (by simpa using hl) fun i k1 hk => by simpa using h (i + 1) k1 (by simpa using hk)⟩
    simp only [h2]
    exact h3
theorem entL_refl {n : Nat} {H : Hp} : ∀ {l : List C}, (∀ c ∈ l, match c with | .t _ => True | .ptr id _ _ => id < n | .own id _ _ _ => id < n | .fn _ _ => False) → EntL (idR n) H l l
  | [], _ => trivial
  | c :: r, h => by
    refine ⟨?_, entL_refl fun c hc => h c (by simp [hc])⟩
    have h0 := h c (by simp)
    cases c with
    | t x => exact weak_refl x
    | ptr id r o => exact ⟨idR_get h0, rfl, rfl⟩
    | own id lo len app => exact ⟨idR_get h0, rfl, rfl, fun h => h⟩
    | fn f caps => exact h0.elim
/-- a block all of whose handles are below n -/
def okB (n : Nat) (k : Blk) : Prop := ∀ r ∈ k.rows, ∀ c ∈ r, match c with | .t _ => True | .ptr id _ _ => id < n | .own id _ _ _ => id < n | .fn _ _ => False
theorem okB_toC {n : Nat} {k : Blk} {rows : List (List T)} (h : k.rows = toC rows) : okB n k := by
  intro r hr c hc
  rw [h] at hr
  obtain ⟨r0, _, rfl⟩ := List.mem_map.1 hr
  obtain ⟨t, _, rfl⟩ := List.mem_map.1 hc
  trivial
theorem entR_refl {n : Nat} {H : Hp} : ∀ {l : List (List C)}, (∀ r ∈ l, ∀ c ∈ r, match c with | .t _ => True | .ptr id _ _ => id < n | .own id _ _ _ => id < n | .fn _ _ => False) → EntR (idR n) H l l
  | [], _ => trivial
  | r :: l, h => ⟨entL_refl (h r (by simp)), entR_refl fun r hr => h r (by simp [hr])⟩
theorem entB_refl {n : Nat} {H : Hp} {k : Blk} (h : okB n k) : EntB (idR n) H k k := ⟨by unfold leMode; cases k.mode <;> simp, rfl, rfl, .inr (entR_refl h)⟩
/-- nothing renamed; each block is known as well, or less -/
theorem ent_idx {n0 n : Nat} {env env' : Env} {H H' : Hp} (hn : H'.length = n) (h0 : n0 ≤ n) (hB : ∀ (i : Nat) (k' : Blk), H'[i]? = some k' → ∃ k : Blk, H[i]? = some k ∧ EntB (idR n) H k k') (hE : EntE (idR n) H env env') : Ent n0 (idR n) env H env' H' :=
  ⟨idR_keeps h0, idR_nodup, entH_ok (by rw [idR_len, hn]) fun i k' hk => by
    have hi : i < n := by rw [← hn]; exact (List.getElem?_eq_some_iff.1 hk).1
    obtain ⟨k, h1, h2⟩ := hB i k' hk
    exact ⟨i, k, idR_get hi, h1, h2⟩, hE⟩
theorem entR_all {ρ : List (Option Nat)} {H : Hp} : ∀ {xs ys : List (List C)}, xs.length = ys.length → (∀ (i : Nat) (x y : List C), xs[i]? = some x → ys[i]? = some y → EntL ρ H x y) → EntR ρ H xs ys
  | [], [], _, _ => trivial
  | [], _ :: _, h, _ => by simp at h
  | _ :: _, [], h, _ => by simp at h
  | x :: xs, y :: ys, h, hh => ⟨hh 0 x y rfl rfl, entR_all (by simpa using h) fun i a b ha hb => hh (i + 1) a b (by simpa using ha) (by simpa using hb)⟩
theorem ent_mid {β : Type} {n0 n : Nat} {env env' : Env} {f : β → Blk} {M : List β} {b0 b0' bl bl' : Blk} {T : Hp} (hn : M.length + 2 = n) (h0 : n0 ≤ n) (e0 : b0 = b0') (ok0 : okB n b0') (hf : ∀ x, okB n (f x))
    (hl : EntB (idR n) (b0 :: (M.map f ++ bl :: T)) bl bl') (hE : EntE (idR n) (b0 :: (M.map f ++ bl :: T)) env env') : Ent n0 (idR n) env (b0 :: (M.map f ++ bl :: T)) env' (b0' :: (M.map f ++ [bl'])) := by
  refine ent_idx (by simp; omega) h0 (fun i k' hk => ?_) hE
  cases i with
  | zero => simp at hk; subst hk; exact ⟨b0, rfl, by rw [e0]; exact entB_refl ok0⟩
  | succ i =>
    rw [List.getElem?_cons_succ] at hk ⊢
    by_cases hi : i < M.length
    · rw [List.getElem?_append_left (by simpa using hi)] at hk ⊢
      refine ⟨k', hk, entB_refl ?_⟩
      obtain ⟨x, _, rfl⟩ := List.mem_map.1 (List.mem_of_getElem? hk)
      exact hf x
    · rw [List.getElem?_append_right (by simpa using hi)] at hk ⊢
      have : i = M.length := by
        have := (List.getElem?_eq_some_iff.1 hk).1
        simp at this; omega
      subst this
      simp at hk ⊢
      subst hk
      exact hl
theorem entB_eq {n : Nat} {H : Hp} {k k' : Blk} (e : k = k') (h : okB n k') : EntB (idR n) H k k' := by subst e; exact entB_refl h
/-- the first blocks stay, the others are dropped -/
theorem ent_first {n0 n : Nat} {env env' : Env} {H H' : Hp} (hn : H'.length = n) (h0 : n0 ≤ n) (hok : ∀ k ∈ H', okB n k) (hH : ∀ i, i < n → H[i]? = H'[i]?) (hE : EntE (idR n) H env env') : Ent n0 (idR n) env H env' H' :=
  ⟨idR_keeps h0, idR_nodup, entH_ok (by rw [idR_len, hn]) fun i k' hk => by
    have hi : i < n := by rw [← hn]; exact (List.getElem?_eq_some_iff.1 hk).1
    exact ⟨i, k', idR_get hi, by rw [hH i hi]; exact hk, entB_refl (hok k' (List.mem_of_getElem? hk))⟩, hE⟩
theorem ent_firstA {n0 n : Nat} {env env' : Env} {H' T : Hp} (hn : H'.length = n) (h0 : n0 ≤ n) (hok : ∀ k ∈ H', okB n k) (hE : EntE (idR n) (H' ++ T) env env') : Ent n0 (idR n) env (H' ++ T) env' H' :=
  ent_first hn h0 hok (fun i hi => by rw [List.getElem?_append_left (by omega)]) hE

theorem fin_first {n0 n : Nat} {r s : S} {H H' : Hp} (hn : H'.length = n) (h0 : n0 ≤ n) (hok : ∀ k ∈ H', okB n k) (hH : ∀ i, i < n → H[i]? = H'[i]?) (hE : EntT (idR n) H r s) : Fin n0 r H s H' :=
  ⟨idR n, idR_keeps h0, idR_nodup, entH_ok (by rw [idR_len, hn]) fun i k' hk => by
    have hi : i < n := by rw [← hn]; exact (List.getElem?_eq_some_iff.1 hk).1
    exact ⟨i, k', idR_get hi, by rw [hH i hi]; exact hk, entB_refl (hok k' (List.mem_of_getElem? hk))⟩, hE⟩

/-- cells of nested blocks as data -/
inductive VX (H : Hp) (p : Nat → Prop) : C → T → Prop
  | vc {x : C} {y : T} (h : VC H p x y) : VX H p x y
  | own {id lo len : Nat} {app : Bool} {size : Nat} {k : Blk} {rows : List (List T)} (hp : p id) (hk : H[id]? = some k) (hd : ¬ k.mode.gone) (hs : k.size = size) (hl : rows.length = len)
      (hw : ∀ r ∈ rows, r.length = size) (g : Nat → Nat → C) (hc : ∀ i j c, at2 rows i j = some c → at2 k.rows (lo + i) j = some (g i j))
      (hx : ∀ i j c, at2 rows i j = some c → VX H p (g i j) c) : VX H p (.own id lo len app) (.sl size .any rows)
theorem VX.rt {H : Hp} {p : Nat → Prop} {w : World} {ι : Io} {M M' : Ms} (hH : HeapRel w ι M H) (hM : ∀ b, M' b → M b) (hp : ∀ id k b cap size, p id → H[id]? = some k → ¬ k.mode.gone → ι id = some (.blk b cap size) → ¬ M' b)
    {x : C} {y : T} (h : VX H p x y) : ∀ {v : Value}, RC w ι M x v → RT w M' y v := by
  induction h with
  | vc h => intro v hr; exact VC.rt hH hM hp _ _ _ h hr
  | @own id lo len app size k rows hpi hk hd hs hl hw g hc hx ih =>
    intro v hr
    cases hr with
    | @own _ _ _ _ b cap sz A cap' hi q1 q2 q3 q4 q5 =>
      subst hl
      have hbr := hH.blk id k hk (fun e => hd (by rw [e]; trivial)) _ hi
      obtain ⟨r1, r2, r3, r4, r5, cur, r6, r7, r8⟩ := hbr
      have hnm := hp id k b cap sz hpi hk hd hi
      have hse : sz = size := by rw [← hs, r1]
      subst hse
      have hat : ∀ (i j : Nat) (c : T), at2 rows i j = some c → ∃ u, cur[(lo + i) * sz + j]? = some u ∧ RT w M' c u := fun i j c hij => by
        obtain ⟨u, t1, t2⟩ := r8 _ _ _ (hc i j c hij)
        exact ⟨u, t1, ih i j c hij t2⟩
      refine .sl (b := b) (off := lo * sz) (fun i j => cur.getD ((lo + i) * sz + j) undef) hw q3 q4 (by intro h; cases h) (by intro h; cases h) (fun hne => q2 (List.length_pos_iff.2 hne)) ?_ ?_
      · intro i j c hc'
        obtain ⟨u, s1, s2⟩ := hat i j c hc'
        refine ⟨?_, hnm⟩
        have e : lo * sz + (i * sz + j) = (lo + i) * sz + j := by rw [Nat.add_mul, Nat.add_assoc]
        simp only [World.cell?]
        rw [r6, e]
        simp [s1]
      · intro i j c hc'
        obtain ⟨u, s1, s2⟩ := hat i j c hc'
        have : cur.getD ((lo + i) * sz + j) undef = u := by simp [s1]
        rw [this]; exact s2
    | nil hi =>
      have hr0 : rows = [] := List.eq_nil_of_length_eq_zero hl
      subst hr0
      exact .sl (b := 0) (off := 0) (fun _ _ => undef) (by simp) (by simp) (by unfold maxLen; omega) (by simp) (by simp) (by simp) (by simp [at2]) (by simp [at2])

/-- arguments seen as data, nested blocks too -/
def VXS (H : Hp) (p : Nat → Prop) (s s' : S) : Prop :=
  (∃ x y, s = .c x ∧ s' = .c (.t y) ∧ VX H p x y) ∨ VS H p s s'
def VXArgs (H : Hp) (p : Nat → Prop) : List S → List S → Prop
  | [], [] => True
  | s :: r, s' :: r' => VXS H p s s' ∧ VXArgs H p r r'
  | _, _ => False
theorem VXArgs.get {H : Hp} {p : Nat → Prop} : ∀ {l l' : List S}, VXArgs H p l l' → l.length = l'.length ∧ ∀ (j : Nat) (s' : S), l'[j]? = some s' → ∃ s, l[j]? = some s ∧ VXS H p s s'
  | [], [], _ => ⟨rfl, by simp⟩
  | s :: r, s' :: r', h => by
    obtain ⟨h1, h2⟩ := VXArgs.get h.2
    refine ⟨by simp [h1], fun j t ht => ?_⟩
    cases j with
    | zero => simp at ht; subst ht; exact ⟨s, rfl, h.1⟩
    | succ j => simpa using h2 j t (by simpa using ht)
  | [], _ :: _, h => h.elim
  | _ :: _, [], h => h.elim
/-- a function at data, called at what may be viewed as such, nested blocks too; a flat result -/
theorem qcall_viewX {P : Program} {g : FuncId} {args args' : List S} {H : Hp} {r : S} (h : ACall P g args' [] r []) (ha : VXArgs H (fun _ => True) args args') (hr : r.flat = true) : QCall P g args H r [] := by
  refine ⟨h.1, fun w ι M vals hl hv hH hM hf => ?_⟩
  obtain ⟨hlen, hget⟩ := VXArgs.get ha
  have := h.2 w (fun _ => none) (fun _ => False) vals (by omega) (fun j s hj => by
    obtain ⟨x, hx, hs⟩ := hget j s hj
    have hr := hv j x hx
    rcases hs with ⟨x', y, rfl, rfl, hvx⟩ | hs
    · cases hr with
      | c hr => exact .c (.t (hvx.rt hH (fun _ h => h.elim) (fun _ _ _ _ _ _ _ _ _ h => h) hr))
    · exact hs.rs hH (fun _ h => h.elim) (fun _ _ _ _ _ _ _ _ _ h => h) hr)
    .none (fun _ h => h.elim) (fun _ _ => rfl)
  refine Calls.mono this ?_
  rintro e w' ⟨v, rfl, ι', M', h1, h2, h3, h4, h5⟩
  exact ⟨v, rfl, QPost.of_none (h1.flat hr) ⟨h5.os, h5.tape, h5.output, h5.size, fun b hb => h5.keep b hb (by rintro ⟨id, k, _, _, hk, _⟩; simp at hk)⟩⟩

theorem range_getD {n i : Nat} (h : i < n) : (List.range n).getD i 0 = i := by simp [h]
mutual
theorem renC_range {n : Nat} : ∀ c : C, okC n c = true → renC (List.range n) c = c
  | .t x, _ => by simp [renC]
  | .ptr id r o, h => by simp only [renC]; rw [range_getD (by simpa [okC] using h)]
  | .own id lo len app, h => by simp only [renC]; rw [range_getD (by simpa [okC] using h)]
  | .fn f caps, h => by simp only [renC]; rw [renL_range caps (by simpa [okC] using h)]
theorem renL_range {n : Nat} : ∀ l : List C, okL n l = true → renL (List.range n) l = l
  | [], _ => by simp [renL]
  | c :: r, h => by
    simp only [okL, Bool.and_eq_true] at h
    simp only [renL]
    rw [renC_range c h.1, renL_range r h.2]
end
theorem renS_range {n : Nat} {s : S} (h : okS n s = true) : renS (List.range n) s = s := by
  cases s with
  | junk => rfl
  | c x => simp only [renS]; rw [renC_range x h]
  | agg cs => simp only [renS]; rw [renL_range cs h]
  | tup ss => simp [okS] at h
theorem okL_of {n : Nat} : ∀ {l : List C}, (∀ c ∈ l, match c with | .t _ => True | .ptr id _ _ => id < n | .own id _ _ _ => id < n | .fn _ _ => False) → okL n l = true
  | [], _ => by simp [okL]
  | c :: r, h => by
    simp only [okL, Bool.and_eq_true]
    refine ⟨?_, okL_of fun c hc => h c (by simp [hc])⟩
    have h0 := h c (by simp)
    cases c with
    | t x => simp [okC]
    | ptr id r o => simp only [okC]; exact Nat.blt_eq ▸ h0
    | own id lo len app => simp only [okC]; exact Nat.blt_eq ▸ h0
    | fn f caps => exact h0.elim
theorem renB_range {n : Nat} {k : Blk} (h : okB n k) : RenB (List.range n) k k := by
  refine ⟨rfl, rfl, rfl, rfl, ?_⟩
  unfold renR
  rw [List.map_congr_left (g := id) fun r hr => renL_range r (okL_of (h r hr))]
  simp
theorem renL_isT {σ : List Nat} {l : List C} (h : l.all C.isT = true) : renL σ l = l := by
  rw [renL_eq]
  conv => rhs; rw [← List.map_id l]
  exact List.map_congr_left fun c hc => renC_isT (List.all_eq_true.1 h c hc)
/-- a call over the first blocks, which it may write -/
theorem acall_first {P : Program} {g : FuncId} {args : List S} {Hs Hs' : Hp} {r : S} {n : Nat} (T : Hp) (h : ACall P g args Hs r Hs') (hn : Hs.length = n) (hn' : Hs'.length = n) (hok : args.all (okS n) = true)
    (hin : ∀ k ∈ Hs, k.mode = .live ∧ k.app = false ∧ okB n k) (hout : ∀ k ∈ Hs', k.mode ≠ .old ∧ okB n k) (hr : flatT r = true) (hr' : r.isT = true) : ACall P g args (Hs ++ T) r (Hs' ++ T) := by
  have e0 : Hs'.length - Hs.length = 0 := by omega
  have ex : ∀ m, extR (List.range n) m (Hs'.length - Hs.length) = List.range n := fun m => by rw [e0]; simp [extR]
  have hargs : args = args.map (renS (List.range n)) := by
    conv => lhs; rw [← List.map_id args]
    exact List.map_congr_left fun s hs => (renS_range (List.all_eq_true.1 hok s hs)).symm
  refine acall_frame (List.range n) h hargs (by simpa using hok) (by simp [hn]) List.nodup_range ?_ (fun k hk => (hout k hk).1) (by omega) hr ?_ (by simp; omega) ?_ ?_
  · intro i k hk
    have hi : i < n := by rw [← hn]; exact (List.getElem?_eq_some_iff.1 hk).1
    obtain ⟨h1, h2, h3⟩ := hin k (List.mem_of_getElem? hk)
    refine ⟨h1, h2, fun r hr => by rw [List.length_range]; exact okL_of (h3 r hr), k, ?_, renB_range h3⟩
    rw [range_getD hi, List.getElem?_append_left (by omega), hk]
  · rw [ex]
    cases r with
    | junk => rfl
    | c x => simp only [renS]; rw [renC_isT hr']
    | agg cs =>
      simp only [renS]
      rw [renL_isT hr']
    | tup ss =>
      simp only [renS]
      congr 1
      conv => lhs; rw [← List.map_id ss]
      refine List.map_congr_left fun s hs => ?_
      have h1 := List.all_eq_true.1 hr' s hs
      cases s with
      | junk => rfl
      | c x => simp only [id]; rw [renC_isT h1]
      | agg cs =>
        simp only [id]
        rw [renL_isT h1]
      | tup ss => rfl
  · intro i k hk
    have hi : i < n := by rw [← hn']; exact (List.getElem?_eq_some_iff.1 hk).1
    obtain ⟨h1, h3⟩ := hout k (List.mem_of_getElem? hk)
    rw [ex]
    exact ⟨k, by rw [range_getD hi, List.getElem?_append_left (by omega), hk], renB_range h3⟩
  · intro j hj hnj
    have : n ≤ j := by
      rcases Nat.lt_or_ge j n with h | h
      · exact absurd (List.mem_range.2 h) hnj
      · exact h
    rw [List.getElem?_append_right (by omega), List.getElem?_append_right (by omega), hn, hn']
end Go.Proofs.YtfieodjihaodiaaGreat
/- history: none, carry, taken. -/
namespace Go.Proofs.YtfieodjihaodiaaGreat
open Go.RowKit
set_option linter.unusedVariables false
set_option linter.unusedSimpArgs false
set_option maxRecDepth 100000

def rowF (w : Nat) (g : Nat → Rat) : List Fr := (List.range w).map fun m => fz (g m)
def matF (N w : Nat) (f : Nat → Nat → Rat) : List (List Fr) := (List.range N).map fun p => rowF w (f p)
theorem rowF_len (w : Nat) (g : Nat → Rat) : (rowF w g).length = w := by simp [rowF]
theorem matF_len (N w : Nat) (f : Nat → Nat → Rat) : (matF N w f).length = N := by simp [matF]
theorem rowF_get {w : Nat} {g : Nat → Rat} {m : Nat} (h : m < w) : (rowF w g)[m]? = some (fz (g m)) := by simp [rowF, h]
theorem matF_get {N w : Nat} {f : Nat → Nat → Rat} {p : Nat} (h : p < N) : (matF N w f)[p]? = some (rowF w (f p)) := by simp [matF, h]
theorem rowF_set {w : Nat} {g : Nat → Rat} {m : Nat} {v : Rat} (h : m < w) : (rowF w g).set m (fz v) = rowF w (fun j => if j = m then v else g j) := by
  apply List.ext_getElem?
  intro j
  by_cases hj : j < w
  · rw [rowF_get hj, List.getElem?_set, rowF_len]
    by_cases hjm : m = j
    · subst hjm; simp [h]
    · rw [if_neg hjm, rowF_get hj, if_neg (by omega)]
  · rw [List.getElem?_eq_none (by simp [rowF_len]; omega), List.getElem?_eq_none (by simp [rowF_len]; omega)]
theorem matF_set {N w : Nat} {f : Nat → Nat → Rat} {p : Nat} {g : Nat → Rat} (h : p < N) : (matF N w f).set p (rowF w g) = matF N w (fun q => if q = p then g else f q) := by
  apply List.ext_getElem?
  intro j
  by_cases hj : j < N
  · rw [matF_get hj, List.getElem?_set, matF_len]
    by_cases hjm : p = j
    · subst hjm; simp [h]
    · rw [if_neg hjm, matF_get hj, if_neg (by omega)]
  · rw [List.getElem?_eq_none (by simp [matF_len]; omega), List.getElem?_eq_none (by simp [matF_len]; omega)]
def ownRows (N w : Nat) : List (List C) := (List.range N).map fun j => [C.own (j + 1) 0 w true]
abbrev matB (N w : Nat) : Blk := { mode := .live, elem := 30, size := 1, rows := ownRows N w, box := false }
abbrev rowB (l : List Fr) : Blk := { mode := .live, elem := 63, size := 4, rows := toC (l.map frRow), box := false }
abbrev matH (N w : Nat) (f : Nat → Nat → Rat) : Hp := matB N w :: (matF N w f).map rowB
theorem ex_ownRow {N w i : Nat} {K : List C → Prop} (h : i < N) (k : K [C.own (i + 1) 0 w true]) : ∃ row, (ownRows N w)[i]? = some row ∧ K row := ⟨_, by simp [ownRows, h], k⟩
theorem ok_matB {N w : Nat} : okB (N + 1) (matB N w) := by
  intro r hr c hc
  obtain ⟨j, hj, rfl⟩ := List.mem_map.1 hr
  simp at hc
  subst hc
  have := List.mem_range.1 hj
  simp only
  omega
theorem ok_matH {N w : Nat} {f : Nat → Nat → Rat} : ∀ k ∈ matH N w f, okB (N + 1) k := by
  intro k hk
  rcases List.mem_cons.1 hk with rfl | hk
  · exact ok_matB
  · obtain ⟨l, _, rfl⟩ := List.mem_map.1 hk
    exact okB_toC rfl
theorem matH_len {N w : Nat} {f : Nat → Nat → Rat} : (matH N w f).length = N + 1 := by simp [matF_len]
theorem ex_ownRowE {N w i s : Nat} {K : List C → Prop} (e : i = s) (h : s < N) (k : K [C.own (s + 1) 0 w true]) : ∃ row, (ownRows N w)[i]? = some row ∧ K row := by subst e; exact ex_ownRow h k
theorem rowB_set {row : List Fr} {i n : Nat} {y : Fr} (h : n = i) : setRows (rowB row) ((toC (row.map frRow)).set n (frC y)) = rowB (row.set i y) := by
  subst h
  unfold setRows
  simp [toC, List.map_set, frRow]
def upTo (k : Nat) (f g : Nat → Nat → Rat) : Nat → Nat → Rat := fun p m => if m < k then g p m else f p m

theorem a_carry (N w : Nat) (f : Nat → Nat → Rat) (x : Move) (l : List Rat) (hl : l.length = w) (hw : w ≤ 1000) (s d : Nat) (hs : x.src = s) (hd : x.dst = d) (hsN : s < N) (hdN : d < N) (hsd : s ≠ d) (hB : ∀ x ∈ l, rl x ≤ 200) (hF : ∀ p m, rl (f p m) ≤ 50000) :
    ACall Tryz.prog 62 [.c (.own 0 0 N true), moveS x, fracsS (l.map fz)] (matH N w f) (.tup []) (matH N w (carryF x (fun m => l.getD m 0) f)) := by
  have m1 : ((l.map fz).map frRow).length = l.length := by simp
  (refine acall_of tab_ok Tryz.func62 rfl (by decide) ?_; (conv => whnf); repeat (first | (refine LitB.data ?_; conv => whnf) | (refine BoxB.data ?_; conv => whnf)))
  (repeat' (first | ((refine DecB.mk (fun h => ?_) (fun h => ?_)) <;> first | (exfalso; omega) | (conv => whnf)) | ((refine BoolB.mk (fun h => ?_) (fun h => ?_)) <;> first | (exact absurd h (by decide)) | (conv => whnf)) | ((first | refine zzW ?_ | refine zzI ?_ | refine zzR ?_ | refine zzB ?_ | refine late_ok rfl rfl ?_ | refine src_ok rfl ?_ | refine BoxB.data ?_ | refine lenK_map (matF_len _ _ _) ?_ | refine appK_nil ?_ | refine LitB.data ?_ | refine BoxB.own ?_); conv => whnf)))
  let v : Nat → Rat := fun m => l.getD m 0
  have e0 : upTo 0 f (carryF x v f) = f := by funext p m; simp [upTo]
  refine awp_for tab_ok (fun k => ([S.c (C.own 0 0 N true), J, J, J, S.c (C.t (T.ptr x.row)), J, J, J, fracsS (l.map fz), intS .i64 l.length, intS .i64 k, J, J, J, J, J, J, J, J, J, J, J, J, J, J, J, J, J, J, J, J, J, J, J, J, J, J, J, J, J, J, J, J, J, J, J, J, J, J, J, J, J, J, J, J, J], matH N w (upTo k f (carryF x v f)))) l.length (fun _ => True) (idR (N + 1)) trivial
    ?_ ?_
  · refine ent_first matH_len ?_ ok_matH (fun i _ => by rw [e0]) ?_
    · simp [matF_len]
    · exact ⟨⟨idR_get (by omega), rfl, rfl, fun h => h⟩, ent_t rfl, ent_t rfl, ent_i (by simp), rfl, trivial⟩
  intro k hk _
  by_cases hlt : k < l.length
  · obtain ⟨y, hy⟩ : ∃ y, l[k]? = some y := ⟨_, List.getElem?_eq_getElem hlt⟩
    have hv : v k = y := by show l.getD k 0 = y; rw [List.getD_eq_getElem?_getD, hy]; rfl
    have by1 := hB y (List.mem_of_getElem? hy)
    have gs : (matF N w (upTo k f (carryF x v f)))[s]? = some (rowF w (upTo k f (carryF x v f) s)) := matF_get hsN
    have gd : (matF N w (upTo k f (carryF x v f)))[d]? = some (rowF w (upTo k f (carryF x v f) d)) := matF_get hdN
    have fs : upTo k f (carryF x v f) s k = f s k := by simp [upTo]
    have fd : upTo k f (carryF x v f) d k = f d k := by simp [upTo]
    have hs2 : x.src.toNat = s := by omega
    have hd2 : x.dst.toNat = d := by omega
    have b1 := hF s k
    have b2 := hF d k
    have sb := z_fSub (f s k) y (by omega) (by omega)
    have ad := z_fAdd (f d k) y (by omega) (by omega)
    have eS : 0 + x.src.toNat = s := by omega
    have eD : 0 + x.dst.toNat = d := by omega
    have xs : (rowF w (upTo k f (carryF x v f) s))[0 + (k : Int).toNat]? = some (fz (f s k)) := by rw [Nat.zero_add, show (k : Int).toNat = k by omega, rowF_get (by omega), fs]
    have xd : (rowF w (upTo k f (carryF x v f) d))[0 + (k : Int).toNat]? = some (fz (f d k)) := by rw [Nat.zero_add, show (k : Int).toNat = k by omega, rowF_get (by omega), fd]
    have gd2 : ∀ r, ((matF N w (upTo k f (carryF x v f))).set s r)[d]? = some (rowF w (upTo k f (carryF x v f) d)) := fun r => by rw [List.getElem?_set_ne hsd]; exact gd
    have lS : s < (matF N w (upTo k f (carryF x v f))).length := by rw [matF_len]; exact hsN
    have lD : ∀ r, d < ((matF N w (upTo k f (carryF x v f))).set s r).length := fun r => by rw [List.length_set, matF_len]; exact hdN
    have lE : ∀ r, ((matF N w (upTo k f (carryF x v f))).set s r).length = N := fun r => by rw [List.length_set, matF_len]
    have eK : 0 + (k : Int).toNat = k := by omega
    conv => whnf
    (repeat' (first | ((refine DecB.mk (fun h => ?_) (fun h => ?_)) <;> first | (exfalso; omega) | (conv => whnf)) | ((refine BoolB.mk (fun h => ?_) (fun h => ?_)) <;> first | (exact absurd h (by decide)) | (conv => whnf)) | ((first | refine zzW ?_ | refine zzI ?_ | refine zzR ?_ | refine zzB ?_ | refine late_ok rfl rfl ?_ | refine src_ok rfl ?_ | refine .inl ⟨_, _, qcall_pure (sb) rfl rfl, ?_⟩ | refine .inl ⟨_, _, qcall_pure (ad) rfl rfl, ?_⟩ | refine .inl ⟨_, _, qcall_pure (18) rfl rfl, ?_⟩ | refine ex_row (zero_get l hy) ?_ | refine lenK_map (matF_len _ _ _) ?_ | refine appK_nil ?_ | refine appK_ok ?_ | refine getK_map0 (matF_len _ _ _) ?_ | refine getK_map0 (lE _) ?_ | refine setK_map0 (matF_len _ _ _) ?_ | refine ex_ownRowE eS hsN ?_ | refine ex_ownRowE eD hdN ?_ | refine getK_mapA gs ?_ | refine getK_mapA (gd2 _) ?_ | refine ex_own xs ?_ | refine ex_own xd ?_ | refine setK_mapA lS (rowB_set (y := fz (f s k - y)) eK) ?_ | refine setK_mapA (lD _) (rowB_set (y := fz (f d k + y)) eK) ?_ | refine bar_late [18] (by decide +kernel) (by decide +kernel) ?_ | refine LitB.data ?_ | refine BoxB.own ?_); conv => whnf)))
    · have eM : ((matF N w (upTo k f (carryF x v f))).set s ((rowF w (upTo k f (carryF x v f) s)).set k (fz (f s k - y)))).set d ((rowF w (upTo k f (carryF x v f) d)).set k (fz (f d k + y))) = matF N w (upTo (k + 1) f (carryF x v f)) := by
        rw [rowF_set (by omega), rowF_set (by omega), matF_set hsN, matF_set hdN]
        congr 1
        funext p m
        have c1 : (x.src = (p : Int)) ↔ p = s := by omega
        have c2 : (x.dst = (p : Int)) ↔ p = d := by omega
        have cF : carryF x v f p m = if p = s then f p m - v m else if p = d then f p m + v m else f p m := by unfold carryF; simp only [c1, c2]
        have hds : d ≠ s := fun h => hsd h.symm
        simp only [upTo] at *
        by_cases hp : p = d
        · subst hp
          rw [if_neg hds, if_pos rfl] at cF
          rw [if_pos rfl, cF]
          rcases Nat.lt_trichotomy m k with h | h | h
          · rw [if_neg (by omega), if_pos h, if_pos (by omega)]
          · subst h; rw [if_pos rfl, if_pos (by omega), hv]
          · rw [if_neg (by omega), if_neg (by omega), if_neg (by omega)]
        · rw [if_neg hp]
          by_cases hp2 : p = s
          · subst hp2
            rw [if_pos rfl] at cF
            rw [if_pos rfl, cF]
            rcases Nat.lt_trichotomy m k with h | h | h
            · rw [if_neg (by omega), if_pos h, if_pos (by omega)]
            · subst h; rw [if_pos rfl, if_pos (by omega), hv]
            · rw [if_neg (by omega), if_neg (by omega), if_neg (by omega)]
          · rw [if_neg hp2, if_neg hp] at cF
            rw [if_neg hp2, cF]
            simp only [ite_self]
            unfold upTo
            rw [cF]; simp
      rw [eM]
      refine ⟨hlt, trivial, idR (N + 1), ent_firstA matH_len ?_ ok_matH ?_⟩
      · simp [matF_len]
      · exact ⟨⟨idR_get (by omega), rfl, rfl, fun h => h⟩, rfl, rfl, rfl, rfl, trivial⟩
    all_goals (exfalso; omega)
  · have hke : k = l.length := by omega
    subst hke
    have eM : matF N w (upTo l.length f (carryF x v f)) = matF N w (carryF x v f) := by
      unfold matF rowF
      refine List.map_congr_left fun p _ => List.map_congr_left fun m hm => ?_
      have := List.mem_range.1 hm
      simp only [upTo]
      rw [if_pos (by omega)]
    conv => whnf
    (repeat' (first | ((refine DecB.mk (fun h => ?_) (fun h => ?_)) <;> first | (exfalso; omega) | (conv => whnf)) | ((refine BoolB.mk (fun h => ?_) (fun h => ?_)) <;> first | (exact absurd h (by decide)) | (conv => whnf)) | ((first | refine zzW ?_ | refine zzI ?_ | refine zzR ?_ | refine zzB ?_ | refine late_ok rfl rfl ?_ | refine src_ok rfl ?_ | refine appK_nil ?_ | refine LitB.data ?_ | refine BoxB.own ?_); conv => whnf)))
    all_goals try (exfalso; omega)
    · refine fin_first (H' := matH N w (carryF x v f)) (n := N + 1) matH_len ?_ ok_matH ?_ ?_
      · simp [matF_len]
      · intro i _; rw [eM]
      · exact trivial
theorem a_taken (e : Ev) (x : Move) (N w : Nat) (f : Nat → Nat → Rat) (l : List Rat) (hl : l.length = w) (hw : w ≤ 1000) (s : Nat) (hs : x.src = s) (hsN : s < N) (p : Place) (hp : e.places[s]? = some p) (hB : ∀ x ∈ l, rl x ≤ 200) (hF : ∀ p m, rl (f p m) ≤ 50000) :
    ACall Tryz.prog 58 [histS (matF N w f), evS e, moveS x, fracsS (l.map fz)] [] (intS .i64 (takenE e f x l)) [] := by
  have m1 : ((l.map fz).map frRow).length = l.length := by simp
  have hk : kindAt e x.src = p.kind := by rw [hs]; exact kindAt_of hp
  have hsn : x.src.toNat = s := by omega
  unfold takenE
  rw [hk, hsn]
  by_cases hb : p.kind = 0
  · rw [if_pos hb]
    (refine acall_of tab_ok Tryz.func58 rfl (by decide) ?_; (conv => whnf); repeat (first | (refine LitB.data ?_; conv => whnf) | (refine BoxB.data ?_; conv => whnf)))
    (repeat' (first | ((refine DecB.mk (fun h => ?_) (fun h => ?_)) <;> first | (exfalso; omega) | (conv => whnf)) | ((refine BoolB.mk (fun h => ?_) (fun h => ?_)) <;> first | (exact absurd h (by decide)) | (conv => whnf)) | ((first | refine zzW ?_ | refine zzI ?_ | refine zzR ?_ | refine zzB ?_ | refine late_ok rfl rfl ?_ | refine src_ok rfl ?_ | refine ex_rowE (k := s) hs hp ?_ | refine LitB.data ?_ | refine BoxB.own ?_); conv => whnf)))
    all_goals first
      | (exfalso; omega)
      | exact fin_int rfl
  · rw [if_neg hb]
    (refine acall_of tab_ok Tryz.func58 rfl (by decide) ?_; (conv => whnf); repeat (first | (refine LitB.data ?_; conv => whnf) | (refine BoxB.data ?_; conv => whnf)))
    (repeat' (first | ((refine DecB.mk (fun h => ?_) (fun h => ?_)) <;> first | (exfalso; omega) | (conv => whnf)) | ((refine BoolB.mk (fun h => ?_) (fun h => ?_)) <;> first | (exact absurd h (by decide)) | (conv => whnf)) | ((first | refine zzW ?_ | refine zzI ?_ | refine zzR ?_ | refine zzB ?_ | refine late_ok rfl rfl ?_ | refine src_ok rfl ?_ | refine ex_rowE (k := s) hs hp ?_ | refine LitB.data ?_ | refine BoxB.own ?_); conv => whnf)))
    refine awp_while tab_ok (σ := Nat × Bool) (fun | (k, rest) => ([histS (matF N w f), J, J, J, J, J, S.c (C.t (T.ptr x.row)), J, J, boolS rest, J, J, J, J, J, J, J, J, J, J, fracsS (l.map fz), intS .i64 l.length, intS .i64 k, J, J, J, J, J, J, J, J, J, J, J, J, J, J, J, J, J, J, J, J, J, J, J, J], [])) (fun σ => σ.1 ≤ l.length ∧ takenF (f s) x.all (l.drop σ.1) σ.1 σ.2 = takenF (f s) x.all l 0 false) (fun σ => l.length - σ.1) (0, false) []
      ⟨Nat.zero_le _, rfl⟩ ⟨rfl, rfl, trivial, ⟨ent_t rfl, ent_t rfl, rfl, ent_t rfl, ent_i (by simp), rfl, trivial⟩⟩ ?_
    rintro ⟨k, rest⟩ ⟨hk, hI⟩
    have hk : k ≤ l.length := hk
    have hI : takenF (f s) x.all (l.drop k) k rest = takenF (f s) x.all l 0 false := hI
    by_cases hlt : k < l.length
    · obtain ⟨y, hy⟩ : ∃ y, l[k]? = some y := ⟨_, List.getElem?_eq_getElem hlt⟩
      have hd : l.drop k = y :: l.drop (k + 1) := by
        rw [List.drop_eq_getElem_cons hlt]
        rw [List.getElem?_eq_getElem hlt] at hy
        injection hy with hy
        rw [hy]
      have by1 := hB y (List.mem_of_getElem? hy)
      have b1 := hF s k
      have c := z_fCompare y (f s k) (by omega) (by omega)
      have cl := cmpR_lt (x := y) (y := f s k)
      have cg := cmpR_lt' (x := y) (y := f s k)
      have cr := cmpR_rng y (f s k)
      have gs : (matF N w f)[s]? = some (rowF w (f s)) := matF_get hsN
      have gk : (rowF w (f s))[k]? = some (fz (f s k)) := rowF_get (by omega)
      rw [hd] at hI
      have hI : (if f s k < y then 4 else takenF (f s) x.all (l.drop (k + 1)) (k + 1) (rest || decide (y < f s k))) = takenF (f s) x.all l 0 false := hI
      conv => whnf
      (repeat' (first | ((refine DecB.mk (fun h => ?_) (fun h => ?_)) <;> first | (exfalso; omega) | (conv => whnf)) | ((refine BoolB.mk (fun h => ?_) (fun h => ?_)) <;> first | (exact absurd h (by decide)) | (conv => whnf)) | ((first | refine zzW ?_ | refine zzI ?_ | refine zzR ?_ | refine zzB ?_ | refine late_ok rfl rfl ?_ | refine src_ok rfl ?_ | refine .inl ⟨_, _, qcall_pure (c) rfl rfl, ?_⟩ | refine ex_row (zero_get l hy) ?_ | refine ex_rowE (k := s) hs gs ?_ | refine ex_row gk ?_ | refine LitB.data ?_ | refine BoxB.own ?_); conv => whnf)))
      · have h1 : f s k < y := cg.1 (by omega)
        exact fin_int (by rw [← hI, if_pos h1])
      · have h1 : y < f s k := cl.1 (by omega)
        have h2 : ¬ f s k < y := fun h => by have := cg.2 h; omega
        rw [if_neg h2, show (rest || decide (y < f s k)) = true by simp [h1]] at hI
        exact ⟨[], (k + 1, true), ⟨rfl, rfl, trivial, ⟨rfl, rfl, rfl, rfl, rfl, ent_i (by omega), trivial⟩⟩, ⟨hlt, hI⟩, by show l.length - (k + 1) < l.length - k; omega⟩
      · have h1 : ¬ y < f s k := fun h => by have := cl.2 h; omega
        have h2 : ¬ f s k < y := fun h => by have := cg.2 h; omega
        rw [if_neg h2, show (rest || decide (y < f s k)) = rest by simp [h1]] at hI
        exact ⟨[], (k + 1, rest), ⟨rfl, rfl, trivial, ⟨rfl, rfl, rfl, rfl, rfl, ent_i (by omega), trivial⟩⟩, ⟨hlt, hI⟩, by show l.length - (k + 1) < l.length - k; omega⟩
    · have hke : k = l.length := by omega
      subst hke
      rw [List.drop_of_length_le (Nat.le_refl _)] at hI
      have hI : (if rest && x.all then 7 else 0) = takenF (f s) x.all l 0 false := hI
      cases rest <;> cases hxa : x.all <;> rw [hxa] at hI <;>
      · conv => whnf
        (repeat' (first | ((refine DecB.mk (fun h => ?_) (fun h => ?_)) <;> first | (exfalso; omega) | (conv => whnf)) | ((refine BoolB.mk (fun h => ?_) (fun h => ?_)) <;> first | (exact absurd h (by decide)) | (conv => whnf)) | ((first | refine zzW ?_ | refine zzI ?_ | refine zzR ?_ | refine zzB ?_ | refine late_ok rfl rfl ?_ | refine src_ok rfl ?_ | refine LitB.data ?_ | refine BoxB.own ?_); conv => whnf)))
        all_goals first
          | (exfalso; omega)
          | (exfalso; simp_all; done)
          | exact fin_int (by rw [← hI]; rfl)
end Go.Proofs.YtfieodjihaodiaaGreat
/- history: none. -/
namespace Go.Proofs.YtfieodjihaodiaaGreat
open Go.RowKit
set_option linter.unusedVariables false
set_option linter.unusedSimpArgs false
set_option maxRecDepth 100000

def noneRows (k N w : Nat) : List (List C) := (List.range N).map fun j => if j < k then [C.own (j + 1) 0 w true] else [C.t (.sl 0 .nil [])]
abbrev noneB (k N w : Nat) : Blk := { mode := .live, elem := 30, size := 1, rows := noneRows k N w, box := false }
theorem noneRows_len (k N w : Nat) : (noneRows k N w).length = N := by simp [noneRows]
theorem noneRows_get {k N w j : Nat} (h : j < N) : (noneRows k N w)[j]? = some (if j < k then [C.own (j + 1) 0 w true] else [C.t (.sl 0 .nil [])]) := by simp [noneRows, h]
theorem noneRows_set {k N w : Nat} (h : k < N) : (noneRows k N w).set k [C.own (k + 1) 0 w true] = noneRows (k + 1) N w := by
  apply List.ext_getElem?
  intro j
  by_cases hj : j < N
  · rw [noneRows_get hj, List.getElem?_set, noneRows_len]
    by_cases hjk : k = j
    · subst hjk; simp [h]
    · rw [if_neg hjk, noneRows_get hj]
      have : (j < k + 1) ↔ (j < k) := by omega
      simp only [this]
  · rw [List.getElem?_eq_none (by simp [noneRows_len]; omega), List.getElem?_eq_none (by simp [noneRows_len]; omega)]
theorem noneRows_all (N w : Nat) : noneRows N N w = ownRows N w := by
  unfold noneRows ownRows
  refine List.map_congr_left fun j hj => ?_
  rw [if_pos (List.mem_range.1 hj)]
theorem noneRows_none (N w : Nat) : noneRows 0 N w = List.replicate N [C.t (.sl 0 .nil [])] := by
  apply List.ext_getElem?
  intro j
  by_cases hj : j < N
  · rw [noneRows_get hj]; simp [hj]
  · rw [List.getElem?_eq_none (by simp [noneRows_len]; omega), List.getElem?_eq_none (by simp; omega)]
abbrev zR : Rat := ((0 : Int) : Rat)
def partF (m w : Nat) : List Fr := (List.range w).map fun j => if j < m then fz zR else zeroF
theorem partF_len (m w : Nat) : (partF m w).length = w := by simp [partF]
theorem partF_get {m w j : Nat} (h : j < w) : (partF m w)[j]? = some (if j < m then fz zR else zeroF) := by simp [partF, h]
theorem partF_set {m w : Nat} (h : m < w) : (partF m w).set m (fz zR) = partF (m + 1) w := by
  apply List.ext_getElem?
  intro j
  by_cases hj : j < w
  · rw [partF_get hj, List.getElem?_set, partF_len]
    by_cases hjk : m = j
    · subst hjk; simp [h]
    · rw [if_neg hjk, partF_get hj]
      have : (j < m + 1) ↔ (j < m) := by omega
      simp only [this]
  · rw [List.getElem?_eq_none (by simp [partF_len]; omega), List.getElem?_eq_none (by simp [partF_len]; omega)]
theorem partF_all (w : Nat) : partF w w = rowF w (fun _ => zR) := by
  unfold partF rowF
  refine List.map_congr_left fun j hj => ?_
  rw [if_pos (List.mem_range.1 hj)]
theorem partF_zero (w : Nat) : partF 0 w = List.replicate w zeroF := by
  apply List.ext_getElem?
  intro j
  by_cases hj : j < w
  · rw [partF_get hj]; simp [hj]
  · rw [List.getElem?_eq_none (by simp [partF_len]; omega), List.getElem?_eq_none (by simp; omega)]
abbrev zRows (k w : Nat) : List (List Fr) := List.replicate k (rowF w fun _ => zR)
theorem zRows_all (N w : Nat) : zRows N w = matF N w (fun _ _ => zR) := by
  apply List.ext_getElem?
  intro j
  by_cases hj : j < N
  · rw [matF_get hj]; simp [hj]
  · rw [List.getElem?_eq_none (by simp; omega), List.getElem?_eq_none (by simp [matF_len]; omega)]
theorem zRows_len (k w : Nat) : (zRows k w).length = k := by simp
abbrev noneH (k N w : Nat) : Hp := noneB k N w :: (zRows k w).map rowB
theorem ok_noneB {k N w : Nat} (n : Nat) (h : k + 1 ≤ n) : okB n (noneB k N w) := by
  intro r hr c hc
  obtain ⟨j, hj, rfl⟩ := List.mem_map.1 hr
  by_cases hjk : j < k
  · rw [if_pos hjk] at hc; simp at hc; subst hc; show j + 1 < n; omega
  · rw [if_neg hjk] at hc; simp at hc; subst hc; trivial
theorem ok_noneH {k N w : Nat} : ∀ b ∈ noneH k N w, okB (k + 1) b := by
  intro b hb
  rcases List.mem_cons.1 hb with rfl | hb
  · exact ok_noneB _ (Nat.le_refl _)
  · obtain ⟨l, _, rfl⟩ := List.mem_map.1 hb
    exact okB_toC rfl
theorem noneH_len {k N w : Nat} : (noneH k N w).length = k + 1 := by simp
theorem a_none (e : Ev) (N w : Nat) (hN : e.places.length = N) (hw : e.mats = w) (hN1 : N ≤ 1000) (hw1 : w ≤ 1000) :
    ACall Tryz.prog 56 [evS e] [] (.c (.own 0 0 N true)) (matH N w fun _ _ => zR) := by
  have m1 : (e.places.map Place.row).length = N := by simp [hN]
  have i0 := z_fInt 0 (by decide) (by decide)
  have hwn : e.mats.toNat = w := by omega
  (refine acall_of tab_ok Tryz.func56 rfl (by decide) ?_; (conv => whnf); repeat (first | (refine LitB.data ?_; conv => whnf) | (refine BoxB.data ?_; conv => whnf)))
  (repeat' (first | ((refine DecB.mk (fun h => ?_) (fun h => ?_)) <;> first | (exfalso; omega) | (conv => whnf)) | ((refine BoolB.mk (fun h => ?_) (fun h => ?_)) <;> first | (exact absurd h (by decide)) | (conv => whnf)) | ((first | refine zzW ?_ | refine zzI ?_ | refine zzR ?_ | refine zzB ?_ | refine late_ok rfl rfl ?_ | refine src_ok rfl ?_ | refine mk_ok (by omega) (by omega) (by omega) (by decide) ?_ | refine LitB.data ?_ | refine BoxB.own ?_); conv => whnf)))
  refine awp_for tab_ok (fun k => ([J, S.c (C.t (T.ptr (evT e))), J, S.c (C.own 0 0 N true), J, J, J, J, J, J, J, intS .i64 N, intS .i64 k, J, J, J, J, J, J, J, J, J, J, J, J, J, J, J, J, J, J, J, J, J, J, J, J, J, J], noneH k N w)) N (fun _ => True) (idR 1) trivial ?_ ?_
  · refine ent_first rfl (by simp) ok_noneH (fun i hi => ?_) ?_
    · obtain rfl : i = 0 := by omega
      rw [show noneH 0 N w = [noneB 0 N w] from rfl]
      unfold noneB
      rw [noneRows_none]
      simp [newBlk, m1]
      exact .inr rfl
    · exact ⟨ent_t rfl, ⟨rfl, rfl, by omega, fun h => h⟩, ent_i (by omega), rfl, trivial⟩
  intro k hk _
  by_cases hlt : k < N
  · conv => whnf
    have gn : (noneB k N w).rows[0 + (k : Int).toNat]? = some [C.t (.sl 0 .nil [])] := by
      show (noneRows k N w)[0 + (k : Int).toNat]? = _
      rw [Nat.zero_add, show (k : Int).toNat = k by omega, noneRows_get hlt, if_neg (by omega)]
    have gn2 : ∀ c, ((noneB k N w).rows.set (0 + (k : Int).toNat) c)[0 + (k : Int).toNat]? = some c := fun c => by
      rw [List.getElem?_set_self]
      show _ < (noneRows k N w).length
      rw [noneRows_len]; omega
    (repeat' (first | ((refine DecB.mk (fun h => ?_) (fun h => ?_)) <;> first | (exfalso; omega) | (conv => whnf)) | ((refine BoolB.mk (fun h => ?_) (fun h => ?_)) <;> first | (exact absurd h (by decide)) | (conv => whnf)) | ((first | refine zzW ?_ | refine zzI ?_ | refine zzR ?_ | refine zzB ?_ | refine late_ok rfl rfl ?_ | refine src_ok rfl ?_ | refine mk_ok (by omega) (by omega) (by omega) (by decide) ?_ | refine lenK_map (zRows_len _ _) ?_ | refine appK_nil ?_ | refine appK_ok ?_ | refine ⟨_, gn, ?_⟩ | refine ⟨_, gn2 _, ?_⟩ | refine getK_map0 (zRows_len _ _) ?_ | refine LitB.data ?_ | refine BoxB.own ?_); conv => whnf)))
    refine awp_for tab_ok (fun m => ([J, S.c (C.t (T.ptr (evT e))), J, S.c (C.own 0 0 N true), intS .i64 k, J, J, J, J, J, J, intS .i64 N, intS .i64 k, J, J, J, J, J, J, J, J, J, J, J, J, intS .i64 w, intS .i64 m, J, J, J, J, J, J, J, J, J, J, J, J], noneB (k + 1) N w :: ((zRows k w).map rowB ++ [rowB (partF m w)]))) w (fun _ => True) (idR (k + 2)) trivial ?_ ?_
    · refine ent_mid (by simp) (by simp) ?_ (ok_noneB _ (by omega)) (fun _ => okB_toC rfl) ?_ ?_
      · unfold setRows noneB
        rw [Nat.zero_add, show (k : Int).toNat = k by omega, hwn]
        simp only
        rw [show k + (0 + 1) = k + 1 by omega, noneRows_set hlt]
      · refine ⟨rfl, rfl, rfl, .inr (entR_all ?_ ?_)⟩
        · simp [newBlk, toC, partF_len, hwn]
        · intro i x y hx hy
          simp only [newBlk, List.getElem?_replicate] at hx
          split at hx
          · rename_i hi
            injection hx with hx
            subst hx
            have hy : (toC ((partF 0 w).map frRow))[i]? = some y := hy
            rw [partF_zero] at hy
            simp only [toC, List.map_replicate, List.getElem?_replicate] at hy
            split at hy
            · injection hy with hy
              subst hy
              exact ⟨rfl, rfl, rfl, rfl, trivial⟩
            · cases hy
          · cases hx
      · exact ⟨rfl, ⟨idR_get (by omega), rfl, rfl, fun h => h⟩, rfl, rfl, rfl, ent_i (by omega), rfl, trivial⟩
    intro m hm _
    by_cases hmt : m < w
    · have gk : (noneB (k + 1) N w).rows[0 + (k : Int).toNat]? = some [C.own (k + 1) 0 w true] := by
        show (noneRows (k + 1) N w)[0 + (k : Int).toNat]? = _
        rw [Nat.zero_add, show (k : Int).toNat = k by omega, noneRows_get hlt, if_pos (by omega)]
      obtain ⟨pf, hpf⟩ : ∃ pf, (partF m w)[m]? = some pf := ⟨_, partF_get hmt⟩
      have gp : (partF m w)[0 + (m : Int).toNat]? = some pf := by rw [Nat.zero_add, show (m : Int).toNat = m by omega]; exact hpf
      have eM : 0 + (m : Int).toNat = m := by omega
      conv => whnf
      (repeat' (first | ((refine DecB.mk (fun h => ?_) (fun h => ?_)) <;> first | (exfalso; omega) | (conv => whnf)) | ((refine BoolB.mk (fun h => ?_) (fun h => ?_)) <;> first | (exact absurd h (by decide)) | (conv => whnf)) | ((first | refine zzW ?_ | refine zzI ?_ | refine zzR ?_ | refine zzB ?_ | refine late_ok rfl rfl ?_ | refine src_ok rfl ?_ | refine .inl ⟨_, _, qcall_pure (i0) rfl rfl, ?_⟩ | refine lenK_map (zRows_len _ _) ?_ | refine appK_nil ?_ | refine appK_ok ?_ | refine ⟨_, gk, ?_⟩ | refine getK_map0 (zRows_len _ _) ?_ | refine ex_own gp ?_ | refine setK_map0 (zRows_len _ _) ?_ | refine LitB.data ?_ | refine BoxB.own ?_); conv => whnf)))
      refine ⟨hmt, trivial, idR (k + 2), ent_mid (by simp) (by simp) rfl (ok_noneB _ (by omega)) (fun _ => okB_toC rfl) ?_ ?_⟩
      · have e := rowB_set (row := partF m w) (y := fz zR) eM
        rw [partF_set hmt] at e
        have e2 : setRows (rowB (partF m w)) ((rowB (partF m w)).rows.set (0 + (m : Int).toNat) (frC (fz zR))) = rowB (partF (m + 1) w) := e
        exact entB_eq e2 (okB_toC rfl)
      · exact ⟨rfl, ⟨idR_get (by omega), rfl, rfl, fun h => h⟩, rfl, rfl, rfl, rfl, rfl, trivial⟩
    · have hme : m = w := by omega
      subst hme
      have eH : (zRows k m).map rowB ++ [rowB (partF m m)] = (zRows (k + 1) m).map rowB := by
        rw [partF_all]; simp [zRows, List.replicate_succ']
      conv => whnf
      (repeat' (first | ((refine DecB.mk (fun h => ?_) (fun h => ?_)) <;> first | (exfalso; omega) | (conv => whnf)) | ((refine BoolB.mk (fun h => ?_) (fun h => ?_)) <;> first | (exact absurd h (by decide)) | (conv => whnf)) | ((first | refine zzW ?_ | refine zzI ?_ | refine zzR ?_ | refine zzB ?_ | refine late_ok rfl rfl ?_ | refine src_ok rfl ?_ | refine appK_nil ?_ | refine LitB.data ?_ | refine BoxB.own ?_); conv => whnf)))
      all_goals try (exfalso; omega)
      refine ⟨hlt, trivial, idR (k + 2), ent_first (H' := noneH (k + 1) N m) noneH_len (by simp) ok_noneH (fun i _ => by rw [eH]) ?_⟩
      exact ⟨rfl, ⟨idR_get (by omega), rfl, rfl, fun h => h⟩, rfl, rfl, trivial⟩
  · have hke : k = N := by omega
    subst hke
    conv => whnf
    (repeat' (first | ((refine DecB.mk (fun h => ?_) (fun h => ?_)) <;> first | (exfalso; omega) | (conv => whnf)) | ((refine BoolB.mk (fun h => ?_) (fun h => ?_)) <;> first | (exact absurd h (by decide)) | (conv => whnf)) | ((first | refine zzW ?_ | refine zzI ?_ | refine zzR ?_ | refine zzB ?_ | refine late_ok rfl rfl ?_ | refine src_ok rfl ?_ | refine appK_nil ?_ | refine LitB.data ?_ | refine BoxB.own ?_); conv => whnf)))
    all_goals try (exfalso; omega)
    refine fin_first (H' := matH k w fun _ _ => zR) (n := k + 1) matH_len (by simp) ok_matH (fun i _ => ?_) ?_
    · unfold matH
      rw [← zRows_all]
      unfold noneB matB
      rw [noneRows_all]
    · exact ⟨idR_get (by omega), rfl, rfl, fun h => h⟩
end Go.Proofs.YtfieodjihaodiaaGreat
