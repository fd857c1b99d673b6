/- The law FlowLifts, walked. -/
import Derived.Test.YthjgbjakpbfnoaaA14f
namespace Go.Proofs.Ythjgbjakpbfnoaa
open Go.RowKit
set_option linter.unusedVariables false
set_option linter.unusedSimpArgs false
set_option maxRecDepth 100000

theorem few_sized {e : Ev} (h : few e = true) : e.Sized := by
  simp [few] at h
  exact ⟨by omega, by omega, by omega, by omega, by omega⟩

theorem add_len {α β : Type} {f : α → β} {l : List α} {a b : Nat} (h : b = a + l.length) : (a : Int) + ((l.map f).length : Int) = (b : Int) := by
  subst h; simp
set_option maxHeartbeats 4000000 in
theorem a_FlowLifts (e : Ev) (hh mat lo hi cut : Int) (hc1 : -9223372036854775808 ≤ cut) (hc2 : hi ≤ 9223372036854775807) :
    ACall Try.prog 5 [evS e, intS .i64 hh, intS .i64 mat, intS .i64 lo, intS .i64 hi, intS .i64 cut] [] (boolS true) [] := by
  cases hf : few e with
  | false =>
    have f0 := a_Few e
    rw [hf] at f0
    (refine acall_of tab_ok Try.func5 rfl (by decide) ?_; conv => whnf)
    (repeat' (first | ((refine DecB.mk (fun h => ?_) (fun h => ?_)) <;> first | (exfalso; omega) | (conv => whnf)) | ((refine BoolB.mk (fun h => ?_) (fun h => ?_)) <;> first | (exact absurd h (by decide)) | (conv => whnf)) | (refine ⟨_, wrap_ok (by omega) (by omega), ?_⟩; conv => whnf) | (refine and_idx (by omega) (by omega) ?_; conv => whnf) | (refine reg_ok (by decide +kernel) ?_; conv => whnf) | (refine bar_ok (by decide +kernel) ?_; conv => whnf) | (refine src_ok rfl ?_; conv => whnf) | (refine .inl ⟨_, _, qcall_pure (a_small) rfl rfl, ?_⟩; conv => whnf) | (refine .inl ⟨_, _, qcall_pure (f0) rfl rfl, ?_⟩; conv => whnf)))
    all_goals first | exact fin_bool rfl | (exfalso; simp_all; done)
  | true =>
    have hs := few_sized hf
    have f0 := a_Few e
    rw [hf] at f0
    by_cases h0 : check e = 0
    · have c0 := a_Check e hs
      rw [h0] at c0
      have l7 := hs.s2
      have l8 : (e.moves.map Move.row).length = e.moves.length := by simp
      have l9 : (e.places.map Place.row).length = e.places.length := by simp
      have ll : ∀ a b c d, (lifts e a b c d).length ≤ e.moves.length := fun a b c d => by
        unfold lifts
        split
        all_goals first | exact length_pickFrom _ _ _ | exact Nat.zero_le _
      have as0 := a_ascending (lifts e hh mat lo hi) (e.moves.map Move.row).length (by have := ll hh mat lo hi; omega) (by rw [l8]; exact lifts_asc _ _ _ _ _)
      (refine acall_of tab_ok Try.func5 rfl (by decide) ?_; conv => whnf)
      (repeat' (first | ((refine DecB.mk (fun h => ?_) (fun h => ?_)) <;> first | (exfalso; omega) | (conv => whnf)) | ((refine BoolB.mk (fun h => ?_) (fun h => ?_)) <;> first | (exact absurd h (by decide)) | (conv => whnf)) | (refine ⟨_, wrap_ok (by omega) (by omega), ?_⟩; conv => whnf) | (refine and_idx (by omega) (by omega) ?_; conv => whnf) | (refine reg_ok (by decide +kernel) ?_; conv => whnf) | (refine bar_ok (by decide +kernel) ?_; conv => whnf) | (refine src_ok rfl ?_; conv => whnf) | (refine .inl ⟨_, _, qcall_pure (a_small) rfl rfl, ?_⟩; conv => whnf) | (refine .inl ⟨_, _, qcall_pure (f0) rfl rfl, ?_⟩; conv => whnf) | (refine .inl ⟨_, _, qcall_pure (c0) rfl rfl, ?_⟩; conv => whnf) | (refine .inl ⟨_, _, qcall_pure (a_Lifts e hs _ _ _ _) rfl rfl, ?_⟩; conv => whnf) | (refine .inl ⟨_, _, qcall_pure (as0) rfl rfl, ?_⟩; conv => whnf)))
      have hl0 := ll hh mat lo hi
      have hk' : (lifts e hh mat lo hi).length ≤ 1000000 := by omega
      have l11 : ∀ a b c d, ((lifts e a b c d).map intRow).length ≤ 1000000 := fun a b c d => by have := ll a b c d; simp; omega
      have la := l11 hh mat lo cut
      have lb := l11 hh mat (cut + 1) hi
      have hca : ∀ a, cAll e a ≤ 1000000 := fun a => Nat.le_trans List.countP_le_length l7
      have hcs : ∀ a b, cSome e a b ≤ 1000000 := fun a b => Nat.le_trans List.countP_le_length l7
      have hcb : ∀ a, cBin e a ≤ 1000000 := fun a => Nat.le_trans List.countP_le_length l7
      have sm : lo ≤ cut → cut < hi → ACall Try.prog 16 [intsS (lifts e hh mat lo hi), intsS (lifts e hh mat lo cut ++ lifts e hh mat (cut + 1) hi)] [] (boolS true) [] := fun h1 h2 => by
        have := a_SameInts (lifts e hh mat lo hi) (lifts e hh mat lo cut ++ lifts e hh mat (cut + 1) hi) (by omega) (by rw [← lifts_cut h0 h1 h2]; omega)
        rwa [decide_eq_true (lifts_cut h0 h1 h2)] at this
      obtain ⟨N, hN⟩ : ∃ N : Nat, e.hhs = N := Int.eq_ofNat_of_zero_le (check_zero h0).2.2.1
      have hbig : e.mats ≤ 6 ∧ e.hhs ≤ 100 := by
        have := (check_zero h0).1
        simp [fullB] at this
        omega
      obtain ⟨M, hM⟩ : ∃ M : Nat, e.mats = M := Int.eq_ofNat_of_zero_le (by have := (check_zero h0).2.1; omega)
      refine awp_for tab_ok (fun k => ([S.junk, intS .i64 hh, intS .i64 mat, intS .i64 lo, intS .i64 hi, intS .i64 cut, S.c (C.ptr 0 0 0), S.junk, S.junk, S.junk, S.junk, S.junk, S.junk, boolS true, intsS (lifts e hh mat lo hi), intS .i64 k, S.junk, S.junk, S.junk, S.junk, S.junk, S.junk, S.junk, S.junk, S.junk, S.junk, S.junk, S.junk, S.junk, S.junk, S.junk, S.junk, S.junk, S.junk, S.junk, S.junk, S.junk, S.junk, S.junk, S.junk, S.junk, S.junk, S.junk, S.junk, S.junk, S.junk, S.junk, S.junk, S.junk, S.junk, S.junk, S.junk, S.junk, S.junk, S.junk, S.junk, S.junk, S.junk, S.junk, S.junk, S.junk, S.junk, S.junk, S.junk, S.junk, S.junk, S.junk, S.junk, S.junk, S.junk, S.junk, S.junk, S.junk, S.junk, S.junk, S.junk, S.junk, S.junk, S.junk, S.junk, S.junk, S.junk, S.junk, S.junk, S.junk, S.junk, S.junk, S.junk, S.junk, S.junk, S.junk, S.junk, S.junk, S.junk, S.junk, S.junk, S.junk, S.junk, S.junk, S.junk, S.junk, S.junk, S.junk, S.junk, S.junk, S.junk, S.junk, S.junk, S.junk, S.junk, S.junk, S.junk, S.junk, S.junk, S.junk, S.junk, S.junk, S.junk, S.junk, S.junk, S.junk, S.junk, S.junk, S.junk, S.junk, S.junk, S.junk, S.junk, S.junk, S.junk, S.junk, S.junk, S.junk, S.junk, S.junk, S.junk, S.junk, S.junk, S.junk, S.junk, S.junk, S.junk, S.junk, S.junk, S.junk, S.junk, S.junk, S.junk, S.junk, S.junk, S.junk, S.junk, S.junk, S.junk, S.junk, S.junk, S.junk, S.junk, S.junk, S.junk, S.junk, S.junk, S.junk, S.junk, S.junk, S.junk, S.junk, S.junk, S.junk, S.junk, S.junk, S.junk, S.junk, S.junk, S.junk, S.junk, S.junk, S.junk, S.junk, S.junk, S.junk, S.junk, S.junk, S.junk, S.junk], [evB e])) (lifts e hh mat lo hi).length (fun k => True) [some 0] trivial
        ⟨rfl, rfl, ⟨⟨rfl, rfl, rfl, .inl ⟨rfl, rowsT_ev e⟩⟩, trivial⟩, ⟨rfl, rfl, rfl, rfl, rfl, ⟨rfl, rfl, rfl⟩, rfl, rfl, rfl, trivial⟩⟩ ?_
      intro k hk hI
      have l10 : ((lifts e hh mat lo hi).map intRow).length = (lifts e hh mat lo hi).length := by simp
      conv => whnf
      (repeat' (first | ((refine DecB.mk (fun h => ?_) (fun h => ?_)) <;> first | (exfalso; omega) | (conv => whnf)) | ((refine BoolB.mk (fun h => ?_) (fun h => ?_)) <;> first | (exact absurd h (by decide)) | (conv => whnf)) | (refine ⟨_, wrap_ok (by omega) (by omega), ?_⟩; conv => whnf) | (refine and_idx (by omega) (by omega) ?_; conv => whnf) | (refine reg_ok (by decide +kernel) ?_; conv => whnf) | (refine bar_ok (by decide +kernel) ?_; conv => whnf) | (refine src_ok rfl ?_; conv => whnf)))
      · have hlt : k < (lifts e hh mat lo hi).length := by omega
        obtain ⟨x, hx⟩ : ∃ x, (lifts e hh mat lo hi)[k]? = some x := ⟨_, List.getElem?_eq_getElem hlt⟩
        obtain ⟨j, m, hm, hL, rfl⟩ := (lifts_mem h0).1 (List.mem_of_getElem? hx)
        obtain ⟨i, p, hsrc, hp, -⟩ := place_at h0 (List.mem_of_getElem? hm)
        rw [liftIs_of hp hsrc] at hL
        simp only [Bool.and_eq_true, Bool.or_eq_true, decide_eq_true_eq, btw_iff] at hL
        have hs1 : source e m.src = true := by
          have := moveOk_src (check_move h0 (List.mem_of_getElem? hm))
          simp [source, h0, idx_iff, hsrc, kindAt_of hp, hL.1.1.1]
          omega
        have s1 := a_Source e hs m.src
        rw [hs1] at s1
        (repeat' (first | ((refine DecB.mk (fun h => ?_) (fun h => ?_)) <;> first | (exfalso; omega) | (conv => whnf)) | ((refine BoolB.mk (fun h => ?_) (fun h => ?_)) <;> first | (exact absurd h (by decide)) | (conv => whnf)) | (refine ⟨_, wrap_ok (by omega) (by omega), ?_⟩; conv => whnf) | (refine and_idx (by omega) (by omega) ?_; conv => whnf) | (refine reg_ok (by decide +kernel) ?_; conv => whnf) | (refine bar_ok (by decide +kernel) ?_; conv => whnf) | (refine src_ok rfl ?_; conv => whnf) | (refine .inl ⟨_, _, qcall_pure (s1) rfl rfl, ?_⟩; conv => whnf) | (refine ex_row hx ?_; conv => whnf) | (refine ex_row hm ?_; conv => whnf) | (refine ex_rowE hsrc hp ?_; conv => whnf)))
        all_goals exact ⟨hlt, trivial, [some 0], rfl, rfl, ⟨⟨rfl, rfl, rfl, .inl ⟨rfl, rowsT_ev e⟩⟩, trivial⟩, ⟨rfl, rfl, rfl, rfl, rfl, ⟨rfl, rfl, rfl⟩, rfl, rfl, rfl, trivial⟩⟩
      all_goals clear hI hk
      all_goals (repeat' (first | ((refine DecB.mk (fun h => ?_) (fun h => ?_)) <;> first | (exfalso; omega) | (conv => whnf)) | ((refine BoolB.mk (fun h => ?_) (fun h => ?_)) <;> first | (exact absurd h (by decide)) | (conv => whnf)) | (refine ⟨_, wrap_ok (by omega) (by omega), ?_⟩; conv => whnf) | (refine and_idx (by omega) (by omega) ?_; conv => whnf) | (refine reg_ok (by decide +kernel) ?_; conv => whnf) | (refine bar_ok (by decide +kernel) ?_; conv => whnf) | (refine src_ok rfl ?_; conv => whnf) | (refine .inl ⟨_, _, qcall_pure (a_Lifts e hs _ _ _ _) rfl rfl, ?_⟩; conv => whnf) | (refine .inl ⟨_, _, qcall_pure (toC) rfl rfl, ?_⟩; conv => whnf) | (refine .inl ⟨_, _, qcall_pure (toC, newBlk) rfl rfl, ?_⟩; conv => whnf) | (refine .inl ⟨_, _, qcall_pure (toC) rfl rfl, ?_⟩; conv => whnf) | (refine .inl ⟨_, _, qcall_pure (toC, newBlk, List.take_of_length_le) rfl rfl, ?_⟩; conv => whnf) | (refine .inl ⟨_, _, qcall_pure (toC) rfl rfl, ?_⟩; conv => whnf) | (refine app_nil rfl (by simp [toC] at *; omega) ?_; conv => whnf) | (refine app_ok (by simp [toC, newBlk]) (by simp [toC] at *; omega) ?_; conv => whnf) | (refine .inl ⟨_, _, qcall_view (sm (by omega) (by omega)) ⟨vs_t, vs_c (vc_all trivial rfl (by intro h; cases h) rfl (by simp [toC, newBlk, List.take_of_length_le]) (by simp [toC])), trivial⟩ rfl, ?_⟩; conv => whnf)))
      all_goals
        refine awp_for tab_ok (fun k => ([S.junk, S.junk, S.junk, S.junk, S.junk, S.junk, S.c (C.ptr 0 0 0), S.junk, S.junk, S.junk, S.junk, S.junk, S.junk, boolS true, S.junk, S.junk, S.junk, S.junk, S.junk, intS .i64 (cAll e k), intS .i64 (cSome e k 0), intS .i64 k, S.junk, S.junk, S.junk, S.junk, S.junk, S.junk, S.junk, S.junk, S.junk, S.junk, S.junk, S.junk, S.junk, S.junk, S.junk, S.junk, S.junk, S.junk, S.junk, S.junk, S.junk, S.junk, S.junk, S.junk, S.junk, S.junk, S.junk, S.junk, S.junk, S.junk, S.junk, S.junk, S.junk, S.junk, S.junk, S.junk, S.junk, S.junk, S.junk, S.junk, S.junk, S.junk, S.junk, S.junk, S.junk, S.junk, S.junk, S.junk, S.junk, S.junk, S.junk, S.junk, S.junk, S.junk, S.junk, S.junk, S.junk, S.junk, S.junk, S.junk, S.junk, S.junk, S.junk, S.junk, S.junk, S.junk, S.junk, S.junk, S.junk, S.junk, S.junk, S.junk, S.junk, S.junk, S.junk, S.junk, S.junk, S.junk, S.junk, S.junk, S.junk, S.junk, S.junk, S.junk, S.junk, S.junk, S.junk, S.junk, S.junk, S.junk, S.junk, S.junk, S.junk, S.junk, S.junk, S.junk, S.junk, S.junk, S.junk, S.junk, S.junk, S.junk, S.junk, S.junk, S.junk, S.junk, S.junk, S.junk, S.junk, S.junk, S.junk, S.junk, S.junk, S.junk, S.junk, S.junk, S.junk, S.junk, S.junk, S.junk, S.junk, S.junk, S.junk, S.junk, S.junk, S.junk, S.junk, S.junk, S.junk, S.junk, S.junk, S.junk, S.junk, S.junk, S.junk, S.junk, S.junk, S.junk, S.junk, S.junk, S.junk, S.junk, S.junk, S.junk, S.junk, S.junk, S.junk, S.junk, S.junk, S.junk, S.junk, S.junk, S.junk, S.junk, S.junk, S.junk, S.junk, S.junk, S.junk, S.junk, S.junk, S.junk, S.junk], [evB e])) N (fun k => True) [some 0] trivial
          ⟨rfl, rfl, ⟨⟨rfl, rfl, rfl, .inl ⟨rfl, rowsT_ev e⟩⟩, trivial⟩, ⟨⟨rfl, rfl, rfl⟩, rfl, ent_i (congrArg Int.ofNat (cAll_zero h0).symm), ent_i (congrArg Int.ofNat (cSome_zero h0).symm), rfl, trivial⟩⟩ ?_
        intro g hg hI
        have hN6 : N ≤ 100 := by omega
        have w0 := l11 g (-1) 0 100000
        have w1 := hca g
        conv => whnf
        (repeat' (first | ((refine DecB.mk (fun h => ?_) (fun h => ?_)) <;> first | (exfalso; omega) | (conv => whnf)) | ((refine BoolB.mk (fun h => ?_) (fun h => ?_)) <;> first | (exact absurd h (by decide)) | (conv => whnf)) | (refine ⟨_, wrap_ok (by omega) (by omega), ?_⟩; conv => whnf) | (refine and_idx (by omega) (by omega) ?_; conv => whnf) | (refine reg_ok (by decide +kernel) ?_; conv => whnf) | (refine bar_ok (by decide +kernel) ?_; conv => whnf) | (refine src_ok rfl ?_; conv => whnf) | (refine .inl ⟨_, _, qcall_pure (a_Lifts e hs _ _ _ _) rfl rfl, ?_⟩; conv => whnf)))
        · refine awp_for tab_ok (fun k => ([S.junk, S.junk, S.junk, S.junk, S.junk, S.junk, S.c (C.ptr 0 0 0), S.junk, S.junk, S.junk, S.junk, S.junk, S.junk, boolS true, S.junk, S.junk, S.junk, S.junk, S.junk, intS .i64 (cAll e ((g + 1 : Nat) : Int)), intS .i64 (cSome e g k), intS .i64 g, S.junk, intS .i64 k, S.junk, S.junk, S.junk, S.junk, S.junk, S.junk, S.junk, S.junk, S.junk, S.junk, S.junk, S.junk, S.junk, S.junk, S.junk, S.junk, S.junk, S.junk, S.junk, S.junk, S.junk, S.junk, S.junk, S.junk, S.junk, S.junk, S.junk, S.junk, S.junk, S.junk, S.junk, S.junk, S.junk, S.junk, S.junk, S.junk, S.junk, S.junk, S.junk, S.junk, S.junk, S.junk, S.junk, S.junk, S.junk, S.junk, S.junk, S.junk, S.junk, S.junk, S.junk, S.junk, S.junk, S.junk, S.junk, S.junk, S.junk, S.junk, S.junk, S.junk, S.junk, S.junk, S.junk, S.junk, S.junk, S.junk, S.junk, S.junk, S.junk, S.junk, S.junk, S.junk, S.junk, S.junk, S.junk, S.junk, S.junk, S.junk, S.junk, S.junk, S.junk, S.junk, S.junk, S.junk, S.junk, S.junk, S.junk, S.junk, S.junk, S.junk, S.junk, S.junk, S.junk, S.junk, S.junk, S.junk, S.junk, S.junk, S.junk, S.junk, S.junk, S.junk, S.junk, S.junk, S.junk, S.junk, S.junk, S.junk, S.junk, S.junk, S.junk, S.junk, S.junk, S.junk, S.junk, S.junk, S.junk, S.junk, S.junk, S.junk, S.junk, S.junk, S.junk, S.junk, S.junk, S.junk, S.junk, S.junk, S.junk, S.junk, S.junk, S.junk, S.junk, S.junk, S.junk, S.junk, S.junk, S.junk, S.junk, S.junk, S.junk, S.junk, S.junk, S.junk, S.junk, S.junk, S.junk, S.junk, S.junk, S.junk, S.junk, S.junk, S.junk, S.junk, S.junk, S.junk, S.junk, S.junk, S.junk, S.junk, S.junk], [evB e])) M (fun k => True) [some 0] trivial
            ⟨rfl, rfl, ⟨⟨rfl, rfl, rfl, .inl ⟨rfl, rowsT_ev e⟩⟩, trivial⟩, ⟨⟨rfl, rfl, rfl⟩, rfl, ent_i (add_len (cAll_step h0 (g : Int))), rfl, rfl, rfl, trivial⟩⟩ ?_
          intro t ht hI
          have hM6 : M ≤ 6 := by omega
          have v0 := l11 g t 0 100000
          have v1 := hcs g t
          conv => whnf
          (repeat' (first | ((refine DecB.mk (fun h => ?_) (fun h => ?_)) <;> first | (exfalso; omega) | (conv => whnf)) | ((refine BoolB.mk (fun h => ?_) (fun h => ?_)) <;> first | (exact absurd h (by decide)) | (conv => whnf)) | (refine ⟨_, wrap_ok (by omega) (by omega), ?_⟩; conv => whnf) | (refine and_idx (by omega) (by omega) ?_; conv => whnf) | (refine reg_ok (by decide +kernel) ?_; conv => whnf) | (refine bar_ok (by decide +kernel) ?_; conv => whnf) | (refine src_ok rfl ?_; conv => whnf) | (refine .inl ⟨_, _, qcall_pure (a_Lifts e hs _ _ _ _) rfl rfl, ?_⟩; conv => whnf)))
          · have ht2 : t < M := by omega
            exact ⟨ht2, trivial, [some 0], rfl, rfl, ⟨⟨rfl, rfl, rfl, .inl ⟨rfl, rowsT_ev e⟩⟩, trivial⟩, ⟨⟨rfl, rfl, rfl⟩, rfl, rfl, ent_i (add_len (cSome_step h0 (g : Int) (t := (t : Int)) (by omega))), rfl, rfl, trivial⟩⟩
          · have hg2 : g < N := by omega
            have ht2 : e.mats = (t : Int) := by omega
            have hr := cSome_row h0 (g : Int)
            rw [ht2] at hr
            exact ⟨hg2, trivial, [some 0], rfl, rfl, ⟨⟨rfl, rfl, rfl, .inl ⟨rfl, rowsT_ev e⟩⟩, trivial⟩, ⟨⟨rfl, rfl, rfl⟩, rfl, rfl, ent_i (congrArg Int.ofNat hr), rfl, trivial⟩⟩
        · have hg2 : e.hhs = (g : Int) := by omega
          have ca := cAll_all h0
          have cs := cSome_all h0
          rw [hg2] at ca cs
          refine awp_for tab_ok (fun k => ([S.junk, S.junk, S.junk, S.junk, S.junk, S.junk, S.c (C.ptr 0 0 0), S.junk, S.junk, S.junk, S.junk, S.junk, S.junk, boolS true, S.junk, S.junk, S.junk, S.junk, S.junk, intS .i64 (cTot e), intS .i64 (cTot e), S.junk, S.junk, S.junk, intS .i64 (cBin e k), intS .i64 k, S.junk, S.junk, S.junk, S.junk, S.junk, S.junk, S.junk, S.junk, S.junk, S.junk, S.junk, S.junk, S.junk, S.junk, S.junk, S.junk, S.junk, S.junk, S.junk, S.junk, S.junk, S.junk, S.junk, S.junk, S.junk, S.junk, S.junk, S.junk, S.junk, S.junk, S.junk, S.junk, S.junk, S.junk, S.junk, S.junk, S.junk, S.junk, S.junk, S.junk, S.junk, S.junk, S.junk, S.junk, S.junk, S.junk, S.junk, S.junk, S.junk, S.junk, S.junk, S.junk, S.junk, S.junk, S.junk, S.junk, S.junk, S.junk, S.junk, S.junk, S.junk, S.junk, S.junk, S.junk, S.junk, S.junk, S.junk, S.junk, S.junk, S.junk, S.junk, S.junk, S.junk, S.junk, S.junk, S.junk, S.junk, S.junk, S.junk, S.junk, S.junk, S.junk, S.junk, S.junk, S.junk, S.junk, S.junk, S.junk, S.junk, S.junk, S.junk, S.junk, S.junk, S.junk, S.junk, S.junk, S.junk, S.junk, S.junk, S.junk, S.junk, S.junk, S.junk, S.junk, S.junk, S.junk, S.junk, S.junk, S.junk, S.junk, S.junk, S.junk, S.junk, S.junk, S.junk, S.junk, S.junk, S.junk, S.junk, S.junk, S.junk, S.junk, S.junk, S.junk, S.junk, S.junk, S.junk, S.junk, S.junk, S.junk, S.junk, S.junk, S.junk, S.junk, S.junk, S.junk, S.junk, S.junk, S.junk, S.junk, S.junk, S.junk, S.junk, S.junk, S.junk, S.junk, S.junk, S.junk, S.junk, S.junk, S.junk, S.junk, S.junk, S.junk, S.junk, S.junk, S.junk, S.junk, S.junk], [evB e])) e.places.length (fun k => True) [some 0] trivial
            ⟨rfl, rfl, ⟨⟨rfl, rfl, rfl, .inl ⟨rfl, rowsT_ev e⟩⟩, trivial⟩, ⟨⟨rfl, rfl, rfl⟩, rfl, ent_i (congrArg Int.ofNat ca), ent_i (congrArg Int.ofNat cs), ent_i (congrArg Int.ofNat (cBin_zero h0).symm), rfl, trivial⟩⟩ ?_
          intro p hp hI
          have v1 := hcb p
          have hpl := hs.s1
          have v0 : ((outOf e p (e.moves.map Move.row).length).map intRow).length ≤ 1000000 := by
            have : (outOf e p (e.moves.map Move.row).length).length ≤ e.moves.length := by
              unfold outOf
              split
              all_goals first | exact length_pickFrom _ _ _ | exact Nat.zero_le _
            simp at *; omega
          conv => whnf
          (repeat' (first | ((refine DecB.mk (fun h => ?_) (fun h => ?_)) <;> first | (exfalso; omega) | (conv => whnf)) | ((refine BoolB.mk (fun h => ?_) (fun h => ?_)) <;> first | (exact absurd h (by decide)) | (conv => whnf)) | (refine ⟨_, wrap_ok (by omega) (by omega), ?_⟩; conv => whnf) | (refine and_idx (by omega) (by omega) ?_; conv => whnf) | (refine reg_ok (by decide +kernel) ?_; conv => whnf) | (refine bar_ok (by decide +kernel) ?_; conv => whnf) | (refine src_ok rfl ?_; conv => whnf) | (refine .inl ⟨_, _, qcall_pure (a_Source e hs _) rfl rfl, ?_⟩; conv => whnf) | (refine .inl ⟨_, _, qcall_pure (a_Out e hs _ _) rfl rfl, ?_⟩; conv => whnf)))
          all_goals first
            | exact fin_bool rfl
            | (have hb := cBin_yes h0 ‹source e (p : Int) = true›
               rw [← l8] at hb
               exact ⟨by omega, trivial, [some 0], rfl, rfl, ⟨⟨rfl, rfl, rfl, .inl ⟨rfl, rowsT_ev e⟩⟩, trivial⟩, ⟨⟨rfl, rfl, rfl⟩, rfl, rfl, rfl, ent_i (add_len hb), rfl, trivial⟩⟩)
            | (have hb := cBin_no h0 (by omega) ‹source e (p : Int) = false›
               exact ⟨by omega, trivial, [some 0], rfl, rfl, ⟨⟨rfl, rfl, rfl, .inl ⟨rfl, rowsT_ev e⟩⟩, trivial⟩, ⟨⟨rfl, rfl, rfl⟩, rfl, rfl, rfl, ent_i (congrArg Int.ofNat hb.symm), rfl, trivial⟩⟩)
            | (exfalso
               have hb := cBin_all h0
               have hpe : e.places.length = p := by omega
               rw [hpe] at hb
               omega)
    · (refine acall_of tab_ok Try.func5 rfl (by decide) ?_; conv => whnf)
      (repeat' (first | ((refine DecB.mk (fun h => ?_) (fun h => ?_)) <;> first | (exfalso; omega) | (conv => whnf)) | ((refine BoolB.mk (fun h => ?_) (fun h => ?_)) <;> first | (exact absurd h (by decide)) | (conv => whnf)) | (refine ⟨_, wrap_ok (by omega) (by omega), ?_⟩; conv => whnf) | (refine and_idx (by omega) (by omega) ?_; conv => whnf) | (refine reg_ok (by decide +kernel) ?_; conv => whnf) | (refine bar_ok (by decide +kernel) ?_; conv => whnf) | (refine src_ok rfl ?_; conv => whnf) | (refine .inl ⟨_, _, qcall_pure (a_small) rfl rfl, ?_⟩; conv => whnf) | (refine .inl ⟨_, _, qcall_pure (f0) rfl rfl, ?_⟩; conv => whnf) | (refine .inl ⟨_, _, qcall_pure (a_Check e hs) rfl rfl, ?_⟩; conv => whnf)))
      all_goals first | exact fin_bool rfl | (exfalso; simp_all; done)
end Go.Proofs.Ythjgbjakpbfnoaa
