/- Package flow: Lifts, Into, Out. -/
import Derived.Test.YthjgbjakpbfnoaaA14d
namespace Go.Proofs.Ythjgbjakpbfnoaa
open Go.RowKit
set_option linter.unusedVariables false
set_option linter.unusedSimpArgs false
set_option maxRecDepth 100000

abbrev boxT (n : Int) : T := .ptr [ti n]
theorem a_LiftsIs (e : Ev) (hs : e.Sized) (h0 : check e = 0) (m : Move) (hm : m ∈ e.moves) (hh mat lo hi : Int) :
    ACall Try.prog 48 (moveS m :: [T.ptr (evT e), boxT hh, boxT mat, boxT lo, boxT hi].map fun x => .c (.t x)) [] (boolS (liftIs e hh mat lo hi m)) [] := by
  have l1 := hs.s1
  have l2 : (e.places.map Place.row).length = e.places.length := by simp
  have hmk := check_move h0 hm
  have h1 := moveOk_src hmk
  obtain ⟨x, hx⟩ : ∃ x, e.places[m.src.toNat]? = some x := ⟨_, List.getElem?_eq_getElem (by omega)⟩
  (refine acall_of tab_ok Try.func48 rfl (by decide) ?_; conv => whnf)
  (repeat' (first | ((refine DecB.mk (fun h => ?_) (fun h => ?_)) <;> first | (exfalso; omega) | (conv => whnf)) | ((refine BoolB.mk (fun h => ?_) (fun h => ?_)) <;> first | (exact absurd h (by decide)) | (conv => whnf)) | (refine ⟨_, wrap_ok (by omega) (by omega), ?_⟩; conv => whnf) | (refine and_idx (by omega) (by omega) ?_; conv => whnf) | (refine reg_ok (by decide +kernel) ?_; conv => whnf) | (refine bar_ok (by decide +kernel) ?_; conv => whnf) | (refine src_ok rfl ?_; conv => whnf) | (refine .inl ⟨_, _, qcall_pure (a_between _ _ _) rfl rfl, ?_⟩; conv => whnf) | (refine ex_rowI h1.1 hx ?_; conv => whnf)))
  all_goals (refine fin_bool ?_; unfold liftIs; rw [hx]; simp_all; done)

theorem a_IntoIs (m : Move) (p : Int) : ACall Try.prog 50 (moveS m :: [boxT p].map fun x => .c (.t x)) [] (boolS (decide (m.dst = p))) [] := by
  (refine acall_of tab_ok Try.func50 rfl (by decide) ?_; conv => whnf)
  (repeat' (first | ((refine DecB.mk (fun h => ?_) (fun h => ?_)) <;> first | (exfalso; omega) | (conv => whnf)) | ((refine BoolB.mk (fun h => ?_) (fun h => ?_)) <;> first | (exact absurd h (by decide)) | (conv => whnf)) | (refine ⟨_, wrap_ok (by omega) (by omega), ?_⟩; conv => whnf) | (refine and_idx (by omega) (by omega) ?_; conv => whnf) | (refine reg_ok (by decide +kernel) ?_; conv => whnf) | (refine bar_ok (by decide +kernel) ?_; conv => whnf) | (refine src_ok rfl ?_; conv => whnf)))
  all_goals (refine fin_bool ?_; simp_all; done)
theorem a_OutIs (m : Move) (p : Int) : ACall Try.prog 51 (moveS m :: [boxT p].map fun x => .c (.t x)) [] (boolS (decide (m.src = p))) [] := by
  (refine acall_of tab_ok Try.func51 rfl (by decide) ?_; conv => whnf)
  (repeat' (first | ((refine DecB.mk (fun h => ?_) (fun h => ?_)) <;> first | (exfalso; omega) | (conv => whnf)) | ((refine BoolB.mk (fun h => ?_) (fun h => ?_)) <;> first | (exact absurd h (by decide)) | (conv => whnf)) | (refine ⟨_, wrap_ok (by omega) (by omega), ?_⟩; conv => whnf) | (refine and_idx (by omega) (by omega) ?_; conv => whnf) | (refine reg_ok (by decide +kernel) ?_; conv => whnf) | (refine bar_ok (by decide +kernel) ?_; conv => whnf) | (refine src_ok rfl ?_; conv => whnf)))
  all_goals (refine fin_bool ?_; simp_all; done)

theorem a_Lifts (e : Ev) (hs : e.Sized) (hh mat lo hi : Int) : ACall Try.prog 17 [evS e, intS .i64 hh, intS .i64 mat, intS .i64 lo, intS .i64 hi] [] (intsS (lifts e hh mat lo hi)) [] := by
  have l1 := hs.s2
  have l2 : (e.moves.map Move.row).length = e.moves.length := by simp
  (refine acall_of tab_ok Try.func17 rfl (by decide) ?_; conv => whnf)
  refine .inr ⟨_, _, acall_freeze [0, 1, 2, 3, 4] (a_moves e hs (e.moves.map Move.row).length 48 [T.ptr (evT e), boxT hh, boxT mat, boxT lo, boxT hi] (liftIs e hh mat lo hi) fun k m hm h0 => a_LiftsIs e hs h0 m (List.mem_of_getElem? hm) hh mat lo hi)
    ⟨vs_ev e, vs_t, vs_c (vc_fn ?_), trivial⟩ rfl, ?_⟩
  · refine vl_cons (vc_ptr (by simp) rfl (by intro h; cases h) rfl rfl) (vl_cons (vc_ptr (by simp) rfl (by intro h; cases h) rfl rfl) (vl_cons (vc_ptr (by simp) rfl (by intro h; cases h) rfl rfl) (vl_cons (vc_ptr (by simp) rfl (by intro h; cases h) rfl rfl) (vl_cons (vc_ptr (by simp) rfl (by intro h; cases h) rfl rfl) vl_nil))))
  conv => whnf
  (repeat' (first | ((refine DecB.mk (fun h => ?_) (fun h => ?_)) <;> first | (exfalso; omega) | (conv => whnf)) | ((refine BoolB.mk (fun h => ?_) (fun h => ?_)) <;> first | (exact absurd h (by decide)) | (conv => whnf)) | (refine ⟨_, wrap_ok (by omega) (by omega), ?_⟩; conv => whnf) | (refine and_idx (by omega) (by omega) ?_; conv => whnf) | (refine reg_ok (by decide +kernel) ?_; conv => whnf) | (refine bar_ok (by decide +kernel) ?_; conv => whnf) | (refine src_ok rfl ?_; conv => whnf)))
  refine fin_t ?_
  have : (if check e = 0 then pickFrom (fun k m => decide ((k : Int) < (e.moves.map Move.row).length) && liftIs e hh mat lo hi m) 0 e.moves else []) = lifts e hh mat lo hi := by
    unfold lifts
    split
    · refine pickFrom_congr _ e.moves.length (fun k m hk => ?_) 0 (by omega)
      simp; intro _; omega
    · rfl
  rw [← this]
  exact rfl
theorem a_Into (e : Ev) (hs : e.Sized) (p n : Int) : ACall Try.prog 19 [evS e, intS .i64 p, intS .i64 n] [] (intsS (into e p n)) [] := by
  (refine acall_of tab_ok Try.func19 rfl (by decide) ?_; conv => whnf)
  refine .inr ⟨_, _, acall_freeze [0, 1] (a_moves e hs n 50 [boxT p] (fun m => decide (m.dst = p)) fun k m hm h0 => a_IntoIs m p)
    ⟨vs_ev e, vs_t, vs_c (vc_fn (vl_cons (vc_ptr (by simp) rfl (by intro h; cases h) rfl rfl) vl_nil)), trivial⟩ rfl, ?_⟩
  conv => whnf
  (repeat' (first | ((refine DecB.mk (fun h => ?_) (fun h => ?_)) <;> first | (exfalso; omega) | (conv => whnf)) | ((refine BoolB.mk (fun h => ?_) (fun h => ?_)) <;> first | (exact absurd h (by decide)) | (conv => whnf)) | (refine ⟨_, wrap_ok (by omega) (by omega), ?_⟩; conv => whnf) | (refine and_idx (by omega) (by omega) ?_; conv => whnf) | (refine reg_ok (by decide +kernel) ?_; conv => whnf) | (refine bar_ok (by decide +kernel) ?_; conv => whnf) | (refine src_ok rfl ?_; conv => whnf)))
  refine fin_t ?_
  exact rfl
theorem a_Out (e : Ev) (hs : e.Sized) (p n : Int) : ACall Try.prog 21 [evS e, intS .i64 p, intS .i64 n] [] (intsS (outOf e p n)) [] := by
  (refine acall_of tab_ok Try.func21 rfl (by decide) ?_; conv => whnf)
  refine .inr ⟨_, _, acall_freeze [0, 1] (a_moves e hs n 51 [boxT p] (fun m => decide (m.src = p)) fun k m hm h0 => a_OutIs m p)
    ⟨vs_ev e, vs_t, vs_c (vc_fn (vl_cons (vc_ptr (by simp) rfl (by intro h; cases h) rfl rfl) vl_nil)), trivial⟩ rfl, ?_⟩
  conv => whnf
  (repeat' (first | ((refine DecB.mk (fun h => ?_) (fun h => ?_)) <;> first | (exfalso; omega) | (conv => whnf)) | ((refine BoolB.mk (fun h => ?_) (fun h => ?_)) <;> first | (exact absurd h (by decide)) | (conv => whnf)) | (refine ⟨_, wrap_ok (by omega) (by omega), ?_⟩; conv => whnf) | (refine and_idx (by omega) (by omega) ?_; conv => whnf) | (refine reg_ok (by decide +kernel) ?_; conv => whnf) | (refine bar_ok (by decide +kernel) ?_; conv => whnf) | (refine src_ok rfl ?_; conv => whnf)))
  refine fin_t ?_
  exact rfl
end Go.Proofs.Ythjgbjakpbfnoaa
