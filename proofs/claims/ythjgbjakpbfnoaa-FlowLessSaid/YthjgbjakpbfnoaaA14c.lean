/- Package flow: Check. -/
import Derived.Test.YthjgbjakpbfnoaaA14b
namespace Go.Proofs.Ythjgbjakpbfnoaa
open Go.RowKit
set_option linter.unusedVariables false
set_option linter.unusedSimpArgs false
set_option maxRecDepth 100000

def lastD (e : Ev) : Nat → Int
  | 0 => 0
  | k + 1 => ((e.moves[k]?).map (·.day)).getD 0
theorem lastD_succ {e : Ev} {k : Nat} {m : Move} (h : e.moves[k]? = some m) : lastD e (k + 1) = m.day := by simp [lastD, h]
theorem drop_get {α : Type} {l : List α} {k : Nat} {x : α} (h : l[k]? = some x) : l.drop k = x :: l.drop (k + 1) := by
  obtain ⟨h1, h2⟩ := List.getElem?_eq_some_iff.1 h
  rw [List.drop_eq_getElem_cons h1, h2]

theorem a_Check (e : Ev) (hs : e.Sized) : ACall Try.prog 12 [evS e] [] (intS .i64 (check e)) [] := by
  have l7 := hs.s2
  have l8 : (e.moves.map Move.row).length = e.moves.length := by simp
  (refine acall_of tab_ok Try.func12 rfl (by decide) ?_; conv => whnf)
  (repeat' (first | ((refine DecB.mk (fun h => ?_) (fun h => ?_)) <;> first | (exfalso; omega) | (conv => whnf)) | ((refine BoolB.mk (fun h => ?_) (fun h => ?_)) <;> first | (exact absurd h (by decide)) | (conv => whnf)) | (refine ⟨_, wrap_ok (by omega) (by omega), ?_⟩; conv => whnf) | (refine and_idx (by omega) (by omega) ?_; conv => whnf) | (refine reg_ok (by decide +kernel) ?_; conv => whnf) | (refine bar_ok (by decide +kernel) ?_; conv => whnf) | (refine src_ok rfl ?_; conv => whnf) | (refine .inl ⟨_, _, qcall_pure (a_full _ hs) rfl rfl, ?_⟩; conv => whnf) | (refine .inl ⟨_, _, qcall_pure (a_places _ hs) rfl rfl, ?_⟩; conv => whnf)))
  case refine_2.refine_2.refine_2.refine_2.refine_1 hf h1 h2 h3 =>
    have h4 := h
    clear h
    have hpre : ¬(e.mats < 1 ∨ e.hhs < 0 ∨ e.scs < 0 ∨ e.places.all (placeOk e) = false) := by
      rintro (h | h | h | h)
      · omega
      · omega
      · omega
      · rw [h4] at h; cases h
    have hck : check e = if movesErr e 0 e.moves ≠ 0 then movesErr e 0 e.moves else if saidOk e then 0 else 1 := by
      unfold check; rw [if_neg (by simp [hf]), if_neg hpre]
    refine awp_for tab_ok (fun k => ([S.junk, S.c (C.ptr 0 0 0), S.junk, intS .i64 (lastD e k), S.junk, S.junk, S.junk, S.junk, S.junk, S.junk, S.junk, S.junk, S.junk, S.junk, S.junk, S.junk, S.junk, S.junk, S.junk, S.junk, S.junk, S.junk, S.junk, S.junk, S.junk, S.junk, S.junk, S.junk, S.junk, S.c (C.t (movesT e.moves)), intS .i64 e.moves.length, intS .i64 k, S.junk, S.junk, S.junk, S.junk, S.junk, S.junk, S.junk, S.junk, S.junk, S.junk, S.junk, S.junk, S.junk, S.junk, S.junk, S.junk, S.junk, S.junk, S.junk, S.junk, S.junk, S.junk], [evB e])) e.moves.length (fun k => movesErr e 0 e.moves = movesErr e (lastD e k) (e.moves.drop k)) [some 0] rfl
      ⟨rfl, rfl, ⟨⟨rfl, rfl, rfl, .inl ⟨rfl, rowsT_ev e⟩⟩, trivial⟩, ⟨⟨rfl, rfl, rfl⟩, ent_i rfl, ent_t rfl, ent_i (by simp), ent_i rfl, trivial⟩⟩ ?_
    intro k hk hI
    conv => whnf
    (repeat' (first | ((refine DecB.mk (fun h => ?_) (fun h => ?_)) <;> first | (exfalso; omega) | (conv => whnf)) | ((refine BoolB.mk (fun h => ?_) (fun h => ?_)) <;> first | (exact absurd h (by decide)) | (conv => whnf)) | (refine ⟨_, wrap_ok (by omega) (by omega), ?_⟩; conv => whnf) | (refine and_idx (by omega) (by omega) ?_; conv => whnf) | (refine reg_ok (by decide +kernel) ?_; conv => whnf) | (refine bar_ok (by decide +kernel) ?_; conv => whnf) | (refine src_ok rfl ?_; conv => whnf)))
    · have hlt : k < e.moves.length := by omega
      obtain ⟨x, hx⟩ : ∃ x, e.moves[k]? = some x := ⟨_, List.getElem?_eq_getElem hlt⟩
      rw [drop_get hx, movesErr] at hI
      refine ex_row hx ?_
      conv => whnf
      (repeat' (first | ((refine DecB.mk (fun h => ?_) (fun h => ?_)) <;> first | (exfalso; omega) | (conv => whnf)) | ((refine BoolB.mk (fun h => ?_) (fun h => ?_)) <;> first | (exact absurd h (by decide)) | (conv => whnf)) | (refine ⟨_, wrap_ok (by omega) (by omega), ?_⟩; conv => whnf) | (refine and_idx (by omega) (by omega) ?_; conv => whnf) | (refine reg_ok (by decide +kernel) ?_; conv => whnf) | (refine bar_ok (by decide +kernel) ?_; conv => whnf) | (refine src_ok rfl ?_; conv => whnf) | (refine .inl ⟨_, _, qcall_pure (a_move _ x hs) rfl rfl, ?_⟩; conv => whnf)))
      all_goals first
        | (refine ⟨hlt, ?_, [some 0], rfl, rfl, ⟨⟨rfl, rfl, rfl, .inl ⟨rfl, rowsT_ev e⟩⟩, trivial⟩, ⟨⟨rfl, rfl, rfl⟩, ?_, rfl, rfl, rfl, trivial⟩⟩
           · rw [lastD_succ hx, hI, if_neg (by omega), if_pos (by assumption)]
           · rw [lastD_succ hx]; exact rfl)
        | (have e1 : movesErr e 0 e.moves = 17 := by rw [hI, if_pos (by omega)]
           refine fin_int ?_; rw [hck, e1]; rfl)
        | (have e1 : movesErr e 0 e.moves = 1 := by rw [hI, if_neg (by omega), if_neg (by simp_all)]
           refine fin_int ?_; rw [hck, e1]; rfl)
    · rw [List.drop_eq_nil_of_le (by omega), movesErr] at hI
      (repeat' (first | ((refine DecB.mk (fun h => ?_) (fun h => ?_)) <;> first | (exfalso; omega) | (conv => whnf)) | ((refine BoolB.mk (fun h => ?_) (fun h => ?_)) <;> first | (exact absurd h (by decide)) | (conv => whnf)) | (refine ⟨_, wrap_ok (by omega) (by omega), ?_⟩; conv => whnf) | (refine and_idx (by omega) (by omega) ?_; conv => whnf) | (refine reg_ok (by decide +kernel) ?_; conv => whnf) | (refine bar_ok (by decide +kernel) ?_; conv => whnf) | (refine src_ok rfl ?_; conv => whnf) | (refine .inl ⟨_, _, qcall_pure (a_said _ hs) rfl rfl, ?_⟩; conv => whnf)))
      all_goals (refine fin_int ?_; rw [hck, hI]; simp_all)
  all_goals (refine fin_int ?_; unfold check; simp_all; try omega)
end Go.Proofs.Ythjgbjakpbfnoaa
