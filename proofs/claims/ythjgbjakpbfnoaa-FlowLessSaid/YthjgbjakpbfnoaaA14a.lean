/- Package flow: what its inner functions compute. -/
import Derived.Test.YthjgbjakpbfnoaaEnc
import Derived.Test.YthjgbjakpbfnoaaPlain14b
namespace Go.Proofs.Ythjgbjakpbfnoaa
open Go.RowKit
set_option linter.unusedVariables false
set_option linter.unusedSimpArgs false

theorem a_index (i n : Int) : ACall Try.prog 45 [intS .i64 i, intS .i64 n] [] (boolS (idx i n)) [] := by
  (refine acall_of tab_ok Try.func45 rfl (by decide) ?_; conv => whnf)
  (repeat' (first | ((refine DecB.mk (fun h => ?_) (fun h => ?_)) <;> first | (exfalso; omega) | (conv => whnf)) | ((refine BoolB.mk (fun h => ?_) (fun h => ?_)) <;> first | (exact absurd h (by decide)) | (conv => whnf)) | (refine ⟨_, wrap_ok (by omega) (by omega), ?_⟩; conv => whnf) | (refine and_idx (by omega) (by omega) ?_; conv => whnf) | (refine reg_ok (by decide +kernel) ?_; conv => whnf) | (refine bar_ok (by decide +kernel) ?_; conv => whnf) | (refine src_ok rfl ?_; conv => whnf)))
  all_goals (refine fin_bool ?_; simp only [idx]; simp; omega)

theorem a_between (n lo hi : Int) : ACall Try.prog 49 [intS .i64 n, intS .i64 lo, intS .i64 hi] [] (boolS (btw n lo hi)) [] := by
  (refine acall_of tab_ok Try.func49 rfl (by decide) ?_; conv => whnf)
  (repeat' (first | ((refine DecB.mk (fun h => ?_) (fun h => ?_)) <;> first | (exfalso; omega) | (conv => whnf)) | ((refine BoolB.mk (fun h => ?_) (fun h => ?_)) <;> first | (exact absurd h (by decide)) | (conv => whnf)) | (refine ⟨_, wrap_ok (by omega) (by omega), ?_⟩; conv => whnf) | (refine and_idx (by omega) (by omega) ?_; conv => whnf) | (refine reg_ok (by decide +kernel) ?_; conv => whnf) | (refine bar_ok (by decide +kernel) ?_; conv => whnf) | (refine src_ok rfl ?_; conv => whnf)))
  all_goals (refine fin_bool ?_; simp only [btw]; simp; omega)

def pairRow (p : Int × Int) : List T := [ti p.1, ti p.2]
def fullL (e : Ev) : List (Int × Int) := [(e.mats, 6), (e.hhs, 100), (e.scs, 30), (e.places.length, 100), (e.moves.length, 200), (e.certs.length, 100), (e.recalls.length, 30), (e.purities.length, 200)]
theorem fullB_any (e : Ev) : fullB e = (fullL e).any fun p => decide (p.2 < p.1) := by
  rw [Bool.eq_iff_iff]
  simp [fullB, fullL]
  omega
theorem any_take_succ {α : Type} {l : List α} {f : α → Bool} {k : Nat} {x : α} (h : l[k]? = some x) : (l.take (k + 1)).any f = ((l.take k).any f || f x) := by
  rw [List.take_add_one, h]; simp
theorem all_take_succ {α : Type} {l : List α} {f : α → Bool} {k : Nat} {x : α} (h : l[k]? = some x) : (l.take (k + 1)).all f = ((l.take k).all f && f x) := by
  rw [List.take_add_one, h]; simp
theorem any_of_get {α : Type} {l : List α} {f : α → Bool} {k : Nat} {x : α} (h : l[k]? = some x) (hf : f x = true) : l.any f = true := List.any_eq_true.2 ⟨x, List.mem_of_getElem? h, hf⟩
theorem all_of_get {α : Type} {l : List α} {f : α → Bool} {k : Nat} {x : α} (h : l[k]? = some x) (hf : f x = false) : l.all f = false := by
  rw [← Bool.not_eq_true, List.all_eq_true]; intro h'; rw [h' x (List.mem_of_getElem? h)] at hf; cases hf

set_option maxRecDepth 100000 in
theorem a_full (e : Ev) (hs : e.Sized) : ACall Try.prog 37 [evS e] [] (boolS (fullB e)) [] := by
  (refine acall_of tab_ok Try.func37 rfl (by decide) ?_; conv => whnf)
  have hl : (fullL e).length = 8 := rfl
  refine awp_for tab_ok (fun k => ([S.junk, S.junk, S.junk, S.junk, S.junk, S.junk, S.junk, S.junk, S.junk, S.junk, S.junk, S.junk, S.junk, S.junk, S.junk, S.junk, S.junk, S.junk, S.junk, S.junk, S.junk, S.junk, S.junk, S.junk, S.junk, S.junk, S.junk, S.junk, S.junk, S.junk, S.junk, S.junk, S.junk, S.junk, S.c (C.t (T.sl 2 .full ((fullL e).map pairRow))), intS .i64 8, intS .i64 k, S.junk, S.junk, S.junk, S.junk, S.junk, S.junk, S.junk, S.junk, S.junk], [])) 8 (fun k => ((fullL e).take k).any (fun p => decide (p.2 < p.1)) = false) [] rfl
    ⟨rfl, rfl, trivial, ⟨ent_t (by simp [fullL, pairRow]), rfl, rfl, trivial⟩⟩ ?_
  intro k hk hI
  conv => whnf
  (repeat' (first | ((refine DecB.mk (fun h => ?_) (fun h => ?_)) <;> first | (exfalso; omega) | (conv => whnf)) | ((refine BoolB.mk (fun h => ?_) (fun h => ?_)) <;> first | (exact absurd h (by decide)) | (conv => whnf)) | (refine ⟨_, wrap_ok (by omega) (by omega), ?_⟩; conv => whnf) | (refine and_idx (by omega) (by omega) ?_; conv => whnf) | (refine reg_ok (by decide +kernel) ?_; conv => whnf) | (refine bar_ok (by decide +kernel) ?_; conv => whnf) | (refine src_ok rfl ?_; conv => whnf)))
  · have hlt : k < 8 := by omega
    refine ex_row (List.getElem?_eq_getElem (hl ▸ hlt)) ?_
    conv => whnf
    (repeat' (first | ((refine DecB.mk (fun h => ?_) (fun h => ?_)) <;> first | (exfalso; omega) | (conv => whnf)) | ((refine BoolB.mk (fun h => ?_) (fun h => ?_)) <;> first | (exact absurd h (by decide)) | (conv => whnf)) | (refine ⟨_, wrap_ok (by omega) (by omega), ?_⟩; conv => whnf) | (refine and_idx (by omega) (by omega) ?_; conv => whnf) | (refine reg_ok (by decide +kernel) ?_; conv => whnf) | (refine bar_ok (by decide +kernel) ?_; conv => whnf) | (refine src_ok rfl ?_; conv => whnf)))
    · refine fin_bool ?_
      rw [fullB_any, any_of_get (List.getElem?_eq_getElem (hl ▸ hlt))]
      simpa using ‹_ > _›
    · refine ⟨hlt, ?_, [], rfl, rfl, trivial, ⟨rfl, rfl, rfl, trivial⟩⟩
      rw [any_take_succ (List.getElem?_eq_getElem (hl ▸ hlt)), hI]
      have h := ‹¬ _ > _›
      simp; omega
  · refine fin_bool ?_
    rw [fullB_any, ← hI, List.take_of_length_le (by omega)]
end Go.Proofs.Ythjgbjakpbfnoaa
