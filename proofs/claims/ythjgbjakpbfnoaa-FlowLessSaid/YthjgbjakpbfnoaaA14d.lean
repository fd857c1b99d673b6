/- Package flow: Source, moves, Lifts, Into, Out. -/
import Derived.Test.YthjgbjakpbfnoaaA14c
namespace Go.Proofs.Ythjgbjakpbfnoaa
open Go.RowKit
set_option linter.unusedVariables false
set_option linter.unusedSimpArgs false
set_option maxRecDepth 100000

theorem a_Source (e : Ev) (hs : e.Sized) (p : Int) : ACall Try.prog 14 [evS e, intS .i64 p] [] (boolS (source e p)) [] := by
  have l1 := hs.s1
  have l2 : (e.places.map Place.row).length = e.places.length := by simp
  by_cases hx : idx p e.places.length = true
  · obtain ⟨hp0, x, hx', kx⟩ := place_get hx
    (refine acall_of tab_ok Try.func14 rfl (by decide) ?_; conv => whnf)
    rw [← l2] at hx
    (repeat' (first | ((refine DecB.mk (fun h => ?_) (fun h => ?_)) <;> first | (exfalso; omega) | (conv => whnf)) | ((refine BoolB.mk (fun h => ?_) (fun h => ?_)) <;> first | (exact absurd h (by decide)) | (conv => whnf)) | (refine ⟨_, wrap_ok (by omega) (by omega), ?_⟩; conv => whnf) | (refine and_idx (by omega) (by omega) ?_; conv => whnf) | (refine reg_ok (by decide +kernel) ?_; conv => whnf) | (refine bar_ok (by decide +kernel) ?_; conv => whnf) | (refine src_ok rfl ?_; conv => whnf) | (refine .inl ⟨_, _, qcall_pure (a_Check _ hs) rfl rfl, ?_⟩; conv => whnf) | (refine .inl ⟨_, _, qcall_pure (a_index _ _) rfl rfl, ?_⟩; conv => whnf) | (refine ex_rowI hp0 hx' ?_; conv => whnf)))
    all_goals (refine fin_bool ?_; simp_all [source]; done)
  · (refine acall_of tab_ok Try.func14 rfl (by decide) ?_; conv => whnf)
    rw [← l2] at hx
    (repeat' (first | ((refine DecB.mk (fun h => ?_) (fun h => ?_)) <;> first | (exfalso; omega) | (conv => whnf)) | ((refine BoolB.mk (fun h => ?_) (fun h => ?_)) <;> first | (exact absurd h (by decide)) | (conv => whnf)) | (refine ⟨_, wrap_ok (by omega) (by omega), ?_⟩; conv => whnf) | (refine and_idx (by omega) (by omega) ?_; conv => whnf) | (refine reg_ok (by decide +kernel) ?_; conv => whnf) | (refine bar_ok (by decide +kernel) ?_; conv => whnf) | (refine src_ok rfl ?_; conv => whnf) | (refine .inl ⟨_, _, qcall_pure (a_Check _ hs) rfl rfl, ?_⟩; conv => whnf) | (refine .inl ⟨_, _, qcall_pure (a_index _ _) rfl rfl, ?_⟩; conv => whnf)))
    all_goals first | (exfalso; simp_all; done) | (refine fin_bool ?_; simp_all [source]; done)

abbrev intsB (l : List Int) : Blk := { mode := .live, elem := 3, size := 1, rows := toC (l.map intRow), box := false }
abbrev ownI (id : Nat) (l : List Int) : S := .c (.own id 0 l.length true)
theorem a_moves (e : Ev) (hs : e.Sized) (n : Int) (g : FuncId) (caps : List T) (q : Move → Bool) (hg : ∀ (k : Nat) (m : Move), e.moves[k]? = some m → check e = 0 → ACall Try.prog g (moveS m :: caps.map fun x => .c (.t x)) [] (boolS (q m)) []) :
    ACall Try.prog 47 [evS e, intS .i64 n, .c (.t (.fn (.func g) caps))] [] (intsS (if check e = 0 then pickFrom (fun k m => decide ((k : Int) < n) && q m) 0 e.moves else [])) [] := by
  have l1 := hs.s2
  have l2 : (e.moves.map Move.row).length = e.moves.length := by simp
  (refine acall_of tab_ok Try.func47 rfl (by decide) ?_; conv => whnf)
  (repeat' (first | ((refine DecB.mk (fun h => ?_) (fun h => ?_)) <;> first | (exfalso; omega) | (conv => whnf)) | ((refine BoolB.mk (fun h => ?_) (fun h => ?_)) <;> first | (exact absurd h (by decide)) | (conv => whnf)) | (refine ⟨_, wrap_ok (by omega) (by omega), ?_⟩; conv => whnf) | (refine and_idx (by omega) (by omega) ?_; conv => whnf) | (refine reg_ok (by decide +kernel) ?_; conv => whnf) | (refine bar_ok (by decide +kernel) ?_; conv => whnf) | (refine src_ok rfl ?_; conv => whnf) | (refine .inl ⟨_, _, qcall_pure (a_Check _ hs) rfl rfl, ?_⟩; conv => whnf)))
  · refine fin_t ?_
    rw [if_neg h]
    exact rfl
  have h0 : check e = 0 := by omega
  rw [if_pos h0]
  let P : Nat → Move → Bool := fun k m => decide ((k : Int) < n) && q m
  refine awp_for tab_ok (fun k => ([S.junk, intS .i64 n, S.c (C.t (T.fn (.func g) caps)), S.c (C.ptr 0 0 0), S.junk, S.junk, S.junk, ownI 1 (pickTo P e.moves k), S.junk, S.junk, S.junk, S.junk, S.junk, S.junk, S.c (C.t (movesT e.moves)), intS .i64 e.moves.length, intS .i64 k, S.junk, S.junk, S.junk, S.junk, S.junk, S.junk, S.junk, S.junk, S.junk, S.junk, S.junk, S.junk, S.junk, S.junk, S.junk, S.junk, S.junk, S.junk], [evB e, intsB (pickTo P e.moves k)])) e.moves.length (fun k => True) [some 0, none] trivial
    ⟨rfl, rfl, ⟨⟨rfl, rfl, rfl, .inl ⟨rfl, rowsT_ev e⟩⟩, ⟨rfl, rfl⟩, trivial⟩, ⟨rfl, rfl, ⟨rfl, rfl, rfl⟩, ⟨rfl, rfl, rfl⟩, ent_t rfl, ent_i (by simp), ent_i rfl, trivial⟩⟩ ?_
  intro k hk hI
  conv => whnf
  (repeat' (first | ((refine DecB.mk (fun h => ?_) (fun h => ?_)) <;> first | (exfalso; omega) | (conv => whnf)) | ((refine BoolB.mk (fun h => ?_) (fun h => ?_)) <;> first | (exact absurd h (by decide)) | (conv => whnf)) | (refine ⟨_, wrap_ok (by omega) (by omega), ?_⟩; conv => whnf) | (refine and_idx (by omega) (by omega) ?_; conv => whnf) | (refine reg_ok (by decide +kernel) ?_; conv => whnf) | (refine bar_ok (by decide +kernel) ?_; conv => whnf) | (refine src_ok rfl ?_; conv => whnf)))
  · have hlt : k < e.moves.length := by omega
    obtain ⟨x, hx⟩ : ∃ x, e.moves[k]? = some x := ⟨_, List.getElem?_eq_getElem hlt⟩
    refine ex_row hx ?_
    conv => whnf
    have hpl := length_pickTo P e.moves k
    have ha : (moveS x :: caps.map fun x => S.c (C.t x)).all S.isT = true := by simp [S.isT, C.isT, Move.cs, Move.row]
    (repeat' (first | ((refine DecB.mk (fun h => ?_) (fun h => ?_)) <;> first | (exfalso; omega) | (conv => whnf)) | ((refine BoolB.mk (fun h => ?_) (fun h => ?_)) <;> first | (exact absurd h (by decide)) | (conv => whnf)) | (refine ⟨_, wrap_ok (by omega) (by omega), ?_⟩; conv => whnf) | (refine and_idx (by omega) (by omega) ?_; conv => whnf) | (refine reg_ok (by decide +kernel) ?_; conv => whnf) | (refine bar_ok (by decide +kernel) ?_; conv => whnf) | (refine src_ok rfl ?_; conv => whnf) | (refine .inl ⟨_, _, qcall_pure (toC) rfl rfl, ?_⟩; conv => whnf) | (refine .inl ⟨_, _, qcall_pure (toC) rfl rfl, ?_⟩; conv => whnf) | (refine .inl ⟨_, _, qcall_pure (hg k x hx h0) ha rfl, ?_⟩; conv => whnf) | (refine src_ok rfl ?_; conv => whnf) | (refine app_ok (by simp [toC]) (by simp [toC]; omega) ?_; conv => whnf)))
    · have hP : P k x = true := by simp [P, h]; omega
      refine ⟨hlt, trivial, [some 0, some 3], rfl, rfl, ⟨⟨rfl, rfl, rfl, .inl ⟨rfl, rowsT_ev e⟩⟩, entB_rows rfl rfl rfl ?_ rfl, trivial⟩, ⟨rfl, rfl, ⟨rfl, rfl, rfl⟩, ent_own rfl ?_, rfl, rfl, rfl, trivial⟩⟩
      · rw [pickTo_yes P hx hP, List.map_append]
        exact (congrArg (fun n => List.take n (toC ((pickTo P e.moves k).map intRow)) ++ toC [[ti k]]) (by simp)).trans toC_snoc
      · rw [pickTo_yes P hx hP]; simp [toC]
    all_goals
      have hP : P k x = false := by simp [P]; first | (intro hq; omega) | (intro _; assumption)
      refine ⟨hlt, trivial, [some 0, some 1], rfl, rfl, ⟨⟨rfl, rfl, rfl, .inl ⟨rfl, rowsT_ev e⟩⟩, entB_rows rfl rfl rfl ?_ rfl, trivial⟩, ⟨rfl, rfl, ⟨rfl, rfl, rfl⟩, ent_own rfl ?_, rfl, rfl, rfl, trivial⟩⟩
      · rw [pickTo_no P hx hP]
      · rw [pickTo_no P hx hP]
  · have hk' : pickFrom P 0 e.moves = pickTo P e.moves k := (pickTo_all P (by omega)).symm
    show Fin 0 _ _ (intsS (pickFrom P 0 e.moves)) []
    rw [hk']
    exact fin_own rfl (by intro h; cases h) rfl rfl (by simp)
end Go.Proofs.Ythjgbjakpbfnoaa
