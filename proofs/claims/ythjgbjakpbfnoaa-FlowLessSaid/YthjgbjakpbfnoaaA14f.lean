/- The reference's Few and SameInts; the law's example, small, ascending. -/
import Derived.Test.YthjgbjakpbfnoaaA14e
import Derived.Test.YthjgbjakpbfnoaaPlain14e
namespace Go.Proofs.Ythjgbjakpbfnoaa
open Go.RowKit
set_option linter.unusedVariables false
set_option linter.unusedSimpArgs false
set_option maxRecDepth 100000

def exEv14 : Ev := ⟨1, 1, 0, [⟨0, 0, 0⟩, ⟨1, -1, -1⟩, ⟨5, -1, -1⟩], [⟨3, 0, 1, -1, 0, false⟩, ⟨5, 1, 2, -1, 0, false⟩], [], [], []⟩
def exMore (x : Move) : Ev := { exEv14 with moves := exEv14.moves ++ [x] }

theorem a_Few (e : Ev) : ACall Try.prog 11 [evS e] [] (boolS (few e)) [] := by
  have l1 : (e.places.map Place.row).length = e.places.length := by simp
  have l2 : (e.moves.map Move.row).length = e.moves.length := by simp
  have l3 : (e.certs.map Cert.row).length = e.certs.length := by simp
  have l4 : (e.recalls.map Recall.row).length = e.recalls.length := by simp
  have l5 : (e.purities.map Purity.row).length = e.purities.length := by simp
  (refine acall_of tab_ok Try.func11 rfl (by decide) ?_; conv => whnf)
  (repeat' (first | ((refine DecB.mk (fun h => ?_) (fun h => ?_)) <;> first | (exfalso; omega) | (conv => whnf)) | ((refine BoolB.mk (fun h => ?_) (fun h => ?_)) <;> first | (exact absurd h (by decide)) | (conv => whnf)) | (refine ⟨_, wrap_ok (by omega) (by omega), ?_⟩; conv => whnf) | (refine and_idx (by omega) (by omega) ?_; conv => whnf) | (refine reg_ok (by decide +kernel) ?_; conv => whnf) | (refine bar_ok (by decide +kernel) ?_; conv => whnf) | (refine src_ok rfl ?_; conv => whnf)))
  all_goals (refine fin_bool ?_; simp [few]; omega)

theorem take_snoc {α : Type} {l : List α} {k : Nat} {x : α} (h : l[k]? = some x) : l.take (k + 1) = l.take k ++ [x] := by
  rw [List.take_add_one, h]; rfl
theorem a_SameInts (a b : List Int) (ha : a.length ≤ 1000000) (hb : b.length ≤ 1000000) : ACall Try.prog 16 [intsS a, intsS b] [] (boolS (decide (a = b))) [] := by
  have l1 : (a.map intRow).length = a.length := by simp
  have l2 : (b.map intRow).length = b.length := by simp
  (refine acall_of tab_ok Try.func16 rfl (by decide) ?_; conv => whnf)
  (repeat' (first | ((refine DecB.mk (fun h => ?_) (fun h => ?_)) <;> first | (exfalso; omega) | (conv => whnf)) | ((refine BoolB.mk (fun h => ?_) (fun h => ?_)) <;> first | (exact absurd h (by decide)) | (conv => whnf)) | (refine ⟨_, wrap_ok (by omega) (by omega), ?_⟩; conv => whnf) | (refine and_idx (by omega) (by omega) ?_; conv => whnf) | (refine reg_ok (by decide +kernel) ?_; conv => whnf) | (refine bar_ok (by decide +kernel) ?_; conv => whnf) | (refine src_ok rfl ?_; conv => whnf)))
  · refine fin_bool (decide_eq_false ?_).symm
    intro hab; subst hab; exact h rfl
  have hab : a.length = b.length := by omega
  refine awp_for tab_ok (fun k => ([intsS a, intsS b, S.junk, S.junk, S.junk, intS .i64 k, S.junk, S.junk, S.junk, S.junk, S.junk, S.junk, S.junk, S.junk, S.junk, S.junk, S.junk, S.junk, S.junk, S.junk, S.junk, S.junk, S.junk, S.junk, S.junk, S.junk], [])) a.length (fun k => a.take k = b.take k) [] rfl
    ⟨rfl, rfl, trivial, ⟨ent_t rfl, ent_t rfl, ent_i rfl, trivial⟩⟩ ?_
  intro k hk hI
  conv => whnf
  (repeat' (first | ((refine DecB.mk (fun h => ?_) (fun h => ?_)) <;> first | (exfalso; omega) | (conv => whnf)) | ((refine BoolB.mk (fun h => ?_) (fun h => ?_)) <;> first | (exact absurd h (by decide)) | (conv => whnf)) | (refine ⟨_, wrap_ok (by omega) (by omega), ?_⟩; conv => whnf) | (refine and_idx (by omega) (by omega) ?_; conv => whnf) | (refine reg_ok (by decide +kernel) ?_; conv => whnf) | (refine bar_ok (by decide +kernel) ?_; conv => whnf) | (refine src_ok rfl ?_; conv => whnf)))
  · have hlt : k < a.length := by omega
    obtain ⟨x, hx⟩ : ∃ x, a[k]? = some x := ⟨_, List.getElem?_eq_getElem hlt⟩
    obtain ⟨y, hy⟩ : ∃ y, b[k]? = some y := ⟨_, List.getElem?_eq_getElem (by omega)⟩
    (repeat' (first | ((refine DecB.mk (fun h => ?_) (fun h => ?_)) <;> first | (exfalso; omega) | (conv => whnf)) | ((refine BoolB.mk (fun h => ?_) (fun h => ?_)) <;> first | (exact absurd h (by decide)) | (conv => whnf)) | (refine ⟨_, wrap_ok (by omega) (by omega), ?_⟩; conv => whnf) | (refine and_idx (by omega) (by omega) ?_; conv => whnf) | (refine reg_ok (by decide +kernel) ?_; conv => whnf) | (refine bar_ok (by decide +kernel) ?_; conv => whnf) | (refine src_ok rfl ?_; conv => whnf) | (refine ex_row hx ?_; conv => whnf) | (refine ex_row hy ?_; conv => whnf)))
    · have hne : x ≠ y := ‹x ≠ y›
      refine fin_bool (decide_eq_false ?_).symm
      intro hq; subst hq; rw [hx] at hy; injection hy with hy; exact hne hy
    · have hxy : x = y := by omega
      refine ⟨hlt, ?_, [], rfl, rfl, trivial, ⟨ent_t rfl, ent_t rfl, rfl, trivial⟩⟩
      rw [take_snoc hx, take_snoc hy, hI, hxy]
  · refine fin_bool (decide_eq_true ?_).symm
    rw [List.take_of_length_le (by omega), List.take_of_length_le (by omega)] at hI
    exact hI
theorem a_ascending (l : List Int) (n : Int) (ha : l.length ≤ 1000000) (hasc : Asc l n) : ACall Try.prog 23 [intsS l, intS .i64 n] [] (boolS true) [] := by
  have l1 : (l.map intRow).length = l.length := by simp
  (refine acall_of tab_ok Try.func23 rfl (by decide) ?_; conv => whnf)
  refine awp_for tab_ok (fun k => ([intsS l, intS .i64 n, S.junk, S.junk, S.junk, intS .i64 k, S.junk, S.junk, S.junk, S.junk, S.junk, S.junk, S.junk, S.junk, S.junk, S.junk, S.junk, S.junk, S.junk, S.junk, S.junk, S.junk, S.junk, S.junk, S.junk, S.junk, S.junk, S.junk, S.junk, S.junk, S.junk, S.junk, S.junk, S.junk, S.junk, S.junk, S.junk, S.junk, S.junk, S.junk, S.junk, S.junk], [])) l.length (fun k => True) [] trivial
    ⟨rfl, rfl, trivial, ⟨ent_t rfl, rfl, ent_i rfl, trivial⟩⟩ ?_
  intro k hk hI
  conv => whnf
  (repeat' (first | ((refine DecB.mk (fun h => ?_) (fun h => ?_)) <;> first | (exfalso; omega) | (conv => whnf)) | ((refine BoolB.mk (fun h => ?_) (fun h => ?_)) <;> first | (exact absurd h (by decide)) | (conv => whnf)) | (refine ⟨_, wrap_ok (by omega) (by omega), ?_⟩; conv => whnf) | (refine and_idx (by omega) (by omega) ?_; conv => whnf) | (refine reg_ok (by decide +kernel) ?_; conv => whnf) | (refine bar_ok (by decide +kernel) ?_; conv => whnf) | (refine src_ok rfl ?_; conv => whnf)))
  · have hlt : k < l.length := by omega
    obtain ⟨x, hx⟩ : ∃ x, l[k]? = some x := ⟨_, List.getElem?_eq_getElem hlt⟩
    have h1 := hasc.1 k x hx
    cases k with
    | zero =>
      (repeat' (first | ((refine DecB.mk (fun h => ?_) (fun h => ?_)) <;> first | (exfalso; omega) | (conv => whnf)) | ((refine BoolB.mk (fun h => ?_) (fun h => ?_)) <;> first | (exact absurd h (by decide)) | (conv => whnf)) | (refine ⟨_, wrap_ok (by omega) (by omega), ?_⟩; conv => whnf) | (refine and_idx (by omega) (by omega) ?_; conv => whnf) | (refine reg_ok (by decide +kernel) ?_; conv => whnf) | (refine bar_ok (by decide +kernel) ?_; conv => whnf) | (refine src_ok rfl ?_; conv => whnf) | (refine ex_row hx ?_; conv => whnf)))
      exact ⟨hlt, trivial, [], rfl, rfl, trivial, ⟨rfl, rfl, rfl, trivial⟩⟩
    | succ k =>
      obtain ⟨y, hy⟩ : ∃ y, l[k]? = some y := ⟨_, List.getElem?_eq_getElem (by omega)⟩
      have h2 := hasc.2 k y x hy hx
      (repeat' (first | ((refine DecB.mk (fun h => ?_) (fun h => ?_)) <;> first | (exfalso; omega) | (conv => whnf)) | ((refine BoolB.mk (fun h => ?_) (fun h => ?_)) <;> first | (exact absurd h (by decide)) | (conv => whnf)) | (refine ⟨_, wrap_ok (by omega) (by omega), ?_⟩; conv => whnf) | (refine and_idx (by omega) (by omega) ?_; conv => whnf) | (refine reg_ok (by decide +kernel) ?_; conv => whnf) | (refine bar_ok (by decide +kernel) ?_; conv => whnf) | (refine src_ok rfl ?_; conv => whnf) | (refine ex_row hx ?_; conv => whnf) | (refine ex_rowE (k := k) (by simp; omega) hy ?_; conv => whnf)))
      exact ⟨hlt, trivial, [], rfl, rfl, trivial, ⟨rfl, rfl, rfl, trivial⟩⟩
  · exact fin_bool rfl
abbrev exS : S := .agg [.t (ti 1), .t (ti 1), .t (ti 0), .t (.sl 3 .full (exEv14.places.map Place.row)), .t (.sl 6 .full (exEv14.moves.map Move.row)), .t (.sl 0 .nil []), .t (.sl 0 .nil []), .t (.sl 0 .nil [])]
theorem a_example : ACall Try.prog 36 [] [] exS [] := by
  (refine acall_of tab_ok Try.func36 rfl (by decide) ?_; conv => whnf)
  refine fin_t ?_
  exact ⟨rfl, rfl, rfl, rfl, rfl, rfl, rfl, rfl, trivial⟩
theorem exSized14 : exEv14.Sized := ⟨by simp [exEv14], by simp [exEv14], by simp [exEv14], by simp [exEv14], by simp [exEv14]⟩
theorem exMoreSized14 (x : Move) : (exMore x).Sized := ⟨by simp [exMore, exEv14], by simp [exMore, exEv14], by simp [exMore, exEv14], by simp [exMore, exEv14], by simp [exMore, exEv14]⟩
def x14a : Move := ⟨5, 2, 1, -1, 0, false⟩
def x14b : Move := ⟨5, 1, 0, -1, 0, false⟩
theorem ex14_check : check exEv14 = 0 := by decide +kernel
theorem ex14_checka : check (exMore x14a) = 1 := by decide +kernel
theorem ex14_checkb : check (exMore x14b) = 1 := by decide +kernel
theorem ex14_source0 : source exEv14 0 = true := by decide +kernel
theorem ex14_source1 : source exEv14 1 = false := by decide +kernel
theorem ex14_lifts0 : lifts exEv14 0 (-1) 0 9 = [0] := by decide +kernel
theorem ex14_lifts1 : lifts exEv14 0 (-1) 4 9 = [] := by decide +kernel
theorem ex14_into : into exEv14 1 2 = [0] := by decide +kernel
theorem ex14_out1 : outOf exEv14 1 1 = [] := by decide +kernel
theorem ex14_out2 : outOf exEv14 1 2 = [1] := by decide +kernel
theorem vs_ex {H : Hp} {p : Nat → Prop} : VS H p exS (evS exEv14) := vs_agg (ts := evT exEv14) (vl_cons (vc_t rfl) (vl_cons (vc_t rfl) (vl_cons (vc_t rfl) (vl_cons (vc_t rfl) (vl_cons (vc_t rfl) (vl_cons (vc_t rfl) (vl_cons (vc_t rfl) (vl_cons (vc_t rfl) vl_nil))))))))
theorem vs_more {H : Hp} {p : Nat → Prop} {x : Move} {id len : Nat} {app : Bool} {k : Blk} (hp : p id) (hk : H[id]? = some k) (hd : k.mode ≠ .dead) (hs : k.size = 6) (hc : k.rows = toC ((exEv14.moves ++ [x]).map Move.row)) (hl : len = 3) :
    VS H p (.agg [.t (ti 1), .t (ti 1), .t (ti 0), .t (.sl 3 .full (exEv14.places.map Place.row)), .own id 0 len app, .t (.sl 0 .nil []), .t (.sl 0 .nil []), .t (.sl 0 .nil [])]) (evS (exMore x)) :=
  vs_agg (ts := evT (exMore x)) (vl_cons (vc_t rfl) (vl_cons (vc_t rfl) (vl_cons (vc_t rfl) (vl_cons (vc_t rfl) (vl_cons (vc_all hp hk hd hs hc (by rw [hl]; rfl)) (vl_cons (vc_t rfl) (vl_cons (vc_t rfl) (vl_cons (vc_t rfl) vl_nil))))))))
theorem a_small : ACall Try.prog 10 [] [] (boolS true) [] := by
  have c0 := a_Check exEv14 exSized14
  rw [ex14_check] at c0
  have ca := a_Check (exMore x14a) (exMoreSized14 _)
  rw [ex14_checka] at ca
  have cb := a_Check (exMore x14b) (exMoreSized14 _)
  rw [ex14_checkb] at cb
  have s0 := a_Source exEv14 exSized14 0
  rw [ex14_source0] at s0
  have s1 := a_Source exEv14 exSized14 1
  rw [ex14_source1] at s1
  have t0 := a_Lifts exEv14 exSized14 0 (-1) 0 9
  rw [ex14_lifts0] at t0
  have t1 := a_Lifts exEv14 exSized14 0 (-1) 4 9
  rw [ex14_lifts1] at t1
  have i0 := a_Into exEv14 exSized14 1 2
  rw [ex14_into] at i0
  have o1 := a_Out exEv14 exSized14 1 1
  rw [ex14_out1] at o1
  have o2 := a_Out exEv14 exSized14 1 2
  rw [ex14_out2] at o2
  have e0 : ACall Try.prog 16 [intsS [0], intsS [0]] [] (boolS true) [] := a_SameInts [0] [0] (by simp) (by simp)
  have e1 : ACall Try.prog 16 [intsS [1], intsS [1]] [] (boolS true) [] := a_SameInts [1] [1] (by simp) (by simp)
  (refine acall_of tab_ok Try.func10 rfl (by decide) ?_; conv => whnf)
  (repeat' (first | ((refine DecB.mk (fun h => ?_) (fun h => ?_)) <;> first | (exfalso; omega) | (conv => whnf)) | ((refine BoolB.mk (fun h => ?_) (fun h => ?_)) <;> first | (exact absurd h (by decide)) | (conv => whnf)) | (refine ⟨_, wrap_ok (by omega) (by omega), ?_⟩; conv => whnf) | (refine and_idx (by omega) (by omega) ?_; conv => whnf) | (refine reg_ok (by decide +kernel) ?_; conv => whnf) | (refine bar_ok (by decide +kernel) ?_; conv => whnf) | (refine src_ok rfl ?_; conv => whnf) | (refine .inl ⟨_, _, qcall_pure (a_example) rfl rfl, ?_⟩; conv => whnf) | (refine .inl ⟨_, _, qcall_pure (toC) rfl rfl, ?_⟩; conv => whnf) | (refine app_full (by simp [toC]) rfl (by decide) ?_; conv => whnf) | (refine .inl ⟨_, _, qcall_view c0 ⟨vs_ex, trivial⟩ rfl, ?_⟩; conv => whnf) | (refine .inl ⟨_, _, qcall_view ca ⟨vs_more (x := x14a) trivial rfl (by intro h; cases h) rfl rfl rfl, trivial⟩ rfl, ?_⟩; conv => whnf) | (refine .inl ⟨_, _, qcall_view cb ⟨vs_more (x := x14b) trivial rfl (by intro h; cases h) rfl rfl rfl, trivial⟩ rfl, ?_⟩; conv => whnf) | (refine .inl ⟨_, _, qcall_view s0 ⟨vs_ex, vs_t, trivial⟩ rfl, ?_⟩; conv => whnf) | (refine .inl ⟨_, _, qcall_view s1 ⟨vs_ex, vs_t, trivial⟩ rfl, ?_⟩; conv => whnf) | (refine .inl ⟨_, _, qcall_data e0 ⟨vs_c (vc_t rfl), vs_c (vc_t rfl), trivial⟩ rfl, ?_⟩; conv => whnf) | (refine .inl ⟨_, _, qcall_data e1 ⟨vs_c (vc_t rfl), vs_c (vc_t rfl), trivial⟩ rfl, ?_⟩; conv => whnf) | (refine .inl ⟨_, _, qcall_data o2 ⟨vs_ex, vs_t, vs_t, trivial⟩ rfl, ?_⟩; conv => whnf) | (refine .inl ⟨_, _, qcall_data o1 ⟨vs_ex, vs_t, vs_t, trivial⟩ rfl, ?_⟩; conv => whnf) | (refine .inl ⟨_, _, qcall_data i0 ⟨vs_ex, vs_t, vs_t, trivial⟩ rfl, ?_⟩; conv => whnf) | (refine .inl ⟨_, _, qcall_data t1 ⟨vs_ex, vs_t, vs_t, vs_t, vs_t, trivial⟩ rfl, ?_⟩; conv => whnf) | (refine .inl ⟨_, _, qcall_data t0 ⟨vs_ex, vs_t, vs_t, vs_t, vs_t, trivial⟩ rfl, ?_⟩; conv => whnf)))
  all_goals first | exact fin_bool rfl | (exfalso; simp_all; done)
end Go.Proofs.Ythjgbjakpbfnoaa
