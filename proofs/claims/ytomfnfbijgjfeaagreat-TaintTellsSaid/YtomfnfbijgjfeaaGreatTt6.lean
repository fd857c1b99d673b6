/- TaintTells: at every input the law returns true, and its arguments read as before. Conditions: none. -/
import Derived.Deep.DeepMust
import Derived.BigQuiet
import Derived.Deep.Light
import Derived.ProofKit
import Derived.OpenShut
import Derived.Deep.Slices
import Derived.Deep.Fields
import Derived.Test.YtomfnfbijgjfeaaGreatRows
import Derived.Test.YtomfnfbijgjfeaaGreatTt5
/- The reference's flow: Check. -/
namespace Go.Proofs.YtomfnfbijgjfeaaGreat
open Go.RowKit
set_option linter.unusedVariables false
set_option linter.unusedSimpArgs false
set_option maxRecDepth 100000

theorem r14in (n lo hi : Int) : ACall Tryz.prog 87 [intS .i64 n, intS .i64 lo, intS .i64 hi] [] (boolS (btw n lo hi)) [] := by
  (refine acall_of tab_ok Tryz.func87 rfl (by decide) ?_; (conv => whnf); repeat (first | (refine LitB.data ?_; conv => whnf) | (refine BoxB.own ?_; conv => whnf)))
  (repeat' (first | ((refine DecB.mk (fun h => ?_) (fun h => ?_)) <;> first | (exfalso; omega) | (conv => whnf)) | ((refine BoolB.mk (fun h => ?_) (fun h => ?_)) <;> first | (exact absurd h (by decide)) | (conv => whnf)) | ((first | refine ⟨_, wrap_ok (by omega) (by omega), ?_⟩ | refine and_idx (by omega) (by omega) ?_ | refine reg_ok (by decide +kernel) ?_ | refine bar_ok (by decide +kernel) (by decide +kernel) ?_ | refine late_ok rfl rfl ?_ | refine src_ok rfl ?_ | refine LitB.data ?_ | refine BoxB.own ?_); conv => whnf)))
  all_goals (refine fin_bool ?_; simp only [btw]; simp; omega)
theorem r14idx (n m : Int) : ACall Tryz.prog 87 [intS .i64 n, intS .i64 0, intS .i64 (m - 1)] [] (boolS (idx n m)) [] := by
  rw [← btw_idx]; exact r14in n 0 (m - 1)
theorem r14full (e : Ev) (hs : e.Sized) : ACall Tryz.prog 56 [evS e] [] (boolS (fullB e)) [] := by
  have l1 : (e.places.map Place.row).length = e.places.length := by simp
  have l2 : (e.moves.map Move.row).length = e.moves.length := by simp
  have l3 : (e.certs.map Cert.row).length = e.certs.length := by simp
  have l4 : (e.recalls.map Recall.row).length = e.recalls.length := by simp
  have l5 : (e.purities.map Purity.row).length = e.purities.length := by simp
  (refine acall_of tab_ok Tryz.func56 rfl (by decide) ?_; (conv => whnf); repeat (first | (refine LitB.data ?_; conv => whnf) | (refine BoxB.data ?_; conv => whnf)))
  (repeat' (first | ((refine DecB.mk (fun h => ?_) (fun h => ?_)) <;> first | (exfalso; omega) | (conv => whnf)) | ((refine BoolB.mk (fun h => ?_) (fun h => ?_)) <;> first | (exact absurd h (by decide)) | (conv => whnf)) | ((first | refine ⟨_, wrap_ok (by omega) (by omega), ?_⟩ | refine and_idx (by omega) (by omega) ?_ | refine reg_ok (by decide +kernel) ?_ | refine bar_ok (by decide +kernel) (by decide +kernel) ?_ | refine late_ok rfl rfl ?_ | refine src_ok rfl ?_ | refine LitB.data ?_ | refine BoxB.own ?_); conv => whnf)))
  all_goals (refine fin_bool ?_; unfold fullB; simp; omega)
theorem r14place (e : Ev) (p : Place) (h1 : 1 ≤ e.mats) (h2 : e.mats ≤ 6) (h3 : 0 ≤ e.hhs) (h4 : e.hhs ≤ 100) : ACall Tryz.prog 57 [evS e, .agg (p.row.map .t)] [] (boolS (placeOk e p)) [] := by
  have i3 := r14idx p.kind 7
  (refine acall_of tab_ok Tryz.func57 rfl (by decide) ?_; (conv => whnf); repeat (first | (refine LitB.data ?_; conv => whnf) | (refine BoxB.data ?_; conv => whnf)))
  (repeat' (first | ((refine DecB.mk (fun h => ?_) (fun h => ?_)) <;> first | (exfalso; omega) | (conv => whnf)) | ((refine BoolB.mk (fun h => ?_) (fun h => ?_)) <;> first | (exact absurd h (by decide)) | (conv => whnf)) | ((first | refine ⟨_, wrap_ok (by omega) (by omega), ?_⟩ | refine and_idx (by omega) (by omega) ?_ | refine reg_ok (by decide +kernel) ?_ | refine bar_ok (by decide +kernel) (by decide +kernel) ?_ | refine late_ok rfl rfl ?_ | refine src_ok rfl ?_ | refine .inl ⟨_, _, qcall_pure (r14idx p.hh e.hhs) rfl rfl, ?_⟩ | refine .inl ⟨_, _, qcall_pure (r14idx p.mat e.mats) rfl rfl, ?_⟩ | refine .inl ⟨_, _, qcall_pure (i3) rfl rfl, ?_⟩ | refine LitB.data ?_ | refine BoxB.own ?_); conv => whnf)))
  all_goals first
    | (exfalso; omega)
    | (refine fin_bool ?_; simp_all [placeOk] <;> decide)
/-- the error of a move by the reference -/
def moveE (e : Ev) (k : Nat) (x : Move) : Int := if x.day < 0 ∨ 100000 < x.day ∨ (0 < k ∧ x.day < lastD e k) then 17 else if moveOk e x then 0 else 1
set_option maxHeartbeats 4000000 in
theorem r14move (e : Ev) (k : Nat) (x : Move) (hx : e.moves[k]? = some x) (hf : fullB e = false) (h1 : 1 ≤ e.mats) (h3 : 0 ≤ e.hhs) (h5 : 0 ≤ e.scs) : ACall Tryz.prog 58 [evS e, intS .i64 k] [] (intS .i64 (moveE e k x)) [] := by
  have l1 : (e.places.map Place.row).length = e.places.length := by simp
  have l2 : (e.moves.map Move.row).length = e.moves.length := by simp
  have hk : k < e.moves.length := (List.getElem?_eq_some_iff.1 hx).1
  unfold fullB at hf
  simp only [Bool.or_eq_false_iff, decide_eq_false_iff_not] at hf
  obtain ⟨y, hy⟩ : ∃ y, e.moves[k - 1]? = some y := ⟨_, List.getElem?_eq_getElem (by omega)⟩
  have hl : 0 < k → lastD e k = y.day := fun h => by
    obtain ⟨j, rfl⟩ : ∃ j, k = j + 1 := ⟨k - 1, by omega⟩
    exact lastD_succ hy
  have d := r14in x.day 0 100000
  have is := r14idx x.src (e.places.map Place.row).length
  have id := r14idx x.dst (e.places.map Place.row).length
  have ic := r14idx x.scale e.scs
  have ir := r14in x.reading 0 1099511627776
  have hdd : (x.day < 0 ∨ 100000 < x.day ∨ (0 < k ∧ x.day < lastD e k)) ↔ (x.day < 0 ∨ 100000 < x.day ∨ (0 < k ∧ x.day < y.day)) := by
    rcases Nat.eq_zero_or_pos k with h | h
    · simp [h]
    · rw [hl h]
  clear hl
  have em : (if (0 : Int) > (k : Int) - 1 then 0 else (k : Int) - 1) = ((k - 1 : Nat) : Int) := by split <;> omega
  by_cases hd : x.day < 0 ∨ 100000 < x.day ∨ (0 < k ∧ x.day < y.day)
  · have e1 : moveE e k x = 17 := by unfold moveE; rw [if_pos (hdd.2 hd)]
    clear hdd
    rw [e1]
    have hb := btw_iff (a := x.day) (b := 0) (c := 100000)
    (refine acall_of tab_ok Tryz.func58 rfl (by decide) ?_; (conv => whnf); repeat (first | (refine LitB.data ?_; conv => whnf) | (refine BoxB.data ?_; conv => whnf)))
    (repeat' (first | ((refine DecB.mk (fun h => ?_) (fun h => ?_)) <;> first | (exfalso; omega) | (conv => whnf)) | ((refine BoolB.mk (fun h => ?_) (fun h => ?_)) <;> first | (exact absurd h (by decide)) | (conv => whnf)) | ((first | refine ⟨_, wrap_ok (by omega) (by omega), ?_⟩ | refine and_idx (by omega) (by omega) ?_ | refine reg_ok (by decide +kernel) ?_ | refine bar_ok (by decide +kernel) (by decide +kernel) ?_ | refine late_ok rfl rfl ?_ | refine src_ok rfl ?_ | refine .inl ⟨_, _, qcall_pure (d) rfl rfl, ?_⟩ | refine ex_row hx ?_ | refine ex_rowE em hy ?_ | refine LitB.data ?_ | refine BoxB.own ?_); conv => whnf)))
    all_goals first
      | exact fin_int rfl
      | (exfalso; have := hb.1 (by assumption); omega)
      | (exfalso; omega)
  have e1 : moveE e k x = if moveOk e x then 0 else 1 := by unfold moveE; rw [if_neg (fun h => hd (hdd.1 h))]
  clear hdd
  rw [e1]
  have hd' : btw x.day 0 100000 = true := by rw [btw_iff]; omega
  rw [hd'] at d
  cases h1 : idx x.src e.places.length with
  | false =>
    rw [← l1] at h1
    rw [h1] at is
    rw [l1] at h1
    (refine acall_of tab_ok Tryz.func58 rfl (by decide) ?_; (conv => whnf); repeat (first | (refine LitB.data ?_; conv => whnf) | (refine BoxB.data ?_; conv => whnf)))
    (repeat' (first | ((refine DecB.mk (fun h => ?_) (fun h => ?_)) <;> first | (exfalso; omega) | (conv => whnf)) | ((refine BoolB.mk (fun h => ?_) (fun h => ?_)) <;> first | (exact absurd h (by decide)) | (conv => whnf)) | ((first | refine ⟨_, wrap_ok (by omega) (by omega), ?_⟩ | refine and_idx (by omega) (by omega) ?_ | refine reg_ok (by decide +kernel) ?_ | refine bar_ok (by decide +kernel) (by decide +kernel) ?_ | refine late_ok rfl rfl ?_ | refine src_ok rfl ?_ | refine .inl ⟨_, _, qcall_pure (d) rfl rfl, ?_⟩ | refine .inl ⟨_, _, qcall_pure (is) rfl rfl, ?_⟩ | refine ex_row hx ?_ | refine ex_rowE em hy ?_ | refine LitB.data ?_ | refine BoxB.own ?_); conv => whnf)))
    all_goals first
      | (refine fin_int ?_; simp [moveOk, h1]; done)
      | (exfalso; simp_all; done)
      | (exfalso; omega)
  | true =>
    obtain ⟨hs0, p, hp, kp⟩ := place_get h1
    rw [← l1] at h1
    rw [h1] at is
    rw [l1] at h1
    cases h2 : idx x.dst e.places.length with
    | false =>
      rw [← l1] at h2
      rw [h2] at id
      rw [l1] at h2
      (refine acall_of tab_ok Tryz.func58 rfl (by decide) ?_; (conv => whnf); repeat (first | (refine LitB.data ?_; conv => whnf) | (refine BoxB.data ?_; conv => whnf)))
      (repeat' (first | ((refine DecB.mk (fun h => ?_) (fun h => ?_)) <;> first | (exfalso; omega) | (conv => whnf)) | ((refine BoolB.mk (fun h => ?_) (fun h => ?_)) <;> first | (exact absurd h (by decide)) | (conv => whnf)) | ((first | refine ⟨_, wrap_ok (by omega) (by omega), ?_⟩ | refine and_idx (by omega) (by omega) ?_ | refine reg_ok (by decide +kernel) ?_ | refine bar_ok (by decide +kernel) (by decide +kernel) ?_ | refine late_ok rfl rfl ?_ | refine src_ok rfl ?_ | refine .inl ⟨_, _, qcall_pure (d) rfl rfl, ?_⟩ | refine .inl ⟨_, _, qcall_pure (is) rfl rfl, ?_⟩ | refine .inl ⟨_, _, qcall_pure (id) rfl rfl, ?_⟩ | refine ex_row hx ?_ | refine ex_rowE em hy ?_ | refine LitB.data ?_ | refine BoxB.own ?_); conv => whnf)))
      all_goals first
        | (refine fin_int ?_; simp [moveOk, h1, h2]; done)
        | (exfalso; simp_all; done)
        | (exfalso; omega)
    | true =>
      obtain ⟨hd0, q, hq, kq⟩ := place_get h2
      rw [← l1] at h2
      rw [h2] at id
      rw [l1] at h2
      (refine acall_of tab_ok Tryz.func58 rfl (by decide) ?_; (conv => whnf); repeat (first | (refine LitB.data ?_; conv => whnf) | (refine BoxB.data ?_; conv => whnf)))
      (repeat' (first | ((refine DecB.mk (fun h => ?_) (fun h => ?_)) <;> first | (exfalso; omega) | (conv => whnf)) | ((refine BoolB.mk (fun h => ?_) (fun h => ?_)) <;> first | (exact absurd h (by decide)) | (conv => whnf)) | ((first | refine ⟨_, wrap_ok (by omega) (by omega), ?_⟩ | refine and_idx (by omega) (by omega) ?_ | refine reg_ok (by decide +kernel) ?_ | refine bar_ok (by decide +kernel) (by decide +kernel) ?_ | refine late_ok rfl rfl ?_ | refine src_ok rfl ?_ | refine .inl ⟨_, _, qcall_pure (d) rfl rfl, ?_⟩ | refine .inl ⟨_, _, qcall_pure (is) rfl rfl, ?_⟩ | refine .inl ⟨_, _, qcall_pure (id) rfl rfl, ?_⟩ | refine .inl ⟨_, _, qcall_pure (ic) rfl rfl, ?_⟩ | refine .inl ⟨_, _, qcall_pure (ir) rfl rfl, ?_⟩ | refine ex_row hx ?_ | refine ex_rowI hs0 hp ?_ | refine ex_rowI hd0 hq ?_ | refine ex_rowE em hy ?_ | refine LitB.data ?_ | refine BoxB.own ?_); conv => whnf)))
      all_goals first
        | (refine fin_int ?_; simp_all [moveOk]; done)
        | (exfalso; simp_all; done)
        | (exfalso; omega)
theorem r14said (e : Ev) (hs : e.Sized) (hf : fullB e = false) (h1 : 1 ≤ e.mats) (h5 : 0 ≤ e.scs) : ACall Tryz.prog 59 [evS e] [] (boolS (saidOk e)) [] := by
  have l2 : (e.certs.map Cert.row).length = e.certs.length := by simp
  have l4 : (e.recalls.map Recall.row).length = e.recalls.length := by simp
  have l6 : (e.purities.map Purity.row).length = e.purities.length := by simp
  have l8 : (e.moves.map Move.row).length = e.moves.length := by simp
  unfold fullB at hf
  simp only [Bool.or_eq_false_iff, decide_eq_false_iff_not] at hf
  (refine acall_of tab_ok Tryz.func59 rfl (by decide) ?_; (conv => whnf); repeat (first | (refine LitB.data ?_; conv => whnf) | (refine BoxB.data ?_; conv => whnf)))
  (repeat' (first | ((refine DecB.mk (fun h => ?_) (fun h => ?_)) <;> first | (exfalso; omega) | (conv => whnf)) | ((refine BoolB.mk (fun h => ?_) (fun h => ?_)) <;> first | (exact absurd h (by decide)) | (conv => whnf)) | ((first | refine ⟨_, wrap_ok (by omega) (by omega), ?_⟩ | refine and_idx (by omega) (by omega) ?_ | refine reg_ok (by decide +kernel) ?_ | refine bar_ok (by decide +kernel) (by decide +kernel) ?_ | refine late_ok rfl rfl ?_ | refine src_ok rfl ?_ | refine LitB.data ?_ | refine BoxB.own ?_); conv => whnf)))
  refine awp_for tab_ok (fun k => ([J, S.c (C.t (T.ptr (evT e))), J, intS .i64 k, J, J, J, J, J, J, J, J, J, J, J, J, J, J, J, J, J, J, J, J, J, J, J, J, J, J, J, J, J, J, J, J, J, J, J, J, J, J, J, J, J, J, J, J, J, J, J, J, J, J, J, J, J, J, J, J, J, J, J, J, J, J, J, J, J, J, J, J, J, J, J, J, J, J, J, J, J, J, J, J, J, J, J, J, J, J, J, J, J, J, J, J, J, J, J, J, J, J, J, J, J, J, J, J, J, J, J, J, J, J, J, J, J, J, J, J, J, J, J, J, J, J, J, J], [])) e.certs.length (fun k => (e.certs.take k).all (certOk e) = true) [] rfl
    ⟨rfl, rfl, trivial, ⟨rfl, rfl, trivial⟩⟩ ?_
  intro k hk hI
  by_cases hlt : k < e.certs.length
  · obtain ⟨x, hx⟩ : ∃ x, e.certs[k]? = some x := ⟨_, List.getElem?_eq_getElem hlt⟩
    conv => whnf
    (repeat' (first | ((refine DecB.mk (fun h => ?_) (fun h => ?_)) <;> first | (exfalso; omega) | (conv => whnf)) | ((refine BoolB.mk (fun h => ?_) (fun h => ?_)) <;> first | (exact absurd h (by decide)) | (conv => whnf)) | ((first | refine ⟨_, wrap_ok (by omega) (by omega), ?_⟩ | refine and_idx (by omega) (by omega) ?_ | refine reg_ok (by decide +kernel) ?_ | refine bar_ok (by decide +kernel) (by decide +kernel) ?_ | refine late_ok rfl rfl ?_ | refine src_ok rfl ?_ | refine .inl ⟨_, _, qcall_pure (r14idx x.scale e.scs) rfl rfl, ?_⟩ | refine .inl ⟨_, _, qcall_pure (r14in x.till x.since 100000) rfl rfl, ?_⟩ | refine .inl ⟨_, _, qcall_pure (r14in x.grams 0 1099511627776) rfl rfl, ?_⟩ | refine .inl ⟨_, _, qcall_pure (r14in x.permille 0 1000) rfl rfl, ?_⟩ | refine .inl ⟨_, _, qcall_pure (r14in x.drift 0 10000000) rfl rfl, ?_⟩ | refine ex_row hx ?_ | refine LitB.data ?_ | refine BoxB.own ?_); conv => whnf)))
    all_goals first
      | (exfalso; omega)
      | (refine ⟨hlt, ?_, [], rfl, rfl, trivial, ⟨rfl, rfl, trivial⟩⟩; rw [all_take_succ hx, hI]; simp_all [certOk, btw]; done)
      | (refine fin_bool ?_; rw [saidOk, all_of_get hx]; rfl; simp_all [certOk, btw]; (try omega); done)
  · have hc : e.certs.all (certOk e) = true := by rw [← hI, List.take_of_length_le (by omega)]
    conv => whnf
    (repeat' (first | ((refine DecB.mk (fun h => ?_) (fun h => ?_)) <;> first | (exfalso; omega) | (conv => whnf)) | ((refine BoolB.mk (fun h => ?_) (fun h => ?_)) <;> first | (exact absurd h (by decide)) | (conv => whnf)) | ((first | refine ⟨_, wrap_ok (by omega) (by omega), ?_⟩ | refine and_idx (by omega) (by omega) ?_ | refine reg_ok (by decide +kernel) ?_ | refine bar_ok (by decide +kernel) (by decide +kernel) ?_ | refine late_ok rfl rfl ?_ | refine src_ok rfl ?_ | refine LitB.data ?_ | refine BoxB.own ?_); conv => whnf)))
    all_goals try (exfalso; omega)
    clear hI hlt hk
    refine awp_for tab_ok (fun k => ([J, S.c (C.t (T.ptr (evT e))), J, J, J, intS .i64 k, J, J, J, J, J, J, J, J, J, J, J, J, J, J, J, J, J, J, J, J, J, J, J, J, J, J, J, J, J, J, J, J, J, J, J, J, J, J, J, J, J, J, J, J, J, J, J, J, J, J, J, J, J, J, J, J, J, J, J, J, J, J, J, J, J, J, J, J, J, J, J, J, J, J, J, J, J, J, J, J, J, J, J, J, J, J, J, J, J, J, J, J, J, J, J, J, J, J, J, J, J, J, J, J, J, J, J, J, J, J, J, J, J, J, J, J, J, J, J, J, J, J], [])) e.recalls.length (fun k => (e.recalls.take k).all (recallOk e) = true) [] rfl
      ⟨rfl, rfl, trivial, ⟨rfl, rfl, trivial⟩⟩ ?_
    intro k hk hI
    by_cases hlt : k < e.recalls.length
    · obtain ⟨x, hx⟩ : ∃ x, e.recalls[k]? = some x := ⟨_, List.getElem?_eq_getElem hlt⟩
      conv => whnf
      (repeat' (first | ((refine DecB.mk (fun h => ?_) (fun h => ?_)) <;> first | (exfalso; omega) | (conv => whnf)) | ((refine BoolB.mk (fun h => ?_) (fun h => ?_)) <;> first | (exact absurd h (by decide)) | (conv => whnf)) | ((first | refine ⟨_, wrap_ok (by omega) (by omega), ?_⟩ | refine and_idx (by omega) (by omega) ?_ | refine reg_ok (by decide +kernel) ?_ | refine bar_ok (by decide +kernel) (by decide +kernel) ?_ | refine late_ok rfl rfl ?_ | refine src_ok rfl ?_ | refine .inl ⟨_, _, qcall_pure (r14idx x.scale e.scs) rfl rfl, ?_⟩ | refine .inl ⟨_, _, qcall_pure (r14in x.since 0 100000) rfl rfl, ?_⟩ | refine ex_row hx ?_ | refine LitB.data ?_ | refine BoxB.own ?_); conv => whnf)))
      all_goals first
        | (exfalso; omega)
        | (refine ⟨hlt, ?_, [], rfl, rfl, trivial, ⟨rfl, rfl, trivial⟩⟩; rw [all_take_succ hx, hI]; simp_all [recallOk]; done)
        | (refine fin_bool ?_; rw [saidOk, hc, all_of_get hx]; rfl; simp_all [recallOk]; done)
    · have hr : e.recalls.all (recallOk e) = true := by rw [← hI, List.take_of_length_le (by omega)]
      conv => whnf
      (repeat' (first | ((refine DecB.mk (fun h => ?_) (fun h => ?_)) <;> first | (exfalso; omega) | (conv => whnf)) | ((refine BoolB.mk (fun h => ?_) (fun h => ?_)) <;> first | (exact absurd h (by decide)) | (conv => whnf)) | ((first | refine ⟨_, wrap_ok (by omega) (by omega), ?_⟩ | refine and_idx (by omega) (by omega) ?_ | refine reg_ok (by decide +kernel) ?_ | refine bar_ok (by decide +kernel) (by decide +kernel) ?_ | refine late_ok rfl rfl ?_ | refine src_ok rfl ?_ | refine LitB.data ?_ | refine BoxB.own ?_); conv => whnf)))
      all_goals try (exfalso; omega)
      clear hI hlt hk
      refine awp_for tab_ok (fun k => ([J, S.c (C.t (T.ptr (evT e))), J, J, J, J, intS .i64 k, J, J, J, J, J, J, J, J, J, J, J, J, J, J, J, J, J, J, J, J, J, J, J, J, J, J, J, J, J, J, J, J, J, J, J, J, J, J, J, J, J, J, J, J, J, J, J, J, J, J, J, J, J, J, J, J, J, J, J, J, J, J, J, J, J, J, J, J, J, J, J, J, J, J, J, J, J, J, J, J, J, J, J, J, J, J, J, J, J, J, J, J, J, J, J, J, J, J, J, J, J, J, J, J, J, J, J, J, J, J, J, J, J, J, J, J, J, J, J, J, J], [])) e.purities.length (fun k => (e.purities.take k).all (purityOk e) = true) [] rfl
        ⟨rfl, rfl, trivial, ⟨rfl, rfl, trivial⟩⟩ ?_
      intro k hk hI
      by_cases hlt : k < e.purities.length
      · obtain ⟨x, hx⟩ : ∃ x, e.purities[k]? = some x := ⟨_, List.getElem?_eq_getElem hlt⟩
        conv => whnf
        (repeat' (first | ((refine DecB.mk (fun h => ?_) (fun h => ?_)) <;> first | (exfalso; omega) | (conv => whnf)) | ((refine BoolB.mk (fun h => ?_) (fun h => ?_)) <;> first | (exact absurd h (by decide)) | (conv => whnf)) | ((first | refine ⟨_, wrap_ok (by omega) (by omega), ?_⟩ | refine and_idx (by omega) (by omega) ?_ | refine reg_ok (by decide +kernel) ?_ | refine bar_ok (by decide +kernel) (by decide +kernel) ?_ | refine late_ok rfl rfl ?_ | refine src_ok rfl ?_ | refine .inl ⟨_, _, qcall_pure (r14idx x.move (e.moves.map Move.row).length) rfl rfl, ?_⟩ | refine .inl ⟨_, _, qcall_pure (r14idx x.mat e.mats) rfl rfl, ?_⟩ | refine .inl ⟨_, _, qcall_pure (r14in x.most x.least 1000) rfl rfl, ?_⟩ | refine ex_row hx ?_ | refine LitB.data ?_ | refine BoxB.own ?_); conv => whnf)))
        all_goals first
          | (exfalso; omega)
          | (refine ⟨hlt, ?_, [], rfl, rfl, trivial, ⟨rfl, rfl, trivial⟩⟩; rw [all_take_succ hx, hI]; simp_all [purityOk, btw]; done)
          | (refine fin_bool ?_; rw [saidOk, hc, hr, all_of_get hx]; rfl; simp_all [purityOk, btw]; (try omega); done)
      · have hp : e.purities.all (purityOk e) = true := by rw [← hI, List.take_of_length_le (by omega)]
        conv => whnf
        (repeat' (first | ((refine DecB.mk (fun h => ?_) (fun h => ?_)) <;> first | (exfalso; omega) | (conv => whnf)) | ((refine BoolB.mk (fun h => ?_) (fun h => ?_)) <;> first | (exact absurd h (by decide)) | (conv => whnf)) | ((first | refine ⟨_, wrap_ok (by omega) (by omega), ?_⟩ | refine and_idx (by omega) (by omega) ?_ | refine reg_ok (by decide +kernel) ?_ | refine bar_ok (by decide +kernel) (by decide +kernel) ?_ | refine late_ok rfl rfl ?_ | refine src_ok rfl ?_ | refine LitB.data ?_ | refine BoxB.own ?_); conv => whnf)))
        all_goals first
          | (exfalso; omega)
          | (refine fin_bool ?_; rw [saidOk, hc, hr, hp]; rfl)
theorem r14Check (e : Ev) (hs : e.Sized) : ACall Tryz.prog 31 [evS e] [] (intS .i64 (check e)) [] := by
  have l1 : (e.places.map Place.row).length = e.places.length := by simp
  have l8 : (e.moves.map Move.row).length = e.moves.length := by simp
  have fu := r14full e hs
  cases hf : fullB e with
  | true =>
    rw [hf] at fu
    (refine acall_of tab_ok Tryz.func31 rfl (by decide) ?_; (conv => whnf); repeat (first | (refine LitB.data ?_; conv => whnf) | (refine BoxB.data ?_; conv => whnf)))
    (repeat' (first | ((refine DecB.mk (fun h => ?_) (fun h => ?_)) <;> first | (exfalso; omega) | (conv => whnf)) | ((refine BoolB.mk (fun h => ?_) (fun h => ?_)) <;> first | (exact absurd h (by decide)) | (conv => whnf)) | ((first | refine ⟨_, wrap_ok (by omega) (by omega), ?_⟩ | refine and_idx (by omega) (by omega) ?_ | refine reg_ok (by decide +kernel) ?_ | refine bar_ok (by decide +kernel) (by decide +kernel) ?_ | refine late_ok rfl rfl ?_ | refine src_ok rfl ?_ | refine .inl ⟨_, _, qcall_pure (fu) rfl rfl, ?_⟩ | refine LitB.data ?_ | refine BoxB.own ?_); conv => whnf)))
    all_goals first
      | (exfalso; simp_all; done)
      | (refine fin_int ?_; unfold check; rw [if_pos hf])
  | false =>
    rw [hf] at fu
    by_cases hb : e.mats < 1 ∨ e.hhs < 0 ∨ e.scs < 0
    · have e1 : check e = 1 := by
        unfold check; rw [if_neg (by simp [hf]), if_pos (by rcases hb with h | h | h <;> simp [h])]
      rw [e1]
      (refine acall_of tab_ok Tryz.func31 rfl (by decide) ?_; (conv => whnf); repeat (first | (refine LitB.data ?_; conv => whnf) | (refine BoxB.data ?_; conv => whnf)))
      (repeat' (first | ((refine DecB.mk (fun h => ?_) (fun h => ?_)) <;> first | (exfalso; omega) | (conv => whnf)) | ((refine BoolB.mk (fun h => ?_) (fun h => ?_)) <;> first | (exact absurd h (by decide)) | (conv => whnf)) | ((first | refine ⟨_, wrap_ok (by omega) (by omega), ?_⟩ | refine and_idx (by omega) (by omega) ?_ | refine reg_ok (by decide +kernel) ?_ | refine bar_ok (by decide +kernel) (by decide +kernel) ?_ | refine late_ok rfl rfl ?_ | refine src_ok rfl ?_ | refine .inl ⟨_, _, qcall_pure (fu) rfl rfl, ?_⟩ | refine LitB.data ?_ | refine BoxB.own ?_); conv => whnf)))
      all_goals first
        | (exfalso; simp_all; done)
        | (exfalso; omega)
        | exact fin_int rfl
    have hfb := hf
    unfold fullB at hfb
    simp only [Bool.or_eq_false_iff, decide_eq_false_iff_not] at hfb
    (refine acall_of tab_ok Tryz.func31 rfl (by decide) ?_; (conv => whnf); repeat (first | (refine LitB.data ?_; conv => whnf) | (refine BoxB.data ?_; conv => whnf)))
    (repeat' (first | ((refine DecB.mk (fun h => ?_) (fun h => ?_)) <;> first | (exfalso; omega) | (conv => whnf)) | ((refine BoolB.mk (fun h => ?_) (fun h => ?_)) <;> first | (exact absurd h (by decide)) | (conv => whnf)) | ((first | refine ⟨_, wrap_ok (by omega) (by omega), ?_⟩ | refine and_idx (by omega) (by omega) ?_ | refine reg_ok (by decide +kernel) ?_ | refine bar_ok (by decide +kernel) (by decide +kernel) ?_ | refine late_ok rfl rfl ?_ | refine src_ok rfl ?_ | refine .inl ⟨_, _, qcall_pure (fu) rfl rfl, ?_⟩ | refine LitB.data ?_ | refine BoxB.own ?_); conv => whnf)))
    all_goals try (exfalso; omega)
    refine awp_for tab_ok (fun k => ([J, S.c (C.t (T.ptr (evT e))), J, intS .i64 k, J, J, J, J, J, J, J, J, J, J, J, J, J, J, J, J, J, J, J, J, J, J, J, J, J, J, J, J, J, J, J, J, J, J, J, J, J, J, J, J, J, J, J, J, J, J, J, J], [])) e.places.length (fun k => (e.places.take k).all (placeOk e) = true) [] rfl
      ⟨rfl, rfl, trivial, ⟨rfl, rfl, trivial⟩⟩ ?_
    intro k hk hI
    by_cases hlt : k < e.places.length
    · obtain ⟨x, hx⟩ : ∃ x, e.places[k]? = some x := ⟨_, List.getElem?_eq_getElem hlt⟩
      have pl := r14place e x (by omega) (by omega) (by omega) (by omega)
      conv => whnf
      (repeat' (first | ((refine DecB.mk (fun h => ?_) (fun h => ?_)) <;> first | (exfalso; omega) | (conv => whnf)) | ((refine BoolB.mk (fun h => ?_) (fun h => ?_)) <;> first | (exact absurd h (by decide)) | (conv => whnf)) | ((first | refine ⟨_, wrap_ok (by omega) (by omega), ?_⟩ | refine and_idx (by omega) (by omega) ?_ | refine reg_ok (by decide +kernel) ?_ | refine bar_ok (by decide +kernel) (by decide +kernel) ?_ | refine late_ok rfl rfl ?_ | refine src_ok rfl ?_ | refine .inl ⟨_, _, qcall_pure (pl) rfl rfl, ?_⟩ | refine ex_row hx ?_ | refine LitB.data ?_ | refine BoxB.own ?_); conv => whnf)))
      all_goals first
        | (exfalso; omega)
        | (refine ⟨hlt, ?_, [], rfl, rfl, trivial, ⟨rfl, rfl, trivial⟩⟩; rw [all_take_succ hx, hI]; simp_all; done)
        | (refine fin_int ?_; unfold check; rw [if_neg (by simp [hf]), if_pos (.inr (.inr (.inr (all_of_get hx (by assumption)))))])
    have hp : e.places.all (placeOk e) = true := by rw [← hI, List.take_of_length_le (by omega)]
    have hck : check e = if movesErr e 0 e.moves ≠ 0 then movesErr e 0 e.moves else if saidOk e then 0 else 1 := by
      unfold check; rw [if_neg (by simp [hf]), if_neg (by rw [hp]; simp; omega)]
    conv => whnf
    (repeat' (first | ((refine DecB.mk (fun h => ?_) (fun h => ?_)) <;> first | (exfalso; omega) | (conv => whnf)) | ((refine BoolB.mk (fun h => ?_) (fun h => ?_)) <;> first | (exact absurd h (by decide)) | (conv => whnf)) | ((first | refine ⟨_, wrap_ok (by omega) (by omega), ?_⟩ | refine and_idx (by omega) (by omega) ?_ | refine reg_ok (by decide +kernel) ?_ | refine bar_ok (by decide +kernel) (by decide +kernel) ?_ | refine late_ok rfl rfl ?_ | refine src_ok rfl ?_ | refine LitB.data ?_ | refine BoxB.own ?_); conv => whnf)))
    all_goals try (exfalso; omega)
    clear hI hlt hk
    refine awp_for tab_ok (fun k => ([J, S.c (C.t (T.ptr (evT e))), J, J, intS .i64 k, J, J, J, J, J, J, J, J, J, J, J, J, J, J, J, J, J, J, J, J, J, J, J, J, J, J, J, J, J, J, J, J, J, J, J, J, J, J, J, J, J, J, J, J, J, J, J], [])) e.moves.length (fun k => movesErr e 0 e.moves = movesErr e (lastD e k) (e.moves.drop k) ∧ 0 ≤ lastD e k) [] ⟨rfl, Int.le_refl 0⟩
      ⟨rfl, rfl, trivial, ⟨rfl, rfl, trivial⟩⟩ ?_
    rintro k hk ⟨hI, hI2⟩
    by_cases hlt : k < e.moves.length
    · obtain ⟨x, hx⟩ : ∃ x, e.moves[k]? = some x := ⟨_, List.getElem?_eq_getElem hlt⟩
      have mv := r14move e k x hx hf (by omega) (by omega) (by omega)
      rw [drop_get hx, movesErr] at hI
      have hm : movesErr e 0 e.moves = if moveE e k x = 0 then movesErr e x.day (e.moves.drop (k + 1)) else moveE e k x := by
        rw [hI]
        unfold moveE
        have hk0 : k = 0 → lastD e k = 0 := fun h => by subst h; rfl
        by_cases h1 : x.day < lastD e k ∨ 100000 < x.day
        · rw [if_pos h1, if_pos (c := x.day < 0 ∨ 100000 < x.day ∨ (0 < k ∧ x.day < lastD e k)) (by omega)]; simp
        · rw [if_neg h1, if_neg (c := x.day < 0 ∨ 100000 < x.day ∨ (0 < k ∧ x.day < lastD e k)) (by omega)]
          cases moveOk e x <;> simp
      have hv : moveE e k x = 0 → 0 ≤ x.day := fun h => by unfold moveE at h; split at h <;> omega
      have hm0 : moveE e k x = 0 → movesErr e 0 e.moves = movesErr e x.day (e.moves.drop (k + 1)) := fun h => by rw [hm, if_pos h]
      have hm1 : moveE e k x ≠ 0 → movesErr e 0 e.moves = moveE e k x := fun h => by rw [hm, if_neg h]
      clear hm hI
      conv => whnf
      (repeat' (first | ((refine DecB.mk (fun h => ?_) (fun h => ?_)) <;> first | (exfalso; omega) | (conv => whnf)) | ((refine BoolB.mk (fun h => ?_) (fun h => ?_)) <;> first | (exact absurd h (by decide)) | (conv => whnf)) | ((first | refine ⟨_, wrap_ok (by omega) (by omega), ?_⟩ | refine and_idx (by omega) (by omega) ?_ | refine reg_ok (by decide +kernel) ?_ | refine bar_ok (by decide +kernel) (by decide +kernel) ?_ | refine late_ok rfl rfl ?_ | refine src_ok rfl ?_ | refine .inl ⟨_, _, qcall_pure (mv) rfl rfl, ?_⟩ | refine LitB.data ?_ | refine BoxB.own ?_); conv => whnf)))
      all_goals first
        | (exfalso; omega)
        | (refine ⟨hlt, ⟨?_, ?_⟩, [], rfl, rfl, trivial, ⟨rfl, rfl, trivial⟩⟩
           · rw [lastD_succ hx]; exact hm0 (by omega)
           · rw [lastD_succ hx]; exact hv (by omega))
        | (refine fin_int ?_
           have hne : moveE e k x ≠ 0 := by omega
           rw [hck, hm1 hne, if_pos hne])
    · rw [List.drop_eq_nil_of_le (by omega), movesErr] at hI
      have sd := r14said e hs hf (by omega) (by omega)
      conv => whnf
      (repeat' (first | ((refine DecB.mk (fun h => ?_) (fun h => ?_)) <;> first | (exfalso; omega) | (conv => whnf)) | ((refine BoolB.mk (fun h => ?_) (fun h => ?_)) <;> first | (exact absurd h (by decide)) | (conv => whnf)) | ((first | refine ⟨_, wrap_ok (by omega) (by omega), ?_⟩ | refine and_idx (by omega) (by omega) ?_ | refine reg_ok (by decide +kernel) ?_ | refine bar_ok (by decide +kernel) (by decide +kernel) ?_ | refine late_ok rfl rfl ?_ | refine src_ok rfl ?_ | refine .inl ⟨_, _, qcall_pure (sd) rfl rfl, ?_⟩ | refine LitB.data ?_ | refine BoxB.own ?_); conv => whnf)))
      all_goals first
        | (exfalso; omega)
        | (refine fin_int ?_; rw [hck, hI]; simp_all; done)
end Go.Proofs.YtomfnfbijgjfeaaGreat
/- The reference's history: add, sub, times, Form, Moved, at, Interval, pure. -/
namespace Go.Proofs.YtomfnfbijgjfeaaGreat
open Go.RowKit
set_option linter.unusedVariables false
set_option linter.unusedSimpArgs false
set_option maxRecDepth 100000

theorem r15Interval (e : Ev) (hs : e.Sized) {k : Nat} {x : Move} (hx : e.moves[k]? = some x) : ACall Tryz.prog 26 [evS e, intS .i64 k] [] (.tup (ivL (ivOf e x))) [] := by
  have l1 := hs.s3
  have l2 := hs.s4
  have iv := r13Interval e.certs e.recalls (by omega) (by omega) x.scale x.reading x.day
  unfold ivOf
  by_cases hsc : x.scale = -1
  · rw [if_pos hsc]
    (refine acall_of tab_ok Tryz.func26 rfl (by decide) ?_; (conv => whnf); repeat (first | (refine LitB.data ?_; conv => whnf) | (refine BoxB.data ?_; conv => whnf)))
    (repeat' (first | ((refine DecB.mk (fun h => ?_) (fun h => ?_)) <;> first | (exfalso; omega) | (conv => whnf)) | ((refine BoolB.mk (fun h => ?_) (fun h => ?_)) <;> first | (exact absurd h (by decide)) | (conv => whnf)) | ((first | refine ⟨_, wrap_ok (by omega) (by omega), ?_⟩ | refine and_idx (by omega) (by omega) ?_ | refine reg_ok (by decide +kernel) ?_ | refine bar_ok (by decide +kernel) (by decide +kernel) ?_ | refine late_ok rfl rfl ?_ | refine src_ok rfl ?_ | refine .inl ⟨_, _, qcall_pure (1) rfl rfl, ?_⟩ | refine ex_row hx ?_ | refine bar_late [1] (by decide +kernel) (by decide +kernel) ?_ | refine LitB.data ?_ | refine BoxB.own ?_); conv => whnf)))
    all_goals first
      | (exfalso; omega)
      | exact fin_t ⟨⟨rfl, rfl, rfl, rfl, trivial⟩, ⟨rfl, rfl, rfl, rfl, trivial⟩, rfl, trivial⟩
  · rw [if_neg hsc]
    cases hiv : interval e.certs e.recalls x.scale x.reading x.day with
    | none =>
      rw [hiv] at iv
      (refine acall_of tab_ok Tryz.func26 rfl (by decide) ?_; (conv => whnf); repeat (first | (refine LitB.data ?_; conv => whnf) | (refine BoxB.data ?_; conv => whnf)))
      (repeat' (first | ((refine DecB.mk (fun h => ?_) (fun h => ?_)) <;> first | (exfalso; omega) | (conv => whnf)) | ((refine BoolB.mk (fun h => ?_) (fun h => ?_)) <;> first | (exact absurd h (by decide)) | (conv => whnf)) | ((first | refine ⟨_, wrap_ok (by omega) (by omega), ?_⟩ | refine and_idx (by omega) (by omega) ?_ | refine reg_ok (by decide +kernel) ?_ | refine bar_ok (by decide +kernel) (by decide +kernel) ?_ | refine late_ok rfl rfl ?_ | refine src_ok rfl ?_ | refine .inl ⟨_, _, qcall_pure (iv) rfl rfl, ?_⟩ | refine ex_row hx ?_ | refine LitB.data ?_ | refine BoxB.own ?_); conv => whnf)))
      all_goals first
        | (exfalso; omega)
        | exact fin_t ⟨⟨rfl, rfl, rfl, rfl, trivial⟩, ⟨rfl, rfl, rfl, rfl, trivial⟩, rfl, trivial⟩
    | some p =>
      obtain ⟨lo, hi⟩ := p
      rw [hiv] at iv
      (refine acall_of tab_ok Tryz.func26 rfl (by decide) ?_; (conv => whnf); repeat (first | (refine LitB.data ?_; conv => whnf) | (refine BoxB.data ?_; conv => whnf)))
      (repeat' (first | ((refine DecB.mk (fun h => ?_) (fun h => ?_)) <;> first | (exfalso; omega) | (conv => whnf)) | ((refine BoolB.mk (fun h => ?_) (fun h => ?_)) <;> first | (exact absurd h (by decide)) | (conv => whnf)) | ((first | refine ⟨_, wrap_ok (by omega) (by omega), ?_⟩ | refine and_idx (by omega) (by omega) ?_ | refine reg_ok (by decide +kernel) ?_ | refine bar_ok (by decide +kernel) (by decide +kernel) ?_ | refine late_ok rfl rfl ?_ | refine src_ok rfl ?_ | refine .inl ⟨_, _, qcall_pure (iv) rfl rfl, ?_⟩ | refine ex_row hx ?_ | refine LitB.data ?_ | refine BoxB.own ?_); conv => whnf)))
      all_goals first
        | (exfalso; omega)
        | exact fin_t ⟨⟨rfl, rfl, rfl, rfl, trivial⟩, ⟨rfl, rfl, rfl, rfl, trivial⟩, rfl, trivial⟩
end Go.Proofs.YtomfnfbijgjfeaaGreat
/- The reference of chapter 21: mark, Check, right, term, one, found, at. -/
namespace Go.Proofs.YtomfnfbijgjfeaaGreat
open Go.RowKit
set_option linter.unusedVariables false
set_option linter.unusedSimpArgs false
set_option maxRecDepth 100000

theorem r21mark (e : Ev) (mv kind : Int) : ACall Tryz.prog 32 [evS e, intS .i64 mv, intS .i64 kind] [] (intS .i64 (markE e mv kind)) [] := by
  have l2 : (e.moves.map Move.row).length = e.moves.length := by simp
  (refine acall_of tab_ok Tryz.func32 rfl (by decide) ?_; (conv => whnf); repeat (first | (refine LitB.data ?_; conv => whnf) | (refine BoxB.data ?_; conv => whnf)))
  (repeat' (first | ((refine DecB.mk (fun h => ?_) (fun h => ?_)) <;> first | (exfalso; omega) | (conv => whnf)) | ((refine BoolB.mk (fun h => ?_) (fun h => ?_)) <;> first | (exact absurd h (by decide)) | (conv => whnf)) | ((first | refine ⟨_, wrap_ok (by omega) (by omega), ?_⟩ | refine and_idx (by omega) (by omega) ?_ | refine reg_ok (by decide +kernel) ?_ | refine bar_ok (by decide +kernel) (by decide +kernel) ?_ | refine late_ok rfl rfl ?_ | refine src_ok rfl ?_ | refine LitB.data ?_ | refine BoxB.own ?_); conv => whnf)))
  all_goals (refine fin_int ?_; unfold markE; (repeat' split) <;> first | rfl | omega)
theorem r21Check (t : Trace) (hs : t.Sized) : ACall Tryz.prog 10 [trS t] [] (intS .i64 (traceE t)) [] := by
  have l1 := hs.f
  have l2 := hs.c
  have ck := r14Check t.ev hs.ev
  have m1 : (t.finds.map Find.row).length = t.finds.length := by simp
  have m2 : (t.cleans.map Clean.row).length = t.cleans.length := by simp
  by_cases h0 : check t.ev ≠ 0
  · have e1 : traceE t = check t.ev := by unfold traceE; rw [if_pos h0]
    rw [e1]
    (refine acall_of tab_ok Tryz.func10 rfl (by decide) ?_; (conv => whnf); repeat (first | (refine LitB.data ?_; conv => whnf) | (refine BoxB.data ?_; conv => whnf)))
    (repeat' (first | ((refine DecB.mk (fun h => ?_) (fun h => ?_)) <;> first | (exfalso; omega) | (conv => whnf)) | ((refine BoolB.mk (fun h => ?_) (fun h => ?_)) <;> first | (exact absurd h (by decide)) | (conv => whnf)) | ((first | refine ⟨_, wrap_ok (by omega) (by omega), ?_⟩ | refine and_idx (by omega) (by omega) ?_ | refine reg_ok (by decide +kernel) ?_ | refine bar_ok (by decide +kernel) (by decide +kernel) ?_ | refine late_ok rfl rfl ?_ | refine src_ok rfl ?_ | refine .inl ⟨_, _, qcall_pure (ck) rfl rfl, ?_⟩ | refine LitB.data ?_ | refine BoxB.own ?_); conv => whnf)))
    all_goals first
      | (exfalso; omega)
      | exact fin_int rfl
  have h0 : check t.ev = 0 := by omega
  rw [h0] at ck
  by_cases h1 : 20 < t.finds.length ∨ 50 < t.cleans.length
  · have e1 : traceE t = 6 := by unfold traceE; rw [if_neg (by omega), if_pos h1]
    rw [e1]
    (refine acall_of tab_ok Tryz.func10 rfl (by decide) ?_; (conv => whnf); repeat (first | (refine LitB.data ?_; conv => whnf) | (refine BoxB.data ?_; conv => whnf)))
    (repeat' (first | ((refine DecB.mk (fun h => ?_) (fun h => ?_)) <;> first | (exfalso; omega) | (conv => whnf)) | ((refine BoolB.mk (fun h => ?_) (fun h => ?_)) <;> first | (exact absurd h (by decide)) | (conv => whnf)) | ((first | refine ⟨_, wrap_ok (by omega) (by omega), ?_⟩ | refine and_idx (by omega) (by omega) ?_ | refine reg_ok (by decide +kernel) ?_ | refine bar_ok (by decide +kernel) (by decide +kernel) ?_ | refine late_ok rfl rfl ?_ | refine src_ok rfl ?_ | refine .inl ⟨_, _, qcall_pure (ck) rfl rfl, ?_⟩ | refine LitB.data ?_ | refine BoxB.own ?_); conv => whnf)))
    all_goals first
      | (exfalso; omega)
      | exact fin_int rfl
  have e1 : traceE t = if findsE t.ev t.finds ≠ 0 then findsE t.ev t.finds else cleansE t.ev t.cleans := by unfold traceE; rw [if_neg (by omega), if_neg h1]
  rw [e1]
  (refine acall_of tab_ok Tryz.func10 rfl (by decide) ?_; (conv => whnf); repeat (first | (refine LitB.data ?_; conv => whnf) | (refine BoxB.data ?_; conv => whnf)))
  (repeat' (first | ((refine DecB.mk (fun h => ?_) (fun h => ?_)) <;> first | (exfalso; omega) | (conv => whnf)) | ((refine BoolB.mk (fun h => ?_) (fun h => ?_)) <;> first | (exact absurd h (by decide)) | (conv => whnf)) | ((first | refine ⟨_, wrap_ok (by omega) (by omega), ?_⟩ | refine and_idx (by omega) (by omega) ?_ | refine reg_ok (by decide +kernel) ?_ | refine bar_ok (by decide +kernel) (by decide +kernel) ?_ | refine late_ok rfl rfl ?_ | refine src_ok rfl ?_ | refine .inl ⟨_, _, qcall_pure (ck) rfl rfl, ?_⟩ | refine LitB.data ?_ | refine BoxB.own ?_); conv => whnf)))
  all_goals try (exfalso; omega)
  refine awp_for tab_ok (fun k => ([J, S.c (C.t (T.ptr (trT t))), J, J, intS .i64 k, J, J, J, J, J, J, J, J, J, J, J, J, J, J, J, J, J, J, J, J, J, J, J, J, J, J, J, J, J, J, J, J, J, J, J, J, J, J, J, J, J, J, J, J, J, J, J, J, J, J, J, J, J, J, J, J, J, J, J, J, J, J, J, J, J, J, J, J, J, J, J, J, J], [])) t.finds.length (fun k => findsE t.ev t.finds = findsE t.ev (t.finds.drop k)) [] rfl
    ⟨rfl, rfl, trivial, ⟨rfl, rfl, trivial⟩⟩ ?_
  intro k hk hI
  by_cases hlt : k < t.finds.length
  · obtain ⟨f, hf⟩ : ∃ f, t.finds[k]? = some f := ⟨_, List.getElem?_eq_getElem hlt⟩
    have mk := r21mark t.ev f.mv f.kind
    rw [drop_get hf, findsE] at hI
    by_cases hm : markE t.ev f.mv f.kind ≠ 0
    · rw [if_pos hm] at hI
      rw [hI, if_pos hm]
      conv => whnf
      (repeat' (first | ((refine DecB.mk (fun h => ?_) (fun h => ?_)) <;> first | (exfalso; omega) | (conv => whnf)) | ((refine BoolB.mk (fun h => ?_) (fun h => ?_)) <;> first | (exact absurd h (by decide)) | (conv => whnf)) | ((first | refine ⟨_, wrap_ok (by omega) (by omega), ?_⟩ | refine and_idx (by omega) (by omega) ?_ | refine reg_ok (by decide +kernel) ?_ | refine bar_ok (by decide +kernel) (by decide +kernel) ?_ | refine late_ok rfl rfl ?_ | refine src_ok rfl ?_ | refine .inl ⟨_, _, qcall_pure (mk) rfl rfl, ?_⟩ | refine ex_row hf ?_ | refine LitB.data ?_ | refine BoxB.own ?_); conv => whnf)))
      all_goals first
        | (exfalso; omega)
        | exact fin_int rfl
    · rw [if_neg hm] at hI
      by_cases hg : f.grams < 1 ∨ 1099511627776 < f.grams
      · rw [if_pos hg] at hI
        rw [hI]
        conv => whnf
        (repeat' (first | ((refine DecB.mk (fun h => ?_) (fun h => ?_)) <;> first | (exfalso; omega) | (conv => whnf)) | ((refine BoolB.mk (fun h => ?_) (fun h => ?_)) <;> first | (exact absurd h (by decide)) | (conv => whnf)) | ((first | refine ⟨_, wrap_ok (by omega) (by omega), ?_⟩ | refine and_idx (by omega) (by omega) ?_ | refine reg_ok (by decide +kernel) ?_ | refine bar_ok (by decide +kernel) (by decide +kernel) ?_ | refine late_ok rfl rfl ?_ | refine src_ok rfl ?_ | refine .inl ⟨_, _, qcall_pure (mk) rfl rfl, ?_⟩ | refine ex_row hf ?_ | refine LitB.data ?_ | refine BoxB.own ?_); conv => whnf)))
        all_goals first
          | (exfalso; omega)
          | exact fin_int rfl
      · rw [if_neg hg] at hI
        conv => whnf
        (repeat' (first | ((refine DecB.mk (fun h => ?_) (fun h => ?_)) <;> first | (exfalso; omega) | (conv => whnf)) | ((refine BoolB.mk (fun h => ?_) (fun h => ?_)) <;> first | (exact absurd h (by decide)) | (conv => whnf)) | ((first | refine ⟨_, wrap_ok (by omega) (by omega), ?_⟩ | refine and_idx (by omega) (by omega) ?_ | refine reg_ok (by decide +kernel) ?_ | refine bar_ok (by decide +kernel) (by decide +kernel) ?_ | refine late_ok rfl rfl ?_ | refine src_ok rfl ?_ | refine .inl ⟨_, _, qcall_pure (mk) rfl rfl, ?_⟩ | refine ex_row hf ?_ | refine LitB.data ?_ | refine BoxB.own ?_); conv => whnf)))
        all_goals first
          | (exfalso; omega)
          | exact ⟨hlt, hI, [], rfl, rfl, trivial, ⟨rfl, rfl, trivial⟩⟩
  · rw [List.drop_of_length_le (by omega)] at hI
    have hI : findsE t.ev t.finds = 0 := hI
    rw [hI, if_neg (by omega)]
    conv => whnf
    (repeat' (first | ((refine DecB.mk (fun h => ?_) (fun h => ?_)) <;> first | (exfalso; omega) | (conv => whnf)) | ((refine BoolB.mk (fun h => ?_) (fun h => ?_)) <;> first | (exact absurd h (by decide)) | (conv => whnf)) | ((first | refine ⟨_, wrap_ok (by omega) (by omega), ?_⟩ | refine and_idx (by omega) (by omega) ?_ | refine reg_ok (by decide +kernel) ?_ | refine bar_ok (by decide +kernel) (by decide +kernel) ?_ | refine late_ok rfl rfl ?_ | refine src_ok rfl ?_ | refine LitB.data ?_ | refine BoxB.own ?_); conv => whnf)))
    all_goals try (exfalso; omega)
    refine awp_for tab_ok (fun k => ([J, S.c (C.t (T.ptr (trT t))), J, J, J, J, intS .i64 k, J, J, J, J, J, J, J, J, J, J, J, J, J, J, J, J, J, J, J, J, J, J, J, J, J, J, J, J, J, J, J, J, J, J, J, J, J, J, J, J, J, J, J, J, J, J, J, J, J, J, J, J, J, J, J, J, J, J, J, J, J, J, J, J, J, J, J, J, J, J, J], [])) t.cleans.length (fun k => cleansE t.ev t.cleans = cleansE t.ev (t.cleans.drop k)) [] rfl
      ⟨rfl, rfl, trivial, ⟨rfl, rfl, trivial⟩⟩ ?_
    intro j hj hJ
    by_cases hjt : j < t.cleans.length
    · obtain ⟨c, hc⟩ : ∃ c, t.cleans[j]? = some c := ⟨_, List.getElem?_eq_getElem hjt⟩
      have mk := r21mark t.ev c.mv c.kind
      rw [drop_get hc, cleansE] at hJ
      by_cases hm : markE t.ev c.mv c.kind ≠ 0
      · rw [if_pos hm] at hJ
        rw [hJ]
        conv => whnf
        (repeat' (first | ((refine DecB.mk (fun h => ?_) (fun h => ?_)) <;> first | (exfalso; omega) | (conv => whnf)) | ((refine BoolB.mk (fun h => ?_) (fun h => ?_)) <;> first | (exact absurd h (by decide)) | (conv => whnf)) | ((first | refine ⟨_, wrap_ok (by omega) (by omega), ?_⟩ | refine and_idx (by omega) (by omega) ?_ | refine reg_ok (by decide +kernel) ?_ | refine bar_ok (by decide +kernel) (by decide +kernel) ?_ | refine late_ok rfl rfl ?_ | refine src_ok rfl ?_ | refine .inl ⟨_, _, qcall_pure (mk) rfl rfl, ?_⟩ | refine ex_row hc ?_ | refine LitB.data ?_ | refine BoxB.own ?_); conv => whnf)))
        all_goals first
          | (exfalso; omega)
          | exact fin_int rfl
      · rw [if_neg hm] at hJ
        conv => whnf
        (repeat' (first | ((refine DecB.mk (fun h => ?_) (fun h => ?_)) <;> first | (exfalso; omega) | (conv => whnf)) | ((refine BoolB.mk (fun h => ?_) (fun h => ?_)) <;> first | (exact absurd h (by decide)) | (conv => whnf)) | ((first | refine ⟨_, wrap_ok (by omega) (by omega), ?_⟩ | refine and_idx (by omega) (by omega) ?_ | refine reg_ok (by decide +kernel) ?_ | refine bar_ok (by decide +kernel) (by decide +kernel) ?_ | refine late_ok rfl rfl ?_ | refine src_ok rfl ?_ | refine .inl ⟨_, _, qcall_pure (mk) rfl rfl, ?_⟩ | refine ex_row hc ?_ | refine LitB.data ?_ | refine BoxB.own ?_); conv => whnf)))
        all_goals first
          | (exfalso; omega)
          | exact ⟨hjt, hJ, [], rfl, rfl, trivial, ⟨rfl, rfl, trivial⟩⟩
    · rw [List.drop_of_length_le (by omega)] at hJ
      have hJ : cleansE t.ev t.cleans = 0 := hJ
      rw [hJ]
      conv => whnf
      (repeat' (first | ((refine DecB.mk (fun h => ?_) (fun h => ?_)) <;> first | (exfalso; omega) | (conv => whnf)) | ((refine BoolB.mk (fun h => ?_) (fun h => ?_)) <;> first | (exact absurd h (by decide)) | (conv => whnf)) | ((first | refine ⟨_, wrap_ok (by omega) (by omega), ?_⟩ | refine and_idx (by omega) (by omega) ?_ | refine reg_ok (by decide +kernel) ?_ | refine bar_ok (by decide +kernel) (by decide +kernel) ?_ | refine late_ok rfl rfl ?_ | refine src_ok rfl ?_ | refine LitB.data ?_ | refine BoxB.own ?_); conv => whnf)))
      all_goals first
        | (exfalso; omega)
        | exact fin_int rfl
theorem r21right (t : Trace) (hs : t.Sized) (kind : Int) : ACall Tryz.prog 24 [trS t, intS .i64 kind] [] (boolS (decide (traceE t = 0 ∧ 0 ≤ kind ∧ kind < 8))) [] := by
  have ck := r21Check t hs
  (refine acall_of tab_ok Tryz.func24 rfl (by decide) ?_; (conv => whnf); repeat (first | (refine LitB.data ?_; conv => whnf) | (refine BoxB.data ?_; conv => whnf)))
  (repeat' (first | ((refine DecB.mk (fun h => ?_) (fun h => ?_)) <;> first | (exfalso; omega) | (conv => whnf)) | ((refine BoolB.mk (fun h => ?_) (fun h => ?_)) <;> first | (exact absurd h (by decide)) | (conv => whnf)) | ((first | refine ⟨_, wrap_ok (by omega) (by omega), ?_⟩ | refine and_idx (by omega) (by omega) ?_ | refine reg_ok (by decide +kernel) ?_ | refine bar_ok (by decide +kernel) (by decide +kernel) ?_ | refine late_ok rfl rfl ?_ | refine src_ok rfl ?_ | refine .inl ⟨_, _, qcall_pure (ck) rfl rfl, ?_⟩ | refine LitB.data ?_ | refine BoxB.own ?_); conv => whnf)))
  all_goals (refine fin_bool ?_; simp; try omega)
theorem r21term (v n : Int) (h1 : -9223372036854775808 ≤ n) (h2 : n ≤ 9223372036854775807) : ACall Tryz.prog 50 [intS .i64 v, intS .i64 n] [] (.agg ((termRow (v, (n : Rat))).map .t)) [] := by
  have i1 := r5Int n h1 h2
  (refine acall_of tab_ok Tryz.func50 rfl (by decide) ?_; (conv => whnf); repeat (first | (refine LitB.data ?_; conv => whnf) | (refine BoxB.data ?_; conv => whnf)))
  (repeat' (first | ((refine DecB.mk (fun h => ?_) (fun h => ?_)) <;> first | (exfalso; omega) | (conv => whnf)) | ((refine BoolB.mk (fun h => ?_) (fun h => ?_)) <;> first | (exact absurd h (by decide)) | (conv => whnf)) | ((first | refine ⟨_, wrap_ok (by omega) (by omega), ?_⟩ | refine and_idx (by omega) (by omega) ?_ | refine reg_ok (by decide +kernel) ?_ | refine bar_ok (by decide +kernel) (by decide +kernel) ?_ | refine late_ok rfl rfl ?_ | refine src_ok rfl ?_ | refine .inl ⟨_, _, qcall_pure (i1) rfl rfl, ?_⟩ | refine LitB.data ?_ | refine BoxB.own ?_); conv => whnf)))
  exact fin_t ⟨rfl, rfl, rfl, rfl, rfl, trivial⟩
theorem r21one (i : Nat) (kind : Int) (v : Rat) : ACall Tryz.prog 27 [intS .i64 i, intS .i64 kind, frS (fz v)] [] (rowS (oneRow i kind v)) [] := by
  have i1 := r21term i 1 (by decide) (by decide)
  (refine acall_of tab_ok Tryz.func27 rfl (by decide) ?_; (conv => whnf); repeat (first | (refine LitB.data ?_; conv => whnf) | (refine BoxB.data ?_; conv => whnf)))
  (repeat' (first | ((refine DecB.mk (fun h => ?_) (fun h => ?_)) <;> first | (exfalso; omega) | (conv => whnf)) | ((refine BoolB.mk (fun h => ?_) (fun h => ?_)) <;> first | (exact absurd h (by decide)) | (conv => whnf)) | ((first | refine ⟨_, wrap_ok (by omega) (by omega), ?_⟩ | refine and_idx (by omega) (by omega) ?_ | refine reg_ok (by decide +kernel) ?_ | refine bar_ok (by decide +kernel) (by decide +kernel) ?_ | refine late_ok rfl rfl ?_ | refine src_ok rfl ?_ | refine .inl ⟨_, _, qcall_pure (i1) rfl rfl, ?_⟩ | refine LitB.weak ?_ | refine LitB.data ?_ | refine BoxB.own ?_); conv => whnf)))
  exact fin_t ⟨rfl, rfl, rfl, rfl, rfl, rfl, trivial⟩
theorem grams_mem {l : List Find} {f : Find} {kind : Int} {i : Nat} (hf : f ∈ l) (h1 : f.mv = (i : Int)) (h2 : f.kind = kind) : f.grams ∈ gramsOf l kind i := by
  unfold gramsOf
  exact List.mem_map.2 ⟨f, List.mem_filter.2 ⟨hf, by simp [h1, h2]⟩, rfl⟩
theorem cleans_mem {l : List Clean} {c : Clean} {kind : Int} {i : Nat} (hc : c ∈ l) (h1 : c.mv = (i : Int)) (h2 : c.kind = kind) : 0 < cleansOf l kind i := by
  unfold cleansOf
  exact List.length_pos_of_mem (List.mem_filter.2 ⟨hc, by simp [h1, h2]⟩)
def foundE (t : Trace) (kind : Int) (i : Nat) (z : Rat) : Int := if (gramsOf t.finds kind i).any (fun g => decide (z < (g : Rat))) then 24 else if 0 < cleansOf t.cleans kind i ∧ z ≠ 0 then 13 else 0
theorem r21found (t : Trace) (kind : Int) (i : Nat) (z : Rat) (hz : rl z ≤ 200) (hf : ∀ f ∈ t.finds, 1 ≤ f.grams ∧ f.grams ≤ 1099511627776) (hs : t.Sized) :
    ACall Tryz.prog 43 [trS t, intS .i64 kind, intS .i64 i, frS (fz z)] [] (intS .i64 (foundE t kind i z)) [] := by
  have l1 := hs.f
  have l2 := hs.c
  have m1 : (t.finds.map Find.row).length = t.finds.length := by simp
  have m2 : (t.cleans.map Clean.row).length = t.cleans.length := by simp
  have sg := r5Sign z (by omega)
  have sz := sgR_zero (x := z)
  (refine acall_of tab_ok Tryz.func43 rfl (by decide) ?_; (conv => whnf); repeat (first | (refine LitB.data ?_; conv => whnf) | (refine BoxB.data ?_; conv => whnf)))
  (repeat' (first | ((refine DecB.mk (fun h => ?_) (fun h => ?_)) <;> first | (exfalso; omega) | (conv => whnf)) | ((refine BoolB.mk (fun h => ?_) (fun h => ?_)) <;> first | (exact absurd h (by decide)) | (conv => whnf)) | ((first | refine ⟨_, wrap_ok (by omega) (by omega), ?_⟩ | refine and_idx (by omega) (by omega) ?_ | refine reg_ok (by decide +kernel) ?_ | refine bar_ok (by decide +kernel) (by decide +kernel) ?_ | refine late_ok rfl rfl ?_ | refine src_ok rfl ?_ | refine LitB.data ?_ | refine BoxB.own ?_); conv => whnf)))
  refine awp_for tab_ok (fun k => ([J, intS .i64 kind, intS .i64 i, J, S.c (C.t (T.ptr (trT t))), J, J, S.c (C.t (T.ptr (frRow (fz z)))), J, intS .i64 k, J, J, J, J, J, J, J, J, J, J, J, J, J, J, J, J, J, J, J, J, J, J, J, J, J, J, J, J, J, J, J, J, J, J, J, J, J, J, J, J, J, J, J, J, J, J, J, J, J, J, J, J, J, J, J, J, J, J, J, J, J, J, J, J, J, J, J, J], [])) t.finds.length (fun k => (gramsOf (t.finds.take k) kind i).any (fun g => decide (z < (g : Rat))) = false) [] rfl
    ⟨rfl, rfl, trivial, ⟨rfl, rfl, rfl, rfl, rfl, trivial⟩⟩ ?_
  intro k hk hI
  by_cases hlt : k < t.finds.length
  · obtain ⟨f, hfk⟩ : ∃ f, t.finds[k]? = some f := ⟨_, List.getElem?_eq_getElem hlt⟩
    have hfm := List.mem_of_getElem? hfk
    have fb := hf f hfm
    have ig := r5Int f.grams (by omega) (by omega)
    have hb4 := bl_int (x := f.grams) (by omega) (by omega)
    have cf := r5Compare z (f.grams : Rat) (by omega) (by rw [rl_int]; omega)
    have cl := cmpR_lt (x := z) (y := (f.grams : Rat))
    have hn : (f.mv = (i : Int) ∧ f.kind = kind → ¬ cmpR z (f.grams : Rat) < 0) → (gramsOf (t.finds.take (k + 1)) kind i).any (fun g => decide (z < (g : Rat))) = false := fun h => by
      rw [take_snocR hfk, gramsOf_more, List.any_append, hI, Bool.false_or]
      by_cases hc : f.kind = kind ∧ f.mv = (i : Int)
      · rw [if_pos hc]
        have := h ⟨hc.2, hc.1⟩
        simp only [List.any_cons, List.any_nil, Bool.or_false, decide_eq_false_iff_not]
        exact fun h' => this (cl.2 h')
      · rw [if_neg hc]; rfl
    have hy : f.mv = (i : Int) → f.kind = kind → cmpR z (f.grams : Rat) < 0 → foundE t kind i z = 24 := fun h1 h2 h3 => by
      unfold foundE
      rw [if_pos (List.any_eq_true.2 ⟨_, grams_mem hfm h1 h2, decide_eq_true (cl.1 h3)⟩)]
    generalize cmpR z (f.grams : Rat) = V at cf hn hy
    conv => whnf
    (repeat' (first | ((refine DecB.mk (fun h => ?_) (fun h => ?_)) <;> first | (exfalso; omega) | (conv => whnf)) | ((refine BoolB.mk (fun h => ?_) (fun h => ?_)) <;> first | (exact absurd h (by decide)) | (conv => whnf)) | ((first | refine ⟨_, wrap_ok (by omega) (by omega), ?_⟩ | refine and_idx (by omega) (by omega) ?_ | refine reg_ok (by decide +kernel) ?_ | refine bar_ok (by decide +kernel) (by decide +kernel) ?_ | refine late_ok rfl rfl ?_ | refine src_ok rfl ?_ | refine .inl ⟨_, _, qcall_pure (ig) rfl rfl, ?_⟩ | refine .inl ⟨_, _, qcall_pure (cf) rfl rfl, ?_⟩ | refine ex_row hfk ?_ | refine LitB.data ?_ | refine BoxB.own ?_); conv => whnf)))
    all_goals first
      | (exfalso; omega)
      | exact fin_int (hy (by omega) (by omega) (by omega)).symm
      | exact ⟨hlt, hn (by omega), [], rfl, rfl, trivial, ⟨rfl, rfl, rfl, rfl, rfl, trivial⟩⟩
  · rw [List.take_of_length_le (by omega)] at hI
    have e1 : foundE t kind i z = if 0 < cleansOf t.cleans kind i ∧ z ≠ 0 then 13 else 0 := by unfold foundE; rw [hI]; rfl
    rw [e1]
    conv => whnf
    (repeat' (first | ((refine DecB.mk (fun h => ?_) (fun h => ?_)) <;> first | (exfalso; omega) | (conv => whnf)) | ((refine BoolB.mk (fun h => ?_) (fun h => ?_)) <;> first | (exact absurd h (by decide)) | (conv => whnf)) | ((first | refine ⟨_, wrap_ok (by omega) (by omega), ?_⟩ | refine and_idx (by omega) (by omega) ?_ | refine reg_ok (by decide +kernel) ?_ | refine bar_ok (by decide +kernel) (by decide +kernel) ?_ | refine late_ok rfl rfl ?_ | refine src_ok rfl ?_ | refine LitB.data ?_ | refine BoxB.own ?_); conv => whnf)))
    all_goals try (exfalso; omega)
    refine awp_for tab_ok (fun k => ([J, intS .i64 kind, intS .i64 i, J, S.c (C.t (T.ptr (trT t))), J, J, S.c (C.t (T.ptr (frRow (fz z)))), J, J, intS .i64 k, J, J, J, J, J, J, J, J, J, J, J, J, J, J, J, J, J, J, J, J, J, J, J, J, J, J, J, J, J, J, J, J, J, J, J, J, J, J, J, J, J, J, J, J, J, J, J, J, J, J, J, J, J, J, J, J, J, J, J, J, J, J, J, J, J, J, J], [])) t.cleans.length (fun k => cleansOf (t.cleans.take k) kind i = 0 ∨ z = 0) [] (.inl rfl)
      ⟨rfl, rfl, trivial, ⟨rfl, rfl, rfl, rfl, rfl, trivial⟩⟩ ?_
    intro j hj hJ
    by_cases hjt : j < t.cleans.length
    · obtain ⟨c, hck⟩ : ∃ c, t.cleans[j]? = some c := ⟨_, List.getElem?_eq_getElem hjt⟩
      have hcm := List.mem_of_getElem? hck
      have hn : ¬ (c.mv = (i : Int) ∧ c.kind = kind ∧ sgR z ≠ 0) → (cleansOf (t.cleans.take (j + 1)) kind i = 0 ∨ z = 0) := fun h => by
        rcases hJ with hJ | hJ
        · by_cases h2 : z = 0
          · exact .inr h2
          · refine .inl ?_
            rw [take_snocR hck, cleansOf_more, hJ, if_neg (fun h3 => h ⟨h3.2, h3.1, fun h4 => h2 (sz.1 h4)⟩)]
        · exact .inr hJ
      have hy : c.mv = (i : Int) → c.kind = kind → sgR z ≠ 0 → (if 0 < cleansOf t.cleans kind i ∧ z ≠ 0 then (13 : Int) else 0) = 13 := fun h1 h2 h3 => by
        rw [if_pos ⟨cleans_mem hcm h1 h2, fun h4 => h3 (sz.2 h4)⟩]
      generalize sgR z = W at sg hn hy
      conv => whnf
      (repeat' (first | ((refine DecB.mk (fun h => ?_) (fun h => ?_)) <;> first | (exfalso; omega) | (conv => whnf)) | ((refine BoolB.mk (fun h => ?_) (fun h => ?_)) <;> first | (exact absurd h (by decide)) | (conv => whnf)) | ((first | refine ⟨_, wrap_ok (by omega) (by omega), ?_⟩ | refine and_idx (by omega) (by omega) ?_ | refine reg_ok (by decide +kernel) ?_ | refine bar_ok (by decide +kernel) (by decide +kernel) ?_ | refine late_ok rfl rfl ?_ | refine src_ok rfl ?_ | refine .inl ⟨_, _, qcall_pure (sg) rfl rfl, ?_⟩ | refine ex_row hck ?_ | refine LitB.data ?_ | refine BoxB.own ?_); conv => whnf)))
      all_goals first
        | (exfalso; omega)
        | exact fin_int (hy (by omega) (by omega) (by omega)).symm
        | exact ⟨hjt, hn (by omega), [], rfl, rfl, trivial, ⟨rfl, rfl, rfl, rfl, rfl, trivial⟩⟩
    · rw [List.take_of_length_le (by omega)] at hJ
      have e2 : (if 0 < cleansOf t.cleans kind i ∧ z ≠ 0 then (13 : Int) else 0) = 0 := by
        rw [if_neg]
        rintro ⟨h1, h2⟩
        rcases hJ with hJ | hJ
        · omega
        · exact h2 hJ
      rw [e2]
      conv => whnf
      (repeat' (first | ((refine DecB.mk (fun h => ?_) (fun h => ?_)) <;> first | (exfalso; omega) | (conv => whnf)) | ((refine BoolB.mk (fun h => ?_) (fun h => ?_)) <;> first | (exact absurd h (by decide)) | (conv => whnf)) | ((first | refine ⟨_, wrap_ok (by omega) (by omega), ?_⟩ | refine and_idx (by omega) (by omega) ?_ | refine reg_ok (by decide +kernel) ?_ | refine bar_ok (by decide +kernel) (by decide +kernel) ?_ | refine late_ok rfl rfl ?_ | refine src_ok rfl ?_ | refine LitB.data ?_ | refine BoxB.own ?_); conv => whnf)))
      all_goals first
        | (exfalso; omega)
        | exact fin_int rfl
abbrev frB1 (f : Fr) : Blk := { mode := .live, elem := 52, size := 4, rows := [frC f], box := true }
theorem rowsT_frC1 (f : Fr) : rowsT [frC f] := by simp [rowsT, frC, frRow, C.isT]
abbrev frZ : Blk := { mode := .live, elem := 52, size := 4, rows := [frC zeroF], box := true }
theorem r21at (e : Ev) (Z : List Rat) (h0 : check e = 0) (hZ : ∀ v ∈ Z, rl v ≤ 200) (hl : Z.length = e.moves.length) (p k : Nat) (hk : k ≤ e.moves.length) :
    ACall Tryz.prog 41 [evS e, fracsS (Z.map fz), intS .i64 p, intS .i64 k] [] (frS (fz (tstk e Z k p))) [] := by
  obtain ⟨b1, b2, b3, b4⟩ := check_bounds h0
  have m0 : (e.moves.map Move.row).length = e.moves.length := by simp
  have i0 := r5Int 0 (by decide) (by decide)
  (refine acall_of tab_ok Tryz.func41 rfl (by decide) ?_; (conv => whnf); repeat (first | (refine LitB.data ?_; conv => whnf) | (refine BoxB.data ?_; conv => whnf)))
  (repeat' (first | ((refine DecB.mk (fun h => ?_) (fun h => ?_)) <;> first | (exfalso; omega) | (conv => whnf)) | ((refine BoolB.mk (fun h => ?_) (fun h => ?_)) <;> first | (exact absurd h (by decide)) | (conv => whnf)) | ((first | refine ⟨_, wrap_ok (by omega) (by omega), ?_⟩ | refine and_idx (by omega) (by omega) ?_ | refine reg_ok (by decide +kernel) ?_ | refine bar_ok (by decide +kernel) (by decide +kernel) ?_ | refine late_ok rfl rfl ?_ | refine src_ok rfl ?_ | refine .inl ⟨_, _, qcall_pure (i0) rfl rfl, ?_⟩ | refine LitB.data ?_ | refine BoxB.own ?_); conv => whnf)))
  all_goals try (exfalso; omega)
  refine awp_for tab_ok (fun i => ([J, fracsS (Z.map fz), intS .i64 p, intS .i64 k, S.c (C.t (T.ptr (evT e))), J, J, J, S.c (C.ptr 0 0 0), S.c (C.ptr 1 0 0), intS .i64 i, J, J, J, J, J, J, J, J, J, J, J, J, J, J, J, J, J, J, J, J, J, J, J, J, J, J, J, J, J, J, J, J, J, J, J, J, J, J, J, J, J], [frZ, frB1 (fz (tstk e Z i p))])) k (fun _ => True) [some 0, some 1] trivial
    ⟨rfl, rfl, ⟨⟨rfl, rfl, rfl, .inr ⟨⟨rfl, rfl, rfl, rfl, trivial⟩, trivial⟩⟩, ⟨rfl, rfl, rfl, .inl ⟨rfl, rowsT_frC1 _⟩⟩, trivial⟩, ⟨rfl, rfl, rfl, rfl, ⟨rfl, rfl, rfl⟩, ⟨rfl, rfl, rfl⟩, rfl, trivial⟩⟩ ?_
  intro i hi _
  by_cases hlt : i < k
  · obtain ⟨x, hx⟩ : ∃ x, e.moves[i]? = some x := ⟨_, List.getElem?_eq_getElem (by omega)⟩
    obtain ⟨v, hv⟩ : ∃ v, Z[i]? = some v := ⟨_, List.getElem?_eq_getElem (by omega)⟩
    have hvd : Z.getD i 0 = v := by rw [List.getD_eq_getElem?_getD, hv]; rfl
    have bv := hZ v (List.mem_of_getElem? hv)
    have bs := rl_tstk (e := e) hZ b4 (k := i) (by omega) p
    have hmo := check_move h0 (List.mem_of_getElem? hx)
    have hne : x.src ≠ x.dst := by unfold moveOk at hmo; simp only [Bool.and_eq_true, decide_eq_true_eq] at hmo; exact hmo.1.1.1.1.1.2
    have sb := r5Sub (tstk e Z i p) v (by omega) (by omega)
    have ad := r5Add (tstk e Z i p) v (by omega) (by omega)
    have zk := zero_get Z hv
    have su := tstk_succ (z := Z) hx p
    rw [hvd] at su
    by_cases c1 : x.dst = (p : Int)
    · have e2 : tstk e Z (i + 1) p = tstk e Z i p + v := by rw [su, if_neg (by omega), if_pos c1]
      conv => whnf
      (repeat' (first | ((refine DecB.mk (fun h => ?_) (fun h => ?_)) <;> first | (exfalso; omega) | (conv => whnf)) | ((refine BoolB.mk (fun h => ?_) (fun h => ?_)) <;> first | (exact absurd h (by decide)) | (conv => whnf)) | ((first | refine ⟨_, wrap_ok (by omega) (by omega), ?_⟩ | refine and_idx (by omega) (by omega) ?_ | refine reg_ok (by decide +kernel) ?_ | refine bar_ok (by decide +kernel) (by decide +kernel) ?_ | refine late_ok rfl rfl ?_ | refine src_ok rfl ?_ | refine .inl ⟨_, _, qcall_pure (sb) rfl rfl, ?_⟩ | refine .inl ⟨_, _, qcall_pure (ad) rfl rfl, ?_⟩ | refine .inl ⟨_, _, qcall_pure (8) rfl rfl, ?_⟩ | refine ex_row hx ?_ | refine ex_row zk ?_ | refine bar_late [8] (by decide +kernel) (by decide +kernel) ?_ | refine LitB.data ?_ | refine BoxB.own ?_); conv => whnf)))
      all_goals try (exfalso; omega)
      exact ⟨hlt, trivial, [some 0, some 1], rfl, rfl, ⟨⟨rfl, rfl, rfl, .inr ⟨⟨rfl, rfl, rfl, rfl, trivial⟩, trivial⟩⟩, ⟨rfl, rfl, rfl, .inl ⟨by rw [e2]; rfl, rowsT_frC1 _⟩⟩, trivial⟩, ⟨rfl, rfl, rfl, rfl, ⟨rfl, rfl, rfl⟩, ⟨rfl, rfl, rfl⟩, rfl, trivial⟩⟩
    · by_cases c2 : x.src = (p : Int)
      · have e2 : tstk e Z (i + 1) p = tstk e Z i p - v := by rw [su, if_pos c2]
        conv => whnf
        (repeat' (first | ((refine DecB.mk (fun h => ?_) (fun h => ?_)) <;> first | (exfalso; omega) | (conv => whnf)) | ((refine BoolB.mk (fun h => ?_) (fun h => ?_)) <;> first | (exact absurd h (by decide)) | (conv => whnf)) | ((first | refine ⟨_, wrap_ok (by omega) (by omega), ?_⟩ | refine and_idx (by omega) (by omega) ?_ | refine reg_ok (by decide +kernel) ?_ | refine bar_ok (by decide +kernel) (by decide +kernel) ?_ | refine late_ok rfl rfl ?_ | refine src_ok rfl ?_ | refine .inl ⟨_, _, qcall_pure (sb) rfl rfl, ?_⟩ | refine .inl ⟨_, _, qcall_pure (ad) rfl rfl, ?_⟩ | refine .inl ⟨_, _, qcall_pure (8) rfl rfl, ?_⟩ | refine ex_row hx ?_ | refine ex_row zk ?_ | refine bar_late [8] (by decide +kernel) (by decide +kernel) ?_ | refine LitB.data ?_ | refine BoxB.own ?_); conv => whnf)))
        all_goals try (exfalso; omega)
        exact ⟨hlt, trivial, [some 0, some 1], rfl, rfl, ⟨⟨rfl, rfl, rfl, .inr ⟨⟨rfl, rfl, rfl, rfl, trivial⟩, trivial⟩⟩, ⟨rfl, rfl, rfl, .inl ⟨by rw [e2]; rfl, rowsT_frC1 _⟩⟩, trivial⟩, ⟨rfl, rfl, rfl, rfl, ⟨rfl, rfl, rfl⟩, ⟨rfl, rfl, rfl⟩, rfl, trivial⟩⟩
      · have e2 : tstk e Z (i + 1) p = tstk e Z i p := by rw [su, if_neg c2, if_neg c1]
        conv => whnf
        (repeat' (first | ((refine DecB.mk (fun h => ?_) (fun h => ?_)) <;> first | (exfalso; omega) | (conv => whnf)) | ((refine BoolB.mk (fun h => ?_) (fun h => ?_)) <;> first | (exact absurd h (by decide)) | (conv => whnf)) | ((first | refine ⟨_, wrap_ok (by omega) (by omega), ?_⟩ | refine and_idx (by omega) (by omega) ?_ | refine reg_ok (by decide +kernel) ?_ | refine bar_ok (by decide +kernel) (by decide +kernel) ?_ | refine late_ok rfl rfl ?_ | refine src_ok rfl ?_ | refine .inl ⟨_, _, qcall_pure (sb) rfl rfl, ?_⟩ | refine .inl ⟨_, _, qcall_pure (ad) rfl rfl, ?_⟩ | refine .inl ⟨_, _, qcall_pure (8) rfl rfl, ?_⟩ | refine ex_row hx ?_ | refine ex_row zk ?_ | refine bar_late [8] (by decide +kernel) (by decide +kernel) ?_ | refine LitB.data ?_ | refine BoxB.own ?_); conv => whnf)))
        all_goals try (exfalso; omega)
        exact ⟨hlt, trivial, [some 0, some 1], rfl, rfl, ⟨⟨rfl, rfl, rfl, .inr ⟨⟨rfl, rfl, rfl, rfl, trivial⟩, trivial⟩⟩, ⟨rfl, rfl, rfl, .inl ⟨by rw [e2], rowsT_frC1 _⟩⟩, trivial⟩, ⟨rfl, rfl, rfl, rfl, ⟨rfl, rfl, rfl⟩, ⟨rfl, rfl, rfl⟩, rfl, trivial⟩⟩
  · have hie : i = k := by omega
    subst hie
    conv => whnf
    (repeat' (first | ((refine DecB.mk (fun h => ?_) (fun h => ?_)) <;> first | (exfalso; omega) | (conv => whnf)) | ((refine BoolB.mk (fun h => ?_) (fun h => ?_)) <;> first | (exact absurd h (by decide)) | (conv => whnf)) | ((first | refine ⟨_, wrap_ok (by omega) (by omega), ?_⟩ | refine and_idx (by omega) (by omega) ?_ | refine reg_ok (by decide +kernel) ?_ | refine bar_ok (by decide +kernel) (by decide +kernel) ?_ | refine late_ok rfl rfl ?_ | refine src_ok rfl ?_ | refine LitB.data ?_ | refine BoxB.own ?_); conv => whnf)))
    all_goals first
      | (exfalso; omega)
      | exact fin_t ⟨rfl, rfl, rfl, rfl, trivial⟩
end Go.Proofs.YtomfnfbijgjfeaaGreat
/- The reference of chapter 21: Matter. -/
namespace Go.Proofs.YtomfnfbijgjfeaaGreat
open Go.RowKit
set_option linter.unusedVariables false
set_option linter.unusedSimpArgs false
set_option maxRecDepth 100000

theorem allow_found {t : Trace} {kind : Int} {i : Nat} {x : Move} {v : Rat} : allowsE t kind i x v = if capB (ivOf t.ev x) v = false then 20 else foundE t kind i v := rfl
set_option maxHeartbeats 4000000 in
theorem r21Matter (t : Trace) (kind : Int) (z : List Fr) (hs : t.Sized) (hl : z.length ≤ 1000000) (hd : ∀ f ∈ z, f.p.dl.length ≤ 200 ∧ f.q.dl.length ≤ 200) :
    ACall Tryz.prog 12 [trS t, intS .i64 kind, fracsS z] [] (intS .i64 (matterE t kind z)) [] := by
  have rt := r21right t hs kind
  have m1 : (z.map frRow).length = z.length := by simp
  have m2 : (t.ev.moves.map Move.row).length = t.ev.moves.length := by simp
  by_cases h1 : traceE t ≠ 0 ∨ kind < 0 ∨ 8 ≤ kind
  · have e1 : matterE t kind z = 1 := by unfold matterE; rw [if_pos h1]
    rw [e1]
    rw [decide_eq_false (by omega)] at rt
    (refine acall_of tab_ok Tryz.func12 rfl (by decide) ?_; (conv => whnf); repeat (first | (refine LitB.data ?_; conv => whnf) | (refine BoxB.data ?_; conv => whnf)))
    (repeat' (first | ((refine DecB.mk (fun h => ?_) (fun h => ?_)) <;> first | (exfalso; omega) | (conv => whnf)) | ((refine BoolB.mk (fun h => ?_) (fun h => ?_)) <;> first | (exact absurd h (by decide)) | (conv => whnf)) | ((first | refine ⟨_, wrap_ok (by omega) (by omega), ?_⟩ | refine and_idx (by omega) (by omega) ?_ | refine reg_ok (by decide +kernel) ?_ | refine bar_ok (by decide +kernel) (by decide +kernel) ?_ | refine late_ok rfl rfl ?_ | refine src_ok rfl ?_ | refine .inl ⟨_, _, qcall_pure (rt) rfl rfl, ?_⟩ | refine LitB.data ?_ | refine BoxB.own ?_); conv => whnf)))
    all_goals first
      | (exfalso; omega)
      | exact fin_int rfl
  obtain ⟨k1, k2, k3⟩ : traceE t = 0 ∧ 0 ≤ kind ∧ kind < 8 := by omega
  rw [decide_eq_true ⟨k1, k2, k3⟩] at rt
  by_cases h2 : z.length ≠ t.ev.moves.length
  · have e1 : matterE t kind z = 2 := by unfold matterE; rw [if_neg h1, if_pos h2]
    rw [e1]
    (refine acall_of tab_ok Tryz.func12 rfl (by decide) ?_; (conv => whnf); repeat (first | (refine LitB.data ?_; conv => whnf) | (refine BoxB.data ?_; conv => whnf)))
    (repeat' (first | ((refine DecB.mk (fun h => ?_) (fun h => ?_)) <;> first | (exfalso; omega) | (conv => whnf)) | ((refine BoolB.mk (fun h => ?_) (fun h => ?_)) <;> first | (exact absurd h (by decide)) | (conv => whnf)) | ((first | refine ⟨_, wrap_ok (by omega) (by omega), ?_⟩ | refine and_idx (by omega) (by omega) ?_ | refine reg_ok (by decide +kernel) ?_ | refine bar_ok (by decide +kernel) (by decide +kernel) ?_ | refine late_ok rfl rfl ?_ | refine src_ok rfl ?_ | refine .inl ⟨_, _, qcall_pure (rt) rfl rfl, ?_⟩ | refine LitB.data ?_ | refine BoxB.own ?_); conv => whnf)))
    all_goals first
      | (exfalso; omega)
      | exact fin_int rfl
  have h2 : z.length = t.ev.moves.length := by omega
  have e1 : matterE t kind z = if z.all rightF then tmovesE t kind (z.map fv) 0 t.ev.moves else 2 := by unfold matterE; rw [if_neg h1, if_neg (by omega)]
  rw [e1]
  clear e1 h1
  obtain ⟨q1, q2, q3, q4, q5⟩ := traceE_zero k1
  obtain ⟨b1, b2, b3, b4⟩ := check_bounds q1
  have fd : ∀ f ∈ t.finds, 1 ≤ f.grams ∧ f.grams ≤ 1099511627776 := fun f hf => by have := findsE_get q4 f hf; omega
  (refine acall_of tab_ok Tryz.func12 rfl (by decide) ?_; (conv => whnf); repeat (first | (refine LitB.data ?_; conv => whnf) | (refine BoxB.data ?_; conv => whnf)))
  (repeat' (first | ((refine DecB.mk (fun h => ?_) (fun h => ?_)) <;> first | (exfalso; omega) | (conv => whnf)) | ((refine BoolB.mk (fun h => ?_) (fun h => ?_)) <;> first | (exact absurd h (by decide)) | (conv => whnf)) | ((first | refine ⟨_, wrap_ok (by omega) (by omega), ?_⟩ | refine and_idx (by omega) (by omega) ?_ | refine reg_ok (by decide +kernel) ?_ | refine bar_ok (by decide +kernel) (by decide +kernel) ?_ | refine late_ok rfl rfl ?_ | refine src_ok rfl ?_ | refine .inl ⟨_, _, qcall_pure (rt) rfl rfl, ?_⟩ | refine LitB.data ?_ | refine BoxB.own ?_); conv => whnf)))
  all_goals try (exfalso; omega)
  refine awp_for tab_ok (fun k => ([J, intS .i64 kind, fracsS z, S.c (C.t (T.ptr (trT t))), J, J, J, S.c (C.ptr 0 0 0), intS .i64 k, J, J, J, J, J, J, J, J, J, J, J, J, J, J, J, J, J, J, J, J, J, J, J, J, J, J, J, J, J, J, J, J, J, J, J, J, J, J, J, J, J, J, J, J, J, J, J, J, J, J, J, J, J, J, J, J, J, J, J, J, J, J, J, J, J, J, J, J, J, J, J, J, J, J, J, J, J, J, J, J, J, J, J, J, J, J, J, J, J, J, J, J, J, J, J, J, J, J, J, J, J, J, J, J, J, J, J, J, J, J, J, J, J, J, J, J, J, J, J], [evB t.ev])) z.length (fun k => (z.take k).all rightF = true) [some 0] rfl
    ⟨rfl, rfl, ⟨⟨rfl, rfl, rfl, .inl ⟨rfl, rowsT_ev _⟩⟩, trivial⟩, ⟨rfl, rfl, rfl, ⟨rfl, rfl, rfl⟩, rfl, trivial⟩⟩ ?_
  intro k hk hI
  by_cases hlt : k < z.length
  · obtain ⟨f, hf⟩ : ∃ f, z[k]? = some f := ⟨_, List.getElem?_eq_getElem hlt⟩
    obtain ⟨d1, d2⟩ := hd f (List.mem_of_getElem? hf)
    have r := r5Right f (by omega) (by omega)
    cases hr : rightF f with
    | true =>
      rw [hr] at r
      conv => whnf
      (repeat' (first | ((refine DecB.mk (fun h => ?_) (fun h => ?_)) <;> first | (exfalso; omega) | (conv => whnf)) | ((refine BoolB.mk (fun h => ?_) (fun h => ?_)) <;> first | (exact absurd h (by decide)) | (conv => whnf)) | ((first | refine ⟨_, wrap_ok (by omega) (by omega), ?_⟩ | refine and_idx (by omega) (by omega) ?_ | refine reg_ok (by decide +kernel) ?_ | refine bar_ok (by decide +kernel) (by decide +kernel) ?_ | refine late_ok rfl rfl ?_ | refine src_ok rfl ?_ | refine .inl ⟨_, _, qcall_pure (r) rfl rfl, ?_⟩ | refine ex_row hf ?_ | refine LitB.data ?_ | refine BoxB.own ?_); conv => whnf)))
      all_goals first
        | (exfalso; omega)
        | exact ⟨hlt, by rw [all_take_succ hf, hI, hr]; rfl, [some 0], rfl, rfl, ⟨⟨rfl, rfl, rfl, .inl ⟨rfl, rowsT_ev _⟩⟩, trivial⟩, ⟨rfl, rfl, rfl, ⟨rfl, rfl, rfl⟩, rfl, trivial⟩⟩
    | false =>
      rw [hr] at r
      rw [all_of_get hf hr]
      conv => whnf
      (repeat' (first | ((refine DecB.mk (fun h => ?_) (fun h => ?_)) <;> first | (exfalso; omega) | (conv => whnf)) | ((refine BoolB.mk (fun h => ?_) (fun h => ?_)) <;> first | (exact absurd h (by decide)) | (conv => whnf)) | ((first | refine ⟨_, wrap_ok (by omega) (by omega), ?_⟩ | refine and_idx (by omega) (by omega) ?_ | refine reg_ok (by decide +kernel) ?_ | refine bar_ok (by decide +kernel) (by decide +kernel) ?_ | refine late_ok rfl rfl ?_ | refine src_ok rfl ?_ | refine .inl ⟨_, _, qcall_pure (r) rfl rfl, ?_⟩ | refine ex_row hf ?_ | refine LitB.data ?_ | refine BoxB.own ?_); conv => whnf)))
      all_goals first
        | (exfalso; omega)
        | exact fin_int rfl
  have hz : z.all rightF = true := by rw [← hI, List.take_of_length_le (by omega)]
  rw [if_pos hz]
  obtain ⟨Z, rfl⟩ := right_rats hz
  rw [fv_map]
  have hZ : ∀ v ∈ Z, rl v ≤ 200 := fun v hv => by
    have := hd (fz v) (List.mem_map.2 ⟨v, hv, rfl⟩)
    exact Nat.max_le.2 this
  have zl : Z.length = t.ev.moves.length := by simpa using h2
  have m3 : (Z.map fz).length = Z.length := by simp
  conv => whnf
  (repeat' (first | ((refine DecB.mk (fun h => ?_) (fun h => ?_)) <;> first | (exfalso; omega) | (conv => whnf)) | ((refine BoolB.mk (fun h => ?_) (fun h => ?_)) <;> first | (exact absurd h (by decide)) | (conv => whnf)) | ((first | refine ⟨_, wrap_ok (by omega) (by omega), ?_⟩ | refine and_idx (by omega) (by omega) ?_ | refine reg_ok (by decide +kernel) ?_ | refine bar_ok (by decide +kernel) (by decide +kernel) ?_ | refine late_ok rfl rfl ?_ | refine src_ok rfl ?_ | refine LitB.data ?_ | refine BoxB.own ?_); conv => whnf)))
  all_goals try (exfalso; omega)
  clear hI hlt hk
  refine awp_for tab_ok (fun j => ([J, intS .i64 kind, fracsS (Z.map fz), S.c (C.t (T.ptr (trT t))), J, J, J, S.c (C.ptr 0 0 0), J, intS .i64 j, J, J, J, J, J, J, J, J, J, J, J, J, J, J, J, J, J, J, J, J, J, J, J, J, J, J, J, J, J, J, J, J, J, J, J, J, J, J, J, J, J, J, J, J, J, J, J, J, J, J, J, J, J, J, J, J, J, J, J, J, J, J, J, J, J, J, J, J, J, J, J, J, J, J, J, J, J, J, J, J, J, J, J, J, J, J, J, J, J, J, J, J, J, J, J, J, J, J, J, J, J, J, J, J, J, J, J, J, J, J, J, J, J, J, J, J, J, J], [evB t.ev])) Z.length (fun j => tmovesE t kind Z j (t.ev.moves.drop j) = tmovesE t kind Z 0 t.ev.moves) [some 0] rfl
    ⟨rfl, rfl, ⟨⟨rfl, rfl, rfl, .inl ⟨rfl, rowsT_ev _⟩⟩, trivial⟩, ⟨rfl, rfl, rfl, ⟨rfl, rfl, rfl⟩, rfl, trivial⟩⟩ ?_
  intro j hj hI
  by_cases hlt : j < Z.length
  · obtain ⟨x, hx⟩ : ∃ x, t.ev.moves[j]? = some x := ⟨_, List.getElem?_eq_getElem (by omega)⟩
    have hmo := check_move q1 (List.mem_of_getElem? hx)
    have ms := moveOk_src hmo
    obtain ⟨s, hsn⟩ : ∃ s : Nat, x.src = s := ⟨x.src.toNat, by omega⟩
    obtain ⟨pl, hpl⟩ : ∃ pl, t.ev.places[s]? = some pl := ⟨_, List.getElem?_eq_getElem (by omega)⟩
    have hkd : kindAt t.ev x.src = pl.kind := by rw [hsn]; exact kindAt_of hpl
    obtain ⟨v, hv⟩ : ∃ v, Z[j]? = some v := ⟨_, List.getElem?_eq_getElem (by omega)⟩
    have hvd : Z.getD j 0 = v := by rw [List.getD_eq_getElem?_getD, hv]; rfl
    have bv := hZ v (List.mem_of_getElem? hv)
    have bs := rl_tstk (e := t.ev) hZ b4 (k := j) (by omega) s
    have cm := r5Compare v (tstk t.ev Z j s) (by omega) (by omega)
    have sg := r5Sign v (by omega)
    have at' := r21at t.ev Z q1 hZ zl s j (by omega)
    rw [← hsn] at at'
    have fo := r21found t kind j v bv fd hs
    have iv := r15Interval t.ev hs.ev hx
    have zk := zero_get Z hv
    have cg := cmpR_lt' (x := v) (y := tstk t.ev Z j s)
    have cz := cmpR_zero (x := v) (y := tstk t.ev Z j s)
    have sn := sgR_neg (x := v)
    rw [drop_get hx] at hI
    have hI : (if tAt t kind Z j x ≠ 0 then tAt t kind Z j x else tmovesE t kind Z (j + 1) (t.ev.moves.drop (j + 1))) = tmovesE t kind Z 0 t.ev.moves := hI
    have hta : tAt t kind Z j x = tstepE t kind j x v (tstk t.ev Z j s) := by unfold tAt; rw [hvd, show x.src.toNat = s by omega]
    rw [hta] at hI
    have fin3 : ∀ (c : Int) (H1 : Hp), tstepE t kind j x v (tstk t.ev Z j s) = c → c ≠ 0 → Fin 0 (intS .i64 c) H1 (intS .i64 (tmovesE t kind Z 0 t.ev.moves)) [] := fun c H1 h hc => fin_int (by rw [← hI, h, if_pos hc])
    have go : tstepE t kind j x v (tstk t.ev Z j s) = 0 → tmovesE t kind Z (j + 1) (t.ev.moves.drop (j + 1)) = tmovesE t kind Z 0 t.ev.moves := fun h => by rw [← hI, h]; rfl
    have e0 : tookE t.ev x v (tstk t.ev Z j s) = if v < 0 then 3 else if pl.kind ≠ 0 ∧ tstk t.ev Z j s < v then 4 else if x.all = true ∧ v ≠ tstk t.ev Z j s then 7 else 0 := by unfold tookE; rw [hkd]
    generalize cmpR v (tstk t.ev Z j s) = U at cm cg cz
    generalize sgR v = W at sg sn
    by_cases c1 : v < 0
    · have e3 : tstepE t kind j x v (tstk t.ev Z j s) = 3 := by unfold tstepE; rw [e0, if_pos c1]; rfl
      have w1 : W < 0 := sn.2 c1
      conv => whnf
      (repeat' (first | ((refine DecB.mk (fun h => ?_) (fun h => ?_)) <;> first | (exfalso; omega) | (conv => whnf)) | ((refine BoolB.mk (fun h => ?_) (fun h => ?_)) <;> first | (exact absurd h (by decide)) | (conv => whnf)) | ((first | refine ⟨_, wrap_ok (by omega) (by omega), ?_⟩ | refine and_idx (by omega) (by omega) ?_ | refine reg_ok (by decide +kernel) ?_ | refine bar_ok (by decide +kernel) (by decide +kernel) ?_ | refine late_ok rfl rfl ?_ | refine src_ok rfl ?_ | refine .inl ⟨_, _, qcall_pure (sg) rfl rfl, ?_⟩ | refine ex_row zk ?_ | refine LitB.data ?_ | refine BoxB.own ?_); conv => whnf)))
      all_goals first
        | (exfalso; omega)
        | exact fin3 3 _ e3 (by decide)
    have w1 : ¬ W < 0 := fun h => c1 (sn.1 h)
    rw [if_neg c1] at e0
    by_cases c2 : pl.kind ≠ 0 ∧ tstk t.ev Z j s < v
    · have e3 : tstepE t kind j x v (tstk t.ev Z j s) = 4 := by unfold tstepE; rw [e0, if_pos c2]; rfl
      have w2 : U > 0 := cg.2 c2.2
      have w3 := c2.1
      conv => whnf
      (repeat' (first | ((refine DecB.mk (fun h => ?_) (fun h => ?_)) <;> first | (exfalso; omega) | (conv => whnf)) | ((refine BoolB.mk (fun h => ?_) (fun h => ?_)) <;> first | (exact absurd h (by decide)) | (conv => whnf)) | ((first | refine ⟨_, wrap_ok (by omega) (by omega), ?_⟩ | refine and_idx (by omega) (by omega) ?_ | refine reg_ok (by decide +kernel) ?_ | refine bar_ok (by decide +kernel) (by decide +kernel) ?_ | refine late_ok rfl rfl ?_ | refine src_ok rfl ?_ | refine .inl ⟨_, _, qcall_pure (cm) rfl rfl, ?_⟩ | refine .inl ⟨_, _, qcall_pure (sg) rfl rfl, ?_⟩ | refine .inl ⟨_, _, qcall_pure (at') rfl rfl, ?_⟩ | refine ex_row hx ?_ | refine ex_rowE hsn hpl ?_ | refine ex_row zk ?_ | refine LitB.data ?_ | refine BoxB.own ?_); conv => whnf)))
      all_goals first
        | (exfalso; omega)
        | exact fin3 4 _ e3 (by decide)
    rw [if_neg c2] at e0
    have w2 : pl.kind = 0 ∨ ¬ U > 0 := by
      by_cases h : pl.kind = 0
      · exact .inl h
      · exact .inr fun h' => c2 ⟨h, cg.1 h'⟩
    by_cases c3 : x.all = true ∧ v ≠ tstk t.ev Z j s
    · have e3 : tstepE t kind j x v (tstk t.ev Z j s) = 7 := by unfold tstepE; rw [e0, if_pos c3]; rfl
      have w3 : U ≠ 0 := fun h => c3.2 (cz.1 h)
      have w4 := c3.1
      conv => whnf
      (repeat' (first | ((refine DecB.mk (fun h => ?_) (fun h => ?_)) <;> first | (exfalso; omega) | (conv => whnf)) | ((refine BoolB.mk (fun h => ?_) (fun h => ?_)) <;> first | (exact absurd h (by decide)) | (conv => whnf)) | ((first | refine ⟨_, wrap_ok (by omega) (by omega), ?_⟩ | refine and_idx (by omega) (by omega) ?_ | refine reg_ok (by decide +kernel) ?_ | refine bar_ok (by decide +kernel) (by decide +kernel) ?_ | refine late_ok rfl rfl ?_ | refine src_ok rfl ?_ | refine .inl ⟨_, _, qcall_pure (cm) rfl rfl, ?_⟩ | refine .inl ⟨_, _, qcall_pure (sg) rfl rfl, ?_⟩ | refine .inl ⟨_, _, qcall_pure (at') rfl rfl, ?_⟩ | refine ex_row hx ?_ | refine ex_rowE hsn hpl ?_ | refine ex_row zk ?_ | refine LitB.data ?_ | refine BoxB.own ?_); conv => whnf)))
      all_goals first
        | (exfalso; omega)
        | exact fin3 7 _ e3 (by decide)
        | (rw [w4] at h; exact absurd h (by decide))
    rw [if_neg c3] at e0
    have w3 : x.all = false ∨ U = 0 := by
      cases h : x.all with
      | false => exact .inl rfl
      | true => exact .inr (cz.2 (Classical.not_not.1 fun h' => c3 ⟨h, h'⟩))
    have e4 : tstepE t kind j x v (tstk t.ev Z j s) = if capB (ivOf t.ev x) v = false then 20 else foundE t kind j v := by unfold tstepE; rw [e0]; exact allow_found
    have hrl : ∀ lo hi, ivOf t.ev x = some (lo, hi) → rl hi ≤ 200 := fun lo hi h => by
      have h1 := (hiF_some (e := t.ev) (x := x) (by rw [h]; rfl)).2
      rw [← hiR_some h] at h1; exact h1
    have fin4 : tstepE t kind j x v (tstk t.ev Z j s) = foundE t kind j v → ∀ (H1 : Hp), foundE t kind j v ≠ 0 → Fin 0 (intS .i64 (foundE t kind j v)) H1 (intS .i64 (tmovesE t kind Z 0 t.ev.moves)) [] := fun h H1 hc => fin3 _ H1 h hc
    rcases w3 with w3 | w3
    all_goals
      cases hiv : ivOf t.ev x with
      | none =>
        rw [hiv] at iv e4
        have e5 : tstepE t kind j x v (tstk t.ev Z j s) = foundE t kind j v := e4
        have go := fun h => go (e5.trans h)
        have fin4 := fin4 e5
        generalize foundE t kind j v = F at fo go fin4
        conv => whnf
        (repeat' (first | ((refine DecB.mk (fun h => ?_) (fun h => ?_)) <;> first | (exfalso; omega) | (conv => whnf)) | ((refine BoolB.mk (fun h => ?_) (fun h => ?_)) <;> first | (exact absurd h (by decide)) | (conv => whnf)) | ((first | refine ⟨_, wrap_ok (by omega) (by omega), ?_⟩ | refine and_idx (by omega) (by omega) ?_ | refine reg_ok (by decide +kernel) ?_ | refine bar_ok (by decide +kernel) (by decide +kernel) ?_ | refine late_ok rfl rfl ?_ | refine src_ok rfl ?_ | refine .inl ⟨_, _, qcall_pure (cm) rfl rfl, ?_⟩ | refine .inl ⟨_, _, qcall_pure (sg) rfl rfl, ?_⟩ | refine .inl ⟨_, _, qcall_pure (at') rfl rfl, ?_⟩ | refine .inl ⟨_, _, qcall_pure (iv) rfl rfl, ?_⟩ | refine .inl ⟨_, _, qcall_pure (fo) rfl rfl, ?_⟩ | refine ex_row hx ?_ | refine ex_rowE hsn hpl ?_ | refine ex_row zk ?_ | refine LitB.data ?_ | refine BoxB.own ?_); conv => whnf)))
        all_goals first
          | (exfalso; omega)
          | exact fin4 _ (by omega)
          | exact ⟨hlt, go (by omega), [some 0], rfl, rfl, ⟨⟨rfl, rfl, rfl, .inl ⟨rfl, rowsT_ev _⟩⟩, trivial⟩, ⟨rfl, rfl, rfl, ⟨rfl, rfl, rfl⟩, rfl, trivial⟩⟩
          | exact absurd (w3.symm.trans ‹x.all = true›) (by decide)
      | some pr =>
        obtain ⟨lo, hi⟩ := pr
        have bh := hrl lo hi hiv
        have c5 := r5Compare v hi (by omega) (by omega)
        have cg2 := cmpR_lt' (x := v) (y := hi)
        rw [hiv] at iv e4
        have e4 : tstepE t kind j x v (tstk t.ev Z j s) = if decide (v ≤ hi) = false then 20 else foundE t kind j v := e4
        by_cases c6 : hi < v
        · have e5 : tstepE t kind j x v (tstk t.ev Z j s) = 20 := by rw [e4, if_pos (decide_eq_false (fun h => by grind))]
          have w5 := cg2.2 c6
          generalize cmpR v hi = V at c5 w5
          conv => whnf
          (repeat' (first | ((refine DecB.mk (fun h => ?_) (fun h => ?_)) <;> first | (exfalso; omega) | (conv => whnf)) | ((refine BoolB.mk (fun h => ?_) (fun h => ?_)) <;> first | (exact absurd h (by decide)) | (conv => whnf)) | ((first | refine ⟨_, wrap_ok (by omega) (by omega), ?_⟩ | refine and_idx (by omega) (by omega) ?_ | refine reg_ok (by decide +kernel) ?_ | refine bar_ok (by decide +kernel) (by decide +kernel) ?_ | refine late_ok rfl rfl ?_ | refine src_ok rfl ?_ | refine .inl ⟨_, _, qcall_pure (cm) rfl rfl, ?_⟩ | refine .inl ⟨_, _, qcall_pure (sg) rfl rfl, ?_⟩ | refine .inl ⟨_, _, qcall_pure (at') rfl rfl, ?_⟩ | refine .inl ⟨_, _, qcall_pure (iv) rfl rfl, ?_⟩ | refine .inl ⟨_, _, qcall_pure (c5) rfl rfl, ?_⟩ | refine ex_row hx ?_ | refine ex_rowE hsn hpl ?_ | refine ex_row zk ?_ | refine LitB.data ?_ | refine BoxB.own ?_); conv => whnf)))
          all_goals first
            | (exfalso; omega)
            | exact fin3 20 _ e5 (by decide)
            | exact absurd (w3.symm.trans ‹x.all = true›) (by decide)
        · have e5 : tstepE t kind j x v (tstk t.ev Z j s) = foundE t kind j v := by rw [e4, if_neg (fun h => by have := of_decide_eq_false h; grind)]
          have w5 : ¬ cmpR v hi > 0 := fun h => c6 (cg2.1 h)
          have go := fun h => go (e5.trans h)
          have fin4 := fin4 e5
          generalize cmpR v hi = V at c5 w5
          generalize foundE t kind j v = F at fo go fin4
          conv => whnf
          (repeat' (first | ((refine DecB.mk (fun h => ?_) (fun h => ?_)) <;> first | (exfalso; omega) | (conv => whnf)) | ((refine BoolB.mk (fun h => ?_) (fun h => ?_)) <;> first | (exact absurd h (by decide)) | (conv => whnf)) | ((first | refine ⟨_, wrap_ok (by omega) (by omega), ?_⟩ | refine and_idx (by omega) (by omega) ?_ | refine reg_ok (by decide +kernel) ?_ | refine bar_ok (by decide +kernel) (by decide +kernel) ?_ | refine late_ok rfl rfl ?_ | refine src_ok rfl ?_ | refine .inl ⟨_, _, qcall_pure (cm) rfl rfl, ?_⟩ | refine .inl ⟨_, _, qcall_pure (sg) rfl rfl, ?_⟩ | refine .inl ⟨_, _, qcall_pure (at') rfl rfl, ?_⟩ | refine .inl ⟨_, _, qcall_pure (iv) rfl rfl, ?_⟩ | refine .inl ⟨_, _, qcall_pure (c5) rfl rfl, ?_⟩ | refine .inl ⟨_, _, qcall_pure (fo) rfl rfl, ?_⟩ | refine ex_row hx ?_ | refine ex_rowE hsn hpl ?_ | refine ex_row zk ?_ | refine LitB.data ?_ | refine BoxB.own ?_); conv => whnf)))
          all_goals first
            | (exfalso; omega)
            | exact fin4 _ (by omega)
            | exact ⟨hlt, go (by omega), [some 0], rfl, rfl, ⟨⟨rfl, rfl, rfl, .inl ⟨rfl, rowsT_ev _⟩⟩, trivial⟩, ⟨rfl, rfl, rfl, ⟨rfl, rfl, rfl⟩, rfl, trivial⟩⟩
            | exact absurd (w3.symm.trans ‹x.all = true›) (by decide)
  · rw [List.drop_of_length_le (by omega)] at hI
    have hI : 0 = tmovesE t kind Z 0 t.ev.moves := hI
    conv => whnf
    (repeat' (first | ((refine DecB.mk (fun h => ?_) (fun h => ?_)) <;> first | (exfalso; omega) | (conv => whnf)) | ((refine BoolB.mk (fun h => ?_) (fun h => ?_)) <;> first | (exact absurd h (by decide)) | (conv => whnf)) | ((first | refine ⟨_, wrap_ok (by omega) (by omega), ?_⟩ | refine and_idx (by omega) (by omega) ?_ | refine reg_ok (by decide +kernel) ?_ | refine bar_ok (by decide +kernel) (by decide +kernel) ?_ | refine late_ok rfl rfl ?_ | refine src_ok rfl ?_ | refine LitB.data ?_ | refine BoxB.own ?_); conv => whnf)))
    all_goals first
      | (exfalso; omega)
      | exact fin_int hI
end Go.Proofs.YtomfnfbijgjfeaaGreat
/- The reference of chapter 21: Stock. -/
namespace Go.Proofs.YtomfnfbijgjfeaaGreat
open Go.RowKit
set_option linter.unusedVariables false
set_option linter.unusedSimpArgs false
set_option maxRecDepth 100000

set_option maxHeartbeats 4000000 in
theorem r21Stock (e : Ev) (h0 : check e = 0) {i : Nat} {x : Move} (hx : e.moves[i]? = some x) : ACall Tryz.prog 25 [evS e, intS .i64 i] [] (rowS (stockRow e i x)) [] := by
  obtain ⟨b1, b2, b3, b4⟩ := check_bounds h0
  have hi : i < e.moves.length := (List.getElem?_eq_some_iff.1 hx).1
  have m0 : (e.moves.map Move.row).length = e.moves.length := by simp
  have i0 := r5Int 0 (by decide) (by decide)
  have im := r21term i (-1) (by decide) (by decide)
  have hil := termsTo_len (e := e) (p := x.src) i
  cases hal : x.all
  case' false => have hK : (stockRow e i x).kind = 0 := by unfold stockRow; rw [hal]; rfl
  case' true => have hK : (stockRow e i x).kind = 2 := by unfold stockRow; rw [hal]; rfl
  all_goals
    (refine acall_of tab_ok Tryz.func25 rfl (by decide) ?_; (conv => whnf); repeat (first | (refine LitB.data ?_; conv => whnf) | (refine BoxB.data ?_; conv => whnf)))
    (repeat' (first | ((refine DecB.mk (fun h => ?_) (fun h => ?_)) <;> first | (exfalso; omega) | (conv => whnf)) | ((refine BoolB.mk (fun h => ?_) (fun h => ?_)) <;> first | (exact absurd h (by decide)) | (conv => whnf)) | ((first | refine ⟨_, wrap_ok (by omega) (by omega), ?_⟩ | refine and_idx (by omega) (by omega) ?_ | refine reg_ok (by decide +kernel) ?_ | refine bar_ok (by decide +kernel) (by decide +kernel) ?_ | refine late_ok rfl rfl ?_ | refine src_ok rfl ?_ | refine .inl ⟨_, _, qcall_pure (i0) rfl rfl, ?_⟩ | refine ex_row hx ?_ | refine LitB.data ?_ | refine BoxB.own ?_); conv => whnf)))
    all_goals first
      | (exfalso; omega)
      | (exfalso; simp_all; done)
      | skip
    refine awp_for tab_ok (fun k => ([J, intS .i64 i, S.c (C.t (T.ptr (evT e))), J, S.c (C.ptr 0 0 0), intS .i64 x.src, S.c (C.ptr 1 0 0), intS .i64 k, J, J, J, J, J, J, J, J, J, J, J, J, J, J, J, J, J, J, J, J, J, J, J, J, J, J, J, J, J, J, J, J, J, J, J, J, J, J, J, J, J, J, J, J, J, J, J, J, J, J, J, J, J, J, J, J, J, J], [rowZB, growB 2 (termsTo e x.src k).length (stockRow e i x).kind, termsB (termsTo e x.src k)])) i (fun _ => True) [some 0, some 1, none] trivial ?_ ?_
    · refine ⟨rfl, rfl, ⟨⟨rfl, rfl, rfl, .inr ⟨⟨rfl, rfl, rfl, rfl, rfl, rfl, trivial⟩, trivial⟩⟩, ⟨rfl, rfl, rfl, .inr ⟨⟨⟨rfl, rfl, rfl⟩, ?_, rfl, rfl, rfl, rfl, trivial⟩, trivial⟩⟩, ⟨rfl, rfl⟩, trivial⟩, ⟨rfl, rfl, ⟨rfl, rfl, rfl⟩, rfl, ⟨rfl, rfl, rfl⟩, rfl, trivial⟩⟩
      rw [hK]; rfl
    intro k hk _
    have kl := termsTo_len (e := e) (p := x.src) k
    by_cases hlt : k < i
    · obtain ⟨y, hy⟩ : ∃ y, e.moves[k]? = some y := ⟨_, List.getElem?_eq_getElem (by omega)⟩
      have hmo := check_move h0 (List.mem_of_getElem? hy)
      have hne : y.src ≠ y.dst := by unfold moveOk at hmo; simp only [Bool.and_eq_true, decide_eq_true_eq] at hmo; exact hmo.1.1.1.1.1.2
      have t1 := r21term k 1 (by decide) (by decide)
      have tm := r21term k (-1) (by decide) (by decide)
      have lA : (termsTo e x.src k).length ≤ (termsB (termsTo e x.src k)).rows.length := by show _ ≤ (toC _).length; simp [toC]
      have lC : ((termsTo e x.src k).length + 1) * 73 ≤ 140737488355328 := by omega
      by_cases c1 : y.dst = x.src
      · have et : termsTo e x.src (k + 1) = termsTo e x.src k ++ [((k : Int), ((1 : Int) : Rat))] := by rw [termsTo_succ hy, if_pos c1]
        conv => whnf
        (repeat' (first | ((refine DecB.mk (fun h => ?_) (fun h => ?_)) <;> first | (exfalso; omega) | (conv => whnf)) | ((refine BoolB.mk (fun h => ?_) (fun h => ?_)) <;> first | (exact absurd h (by decide)) | (conv => whnf)) | ((first | refine ⟨_, wrap_ok (by omega) (by omega), ?_⟩ | refine and_idx (by omega) (by omega) ?_ | refine reg_ok (by decide +kernel) ?_ | refine bar_ok (by decide +kernel) (by decide +kernel) ?_ | refine late_ok rfl rfl ?_ | refine src_ok rfl ?_ | refine .inl ⟨_, _, qcall_pure (t1) rfl rfl, ?_⟩ | refine .inl ⟨_, _, qcall_pure (tm) rfl rfl, ?_⟩ | refine ex_row hy ?_ | refine app_ok lA lC ?_ | refine LitB.data ?_ | refine BoxB.own ?_); conv => whnf)))
        all_goals try (exfalso; omega)
        refine ⟨hlt, trivial, [some 0, some 1, some 3], rfl, rfl, ⟨⟨rfl, rfl, rfl, .inr ⟨⟨rfl, rfl, rfl, rfl, rfl, rfl, trivial⟩, trivial⟩⟩, ⟨rfl, rfl, rfl, .inr ⟨⟨⟨rfl, rfl, ?_, fun h => h⟩, rfl, rfl, rfl, rfl, rfl, trivial⟩, trivial⟩⟩, entB_rows rfl rfl rfl ?_ rfl, trivial⟩, ⟨rfl, rfl, ⟨rfl, rfl, rfl⟩, rfl, ⟨rfl, rfl, rfl⟩, rfl, trivial⟩⟩
        · rw [et, List.length_append]; rfl
        · rw [et]
          show List.take (termsTo e x.src k).length (toC ((termsTo e x.src k).map termRow)) ++ toC [termRow ((k : Int), ((1 : Int) : Rat))] = _
          exact ext_terms rfl
      · by_cases c2 : y.src = x.src
        · have et : termsTo e x.src (k + 1) = termsTo e x.src k ++ [((k : Int), ((-1 : Int) : Rat))] := by rw [termsTo_succ hy, if_neg c1, if_pos c2]
          conv => whnf
          (repeat' (first | ((refine DecB.mk (fun h => ?_) (fun h => ?_)) <;> first | (exfalso; omega) | (conv => whnf)) | ((refine BoolB.mk (fun h => ?_) (fun h => ?_)) <;> first | (exact absurd h (by decide)) | (conv => whnf)) | ((first | refine ⟨_, wrap_ok (by omega) (by omega), ?_⟩ | refine and_idx (by omega) (by omega) ?_ | refine reg_ok (by decide +kernel) ?_ | refine bar_ok (by decide +kernel) (by decide +kernel) ?_ | refine late_ok rfl rfl ?_ | refine src_ok rfl ?_ | refine .inl ⟨_, _, qcall_pure (t1) rfl rfl, ?_⟩ | refine .inl ⟨_, _, qcall_pure (tm) rfl rfl, ?_⟩ | refine ex_row hy ?_ | refine app_ok lA lC ?_ | refine LitB.data ?_ | refine BoxB.own ?_); conv => whnf)))
          all_goals try (exfalso; omega)
          refine ⟨hlt, trivial, [some 0, some 1, some 3], rfl, rfl, ⟨⟨rfl, rfl, rfl, .inr ⟨⟨rfl, rfl, rfl, rfl, rfl, rfl, trivial⟩, trivial⟩⟩, ⟨rfl, rfl, rfl, .inr ⟨⟨⟨rfl, rfl, ?_, fun h => h⟩, rfl, rfl, rfl, rfl, rfl, trivial⟩, trivial⟩⟩, entB_rows rfl rfl rfl ?_ rfl, trivial⟩, ⟨rfl, rfl, ⟨rfl, rfl, rfl⟩, rfl, ⟨rfl, rfl, rfl⟩, rfl, trivial⟩⟩
          · rw [et, List.length_append]; rfl
          · rw [et]
            show List.take (termsTo e x.src k).length (toC ((termsTo e x.src k).map termRow)) ++ toC [termRow ((k : Int), ((-1 : Int) : Rat))] = _
            exact ext_terms rfl
        · have et : termsTo e x.src (k + 1) = termsTo e x.src k := by rw [termsTo_succ hy, if_neg c1, if_neg c2]
          conv => whnf
          (repeat' (first | ((refine DecB.mk (fun h => ?_) (fun h => ?_)) <;> first | (exfalso; omega) | (conv => whnf)) | ((refine BoolB.mk (fun h => ?_) (fun h => ?_)) <;> first | (exact absurd h (by decide)) | (conv => whnf)) | ((first | refine ⟨_, wrap_ok (by omega) (by omega), ?_⟩ | refine and_idx (by omega) (by omega) ?_ | refine reg_ok (by decide +kernel) ?_ | refine bar_ok (by decide +kernel) (by decide +kernel) ?_ | refine late_ok rfl rfl ?_ | refine src_ok rfl ?_ | refine ex_row hy ?_ | refine LitB.data ?_ | refine BoxB.own ?_); conv => whnf)))
          all_goals try (exfalso; omega)
          refine ⟨hlt, trivial, [some 0, some 1, some 2], rfl, rfl, ⟨⟨rfl, rfl, rfl, .inr ⟨⟨rfl, rfl, rfl, rfl, rfl, rfl, trivial⟩, trivial⟩⟩, ⟨rfl, rfl, rfl, .inr ⟨⟨⟨rfl, rfl, ?_, fun h => h⟩, rfl, rfl, rfl, rfl, rfl, trivial⟩, trivial⟩⟩, entB_rows rfl rfl rfl ?_ rfl, trivial⟩, ⟨rfl, rfl, ⟨rfl, rfl, rfl⟩, rfl, ⟨rfl, rfl, rfl⟩, rfl, trivial⟩⟩
          · rw [et]
          · rw [et]
    · have hke : k = i := by omega
      subst hke
      have lA : (termsTo e x.src k).length ≤ (termsB (termsTo e x.src k)).rows.length := by show _ ≤ (toC _).length; simp [toC]
      have lC : ((termsTo e x.src k).length + 1) * 73 ≤ 140737488355328 := by omega
      conv => whnf
      (repeat' (first | ((refine DecB.mk (fun h => ?_) (fun h => ?_)) <;> first | (exfalso; omega) | (conv => whnf)) | ((refine BoolB.mk (fun h => ?_) (fun h => ?_)) <;> first | (exact absurd h (by decide)) | (conv => whnf)) | ((first | refine ⟨_, wrap_ok (by omega) (by omega), ?_⟩ | refine and_idx (by omega) (by omega) ?_ | refine reg_ok (by decide +kernel) ?_ | refine bar_ok (by decide +kernel) (by decide +kernel) ?_ | refine late_ok rfl rfl ?_ | refine src_ok rfl ?_ | refine .inl ⟨_, _, qcall_pure (im) rfl rfl, ?_⟩ | refine app_ok lA lC ?_ | refine LitB.data ?_ | refine BoxB.own ?_); conv => whnf)))
      all_goals try (exfalso; omega)
      refine fin_t ⟨show VC _ (fun id => notIn [] id = true) _ _ from vc_all rfl rfl (by intro h; cases h) rfl (rows := (termsTo e x.src k ++ [((k : Int), ((-1 : Int) : Rat))]).map termRow) ?_ ?_, rfl, rfl, rfl, rfl, rfl, trivial⟩
      · show List.take (termsTo e x.src k).length (toC ((termsTo e x.src k).map termRow)) ++ toC [termRow ((k : Int), ((-1 : Int) : Rat))] = _
        exact ext_terms rfl
      · rw [List.length_map, List.length_append]; rfl
end Go.Proofs.YtomfnfbijgjfeaaGreat
/- Statement by statement: what one statement leaves may be weakened before the next (cuts). -/
namespace Go.Proofs.YtomfnfbijgjfeaaGreat
open Go.RowKit
set_option linter.unusedVariables false
set_option linter.unusedSimpArgs false

theorem awp_seq {P : Program} {τ : Tab} (hτ : TabOK P τ) {n0 : Nat} {x y : Code} {env : Env} {H : Hp} {Q : AX → Env → Hp → Prop}
    (h : acode P τ n0 x env H fun a env' H' => match a with
      | .normal => Awp P n0 y env' H' Q
      | a => Q a env' H') : Awp P n0 (.seq x y) env H Q := by
  refine ⟨fun w0 ι0 M0 H0 a w hn hM hs => ?_⟩
  refine wp_seq (wp_mono ((acode_sound hτ x h).out w0 ι0 M0 H0 a w hn hM hs) ?_)
  rintro e a' w' ⟨x, env', H', rfl, hq, hs'⟩
  cases x with
  | normal => exact hq.out w0 ι0 M0 H0 a' w' hn hM hs'
  | exit id => exact ⟨_, env', H', rfl, hq, hs'⟩
  | ret => exact ⟨_, env', H', rfl, hq, hs'⟩
theorem awp_seqW {P : Program} {n0 : Nat} {x y : Code} {env : Env} {H : Hp} {Q : AX → Env → Hp → Prop}
    (h : Awp P n0 x env H fun a env' H' => match a with
      | .normal => Awp P n0 y env' H' Q
      | a => Q a env' H') : Awp P n0 (.seq x y) env H Q := by
  refine ⟨fun w0 ι0 M0 H0 a w hn hM hs => ?_⟩
  refine wp_seq (wp_mono (h.out w0 ι0 M0 H0 a w hn hM hs) ?_)
  rintro e a' w' ⟨x, env', H', rfl, hq, hs'⟩
  cases x with
  | normal => exact hq.out w0 ι0 M0 H0 a' w' hn hM hs'
  | exit id => exact ⟨_, env', H', rfl, hq, hs'⟩
  | ret => exact ⟨_, env', H', rfl, hq, hs'⟩
theorem awp_blockW {P : Program} {n0 id : Nat} {c : Code} {env : Env} {H : Hp} {Q : AX → Env → Hp → Prop} (h : Awp P n0 c env H (acIn id Q)) : Awp P n0 (.block id c) env H Q := by
  refine ⟨fun w0 ι0 M0 H0 a w hn hM hs => ?_⟩
  refine wp_block (wp_mono (h.out w0 ι0 M0 H0 a w hn hM hs) ?_)
  rintro e a' w' ⟨x, env', H', rfl, hq, hs'⟩
  cases x with
  | normal => exact ⟨_, env', H', rfl, hq, hs'⟩
  | exit j =>
    have hq : cond (Nat.beq j id) (Q .normal env' H') (Q (.exit j) env' H') := hq
    show if j = id then _ else _
    by_cases hj : j = id
    · subst hj
      rw [if_pos rfl]
      simp only [Nat.beq_refl, cond_true] at hq
      exact ⟨_, env', H', rfl, hq, hs'⟩
    · rw [if_neg hj]
      have : Nat.beq j id = false := by
        cases hb : Nat.beq j id with
        | false => rfl
        | true => exact absurd (Nat.eq_of_beq_eq_true hb) hj
      simp only [this, cond_false] at hq
      exact ⟨_, env', H', rfl, hq, hs'⟩
  | ret => exact ⟨_, env', H', rfl, hq, hs'⟩
/-- all ways through one statement end in a state that this one stands for -/
theorem awp_cut {P : Program} {τ : Tab} (hτ : TabOK P τ) {n0 : Nat} {x y : Code} {env : Env} {H : Hp} {Q : AX → Env → Hp → Prop} (E2 : Env) (H2 : Hp)
    (h : acode P τ n0 x env H fun a env' H' => match a with
      | .normal => ∃ ρ, Ent n0 ρ env' H' E2 H2
      | a => Q a env' H') (h2 : Awp P n0 y E2 H2 Q) : Awp P n0 (.seq x y) env H Q := by
  refine ⟨fun w0 ι0 M0 H0 a w hn hM hs => ?_⟩
  refine wp_seq (wp_mono ((acode_sound hτ x h).out w0 ι0 M0 H0 a w hn hM hs) ?_)
  rintro e a' w' ⟨x, env', H', rfl, hq, hs'⟩
  cases x with
  | normal => obtain ⟨ρ, he⟩ := hq; exact h2.out w0 ι0 M0 H0 a' w' hn hM (he.sim hn hM hs')
  | exit id => exact ⟨_, env', H', rfl, hq, hs'⟩
  | ret => exact ⟨_, env', H', rfl, hq, hs'⟩
/-- a loop that counts, its round statement by statement -/
theorem awp_forW {P : Program} {n0 : Nat} {c : Code} {env : Env} {H : Hp} {Q : AX → Env → Hp → Prop} (E : Nat → Env × Hp) (n : Nat) (I : Nat → Prop) (ρ0 : List (Option Nat))
    (hI : I 0) (h0 : Ent n0 ρ0 env H (E 0).1 (E 0).2)
    (round : ∀ k, k ≤ n → I k → Awp P n0 c (E k).1 (E k).2 fun a env' H' => match a with
      | .normal => k < n ∧ I (k + 1) ∧ ∃ ρ, Ent n0 ρ env' H' (E (k + 1)).1 (E (k + 1)).2
      | a => Q a env' H') : Awp P n0 (.loop c) env H Q := by
  refine awp_loopS (σ := { k : Nat // k ≤ n ∧ I k }) (fun k => E k.1) (fun k => n - k.1) ⟨0, Nat.zero_le _, hI⟩ ρ0 h0 ?_
  rintro ⟨k, hk, hi⟩
  refine (round k hk hi).mono ?_
  intro a env' H' h
  cases a with
  | normal =>
    obtain ⟨h1, h2, ρ, h3⟩ := h
    exact ⟨ρ, ⟨k + 1, h1, h2⟩, h3, by show n - (k + 1) < n - k; omega⟩
  | exit id => exact h
  | ret => exact h
end Go.Proofs.YtomfnfbijgjfeaaGreat
/- The reference of chapter 21: System. -/
namespace Go.Proofs.YtomfnfbijgjfeaaGreat
open Go.RowKit
set_option linter.unusedVariables false
set_option linter.unusedSimpArgs false
set_option maxRecDepth 100000

abbrev rEv (t : Trace) (kind : Int) (k : Nat) : Env := [J, intS .i64 kind, S.c (C.t (T.ptr (trT t))), J, S.c (C.ptr 0 0 0), J, S.c (C.ptr 1 0 0), S.c (C.ptr 2 0 0), intS .i64 k, J, J, J, J, J, J, J, J, J, J, J, J, J, J, J, J, J, J, J, J, J, J, J, J, J, J, J, J, J, J, J, J, J, J, J, J, J, J, J, J, J, J, J, J, J, J, J, J, J, J, J, J, J, J, J, J, J, J, J, J, J, J, J, J, J, J, J, J, J, J, J, J, J, J, J, J, J, J, J, J, J, J, J, J, J, J, J, J, J, J, J, J, J, J, J, J, J, J, J, J, J, J, J, J, J, J, J, J, J, J, J, J, J, J, J, J, J, J, J, J, J, J, J, J, J, J, J, J, J, J, J, J]
abbrev rHp (t : Trace) (R : List RowP) : Hp := [sysZB, evB t.ev, sysB t.ev.moves.length 3 R.length, rowsB R]
/-- the rows are the block N now, some blocks behind are dropped -/
theorem ent_sysR {t : Trace} {R : List RowP} {N len : Nat} {H : Hp} {env env' : Env} {rs : List (List C)} {kz : Blk} (hz : H[0]? = some kz) (hz2 : EntB [some 0, some 1, some 2, some N] H kz sysZB) (he : H[1]? = some (evB t.ev))
    (hs : H[2]? = some (sysB t.ev.moves.length N len)) (hr : H[N]? = some { mode := .live, elem := 54, size := 6, rows := rs, box := false }) (hl : len = R.length) (hrs : rs = toC (R.map rowRow)) (hN : 2 < N)
    (hE : EntE [some 0, some 1, some 2, some N] H env env') : Ent 0 [some 0, some 1, some 2, some N] env H env' (rHp t R) := by
  have b1 : Nat.beq 0 N = false := by cases h : Nat.beq 0 N with | false => rfl | true => exact absurd (Nat.eq_of_beq_eq_true h) (by omega)
  refine ⟨rfl, nodupH_ok fun a b m h1 h2 => ?_, ⟨?_, ?_, ?_, ?_, trivial⟩, hE⟩
  · match a, b, h1, h2 with
    | 0, 0, _, _ => rfl
    | 1, 1, _, _ => rfl
    | 2, 2, _, _ => rfl
    | 3, 3, _, _ => rfl
    | 0, 1, h1, h2 => simp at h1 h2; omega
    | 0, 2, h1, h2 => simp at h1 h2; omega
    | 0, 3, h1, h2 => simp at h1 h2; omega
    | 1, 0, h1, h2 => simp at h1 h2; omega
    | 1, 2, h1, h2 => simp at h1 h2; omega
    | 1, 3, h1, h2 => simp at h1 h2; omega
    | 2, 0, h1, h2 => simp at h1 h2; omega
    | 2, 1, h1, h2 => simp at h1 h2; omega
    | 2, 3, h1, h2 => simp at h1 h2; omega
    | 3, 0, h1, h2 => simp at h1 h2; omega
    | 3, 1, h1, h2 => simp at h1 h2; omega
    | 3, 2, h1, h2 => simp at h1 h2; omega
    | n + 4, _, h1, _ => simp at h1
    | 0, n + 4, _, h2 => simp at h2
    | 1, n + 4, _, h2 => simp at h2
    | 2, n + 4, _, h2 => simp at h2
    | 3, n + 4, _, h2 => simp at h2
  · simp only [hz]; exact hz2
  · simp only [he]; exact ⟨rfl, rfl, rfl, .inl ⟨rfl, rowsT_ev _⟩⟩
  · simp only [hs]; exact ⟨rfl, rfl, rfl, .inr ⟨⟨rfl, ⟨rfl, rfl, hl, fun h => h⟩, trivial⟩, trivial⟩⟩
  · simp only [hr]; exact entB_rows rfl rfl rfl hrs rfl
theorem zB_ent {ρ : List (Option Nat)} {H : Hp} : EntB ρ H sysZB sysZB := ⟨rfl, rfl, rfl, .inr ⟨⟨rfl, rfl, trivial⟩, trivial⟩⟩
theorem ivL_fst (o : Option (Rat × Rat)) : ∃ lo : Fr, ivL o = [frS lo, frS (hiF o), boolS o.isSome] := by
  cases o with
  | none => exact ⟨zeroF, rfl⟩
  | some p => exact ⟨fz p.1, rfl⟩
theorem r21oneF {i : Nat} {kind : Int} {f : Fr} {v : Rat} (h : f = fz v) : ACall Tryz.prog 27 [intS .i64 i, intS .i64 kind, frS f] [] (rowS (oneRow i kind v)) [] := by subst h; exact r21one i kind v
set_option maxHeartbeats 4000000 in
theorem r21System (t : Trace) (kind : Int) (hs : t.Sized) : ACall Tryz.prog 7 [trS t, intS .i64 kind] [] (.tup [sysS (sysR t kind), intS .i64 (sysE t kind)]) [] := by
  have rt := r21right t hs kind
  have m2 : (t.ev.moves.map Move.row).length = t.ev.moves.length := by simp
  have m4 : (t.finds.map Find.row).length = t.finds.length := by simp
  have m5 : (t.cleans.map Clean.row).length = t.cleans.length := by simp
  by_cases h1 : traceE t ≠ 0 ∨ kind < 0 ∨ 8 ≤ kind
  · have e1 : sysE t kind = 1 := by unfold sysE; rw [if_pos h1]
    have e2 : sysR t kind = ⟨0, []⟩ := by unfold sysR; rw [if_pos h1]
    rw [e1, e2]
    rw [decide_eq_false (by omega)] at rt
    (refine acall_of tab_ok Tryz.func7 rfl (by decide) ?_; (conv => whnf); repeat (first | (refine LitB.data ?_; conv => whnf) | (refine BoxB.data ?_; conv => whnf)))
    (repeat' (first | ((refine DecB.mk (fun h => ?_) (fun h => ?_)) <;> first | (exfalso; omega) | (conv => whnf)) | ((refine BoolB.mk (fun h => ?_) (fun h => ?_)) <;> first | (exact absurd h (by decide)) | (conv => whnf)) | ((first | refine ⟨_, wrap_ok (by omega) (by omega), ?_⟩ | refine and_idx (by omega) (by omega) ?_ | refine reg_ok (by decide +kernel) ?_ | refine bar_ok (by decide +kernel) (by decide +kernel) ?_ | refine late_ok rfl rfl ?_ | refine src_ok rfl ?_ | refine .inl ⟨_, _, qcall_pure (rt) rfl rfl, ?_⟩ | refine LitB.data ?_ | refine BoxB.own ?_); conv => whnf)))
    all_goals first
      | (exfalso; omega)
      | exact fin_t ⟨⟨rfl, rfl, trivial⟩, rfl, trivial⟩
  have e1 : sysE t kind = 0 := by unfold sysE; rw [if_neg h1]
  have e2 : sysR t kind = sysOf t kind := by unfold sysR; rw [if_neg h1]
  rw [e1, e2]
  obtain ⟨k1, k2, k3⟩ : traceE t = 0 ∧ 0 ≤ kind ∧ kind < 8 := by omega
  rw [decide_eq_true ⟨k1, k2, k3⟩] at rt
  clear h1 e1 e2
  obtain ⟨q1, q2, q3, q4, q5⟩ := traceE_zero k1
  obtain ⟨b1, b2, b3, b4⟩ := check_bounds q1
  (refine acall_of tab_ok Tryz.func7 rfl (by decide) ?_; (conv => whnf); repeat (first | (refine LitB.data ?_; conv => whnf) | (refine BoxB.data ?_; conv => whnf)))
  (repeat' (first | ((refine DecB.mk (fun h => ?_) (fun h => ?_)) <;> first | (exfalso; omega) | (conv => whnf)) | ((refine BoolB.mk (fun h => ?_) (fun h => ?_)) <;> first | (exact absurd h (by decide)) | (conv => whnf)) | ((first | refine ⟨_, wrap_ok (by omega) (by omega), ?_⟩ | refine and_idx (by omega) (by omega) ?_ | refine reg_ok (by decide +kernel) ?_ | refine bar_ok (by decide +kernel) (by decide +kernel) ?_ | refine late_ok rfl rfl ?_ | refine src_ok rfl ?_ | refine .inl ⟨_, _, qcall_pure (rt) rfl rfl, ?_⟩ | refine LitB.data ?_ | refine BoxB.own ?_); conv => whnf)))
  all_goals try (exfalso; omega)
  refine awp_forW (fun k => (rEv t kind k, rHp t (sysRows t kind k))) t.ev.moves.length (fun _ => True) [some 0, some 1, some 2, none] trivial ?_ ?_
  · refine ⟨rfl, rfl, ⟨⟨rfl, rfl, rfl, .inr ⟨⟨rfl, rfl, trivial⟩, trivial⟩⟩, ⟨rfl, rfl, rfl, .inl ⟨rfl, rowsT_ev _⟩⟩, ⟨rfl, rfl, rfl, .inr ⟨⟨?_, ⟨rfl, rfl, rfl⟩, trivial⟩, trivial⟩⟩, ⟨rfl, rfl⟩, trivial⟩, ⟨rfl, rfl, ⟨rfl, rfl, rfl⟩, ⟨rfl, rfl, rfl⟩, ⟨rfl, rfl, rfl⟩, rfl, trivial⟩⟩
    exact weak_eq (by rw [m2])
  intro k hk _
  refine awp_seq tab_ok ?_
  conv => whnf
  (repeat' (first | ((refine DecB.mk (fun h => ?_) (fun h => ?_)) <;> first | (exfalso; omega) | (conv => whnf)) | ((refine BoolB.mk (fun h => ?_) (fun h => ?_)) <;> first | (exact absurd h (by decide)) | (conv => whnf)) | ((first | refine ⟨_, wrap_ok (by omega) (by omega), ?_⟩ | refine and_idx (by omega) (by omega) ?_ | refine reg_ok (by decide +kernel) ?_ | refine bar_ok (by decide +kernel) (by decide +kernel) ?_ | refine late_ok rfl rfl ?_ | refine src_ok rfl ?_ | refine LitB.data ?_ | refine BoxB.own ?_); conv => whnf)))
  · obtain ⟨x, hx⟩ : ∃ x, t.ev.moves[k]? = some x := ⟨_, List.getElem?_eq_getElem (by omega)⟩
    have hlt : k < t.ev.moves.length := by omega
    have hmo := check_move q1 (List.mem_of_getElem? hx)
    have ms := moveOk_src hmo
    obtain ⟨s, hsn⟩ : ∃ s : Nat, x.src = s := ⟨x.src.toNat, by omega⟩
    obtain ⟨pl, hpl⟩ : ∃ pl, t.ev.places[s]? = some pl := ⟨_, List.getElem?_eq_getElem (by omega)⟩
    have hkd : kindAt t.ev x.src = pl.kind := by rw [hsn]; exact kindAt_of hpl
    have st := r21Stock t.ev q1 hx
    have iv := r15Interval t.ev hs.ev hx
    have rl0 := rowsTo_len (t := t) (kind := kind) (k := k) (by omega) q2 q3
    obtain ⟨lo, hlo⟩ := ivL_fst (ivOf t.ev x)
    rw [hlo] at iv
    have i0 := r5Int 0 (by decide) (by decide)
    have hcr : capRows (ivOf t.ev x) k = if (ivOf t.ev x).isSome then [oneRow k 1 (hiR (ivOf t.ev x))] else [] := by cases ivOf t.ev x <;> rfl
    obtain ⟨R1, hR1⟩ : ∃ R1 : List RowP, R1 = sysRows t kind k ++ (if pl.kind = 0 then [] else [stockRow t.ev k x]) := ⟨_, rfl⟩
    obtain ⟨R2, hR2⟩ : ∃ R2 : List RowP, R2 = R1 ++ capRows (ivOf t.ev x) k := ⟨_, rfl⟩
    have l1 : R1.length ≤ 14401 := by rw [hR1]; split <;> simp <;> omega
    have l2 : R2.length ≤ 14402 := by rw [hR2, hcr]; split <;> simp <;> omega
    refine awp_seqW (awp_blockW ?_)
    refine awp_cut tab_ok (rEv t kind k) (rHp t R1) ?_ ?_
    · have lA : (sysRows t kind k).length ≤ (rowsB (sysRows t kind k)).rows.length := by show _ ≤ (toC _).length; simp [toC]
      have lC : ((sysRows t kind k).length + 1) * 97 ≤ 140737488355328 := by omega
      conv => whnf
      (repeat' (first | ((refine DecB.mk (fun h => ?_) (fun h => ?_)) <;> first | (exfalso; omega) | (conv => whnf)) | ((refine BoolB.mk (fun h => ?_) (fun h => ?_)) <;> first | (exact absurd h (by decide)) | (conv => whnf)) | ((first | refine ⟨_, wrap_ok (by omega) (by omega), ?_⟩ | refine and_idx (by omega) (by omega) ?_ | refine reg_ok (by decide +kernel) ?_ | refine bar_ok (by decide +kernel) (by decide +kernel) ?_ | refine late_ok rfl rfl ?_ | refine src_ok rfl ?_ | refine .inl ⟨_, _, qcall_pure (st) rfl rfl, ?_⟩ | refine ex_row hx ?_ | refine ex_rowE hsn hpl ?_ | refine app_ok lA lC ?_ | refine LitB.data ?_ | refine BoxB.own ?_); conv => whnf)))
      · have eR : R1 = sysRows t kind k ++ [stockRow t.ev k x] := by rw [hR1, if_neg (by assumption)]
        refine ⟨[some 0, some 1, some 2, some 4], ent_sysR rfl zB_ent rfl rfl rfl ?_ ?_ (by decide) ⟨rfl, rfl, ⟨rfl, rfl, rfl⟩, ⟨rfl, rfl, rfl⟩, ⟨rfl, rfl, rfl⟩, rfl, trivial⟩⟩
        · rw [eR]; simp [toC]
        · rw [eR]; exact ext_rowsN rfl
      · have eR : R1 = sysRows t kind k := by rw [hR1, if_pos (by omega), List.append_nil]
        refine ⟨[some 0, some 1, some 2, some 3], ent_sysR rfl zB_ent rfl rfl rfl ?_ ?_ (by decide) ⟨rfl, rfl, ⟨rfl, rfl, rfl⟩, ⟨rfl, rfl, rfl⟩, ⟨rfl, rfl, rfl⟩, rfl, trivial⟩⟩
        · rw [eR]
        · rw [eR]
    have o1 := fun h => r21oneF (i := k) (kind := 1) (f := hiF (ivOf t.ev x)) (v := hiR (ivOf t.ev x)) h
    refine awp_cut tab_ok ([J, intS .i64 kind, S.c (C.t (T.ptr (trT t))), J, S.c (C.ptr 0 0 0), J, S.c (C.ptr 1 0 0), S.c (C.ptr 2 0 0), intS .i64 k, J, S.c (C.ptr 4 0 0), boolS (ivOf t.ev x).isSome, J, J, J, J, J, J, J, J, J, J, J, J, J, J, J, J, J, J, J, J, J, J, J, J, J, J, J, J, J, J, J, J, J, J, J, J, J, J, J, J, J, J, J, J, J, J, J, J, J, J, J, J, J, J, J, J, J, J, J, J, J, J, J, J, J, J, J, J, J, J, J, J, J, J, J, J, J, J, J, J, J, J, J, J, J, J, J, J, J, J, J, J, J, J, J, J, J, J, J, J, J, J, J, J, J, J, J, J, J, J, J, J, J, J, J, J, J, J, J, J, J, J, J, J, J, J, J, J, J]) (rHp t R1 ++ [frB1 (hiF (ivOf t.ev x))]) ?_ ?_
    · conv => whnf
      (repeat' (first | ((refine DecB.mk (fun h => ?_) (fun h => ?_)) <;> first | (exfalso; omega) | (conv => whnf)) | ((refine BoolB.mk (fun h => ?_) (fun h => ?_)) <;> first | (exact absurd h (by decide)) | (conv => whnf)) | ((first | refine ⟨_, wrap_ok (by omega) (by omega), ?_⟩ | refine and_idx (by omega) (by omega) ?_ | refine reg_ok (by decide +kernel) ?_ | refine bar_ok (by decide +kernel) (by decide +kernel) ?_ | refine late_ok rfl rfl ?_ | refine src_ok rfl ?_ | refine .inl ⟨_, _, qcall_pure (iv) rfl rfl, ?_⟩ | refine .inl ⟨_, _, qcall_pure (6) rfl rfl, ?_⟩ | refine bar_late [6] (by decide +kernel) (by decide +kernel) ?_ | refine LitB.data ?_ | refine BoxB.own ?_); conv => whnf)))
      all_goals
        refine ⟨[some 0, some 1, some 2, some 3, some 5], rfl, rfl, ⟨zB_ent, ⟨rfl, rfl, rfl, .inl ⟨rfl, rowsT_ev _⟩⟩, ⟨rfl, rfl, rfl, .inr ⟨⟨rfl, ⟨rfl, rfl, rfl, fun h => h⟩, trivial⟩, trivial⟩⟩, ⟨rfl, rfl, rfl, .inl ⟨rfl, rowsT_toC _⟩⟩, ⟨rfl, rfl, rfl, .inl ⟨rfl, rowsT_frC1 _⟩⟩, trivial⟩, ⟨rfl, rfl, ⟨rfl, rfl, rfl⟩, ⟨rfl, rfl, rfl⟩, ⟨rfl, rfl, rfl⟩, rfl, ⟨rfl, rfl, rfl⟩, ent_b h.symm, trivial⟩⟩
    refine awp_cut tab_ok (rEv t kind k) (rHp t R2) ?_ ?_
    · have lA : R1.length ≤ (rowsB R1).rows.length := by show _ ≤ (toC _).length; simp [toC]
      have lC : (R1.length + 1) * 97 ≤ 140737488355328 := by omega
      cases hc : (ivOf t.ev x).isSome with
      | true =>
        have o1 := o1 (hiF_some hc).1
        have eR : R2 = R1 ++ [oneRow k 1 (hiR (ivOf t.ev x))] := by rw [hR2, hcr, hc]; rfl
        conv => whnf
        (repeat' (first | ((refine DecB.mk (fun h => ?_) (fun h => ?_)) <;> first | (exfalso; omega) | (conv => whnf)) | ((refine BoolB.mk (fun h => ?_) (fun h => ?_)) <;> first | (exact absurd h (by decide)) | (conv => whnf)) | ((first | refine ⟨_, wrap_ok (by omega) (by omega), ?_⟩ | refine and_idx (by omega) (by omega) ?_ | refine reg_ok (by decide +kernel) ?_ | refine bar_ok (by decide +kernel) (by decide +kernel) ?_ | refine late_ok rfl rfl ?_ | refine src_ok rfl ?_ | refine .inl ⟨_, _, qcall_pure (o1) rfl rfl, ?_⟩ | refine app_ok lA lC ?_ | refine LitB.data ?_ | refine BoxB.own ?_); conv => whnf)))
        all_goals try (rw [hc] at h; exact absurd h (by decide))
        refine ⟨[some 0, some 1, some 2, some 5], ent_sysR rfl zB_ent rfl rfl rfl ?_ ?_ (by decide) ⟨rfl, rfl, ⟨rfl, rfl, rfl⟩, ⟨rfl, rfl, rfl⟩, ⟨rfl, rfl, rfl⟩, rfl, trivial⟩⟩
        · rw [eR]; simp [toC]
        · rw [eR]; exact ext_rowsN rfl
      | false =>
        have eR : R2 = R1 := by rw [hR2, hcr, hc]; simp
        conv => whnf
        (repeat' (first | ((refine DecB.mk (fun h => ?_) (fun h => ?_)) <;> first | (exfalso; omega) | (conv => whnf)) | ((refine BoolB.mk (fun h => ?_) (fun h => ?_)) <;> first | (exact absurd h (by decide)) | (conv => whnf)) | ((first | refine ⟨_, wrap_ok (by omega) (by omega), ?_⟩ | refine and_idx (by omega) (by omega) ?_ | refine reg_ok (by decide +kernel) ?_ | refine bar_ok (by decide +kernel) (by decide +kernel) ?_ | refine late_ok rfl rfl ?_ | refine src_ok rfl ?_ | refine LitB.data ?_ | refine BoxB.own ?_); conv => whnf)))
        all_goals try (rw [hc] at h; exact absurd h (by decide))
        refine ⟨[some 0, some 1, some 2, some 3], ent_sysR rfl zB_ent rfl rfl rfl ?_ ?_ (by decide) ⟨rfl, rfl, ⟨rfl, rfl, rfl⟩, ⟨rfl, rfl, rfl⟩, ⟨rfl, rfl, rfl⟩, rfl, trivial⟩⟩
        · rw [eR]
        · rw [eR]
    obtain ⟨G, hG⟩ : ∃ G : Nat → List RowP, ∀ j, G j = R2 ++ (gramsOf (t.finds.take j) kind k).map (fun g : Int => oneRow k 0 (g : Rat)) := ⟨_, fun _ => rfl⟩
    have lG : ∀ j, (G j).length ≤ 14500 := fun j => by
      have h1 : (gramsOf (t.finds.take j) kind k).length ≤ 20 := by
        unfold gramsOf; rw [List.length_map]
        exact Nat.le_trans (List.length_filter_le _ _) (by rw [List.length_take]; omega)
      rw [hG]; simp; omega
    refine awp_cut tab_ok (rEv t kind k) (rHp t (G t.finds.length)) ?_ ?_
    · conv => whnf
      (repeat' (first | ((refine DecB.mk (fun h => ?_) (fun h => ?_)) <;> first | (exfalso; omega) | (conv => whnf)) | ((refine BoolB.mk (fun h => ?_) (fun h => ?_)) <;> first | (exact absurd h (by decide)) | (conv => whnf)) | ((first | refine ⟨_, wrap_ok (by omega) (by omega), ?_⟩ | refine and_idx (by omega) (by omega) ?_ | refine reg_ok (by decide +kernel) ?_ | refine bar_ok (by decide +kernel) (by decide +kernel) ?_ | refine late_ok rfl rfl ?_ | refine src_ok rfl ?_ | refine LitB.data ?_ | refine BoxB.own ?_); conv => whnf)))
      refine awp_for tab_ok (fun j => ([J, intS .i64 kind, S.c (C.t (T.ptr (trT t))), J, S.c (C.ptr 0 0 0), J, S.c (C.ptr 1 0 0), S.c (C.ptr 2 0 0), intS .i64 k, J, J, J, intS .i64 j, J, J, J, J, J, J, J, J, J, J, J, J, J, J, J, J, J, J, J, J, J, J, J, J, J, J, J, J, J, J, J, J, J, J, J, J, J, J, J, J, J, J, J, J, J, J, J, J, J, J, J, J, J, J, J, J, J, J, J, J, J, J, J, J, J, J, J, J, J, J, J, J, J, J, J, J, J, J, J, J, J, J, J, J, J, J, J, J, J, J, J, J, J, J, J, J, J, J, J, J, J, J, J, J, J, J, J, J, J, J, J, J, J, J, J, J, J, J, J, J, J, J, J, J, J, J, J, J], rHp t (G j))) t.finds.length (fun _ => True) [some 0, some 1, some 2, some 3] trivial ?_ ?_
      · refine ent_sysR rfl zB_ent rfl rfl rfl ?_ ?_ (by decide) ⟨rfl, rfl, ⟨rfl, rfl, rfl⟩, ⟨rfl, rfl, rfl⟩, ⟨rfl, rfl, rfl⟩, rfl, rfl, trivial⟩
        · rw [hG]; simp [gramsOf]
        · rw [hG]; simp [gramsOf]
      intro j hj _
      have lj := lG j
      by_cases hjt : j < t.finds.length
      · obtain ⟨f, hf⟩ : ∃ f, t.finds[j]? = some f := ⟨_, List.getElem?_eq_getElem hjt⟩
        have fb := findsE_get q4 f (List.mem_of_getElem? hf)
        have ig := r5Int f.grams (by omega) (by omega)
        have o0 := r21one k 0 (f.grams : Rat)
        have lA : (G j).length ≤ (rowsB (G j)).rows.length := by show _ ≤ (toC _).length; simp [toC]
        have lC : ((G j).length + 1) * 97 ≤ 140737488355328 := by omega
        have gs : G (j + 1) = if f.kind = kind ∧ f.mv = (k : Int) then G j ++ [oneRow k 0 (f.grams : Rat)] else G j := by
          rw [hG, hG, take_snocR hf, gramsOf_more]
          split <;> simp
        conv => whnf
        (repeat' (first | ((refine DecB.mk (fun h => ?_) (fun h => ?_)) <;> first | (exfalso; omega) | (conv => whnf)) | ((refine BoolB.mk (fun h => ?_) (fun h => ?_)) <;> first | (exact absurd h (by decide)) | (conv => whnf)) | ((first | refine ⟨_, wrap_ok (by omega) (by omega), ?_⟩ | refine and_idx (by omega) (by omega) ?_ | refine reg_ok (by decide +kernel) ?_ | refine bar_ok (by decide +kernel) (by decide +kernel) ?_ | refine late_ok rfl rfl ?_ | refine src_ok rfl ?_ | refine .inl ⟨_, _, qcall_pure (ig) rfl rfl, ?_⟩ | refine .inl ⟨_, _, qcall_pure (o0) rfl rfl, ?_⟩ | refine ex_row hf ?_ | refine app_ok lA lC ?_ | refine LitB.data ?_ | refine BoxB.own ?_); conv => whnf)))
        all_goals first
          | (exfalso; omega)
          | skip
        · rw [if_pos (by omega)] at gs
          refine ⟨hjt, trivial, [some 0, some 1, some 2, some 4], ent_sysR rfl zB_ent rfl rfl rfl ?_ ?_ (by decide) ⟨rfl, rfl, ⟨rfl, rfl, rfl⟩, ⟨rfl, rfl, rfl⟩, ⟨rfl, rfl, rfl⟩, rfl, rfl, trivial⟩⟩
          · rw [gs]; simp [toC]
          · rw [gs]; exact ext_rowsN rfl
        all_goals
          rw [if_neg (by omega)] at gs
          refine ⟨hjt, trivial, [some 0, some 1, some 2, some 3], ent_sysR rfl zB_ent rfl rfl rfl ?_ ?_ (by decide) ⟨rfl, rfl, ⟨rfl, rfl, rfl⟩, ⟨rfl, rfl, rfl⟩, ⟨rfl, rfl, rfl⟩, rfl, rfl, trivial⟩⟩
          · rw [gs]
          · rw [gs]
      · have hje : j = t.finds.length := by omega
        subst hje
        conv => whnf
        (repeat' (first | ((refine DecB.mk (fun h => ?_) (fun h => ?_)) <;> first | (exfalso; omega) | (conv => whnf)) | ((refine BoolB.mk (fun h => ?_) (fun h => ?_)) <;> first | (exact absurd h (by decide)) | (conv => whnf)) | ((first | refine ⟨_, wrap_ok (by omega) (by omega), ?_⟩ | refine and_idx (by omega) (by omega) ?_ | refine reg_ok (by decide +kernel) ?_ | refine bar_ok (by decide +kernel) (by decide +kernel) ?_ | refine late_ok rfl rfl ?_ | refine src_ok rfl ?_ | refine LitB.data ?_ | refine BoxB.own ?_); conv => whnf)))
        all_goals first
          | (exfalso; omega)
          | exact ⟨[some 0, some 1, some 2, some 3], ent_sysR rfl zB_ent rfl rfl rfl rfl rfl (by decide) ⟨rfl, rfl, ⟨rfl, rfl, rfl⟩, ⟨rfl, rfl, rfl⟩, ⟨rfl, rfl, rfl⟩, rfl, trivial⟩⟩
    have lGe := lG t.finds.length
    obtain ⟨K, hK⟩ : ∃ K : Nat → List RowP, ∀ j, K j = G t.finds.length ++ List.replicate (cleansOf (t.cleans.take j) kind k) (oneRow k 2 ((0 : Int) : Rat)) := ⟨_, fun _ => rfl⟩
    have lK : ∀ j, (K j).length ≤ 14600 := fun j => by
      have h1 : cleansOf (t.cleans.take j) kind k ≤ 50 := by
        unfold cleansOf
        exact Nat.le_trans (List.length_filter_le _ _) (by rw [List.length_take]; omega)
      rw [hK]; simp; omega
    have hKe : K t.cleans.length = sysRows t kind (k + 1) := by
      rw [hK, hG, hR2, hR1, List.take_of_length_le (Nat.le_refl _), List.take_of_length_le (Nat.le_refl _)]
      show _ = (match t.ev.moves[k]? with | none => sysRows t kind k | some x => sysRows t kind k ++ moveRows t kind k x)
      rw [hx]
      simp only [moveRows, hkd, List.append_assoc]
    refine acode_sound tab_ok _ ?_
    conv => whnf
    (repeat' (first | ((refine DecB.mk (fun h => ?_) (fun h => ?_)) <;> first | (exfalso; omega) | (conv => whnf)) | ((refine BoolB.mk (fun h => ?_) (fun h => ?_)) <;> first | (exact absurd h (by decide)) | (conv => whnf)) | ((first | refine ⟨_, wrap_ok (by omega) (by omega), ?_⟩ | refine and_idx (by omega) (by omega) ?_ | refine reg_ok (by decide +kernel) ?_ | refine bar_ok (by decide +kernel) (by decide +kernel) ?_ | refine late_ok rfl rfl ?_ | refine src_ok rfl ?_ | refine LitB.data ?_ | refine BoxB.own ?_); conv => whnf)))
    refine awp_for tab_ok (fun j => ([J, intS .i64 kind, S.c (C.t (T.ptr (trT t))), J, S.c (C.ptr 0 0 0), J, S.c (C.ptr 1 0 0), S.c (C.ptr 2 0 0), intS .i64 k, J, J, J, J, intS .i64 j, J, J, J, J, J, J, J, J, J, J, J, J, J, J, J, J, J, J, J, J, J, J, J, J, J, J, J, J, J, J, J, J, J, J, J, J, J, J, J, J, J, J, J, J, J, J, J, J, J, J, J, J, J, J, J, J, J, J, J, J, J, J, J, J, J, J, J, J, J, J, J, J, J, J, J, J, J, J, J, J, J, J, J, J, J, J, J, J, J, J, J, J, J, J, J, J, J, J, J, J, J, J, J, J, J, J, J, J, J, J, J, J, J, J, J, J, J, J, J, J, J, J, J, J, J, J, J], rHp t (K j))) t.cleans.length (fun _ => True) [some 0, some 1, some 2, some 3] trivial ?_ ?_
    · refine ent_sysR rfl zB_ent rfl rfl rfl ?_ ?_ (by decide) ⟨rfl, rfl, ⟨rfl, rfl, rfl⟩, ⟨rfl, rfl, rfl⟩, ⟨rfl, rfl, rfl⟩, rfl, rfl, trivial⟩
      · rw [hK]; simp [cleansOf]
      · rw [hK]; simp [cleansOf]
    intro j hj _
    have lj := lK j
    by_cases hjt : j < t.cleans.length
    · obtain ⟨c, hc⟩ : ∃ c, t.cleans[j]? = some c := ⟨_, List.getElem?_eq_getElem hjt⟩
      have o0 := r21one k 2 ((0 : Int) : Rat)
      have lA : (K j).length ≤ (rowsB (K j)).rows.length := by show _ ≤ (toC _).length; simp [toC]
      have lC : ((K j).length + 1) * 97 ≤ 140737488355328 := by omega
      have gs : K (j + 1) = if c.kind = kind ∧ c.mv = (k : Int) then K j ++ [oneRow k 2 ((0 : Int) : Rat)] else K j := by
        rw [hK, hK, take_snocR hc, cleansOf_more]
        split <;> simp [List.replicate_succ']
      conv => whnf
      (repeat' (first | ((refine DecB.mk (fun h => ?_) (fun h => ?_)) <;> first | (exfalso; omega) | (conv => whnf)) | ((refine BoolB.mk (fun h => ?_) (fun h => ?_)) <;> first | (exact absurd h (by decide)) | (conv => whnf)) | ((first | refine ⟨_, wrap_ok (by omega) (by omega), ?_⟩ | refine and_idx (by omega) (by omega) ?_ | refine reg_ok (by decide +kernel) ?_ | refine bar_ok (by decide +kernel) (by decide +kernel) ?_ | refine late_ok rfl rfl ?_ | refine src_ok rfl ?_ | refine .inl ⟨_, _, qcall_pure (i0) rfl rfl, ?_⟩ | refine .inl ⟨_, _, qcall_pure (o0) rfl rfl, ?_⟩ | refine ex_row hc ?_ | refine app_ok lA lC ?_ | refine LitB.data ?_ | refine BoxB.own ?_); conv => whnf)))
      all_goals first
        | (exfalso; omega)
        | skip
      · rw [if_pos (by omega)] at gs
        refine ⟨hjt, trivial, [some 0, some 1, some 2, some 4], ent_sysR rfl zB_ent rfl rfl rfl ?_ ?_ (by decide) ⟨rfl, rfl, ⟨rfl, rfl, rfl⟩, ⟨rfl, rfl, rfl⟩, ⟨rfl, rfl, rfl⟩, rfl, rfl, trivial⟩⟩
        · rw [gs]; simp [toC]
        · rw [gs]; exact ext_rowsN rfl
      all_goals
        rw [if_neg (by omega)] at gs
        refine ⟨hjt, trivial, [some 0, some 1, some 2, some 3], ent_sysR rfl zB_ent rfl rfl rfl ?_ ?_ (by decide) ⟨rfl, rfl, ⟨rfl, rfl, rfl⟩, ⟨rfl, rfl, rfl⟩, ⟨rfl, rfl, rfl⟩, rfl, rfl, trivial⟩⟩
        · rw [gs]
        · rw [gs]
    · have hje : j = t.cleans.length := by omega
      subst hje
      conv => whnf
      (repeat' (first | ((refine DecB.mk (fun h => ?_) (fun h => ?_)) <;> first | (exfalso; omega) | (conv => whnf)) | ((refine BoolB.mk (fun h => ?_) (fun h => ?_)) <;> first | (exact absurd h (by decide)) | (conv => whnf)) | ((first | refine ⟨_, wrap_ok (by omega) (by omega), ?_⟩ | refine and_idx (by omega) (by omega) ?_ | refine reg_ok (by decide +kernel) ?_ | refine bar_ok (by decide +kernel) (by decide +kernel) ?_ | refine late_ok rfl rfl ?_ | refine src_ok rfl ?_ | refine LitB.data ?_ | refine BoxB.own ?_); conv => whnf)))
      all_goals try (exfalso; omega)
      refine acode_sound tab_ok _ ?_
      conv => whnf
      (repeat' (first | ((refine DecB.mk (fun h => ?_) (fun h => ?_)) <;> first | (exfalso; omega) | (conv => whnf)) | ((refine BoolB.mk (fun h => ?_) (fun h => ?_)) <;> first | (exact absurd h (by decide)) | (conv => whnf)) | ((first | refine ⟨_, wrap_ok (by omega) (by omega), ?_⟩ | refine and_idx (by omega) (by omega) ?_ | refine reg_ok (by decide +kernel) ?_ | refine bar_ok (by decide +kernel) (by decide +kernel) ?_ | refine late_ok rfl rfl ?_ | refine src_ok rfl ?_ | refine LitB.data ?_ | refine BoxB.own ?_); conv => whnf)))
      all_goals try (exfalso; omega)
      exact ⟨hlt, trivial, [some 0, some 1, some 2, some 3], ent_sysR rfl zB_ent rfl rfl rfl (by rw [hKe]) (by rw [hKe]) (by decide) ⟨rfl, rfl, ⟨rfl, rfl, rfl⟩, ⟨rfl, rfl, rfl⟩, ⟨rfl, rfl, rfl⟩, rfl, trivial⟩⟩
  · have hke : k = t.ev.moves.length := by omega
    subst hke
    refine fin_t ⟨⟨rfl, show VC _ (fun id => notIn [] id = true) _ _ from vc_all rfl rfl (by intro h; cases h) rfl rfl (by rw [List.length_map]; rfl), trivial⟩, rfl, trivial⟩
end Go.Proofs.YtomfnfbijgjfeaaGreat
/- TaintHolds: its walk. -/
namespace Go.Proofs.YtomfnfbijgjfeaaGreat
open Go.RowKit
set_option linter.unusedVariables false
set_option linter.unusedSimpArgs false
set_option maxRecDepth 100000

theorem rl_pm1 : rl ((1 : Int) : Rat) ≤ 200 ∧ rl ((-1 : Int) : Rat) ≤ 200 ∧ rl ((0 : Int) : Rat) ≤ 200 := by
  refine ⟨?_, ?_, ?_⟩
  · have := rl_ir (n := 1) (by decide); unfold ir at this; omega
  · have := rl_ir (n := -1) (by decide); unfold ir at this; omega
  · have := rl_ir (n := 0) (by decide); unfold ir at this; omega
def rowSm (w : RowP) : Bool := decide (w.terms.length ≤ 100) && w.terms.all (fun t => decide (rl t.2 ≤ 200)) && decide (rl w.value ≤ 200)
theorem termsTo_sm {e : Ev} {p : Int} : ∀ k, (termsTo e p k).all (fun t => decide (rl t.2 ≤ 200)) = true
  | 0 => rfl
  | k + 1 => by
    have ih := termsTo_sm (e := e) (p := p) k
    unfold termsTo
    obtain ⟨p1, p2, p3⟩ := rl_pm1
    split
    · exact ih
    · split
      · rw [List.all_append, ih]; simpa using p1
      · split
        · rw [List.all_append, ih]; simpa using p2
        · exact ih
theorem one_sm {i : Nat} {kind : Int} {v : Rat} (h : rl v ≤ 200) : rowSm (oneRow i kind v) = true := by
  obtain ⟨p1, p2, p3⟩ := rl_pm1
  unfold rowSm oneRow
  simp [h]; simpa using p1
theorem move_sm {t : Trace} {kind : Int} {i : Nat} {x : Move} (hx : t.ev.moves[i]? = some x) (hf : findsE t.ev t.finds = 0) (hm : t.ev.moves.length ≤ 14) : (moveRows t kind i x).all rowSm = true := by
  obtain ⟨p1, p2, p3⟩ := rl_pm1
  have hi : i < t.ev.moves.length := (List.getElem?_eq_some_iff.1 hx).1
  unfold moveRows
  rw [List.all_append, List.all_append, List.all_append]
  simp only [Bool.and_eq_true]
  refine ⟨⟨⟨?_, ?_⟩, ?_⟩, ?_⟩
  · split
    · rfl
    · simp only [List.all_cons, List.all_nil, Bool.and_true]
      unfold rowSm stockRow
      simp only [Bool.and_eq_true, decide_eq_true_eq]
      have hl := termsTo_len (e := t.ev) (p := x.src) i
      refine ⟨⟨?_, ?_⟩, p3⟩
      · rw [List.length_append]; simp; omega
      · rw [List.all_append, termsTo_sm]; simpa using p2
  · unfold capRows
    split
    · rfl
    · rename_i lo hi' hiv
      have h := hiF_some (e := t.ev) (x := x) (by rw [hiv]; rfl)
      have e : hiR (ivOf t.ev x) = hi' := by rw [hiv]; rfl
      rw [e] at h
      simpa using one_sm h.2
  · rw [List.all_map, List.all_eq_true]
    intro g hg
    unfold gramsOf at hg
    obtain ⟨f, hf', rfl⟩ := List.mem_map.1 hg
    have := findsE_get hf f (List.mem_filter.1 hf').1
    have hb := bl_int (x := f.grams) (by omega) (by omega)
    exact one_sm (by rw [rl_int]; omega)
  · rw [List.all_eq_true]
    intro w hw
    rw [List.mem_replicate] at hw
    rw [hw.2]
    exact one_sm p3
theorem sys_B {t : Trace} {kind : Int} (ht : traceE t = 0) (hm : t.ev.moves.length ≤ 14) : SysB (sysOf t kind) := by
  obtain ⟨q1, q2, q3, q4, q5⟩ := traceE_zero ht
  have hall : (sysRows t kind t.ev.moves.length).all rowSm = true := (sysRows_all _ (Nat.le_refl _)).2 fun i x hi hx => move_sm hx q4 hm
  refine ⟨?_, fun w hw => ?_⟩
  · have := rowsTo_len (t := t) (kind := kind) (k := t.ev.moves.length) (by omega) q2 q3
    show (sysRows t kind t.ev.moves.length).length ≤ _
    omega
  · have := List.all_eq_true.1 hall w hw
    unfold rowSm at this
    simp only [Bool.and_eq_true, decide_eq_true_eq, List.all_eq_true] at this
    exact ⟨this.1.1, this.1.2, this.2⟩
end Go.Proofs.YtomfnfbijgjfeaaGreat
/- TaintTells: its walk. -/
namespace Go.Proofs.YtomfnfbijgjfeaaGreat
open Go.RowKit
set_option linter.unusedVariables false
set_option linter.unusedSimpArgs false
set_option maxRecDepth 100000

theorem fz_len8 {x : Rat} (h : rl x ≤ 200) : (fz x).p.dl.length ≤ 1000000 ∧ (fz x).q.dl.length ≤ 1000000 := by
  have h4 := rl_num x
  have h5 := rl_den x
  exact ⟨show bl x.num ≤ 1000000 by omega, show bl x.den ≤ 1000000 by omega⟩
theorem a_SameT8 (l : List (Int × Rat)) (hl : l.length ≤ 100) (hd : ∀ t ∈ l, rl t.2 ≤ 200) : ACall Tryz.prog 28 [.c (.t (termsT l)), .c (.t (termsT l))] [] (boolS true) [] := by
  have m1 : (l.map termRow).length = l.length := by simp
  (refine acall_of tab_ok Tryz.func28 rfl (by decide) ?_; (conv => whnf); repeat (first | (refine LitB.data ?_; conv => whnf) | (refine BoxB.data ?_; conv => whnf)))
  (repeat' (first | ((refine DecB.mk (fun h => ?_) (fun h => ?_)) <;> first | (exfalso; omega) | (conv => whnf)) | ((refine BoolB.mk (fun h => ?_) (fun h => ?_)) <;> first | (exact absurd h (by decide)) | (conv => whnf)) | ((first | refine ⟨_, wrap_ok (by omega) (by omega), ?_⟩ | refine and_idx (by omega) (by omega) ?_ | refine reg_ok (by decide +kernel) ?_ | refine bar_ok (by decide +kernel) (by decide +kernel) ?_ | refine late_ok rfl rfl ?_ | refine src_ok rfl ?_ | refine LitB.data ?_ | refine BoxB.own ?_); conv => whnf)))
  all_goals try (exfalso; omega)
  refine awp_for tab_ok (fun k => ([S.c (C.t (termsT l)), S.c (C.t (termsT l)), J, J, J, intS .i64 k, J, J, J, J, J, J, J, J, J, J, J, J, J, J, J, J, J, J, J, J, J, J, J, J, J, J, J, J, J, J, J, J, J, J, J, J], [])) l.length (fun _ => True) [] trivial
    ⟨rfl, rfl, trivial, ⟨rfl, rfl, rfl, trivial⟩⟩ ?_
  intro k hk _
  by_cases hlt : k < l.length
  · obtain ⟨t, ht⟩ : ∃ t, l[k]? = some t := ⟨_, List.getElem?_eq_getElem hlt⟩
    have q := fz_len8 (hd t (List.mem_of_getElem? ht))
    have r := a_SameF (fz t.2) q.1 q.2
    conv => whnf
    (repeat' (first | ((refine DecB.mk (fun h => ?_) (fun h => ?_)) <;> first | (exfalso; omega) | (conv => whnf)) | ((refine BoolB.mk (fun h => ?_) (fun h => ?_)) <;> first | (exact absurd h (by decide)) | (conv => whnf)) | ((first | refine ⟨_, wrap_ok (by omega) (by omega), ?_⟩ | refine and_idx (by omega) (by omega) ?_ | refine reg_ok (by decide +kernel) ?_ | refine bar_ok (by decide +kernel) (by decide +kernel) ?_ | refine late_ok rfl rfl ?_ | refine src_ok rfl ?_ | refine .inl ⟨_, _, qcall_pure (r) rfl rfl, ?_⟩ | refine ex_row ht ?_ | refine LitB.data ?_ | refine BoxB.own ?_); conv => whnf)))
    all_goals first
      | (exfalso; omega)
      | exact ⟨hlt, trivial, [], rfl, rfl, trivial, ⟨rfl, rfl, rfl, trivial⟩⟩
  · conv => whnf
    (repeat' (first | ((refine DecB.mk (fun h => ?_) (fun h => ?_)) <;> first | (exfalso; omega) | (conv => whnf)) | ((refine BoolB.mk (fun h => ?_) (fun h => ?_)) <;> first | (exact absurd h (by decide)) | (conv => whnf)) | ((first | refine ⟨_, wrap_ok (by omega) (by omega), ?_⟩ | refine and_idx (by omega) (by omega) ?_ | refine reg_ok (by decide +kernel) ?_ | refine bar_ok (by decide +kernel) (by decide +kernel) ?_ | refine late_ok rfl rfl ?_ | refine src_ok rfl ?_ | refine LitB.data ?_ | refine BoxB.own ?_); conv => whnf)))
    all_goals first
      | (exfalso; omega)
      | exact fin_bool rfl
structure SysSm (s : SysP) : Prop where
  n0 : s.rows.length ≤ 1000000
  t : ∀ w ∈ s.rows, w.terms.length ≤ 100 ∧ (∀ t ∈ w.terms, rl t.2 ≤ 200) ∧ rl w.value ≤ 200
theorem a_SameS8 (s : SysP) (hs : SysSm s) : ACall Tryz.prog 8 [sysS s, sysS s] [] (boolS true) [] := by
  have m1 : (s.rows.map rowRow).length = s.rows.length := by simp
  have l1 := hs.n0
  (refine acall_of tab_ok Tryz.func8 rfl (by decide) ?_; (conv => whnf); repeat (first | (refine LitB.data ?_; conv => whnf) | (refine BoxB.data ?_; conv => whnf)))
  (repeat' (first | ((refine DecB.mk (fun h => ?_) (fun h => ?_)) <;> first | (exfalso; omega) | (conv => whnf)) | ((refine BoolB.mk (fun h => ?_) (fun h => ?_)) <;> first | (exact absurd h (by decide)) | (conv => whnf)) | ((first | refine ⟨_, wrap_ok (by omega) (by omega), ?_⟩ | refine and_idx (by omega) (by omega) ?_ | refine reg_ok (by decide +kernel) ?_ | refine bar_ok (by decide +kernel) (by decide +kernel) ?_ | refine late_ok rfl rfl ?_ | refine src_ok rfl ?_ | refine LitB.data ?_ | refine BoxB.own ?_); conv => whnf)))
  all_goals try (exfalso; omega)
  refine awp_for tab_ok (fun k => ([J, J, S.c (C.t (T.ptr [ti s.n, rowsTT s.rows])), S.c (C.t (T.ptr [ti s.n, rowsTT s.rows])), J, intS .i64 k, J, J, J, J, J, J, J, J, J, J, J, J, J, J, J, J, J, J, J, J, J, J, J, J, J, J, J, J, J, J, J, J, J, J, J, J, J, J, J, J, J, J, J, J, J, J, J, J, J, J, J, J, J, J, J, J, J, J, J, J, J, J, J, J, J, J], [])) s.rows.length (fun _ => True) [] trivial
    ⟨rfl, rfl, trivial, ⟨rfl, rfl, rfl, trivial⟩⟩ ?_
  intro k hk _
  by_cases hlt : k < s.rows.length
  · obtain ⟨w, hw⟩ : ∃ w, s.rows[k]? = some w := ⟨_, List.getElem?_eq_getElem hlt⟩
    obtain ⟨b1, b2, b3⟩ := hs.t w (List.mem_of_getElem? hw)
    have q := fz_len8 b3
    have r := a_SameF (fz w.value) q.1 q.2
    have st := a_SameT8 w.terms b1 b2
    conv => whnf
    (repeat' (first | ((refine DecB.mk (fun h => ?_) (fun h => ?_)) <;> first | (exfalso; omega) | (conv => whnf)) | ((refine BoolB.mk (fun h => ?_) (fun h => ?_)) <;> first | (exact absurd h (by decide)) | (conv => whnf)) | ((first | refine ⟨_, wrap_ok (by omega) (by omega), ?_⟩ | refine and_idx (by omega) (by omega) ?_ | refine reg_ok (by decide +kernel) ?_ | refine bar_ok (by decide +kernel) (by decide +kernel) ?_ | refine late_ok rfl rfl ?_ | refine src_ok rfl ?_ | refine .inl ⟨_, _, qcall_pure (r) rfl rfl, ?_⟩ | refine .inl ⟨_, _, qcall_pure (st) rfl rfl, ?_⟩ | refine ex_row hw ?_ | refine LitB.data ?_ | refine BoxB.own ?_); conv => whnf)))
    all_goals first
      | (exfalso; omega)
      | exact ⟨hlt, trivial, [], rfl, rfl, trivial, ⟨rfl, rfl, rfl, trivial⟩⟩
  · conv => whnf
    (repeat' (first | ((refine DecB.mk (fun h => ?_) (fun h => ?_)) <;> first | (exfalso; omega) | (conv => whnf)) | ((refine BoolB.mk (fun h => ?_) (fun h => ?_)) <;> first | (exact absurd h (by decide)) | (conv => whnf)) | ((first | refine ⟨_, wrap_ok (by omega) (by omega), ?_⟩ | refine and_idx (by omega) (by omega) ?_ | refine reg_ok (by decide +kernel) ?_ | refine bar_ok (by decide +kernel) (by decide +kernel) ?_ | refine late_ok rfl rfl ?_ | refine src_ok rfl ?_ | refine LitB.data ?_ | refine BoxB.own ?_); conv => whnf)))
    all_goals first
      | (exfalso; omega)
      | exact fin_bool rfl
set_option maxHeartbeats 4000000 in
theorem a_TaintTells (t : Trace) (kind : Int) (z : List Fr) : ACall Tryz.prog 3 [trS t, intS .i64 kind, fracsS z] [] (boolS true) [] := by
  have sm := a_small21
  have fw := a_few21 t z
  cases hf : fewT t z with
  | false =>
    rw [hf] at fw
    (refine acall_of tab_ok Tryz.func3 rfl (by decide) ?_; (conv => whnf); repeat (first | (refine LitB.data ?_; conv => whnf) | (refine BoxB.data ?_; conv => whnf)))
    (repeat' (first | ((refine DecB.mk (fun h => ?_) (fun h => ?_)) <;> first | (exfalso; omega) | (conv => whnf)) | ((refine BoolB.mk (fun h => ?_) (fun h => ?_)) <;> first | (exact absurd h (by decide)) | (conv => whnf)) | ((first | refine ⟨_, wrap_ok (by omega) (by omega), ?_⟩ | refine and_idx (by omega) (by omega) ?_ | refine reg_ok (by decide +kernel) ?_ | refine bar_ok (by decide +kernel) (by decide +kernel) ?_ | refine late_ok rfl rfl ?_ | refine src_ok rfl ?_ | refine .inl ⟨_, _, qcall_pure (sm) rfl rfl, ?_⟩ | refine .inl ⟨_, _, qcall_pure (fw) rfl rfl, ?_⟩ | refine LitB.data ?_ | refine BoxB.own ?_); conv => whnf)))
    all_goals first
      | (exfalso; omega)
      | exact fin_bool rfl
  | true =>
    rw [hf] at fw
    unfold fewT at hf
    simp only [Bool.and_eq_true] at hf
    obtain ⟨hs, l1, l2, l3, l4⟩ := littleT_sized hf.1
    obtain ⟨z1, z2⟩ := shorts_small hf.2
    have sy := a_System t kind hs
    have sr := r21System t kind hs
    have ma := a_Matter t kind z hs (by omega) (fun f hf => by have := z2 f hf; omega)
    have mr := r21Matter t kind z hs (by omega) (fun f hf => by have := z2 f hf; omega)
    have ck := a_TCheck t hs
    have cr := r21Check t hs
    have hS : SysSm (sysR t kind) := by
      by_cases h1 : traceE t ≠ 0 ∨ kind < 0 ∨ 8 ≤ kind
      · have e2 : sysR t kind = ⟨0, []⟩ := by unfold sysR; rw [if_pos h1]
        rw [e2]; exact ⟨by simp, by simp⟩
      · have e2 : sysR t kind = sysOf t kind := by unfold sysR; rw [if_neg h1]
        rw [e2]; exact ⟨(sys_B (kind := kind) (by omega) l1).n0, (sys_B (kind := kind) (by omega) l1).t⟩
    have ss := a_SameS8 (sysR t kind) hS
    (refine acall_of tab_ok Tryz.func3 rfl (by decide) ?_; (conv => whnf); repeat (first | (refine LitB.data ?_; conv => whnf) | (refine BoxB.data ?_; conv => whnf)))
    (repeat' (first | ((refine DecB.mk (fun h => ?_) (fun h => ?_)) <;> first | (exfalso; omega) | (conv => whnf)) | ((refine BoolB.mk (fun h => ?_) (fun h => ?_)) <;> first | (exact absurd h (by decide)) | (conv => whnf)) | ((first | refine ⟨_, wrap_ok (by omega) (by omega), ?_⟩ | refine and_idx (by omega) (by omega) ?_ | refine reg_ok (by decide +kernel) ?_ | refine bar_ok (by decide +kernel) (by decide +kernel) ?_ | refine late_ok rfl rfl ?_ | refine src_ok rfl ?_ | refine .inl ⟨_, _, qcall_pure (sm) rfl rfl, ?_⟩ | refine .inl ⟨_, _, qcall_pure (fw) rfl rfl, ?_⟩ | refine .inl ⟨_, _, qcall_pure (sy) rfl rfl, ?_⟩ | refine .inl ⟨_, _, qcall_pure (sr) rfl rfl, ?_⟩ | refine .inl ⟨_, _, qcall_pure (ma) rfl rfl, ?_⟩ | refine .inl ⟨_, _, qcall_pure (mr) rfl rfl, ?_⟩ | refine .inl ⟨_, _, qcall_pure (ck) rfl rfl, ?_⟩ | refine .inl ⟨_, _, qcall_pure (cr) rfl rfl, ?_⟩ | refine .inl ⟨_, _, qcall_pure (ss) rfl rfl, ?_⟩ | refine .inl ⟨_, _, qcall_pure (5) rfl rfl, ?_⟩ | refine bar_late [5] (by decide +kernel) (by decide +kernel) ?_ | refine LitB.data ?_ | refine BoxB.own ?_); conv => whnf)))
    all_goals first
      | (exfalso; omega)
      | exact fin_bool rfl
end Go.Proofs.YtomfnfbijgjfeaaGreat
/- Laws on appending to a slice that the call itself made, in the form that my walks use. Over any program. -/
namespace Go.Proofs.YtomfnfbijgjfeaaGreat
open Go.RowKit

/-- what an append leaves of older worlds -/
def Later (base : Nat) (w w' : World) : Prop := w.heap.size ≤ w'.heap.size ∧ ∀ (w0 : World) (B : Nat), Below B w0 w → B ≤ base → Below B w0 w'
theorem Later.below {base B : Nat} {w w' w0 : World} (h : Later base w w') (hb : Below B w0 w) (hB : B ≤ base) : Below B w0 w' := h.2 w0 B hb hB
theorem Later.size {base : Nat} {w w' : World} (h : Later base w w') : w.heap.size ≤ w'.heap.size := h.1

end Go.Proofs.YtomfnfbijgjfeaaGreat
/- More words on memory: boxes of evidence; an append whose value is written out. -/
namespace Go.Proofs.YtomfnfbijgjfeaaGreat
open Go.RowKit

/-- Block b holds evidence of these parts. -/
structure EvBox (w : World) (b : Nat) (m h s : Int) (A1 : Option Addr) (n1 c1 : Nat) (A2 : Option Addr) (n2 c2 : Nat) (A3 : Option Addr) (n3 c3 : Nat) (A4 : Option Addr) (n4 c4 : Nat) (A5 : Option Addr) (n5 c5 : Nat) : Prop where
  b0 : w.cell? ⟨b, 0, none⟩ = some (vi m)
  b1 : w.cell? ⟨b, 1, none⟩ = some (vi h)
  b2 : w.cell? ⟨b, 2, none⟩ = some (vi s)
  b3 : w.cell? ⟨b, 3, none⟩ = some (.slice A1 n1 c1)
  b4 : w.cell? ⟨b, 4, none⟩ = some (.slice A2 n2 c2)
  b5 : w.cell? ⟨b, 5, none⟩ = some (.slice A3 n3 c3)
  b6 : w.cell? ⟨b, 6, none⟩ = some (.slice A4 n4 c4)
  b7 : w.cell? ⟨b, 7, none⟩ = some (.slice A5 n5 c5)
section
variable {w w' : World} {b : Nat} {m h s : Int} {A1 A2 A3 A4 A5 : Option Addr} {n1 n2 n3 n4 n5 c1 c2 c3 c4 c5 : Nat}
theorem EvBox.lt (h0 : EvBox w b m h s A1 n1 c1 A2 n2 c2 A3 n3 c3 A4 n4 c4 A5 n5 c5) : b < w.heap.size := lt_of_cell h0.b0
theorem EvBox.keep {B : Nat} (h0 : EvBox w b m h s A1 n1 c1 A2 n2 c2 A3 n3 c3 A4 n4 c4 A5 n5 c5) (hb : Below B w w') (hB : b < B) : EvBox w' b m h s A1 n1 c1 A2 n2 c2 A3 n3 c3 A4 n4 c4 A5 n5 c5 :=
  ⟨(hb.cell (p := ⟨b, 0, none⟩) hB).trans h0.b0, (hb.cell (p := ⟨b, 1, none⟩) hB).trans h0.b1, (hb.cell (p := ⟨b, 2, none⟩) hB).trans h0.b2, (hb.cell (p := ⟨b, 3, none⟩) hB).trans h0.b3,
   (hb.cell (p := ⟨b, 4, none⟩) hB).trans h0.b4, (hb.cell (p := ⟨b, 5, none⟩) hB).trans h0.b5, (hb.cell (p := ⟨b, 6, none⟩) hB).trans h0.b6, (hb.cell (p := ⟨b, 7, none⟩) hB).trans h0.b7⟩
theorem EvBox.later (h0 : EvBox w b m h s A1 n1 c1 A2 n2 c2 A3 n3 c3 A4 n4 c4 A5 n5 c5) (hb : Below w.heap.size w w') : EvBox w' b m h s A1 n1 c1 A2 n2 c2 A3 n3 c3 A4 n4 c4 A5 n5 c5 := h0.keep hb h0.lt
theorem EvBox.new (w : World) (m h s : Int) (A1 : Option Addr) (n1 c1 : Nat) (A2 : Option Addr) (n2 c2 : Nat) (A3 : Option Addr) (n3 c3 : Nat) (A4 : Option Addr) (n4 c4 : Nat) (A5 : Option Addr) (n5 c5 : Nat) (t : TypeId) :
    EvBox (w.alloc (.cells #[.int .i64 m, .int .i64 h, .int .i64 s, .slice A1 n1 c1, .slice A2 n2 c2, .slice A3 n3 c3, .slice A4 n4 c4, .slice A5 n5 c5] t)) w.heap.size m h s A1 n1 c1 A2 n2 c2 A3 n3 c3 A4 n4 c4 A5 n5 c5 := by
  have hc := fun i => cell_of_row (w.alloc (.cells #[.int .i64 m, .int .i64 h, .int .i64 s, .slice A1 n1 c1, .slice A2 n2 c2, .slice A3 n3 c3, .slice A4 n4 c4, .slice A5 n5 c5] t)) w.heap.size i _ t (0, 0) (heap_alloc_new w _)
  exact ⟨hc 0, hc 1, hc 2, hc 3, hc 4, hc 5, hc 6, hc 7⟩
end
end Go.Proofs.YtomfnfbijgjfeaaGreat
/- From a walk to a row: every law of the seat is closed by these, over any program. And: arguments opened to cells. -/
namespace Go.Proofs.YtomfnfbijgjfeaaGreat
open Go.RowKit Go.ChangeShapes Go.WideShapes Go.Deep

section
variable {H : Type} {enc : TypeId × Value → H} {P : Program}
theorem trodAll_stays (hl : laidOutB P = true) {W W' : World} {sp : Nat → Bool} : ∀ {ts : List TypeId} {vs : List Value} {ds : List (DataW H)} {ps : List MemPlace}, (∀ t ∈ ts, P.readableRec t = true ∧ t < P.types.size) →
    DataW.TrodAll enc P W 0 (fun _ => true) true ts vs ds ps → (∀ p ∈ ps, W.sameAt W' p) → (∀ p ∈ ps, sp p.block = true) → DataW.TrodAll enc P W' 0 sp true ts vs ds ps := by
  intro ts
  induction ts with
  | nil =>
    intro vs ds ps _ h _ _
    obtain ⟨rfl, rfl, rfl⟩ := trodAll_nil h
    exact trodAll_mk0
  | cons t ts ih =>
    intro vs ds ps hr h hsame hs
    obtain ⟨v, vs', d, ds', p, q, rfl, rfl, rfl, h1, h2⟩ := trodAll_cons h
    obtain ⟨ht, hlt⟩ := hr t (by simp)
    exact trodAll_cons_mk (WideElems.Trod_stays hl ht hlt h1 (fun x hx => hsame x (by simp [hx])) (fun x hx => hs x (by simp [hx]))) (ih (fun t ht => hr t (by simp [ht])) h2 (fun x hx => hsame x (by simp [hx])) (fun x hx => hs x (by simp [hx])))

/-- A law's post: it returned true, and old memory is as it was. -/
theorem law_post {f : Func} {s : ChangeSpec} {fresh handsOn : Bool} {W W' : World} {args : Array Value} {ds gs : List (DataW H)} {before : List MemPlace} {tb : TypeId}
    (hW : DataW.Whole enc P f.params.toList s.vars false W args.toList ds gs before) (hl : laidOutB P = true) (hr : ∀ t ∈ f.params.toList, P.readableRec t = true ∧ t < P.types.size) (hv : s.vars = [])
    (hfn : s.fn H (ds ++ gs) = { results := [.lit (.bool true)], args := ds }) (hres : f.resultTypes = #[tb]) (hbool : P.underlying tb = some .bool) (hb : Below W.heap.size W W') :
    s.post enc P f false fresh handsOn false W args (.bool true) W' := by
  have hW' := hW
  obtain ⟨p, q, hA, hV, rfl, hfz, hnd⟩ := hW
  rw [hv] at hV
  obtain ⟨rfl, rfl⟩ := trodVars_none hV
  have hlt : ∀ x ∈ p, x.block < W.heap.size := fun x hx => by have := hW'.lt x (by simpa using hx); simpa using this
  refine ⟨ds, [], p ++ [], [], p, [], hW', ?_, ?_, ?_, hb.frame _, fun h => by cases h⟩
  · rw [hfn, hres]
    exact trodAll_mk1 (shut_bool hbool true)
  · rw [hfn]
    exact trodAll_stays hl hr hA (fun x hx => hb.same (hlt x hx)) (fun x hx => by simpa using hlt x hx)
  · rw [hv, hfn]
    exact rfl

variable {w : World} {base : Nat} {spare : Nat → Bool} {held : Bool}
end
end Go.Proofs.YtomfnfbijgjfeaaGreat
/- From a call's contract to what a law's row asks for. -/
namespace Go.Proofs.YtomfnfbijgjfeaaGreat
open Go.RowKit
set_option linter.unusedVariables false
set_option linter.unusedSimpArgs false

theorem rs_int {w : World} {n : Int} : RS w (fun _ => none) (fun _ => False) (intS .i64 n) (.int .i64 n) := RS.int

/-- arguments one by one -/
inductive RArgs (w : World) : List S → List Value → Prop
  | nil : RArgs w [] []
  | cons {s : S} {v : Value} {ss : List S} {vs : List Value} (h : RS w (fun _ => none) (fun _ => False) s v) (hs : RArgs w ss vs) : RArgs w (s :: ss) (v :: vs)
theorem RArgs.get {w : World} {ss : List S} {vs : List Value} (h : RArgs w ss vs) : vs.length = ss.length ∧ ∀ (j : Nat) (s : S), ss[j]? = some s → RS w (fun _ => none) (fun _ => False) s (vs.getD j undef) := by
  induction h with
  | nil => exact ⟨rfl, by simp⟩
  | cons h hs ih =>
    refine ⟨by simp [ih.1], fun j s hj => ?_⟩
    cases j with
    | zero => simp at hj; subst hj; exact h
    | succ j => simpa using ih.2 j s (by simpa using hj)

theorem law_of_acall {P : Program} {g : FuncId} {ss : List S} {b : Bool} (h : ACall P g ss [] (boolS b) []) {w : World} {vs : List Value} (ha : RArgs w ss vs) :
    Calls P g vs.toArray w fun e w' => e = .returned (.bool b) ∧ Below w.heap.size w w' := by
  obtain ⟨h1, h2⟩ := ha.get
  refine Calls.mono (h.2 w (fun _ => none) (fun _ => False) vs h1 h2 ⟨by simp, by simp, by simp, by simp, by simp⟩ (fun _ h => h.elim) (fun _ _ => rfl)) ?_
  rintro e w' ⟨v, rfl, ι', M', q1, q2, q3, q4, q5⟩
  rw [q1.inv_atm]
  exact ⟨rfl, q5.os, q5.tape, q5.output, q5.size, fun k hk => q5.keep k hk (by rintro ⟨id, k, _, _, hk, _⟩; simp at hk)⟩
end Go.Proofs.YtomfnfbijgjfeaaGreat
/- An argument 'e api.Evidence' opened to its parts. -/
namespace Go.Proofs.YtomfnfbijgjfeaaGreat
open Go.RowKit Go.ChangeShapes Go.WideShapes Go.Deep

set_option maxRecDepth 100000
section
variable {H : Type} {enc : TypeId × Value → H} {w : World} {base : Nat} {spare : Nat → Bool} {held : Bool}
end
theorem law_own : ownKnob Tryz.prog.godebug = none := by kernel_rfl
theorem law_laid : laidOutB Tryz.prog = true := by kernel_rfl
end Go.Proofs.YtomfnfbijgjfeaaGreat
/- Arguments opened by the shape of their type: integers, truth values, structs and slices, however nested. -/
namespace Go.Proofs.YtomfnfbijgjfeaaGreat
open Go.RowKit Go.ChangeShapes Go.WideShapes Go.Deep
set_option linter.unusedVariables false

inductive Sh where
  | int (k : IntKind)
  | bool
  | sl (row : List Sh)
inductive Fit : Sh → T → Prop
  | int {k : IntKind} {n : Int} (h : (Lit.int k n).wf = true) : Fit (.int k) (.atm (.int k n))
  | bool {b : Bool} : Fit .bool (.atm (.bool b))
  | sl {row : List Sh} {rows : List (List T)} (hl : ∀ r ∈ rows, r.length = row.length) (h : ∀ r ∈ rows, ∀ (j : Nat) (s : Sh) (t : T), row[j]? = some s → r[j]? = some t → Fit s t) : Fit (.sl row) (.sl row.length .any rows)
inductive HasSh (P : Program) : TypeId → List Sh → Prop
  | int {t : TypeId} {k : IntKind} (h : P.underlying t = some (.int k)) : HasSh P t [.int k]
  | bool {t : TypeId} (h : P.underlying t = some .bool) : HasSh P t [.bool]
  | sl {t e : TypeId} {row : List Sh} (h : P.underlying t = some (.slice e)) (hc : P.cellsOf e = row.length) (hp : 0 < row.length) (he : HasSh P e row) : HasSh P t [.sl row]
  | struct {t : TypeId} {fs : Array Field} (parts : List (List Sh)) (h : P.underlying t = some (.struct fs)) (hl : parts.length = fs.size)
      (ho : ∀ (i : Nat) (f : Field) (p : List Sh), fs[i]? = some f → parts[i]? = some p → f.offset = (parts.take i).flatten.length ∧ P.cellsOf f.type = p.length)
      (hc : P.cellsOf t = parts.flatten.length)
      (he : ∀ (i : Nat) (f : Field) (p : List Sh), fs[i]? = some f → parts[i]? = some p → HasSh P f.type p) : HasSh P t parts.flatten

section
variable {H : Type} {enc : TypeId × Value → H} {P : Program} {w : World} {base : Nat} {spare : Nat → Bool} {held : Bool}
/-- cells that read as trees of these shapes -/
def OpenAs (w : World) (shs : List Sh) (cs : List Value) : Prop :=
  cs.length = shs.length ∧ ∃ ts : List T, ts.length = shs.length ∧ ∀ (j : Nat) (s : Sh), shs[j]? = some s → ∃ u t, cs[j]? = some u ∧ ts[j]? = some t ∧ RT w (fun _ => False) t u ∧ Fit s t
theorem flatten_at {α : Type} : ∀ (parts : List (List α)) (j : Nat) (x : α), parts.flatten[j]? = some x → ∃ i p k, parts[i]? = some p ∧ p[k]? = some x ∧ j = (parts.take i).flatten.length + k
  | [], j, x, h => by simp at h
  | p :: r, j, x, h => by
    rw [List.flatten_cons] at h
    by_cases hj : j < p.length
    · rw [List.getElem?_append_left hj] at h
      exact ⟨0, p, j, rfl, h, by simp⟩
    · rw [List.getElem?_append_right (by omega)] at h
      obtain ⟨i, q, k, h1, h2, h3⟩ := flatten_at r _ x h
      exact ⟨i + 1, q, k, by simpa using h1, h2, by rw [List.take_succ_cons, List.flatten_cons, List.length_append]; omega⟩
theorem lists_choose {α : Type} {p : Nat → α → Prop} : ∀ (n : Nat), (∀ i, i < n → ∃ x, p i x) → ∃ xs : List α, xs.length = n ∧ ∀ i x, xs[i]? = some x → p i x
  | 0, _ => ⟨[], rfl, by simp⟩
  | n + 1, h => by
    obtain ⟨xs, h1, h2⟩ := lists_choose n fun i hi => h i (by omega)
    obtain ⟨x, hx⟩ := h n (by omega)
    refine ⟨xs ++ [x], by simp [h1], fun i y hy => ?_⟩
    by_cases hi : i < xs.length
    · rw [List.getElem?_append_left hi] at hy; exact h2 i y hy
    · rw [List.getElem?_append_right (by omega)] at hy
      have : i = n := by
        have := (List.getElem?_eq_some_iff.1 hy).1
        simp at this; omega
      subst this
      rw [h1] at hy
      simp at hy
      subst hy
      exact hx
theorem open_sh {t : TypeId} {shs : List Sh} (h : HasSh P t shs) : ∀ (n : Nat) (cs : List Value) (x : DataW H × List MemPlace), DataW.trod enc P w base spare held n t cs = some x → OpenAs w shs cs := by
  induction h with
  | int h =>
    intro n cs x hx
    obtain ⟨a, rfl, _, hw⟩ := DataW.trod_int h hx
    exact ⟨rfl, [.atm (.int _ a)], rfl, fun j s hj => by
      match j, hj with
      | 0, hj => simp at hj; subst hj; exact ⟨_, _, rfl, rfl, .atm rfl, .int hw⟩⟩
  | bool h =>
    intro n cs x hx
    obtain ⟨a, rfl, _⟩ := DataW.trod_bool h hx
    exact ⟨rfl, [.atm (.bool a)], rfl, fun j s hj => by
      match j, hj with
      | 0, hj => simp at hj; subst hj; exact ⟨_, _, rfl, rfl, .atm rfl, .bool⟩⟩
  | @sl t e row h hc hp he ih =>
    intro n cs x hx
    have key : ∀ (rows : List (List T)) (u : Value), cs = [u] → RT w (fun _ => False) (.sl row.length .any rows) u → (∀ r ∈ rows, r.length = row.length) → (∀ r ∈ rows, ∀ (j : Nat) (s : Sh) (t : T), row[j]? = some s → r[j]? = some t → Fit s t) → OpenAs w [.sl row] cs := by
      rintro rows u rfl hu h1 h2
      exact ⟨rfl, [.sl row.length .any rows], rfl, fun j s hj => by
        match j, hj with
        | 0, hj => simp at hj; subst hj; exact ⟨_, _, rfl, rfl, hu, .sl h1 h2⟩⟩
    rcases open_slice h hx with ⟨h0, _⟩ | ⟨a, len, cap, m, n, D, Pl, hcs, hb, hl, hm, hmm, hx, hi⟩
    · exact key [] _ h0 (.sl (b := 0) (off := 0) (fun _ _ => undef) (by simp) (by simp) (by unfold maxLen; omega) (by intro h; cases h) (by intro h; cases h) (by simp) (by simp [at2]) (by simp [at2])) (by simp) (by simp)
    · by_cases hz : len = 0
      · subst hz
        exact key [] _ hcs (.sl (b := 0) (off := 0) (fun _ _ => undef) (by simp) (by simp) hm (by intro h; cases h) (by intro h; cases h) (by simp) (by simp [at2]) (by simp [at2])) (by simp) (by simp)
      have hlm : len ≤ m := by rw [hmm]; split <;> omega
      have each : ∀ i, i < len → ∃ cs' : List Value, (∀ j, j < row.length → w.cell? (a.add (i * row.length + j)) = cs'[j]?) ∧ OpenAs w row cs' := by
        intro i hil
        obtain ⟨cs', hc', ht'⟩ := hi i (by omega)
        rw [hc] at hc'
        obtain ⟨_, hcl, hat⟩ := World.cells?_some hc'
        exact ⟨cs', fun j hj => by rw [← Go.Deep.add_add]; exact hat j hj, ih n cs' _ ht'⟩
      obtain ⟨css, hcl, hcs2⟩ := lists_choose len each
      obtain ⟨rows, hrl, hrows⟩ := lists_choose (α := List T) (p := fun i ts => ts.length = row.length ∧ ∀ (j : Nat) (s : Sh), row[j]? = some s → ∃ u t, (css.getD i [])[j]? = some u ∧ ts[j]? = some t ∧ RT w (fun _ => False) t u ∧ Fit s t) len (fun i hi => by
        have hg : css[i]? = some (css[i]'(by omega)) := List.getElem?_eq_getElem (by omega)
        obtain ⟨_, _, ts, h1, h2⟩ := hcs2 i _ hg
        refine ⟨ts, h1, ?_⟩
        rw [List.getD_eq_getElem?_getD, hg]
        exact h2)
      have hcell : ∀ i j, i < len → j < row.length → w.cell? (a.add (i * row.length + j)) = some ((css.getD i []).getD j undef) := by
        intro i j hi hj
        have hg : css[i]? = some (css[i]'(by omega)) := List.getElem?_eq_getElem (by omega)
        obtain ⟨h1, h2, _⟩ := hcs2 i _ hg
        rw [h1 j hj]
        have hgd : css.getD i [] = css[i]'(by omega) := by rw [List.getD_eq_getElem?_getD, hg]; rfl
        rw [hgd, List.getD_eq_getElem?_getD, List.getElem?_eq_getElem (by omega)]; rfl
      have hspot : a.spot = none := by
        have := World.cell?_spot (hcell 0 0 (by omega) hp)
        simpa [Addr.add] using this
      obtain ⟨b, off, sp⟩ := a
      simp only at hspot
      subst hspot
      have hadd : ∀ k, (⟨b, off, none⟩ : Addr).add k = ⟨b, off + k, none⟩ := by
        intro k
        unfold Addr.add
        split
        · subst_vars; rfl
        · rfl
      have hat : ∀ i j c, at2 rows i j = some c → i < len ∧ j < row.length ∧ ∃ r s, rows[i]? = some r ∧ r[j]? = some c ∧ row[j]? = some s := by
        intro i j c hc
        obtain ⟨r, q1, q2⟩ := at2_inv hc
        have hil : i < len := by rw [← hrl]; exact (List.getElem?_eq_some_iff.1 q1).1
        have hjl : j < row.length := by rw [← (hrows i r q1).1]; exact (List.getElem?_eq_some_iff.1 q2).1
        exact ⟨hil, hjl, r, _, q1, q2, List.getElem?_eq_getElem hjl⟩
      refine key rows (.slice (some ⟨b, off, none⟩) len cap) hcs ?_ ?_ ?_
      · rw [← hrl]
        refine .sl (b := b) (off := off) (fun i j => (css.getD i []).getD j undef) ?_ (by omega) hm (by intro h; cases h) (by intro h; cases h) (fun _ => rfl) ?_ ?_
        · intro r hr
          obtain ⟨i, hi⟩ := List.mem_iff_getElem?.1 hr
          exact (hrows i r hi).1
        · intro i j c hc
          obtain ⟨hil, hjl, _⟩ := hat i j c hc
          have := hcell i j hil hjl
          rw [hadd] at this
          exact ⟨this, fun h => h⟩
        · intro i j c hc
          obtain ⟨hil, hjl, r, s, q1, q2, q3⟩ := hat i j c hc
          obtain ⟨u, t, h1, h2, h3, h4⟩ := (hrows i r q1).2 j s q3
          rw [q2] at h2
          injection h2 with h2
          subst h2
          rw [List.getD_eq_getElem?_getD (l := css.getD i []), h1]
          exact h3
      · intro r hr
        obtain ⟨i, hi⟩ := List.mem_iff_getElem?.1 hr
        exact (hrows i r hi).1
      · intro r hr j s t hs ht
        obtain ⟨i, hi⟩ := List.mem_iff_getElem?.1 hr
        obtain ⟨u, t', h1, h2, h3, h4⟩ := (hrows i r hi).2 j s hs
        rw [ht] at h2
        injection h2 with h2
        subst h2
        exact h4
  | @struct t fs parts h hl ho hc he ih =>
    intro n cs x hx
    obtain ⟨xs, n', hn', hy, hlen, hyl, hf⟩ := DataW.trod_struct h hx
    have hlen' : cs.length = parts.flatten.length := by rw [hlen, hc]
    have each : ∀ j, j < parts.flatten.length → ∃ t, ∀ s, parts.flatten[j]? = some s → ∃ u, cs[j]? = some u ∧ RT w (fun _ => False) t u ∧ Fit s t := by
      intro j hj
      obtain ⟨i, p, k, q1, q2, q3⟩ := flatten_at parts j _ (List.getElem?_eq_getElem hj)
      have hi : i < fs.size := by rw [← hl]; exact (List.getElem?_eq_some_iff.1 q1).1
      have hfi : fs[i]? = some fs[i] := Array.getElem?_eq_getElem hi
      obtain ⟨o1, o2⟩ := ho i _ p hfi q1
      have h1 := hf i _ hfi
      have hxi : xs[i]? = some (xs[i]'(by omega)) := List.getElem?_eq_getElem (by omega)
      obtain ⟨r1, ts, r2, r3⟩ := ih i _ p hfi q1 n' _ _ (h1.trans hxi)
      obtain ⟨u, t, e1, e2, e3, e4⟩ := r3 k _ q2
      refine ⟨t, fun s hs => ⟨u, ?_, e3, ?_⟩⟩
      · have hk : k < p.length := (List.getElem?_eq_some_iff.1 q2).1
        rw [List.getElem?_take, o2, if_pos hk, List.getElem?_drop, o1, ← q3] at e1
        exact e1
      · rw [List.getElem?_eq_getElem hj] at hs
        injection hs with hs
        rw [← hs]; exact e4
    obtain ⟨ts, t1, t2⟩ := lists_choose parts.flatten.length each
    refine ⟨hlen', ts, t1, fun j s hj => ?_⟩
    have hjl := (List.getElem?_eq_some_iff.1 hj).1
    have htj : ts[j]? = some (ts[j]'(by omega)) := List.getElem?_eq_getElem (by omega)
    obtain ⟨u, h1, h2, h3⟩ := t2 j _ htj s hj
    exact ⟨u, _, h1, htj, h2, h3⟩
end
theorem Fit.int_inv {k : IntKind} {t : T} (h : Fit (.int k) t) : ∃ n, t = .atm (.int k n) ∧ (Lit.int k n).wf = true := by cases h with | int h => exact ⟨_, rfl, h⟩
theorem Fit.bool_inv {t : T} (h : Fit .bool t) : ∃ b, t = .atm (.bool b) := by cases h with | bool => exact ⟨_, rfl⟩
/-- rows that are each the row of something -/
theorem rows_map {α : Type} {f : α → List T} {p : α → Prop} : ∀ {rows : List (List T)}, (∀ r ∈ rows, ∃ x, r = f x ∧ p x) → ∃ xs : List α, rows = xs.map f ∧ ∀ x ∈ xs, p x
  | [], _ => ⟨[], rfl, by simp⟩
  | r :: rs, h => by
    obtain ⟨x, rfl, hx⟩ := h r (by simp)
    obtain ⟨xs, rfl, hxs⟩ := rows_map (rows := rs) (f := f) (p := p) fun r hr => h r (List.mem_cons_of_mem _ hr)
    exact ⟨x :: xs, rfl, fun y hy => by rcases List.mem_cons.1 hy with rfl | hy; exact hx; exact hxs y hy⟩
theorem Fit.sl_inv {α : Type} (f : α → List T) (p : α → Prop) {row : List Sh} {t : T} (h : Fit (.sl row) t)
    (hrow : ∀ r : List T, r.length = row.length → (∀ (j : Nat) (s : Sh) (t : T), row[j]? = some s → r[j]? = some t → Fit s t) → ∃ x, r = f x ∧ p x) :
    ∃ xs : List α, t = .sl row.length .any (xs.map f) ∧ ∀ x ∈ xs, p x := by
  cases h with
  | sl hl h =>
    obtain ⟨xs, rfl, hx⟩ := rows_map (f := f) (p := p) (fun r hr => hrow r (hl r hr) (h r hr))
    exact ⟨xs, rfl, hx⟩
end Go.Proofs.YtomfnfbijgjfeaaGreat
/- Arguments of the histories: lists of fractions, picks, fractions, recalls. -/
namespace Go.Proofs.YtomfnfbijgjfeaaGreat
open Go.RowKit Go.ChangeShapes Go.WideShapes Go.Deep
set_option linter.unusedVariables false
set_option linter.unusedSimpArgs false
set_option maxRecDepth 100000

abbrev shInt : Sh := .int .i64
abbrev shBig : List Sh := [shInt, .sl [shInt]]
abbrev shFrac : List Sh := [shInt, .sl [shInt], shInt, .sl [shInt]]
theorem has_int : HasSh Tryz.prog 3 [shInt] := .int Tryz.underlying3
theorem has_ints : HasSh Tryz.prog 48 [.sl [shInt]] := .sl Tryz.underlying48 (by kernel_rfl) (by decide) has_int
theorem has_struct2 {P : Program} {t : TypeId} {fs : Array Field} {p0 p1 : List Sh} (h : P.underlying t = some (.struct fs)) (hl : fs.size = 2)
    (h0 : ∃ f, fs[0]? = some f ∧ f.offset = 0 ∧ P.cellsOf f.type = p0.length ∧ HasSh P f.type p0) (h1 : ∃ f, fs[1]? = some f ∧ f.offset = p0.length ∧ P.cellsOf f.type = p1.length ∧ HasSh P f.type p1)
    (hc : P.cellsOf t = p0.length + p1.length) : HasSh P t (p0 ++ p1) := by
  obtain ⟨f0, a1, a2, a3, a4⟩ := h0
  obtain ⟨f1, b1, b2, b3, b4⟩ := h1
  have := HasSh.struct (P := P) (t := t) (fs := fs) [p0, p1] h (by simp [hl]) (fun i f p hf hp => by
    match i, hp with
    | 0, hp => simp at hp; subst hp; rw [a1] at hf; injection hf with hf; subst hf; exact ⟨by simp [a2], a3⟩
    | 1, hp => simp at hp; subst hp; rw [b1] at hf; injection hf with hf; subst hf; exact ⟨by simp [b2], b3⟩
    | n + 2, hp => simp at hp) (by simp [hc]) (fun i f p hf hp => by
    match i, hp with
    | 0, hp => simp at hp; subst hp; rw [a1] at hf; injection hf with hf; subst hf; exact a4
    | 1, hp => simp at hp; subst hp; rw [b1] at hf; injection hf with hf; subst hf; exact b4
    | n + 2, hp => simp at hp)
  simpa using this
theorem has_big : HasSh Tryz.prog 50 shBig :=
  has_struct2 (p0 := [shInt]) (p1 := [.sl [shInt]]) Tryz.underlying50 (by kernel_rfl) ⟨_, rfl, rfl, by kernel_rfl, has_int⟩ ⟨_, rfl, rfl, by kernel_rfl, has_ints⟩ (by kernel_rfl)
theorem has_frac : HasSh Tryz.prog 52 shFrac :=
  has_struct2 (p0 := shBig) (p1 := shBig) Tryz.underlying52 (by kernel_rfl) ⟨_, rfl, rfl, by kernel_rfl, has_big⟩ ⟨_, rfl, rfl, by kernel_rfl, has_big⟩ (by kernel_rfl)
theorem has_fracs : HasSh Tryz.prog 33 [.sl shFrac] := .sl Tryz.underlying33 (by kernel_rfl) (by decide) has_frac
theorem has_recall : HasSh Tryz.prog 123 [shInt, shInt] :=
  has_struct2 (p0 := [shInt]) (p1 := [shInt]) Tryz.underlying123 (by kernel_rfl) ⟨_, rfl, rfl, by kernel_rfl, has_int⟩ ⟨_, rfl, rfl, by kernel_rfl, has_int⟩ (by kernel_rfl)
theorem fit_ints {t : T} (h : Fit (.sl [shInt]) t) : ∃ l : List Int, t = intsT l := by
  obtain ⟨xs, rfl, _⟩ := h.sl_inv intRow (fun _ => True) (fun r hl hr => by
    match r, hl with
    | [u], _ =>
      obtain ⟨n, rfl, _⟩ := (hr 0 _ _ rfl rfl).int_inv
      exact ⟨n, rfl, trivial⟩)
  exact ⟨xs, rfl⟩
theorem fit_fracrow {r : List T} (hl : r.length = 4) (hr : ∀ (j : Nat) (s : Sh) (t : T), shFrac[j]? = some s → r[j]? = some t → Fit s t) : ∃ f : Fr, r = frRow f := by
  match r, hl with
  | [a, b, c, d], _ =>
    obtain ⟨n, rfl, _⟩ := (hr 0 _ _ rfl rfl).int_inv
    obtain ⟨l, rfl⟩ := fit_ints (hr 1 _ _ rfl rfl)
    obtain ⟨m, rfl, _⟩ := (hr 2 _ _ rfl rfl).int_inv
    obtain ⟨k, rfl⟩ := fit_ints (hr 3 _ _ rfl rfl)
    exact ⟨⟨⟨n, l⟩, ⟨m, k⟩⟩, rfl⟩
theorem fit_fracs {t : T} (h : Fit (.sl shFrac) t) : ∃ l : List Fr, t = fracsT l := by
  obtain ⟨xs, rfl, _⟩ := h.sl_inv frRow (fun _ => True) (fun r hl hr => by
    obtain ⟨f, rfl⟩ := fit_fracrow hl hr
    exact ⟨f, rfl, trivial⟩)
  exact ⟨xs, rfl⟩
section
variable {H : Type} {enc : TypeId × Value → H} {w : World} {base : Nat} {spare : Nat → Bool} {held : Bool}
theorem rs_cells {shs : List Sh} {l : List Value} (h : OpenAs w shs l) : ∃ ts : List T, ts.length = shs.length ∧ (∀ (j : Nat) (s : Sh) (t : T), shs[j]? = some s → ts[j]? = some t → Fit s t) ∧ RS w (fun _ => none) (fun _ => False) (.agg (ts.map C.t)) (.agg ⟨l⟩) := by
  obtain ⟨h0, ts, h1, h2⟩ := h
  refine ⟨ts, h1, fun j s t hs ht => ?_, ?_⟩
  · obtain ⟨u, t', e1, e2, e3, e4⟩ := h2 j s hs
    rw [ht] at e2; injection e2 with e2; subst e2; exact e4
  · refine .agg l (by simp [h0, h1]) fun j c hc => ?_
    rw [List.getElem?_map] at hc
    obtain ⟨t, ht, rfl⟩ := Option.map_eq_some_iff.1 hc
    have hj : j < shs.length := by rw [← h1]; exact (List.getElem?_eq_some_iff.1 ht).1
    obtain ⟨u, t', e1, e2, e3, e4⟩ := h2 j _ (List.getElem?_eq_getElem hj)
    rw [ht] at e2; injection e2 with e2; subst e2
    rw [List.getD_eq_getElem?_getD, e1]
    exact .t e3
end
end Go.Proofs.YtomfnfbijgjfeaaGreat
/- Arguments of the traces: traces, evidence by its shape, lists of fractions, finds, cleans, recalls. -/
namespace Go.Proofs.YtomfnfbijgjfeaaGreat
open Go.RowKit Go.ChangeShapes Go.WideShapes Go.Deep
set_option linter.unusedVariables false
set_option linter.unusedSimpArgs false
set_option maxRecDepth 100000

/-- the fields lie one after the other, and have these shapes -/
def FldOK (P : Program) : List Field → List (List Sh) → Nat → Prop
  | [], [], _ => True
  | f :: fs, p :: ps, o => (f.offset = o ∧ P.cellsOf f.type = p.length ∧ HasSh P f.type p) ∧ FldOK P fs ps (o + p.length)
  | _, _, _ => False
theorem FldOK.get {P : Program} : ∀ {fs : List Field} {ps : List (List Sh)} {o : Nat}, FldOK P fs ps o → ps.length = fs.length ∧ ∀ (i : Nat) (f : Field) (p : List Sh), fs[i]? = some f → ps[i]? = some p → f.offset = o + (ps.take i).flatten.length ∧ P.cellsOf f.type = p.length ∧ HasSh P f.type p
  | [], [], o, _ => ⟨rfl, by simp⟩
  | f :: fs, p :: ps, o, h => by
    obtain ⟨⟨h1, h2, h3⟩, h4⟩ := h
    obtain ⟨l, g⟩ := FldOK.get h4
    refine ⟨by simp [l], fun i f' p' hf hp => ?_⟩
    cases i with
    | zero => simp at hf hp; subst hf hp; exact ⟨by simp [h1], h2, h3⟩
    | succ i =>
      obtain ⟨g1, g2, g3⟩ := g i f' p' (by simpa using hf) (by simpa using hp)
      exact ⟨by rw [g1]; simp; omega, g2, g3⟩
  | [], _ :: _, _, h => h.elim
  | _ :: _, [], _, h => h.elim
theorem has_struct {P : Program} {t : TypeId} {fs : Array Field} (parts : List (List Sh)) (h : P.underlying t = some (.struct fs)) (hf : FldOK P fs.toList parts 0) (hc : P.cellsOf t = parts.flatten.length) : HasSh P t parts.flatten := by
  obtain ⟨l, g⟩ := hf.get
  refine HasSh.struct parts h (by simpa using l) (fun i f p hi hp => ?_) hc (fun i f p hi hp => ?_)
  · obtain ⟨g1, g2, g3⟩ := g i f p (by simpa using hi) hp
    exact ⟨by rw [g1]; simp, g2⟩
  · exact (g i f p (by simpa using hi) hp).2.2
theorem has_bool : HasSh Tryz.prog 4 [.bool] := .bool Tryz.underlying4
theorem has_place : HasSh Tryz.prog 71 [shInt, shInt, shInt] :=
  has_struct [[shInt], [shInt], [shInt]] Tryz.underlying71 ⟨⟨by kernel_rfl, by kernel_rfl, has_int⟩, ⟨by kernel_rfl, by kernel_rfl, has_int⟩, ⟨by kernel_rfl, by kernel_rfl, has_int⟩, trivial⟩ (by kernel_rfl)
theorem has_move : HasSh Tryz.prog 73 [shInt, shInt, shInt, shInt, shInt, .bool] :=
  has_struct [[shInt], [shInt], [shInt], [shInt], [shInt], [.bool]] Tryz.underlying73 ⟨⟨by kernel_rfl, by kernel_rfl, has_int⟩, ⟨by kernel_rfl, by kernel_rfl, has_int⟩, ⟨by kernel_rfl, by kernel_rfl, has_int⟩, ⟨by kernel_rfl, by kernel_rfl, has_int⟩, ⟨by kernel_rfl, by kernel_rfl, has_int⟩, ⟨by kernel_rfl, by kernel_rfl, has_bool⟩, trivial⟩ (by kernel_rfl)
theorem has_cert : HasSh Tryz.prog 93 [shInt, shInt, shInt, shInt, shInt, shInt] :=
  has_struct [[shInt], [shInt], [shInt], [shInt], [shInt], [shInt]] Tryz.underlying93 ⟨⟨by kernel_rfl, by kernel_rfl, has_int⟩, ⟨by kernel_rfl, by kernel_rfl, has_int⟩, ⟨by kernel_rfl, by kernel_rfl, has_int⟩, ⟨by kernel_rfl, by kernel_rfl, has_int⟩, ⟨by kernel_rfl, by kernel_rfl, has_int⟩, ⟨by kernel_rfl, by kernel_rfl, has_int⟩, trivial⟩ (by kernel_rfl)
theorem has_purity : HasSh Tryz.prog 125 [shInt, shInt, shInt, shInt] :=
  has_struct [[shInt], [shInt], [shInt], [shInt]] Tryz.underlying125 ⟨⟨by kernel_rfl, by kernel_rfl, has_int⟩, ⟨by kernel_rfl, by kernel_rfl, has_int⟩, ⟨by kernel_rfl, by kernel_rfl, has_int⟩, ⟨by kernel_rfl, by kernel_rfl, has_int⟩, trivial⟩ (by kernel_rfl)
theorem has_find : HasSh Tryz.prog 78 [shInt, shInt, shInt] :=
  has_struct [[shInt], [shInt], [shInt]] Tryz.underlying78 ⟨⟨by kernel_rfl, by kernel_rfl, has_int⟩, ⟨by kernel_rfl, by kernel_rfl, has_int⟩, ⟨by kernel_rfl, by kernel_rfl, has_int⟩, trivial⟩ (by kernel_rfl)
theorem has_clean : HasSh Tryz.prog 80 [shInt, shInt] :=
  has_struct [[shInt], [shInt]] Tryz.underlying80 ⟨⟨by kernel_rfl, by kernel_rfl, has_int⟩, ⟨by kernel_rfl, by kernel_rfl, has_int⟩, trivial⟩ (by kernel_rfl)
theorem has_places : HasSh Tryz.prog 22 [.sl [shInt, shInt, shInt]] := .sl Tryz.underlying22 (by kernel_rfl) (by decide) has_place
theorem has_moves : HasSh Tryz.prog 23 [.sl [shInt, shInt, shInt, shInt, shInt, .bool]] := .sl Tryz.underlying23 (by kernel_rfl) (by decide) has_move
theorem has_certs : HasSh Tryz.prog 24 [.sl [shInt, shInt, shInt, shInt, shInt, shInt]] := .sl Tryz.underlying24 (by kernel_rfl) (by decide) has_cert
theorem has_recalls : HasSh Tryz.prog 25 [.sl [shInt, shInt]] := .sl Tryz.underlying25 (by kernel_rfl) (by decide) has_recall
theorem has_purities : HasSh Tryz.prog 26 [.sl [shInt, shInt, shInt, shInt]] := .sl Tryz.underlying26 (by kernel_rfl) (by decide) has_purity
theorem has_finds : HasSh Tryz.prog 29 [.sl [shInt, shInt, shInt]] := .sl Tryz.underlying29 (by kernel_rfl) (by decide) has_find
theorem has_cleans : HasSh Tryz.prog 30 [.sl [shInt, shInt]] := .sl Tryz.underlying30 (by kernel_rfl) (by decide) has_clean
abbrev shEv : List Sh := [shInt, shInt, shInt, .sl [shInt, shInt, shInt], .sl [shInt, shInt, shInt, shInt, shInt, .bool], .sl [shInt, shInt, shInt, shInt, shInt, shInt], .sl [shInt, shInt], .sl [shInt, shInt, shInt, shInt]]
theorem has_ev : HasSh Tryz.prog 28 shEv :=
  has_struct [[shInt], [shInt], [shInt], [.sl [shInt, shInt, shInt]], [.sl [shInt, shInt, shInt, shInt, shInt, .bool]], [.sl [shInt, shInt, shInt, shInt, shInt, shInt]], [.sl [shInt, shInt]], [.sl [shInt, shInt, shInt, shInt]]] Tryz.underlying28
    ⟨⟨by kernel_rfl, by kernel_rfl, has_int⟩, ⟨by kernel_rfl, by kernel_rfl, has_int⟩, ⟨by kernel_rfl, by kernel_rfl, has_int⟩, ⟨by kernel_rfl, by kernel_rfl, has_places⟩, ⟨by kernel_rfl, by kernel_rfl, has_moves⟩, ⟨by kernel_rfl, by kernel_rfl, has_certs⟩, ⟨by kernel_rfl, by kernel_rfl, has_recalls⟩, ⟨by kernel_rfl, by kernel_rfl, has_purities⟩, trivial⟩ (by kernel_rfl)
abbrev shTr : List Sh := shEv ++ [.sl [shInt, shInt, shInt], .sl [shInt, shInt]]
theorem has_tr : HasSh Tryz.prog 32 shTr :=
  has_struct [shEv, [.sl [shInt, shInt, shInt]], [.sl [shInt, shInt]]] Tryz.underlying32
    ⟨⟨by kernel_rfl, by kernel_rfl, has_ev⟩, ⟨by kernel_rfl, by kernel_rfl, has_finds⟩, ⟨by kernel_rfl, by kernel_rfl, has_cleans⟩, trivial⟩ (by kernel_rfl)
theorem fit_is {t : T} (h : Fit shInt t) : ∃ n, t = ti n := by obtain ⟨n, h, _⟩ := h.int_inv; exact ⟨n, h⟩
section
variable {α : Type} {t : T}
theorem fit_places (h : Fit (.sl [shInt, shInt, shInt]) t) : ∃ l : List Place, t = placesT l := by
  obtain ⟨xs, rfl, _⟩ := h.sl_inv Place.row (fun _ => True) (fun r hl hr => by
    match r, hl with
    | [a, b, c], _ =>
      obtain ⟨a, rfl⟩ := fit_is (hr 0 _ _ rfl rfl)
      obtain ⟨b, rfl⟩ := fit_is (hr 1 _ _ rfl rfl)
      obtain ⟨c, rfl⟩ := fit_is (hr 2 _ _ rfl rfl)
      exact ⟨⟨a, b, c⟩, rfl, trivial⟩)
  exact ⟨xs, rfl⟩
theorem fit_finds (h : Fit (.sl [shInt, shInt, shInt]) t) : ∃ l : List Find, t = findsT l := by
  obtain ⟨xs, rfl, _⟩ := h.sl_inv Find.row (fun _ => True) (fun r hl hr => by
    match r, hl with
    | [a, b, c], _ =>
      obtain ⟨a, rfl⟩ := fit_is (hr 0 _ _ rfl rfl)
      obtain ⟨b, rfl⟩ := fit_is (hr 1 _ _ rfl rfl)
      obtain ⟨c, rfl⟩ := fit_is (hr 2 _ _ rfl rfl)
      exact ⟨⟨a, b, c⟩, rfl, trivial⟩)
  exact ⟨xs, rfl⟩
theorem fit_cleans (h : Fit (.sl [shInt, shInt]) t) : ∃ l : List Clean, t = cleansT l := by
  obtain ⟨xs, rfl, _⟩ := h.sl_inv Clean.row (fun _ => True) (fun r hl hr => by
    match r, hl with
    | [a, b], _ =>
      obtain ⟨a, rfl⟩ := fit_is (hr 0 _ _ rfl rfl)
      obtain ⟨b, rfl⟩ := fit_is (hr 1 _ _ rfl rfl)
      exact ⟨⟨a, b⟩, rfl, trivial⟩)
  exact ⟨xs, rfl⟩
theorem fit_recalls (h : Fit (.sl [shInt, shInt]) t) : ∃ l : List Recall, t = recallsT l := by
  obtain ⟨xs, rfl, _⟩ := h.sl_inv Recall.row (fun _ => True) (fun r hl hr => by
    match r, hl with
    | [a, b], _ =>
      obtain ⟨a, rfl⟩ := fit_is (hr 0 _ _ rfl rfl)
      obtain ⟨b, rfl⟩ := fit_is (hr 1 _ _ rfl rfl)
      exact ⟨⟨a, b⟩, rfl, trivial⟩)
  exact ⟨xs, rfl⟩
theorem fit_purities (h : Fit (.sl [shInt, shInt, shInt, shInt]) t) : ∃ l : List Purity, t = puritiesT l := by
  obtain ⟨xs, rfl, _⟩ := h.sl_inv Purity.row (fun _ => True) (fun r hl hr => by
    match r, hl with
    | [a, b, c, d], _ =>
      obtain ⟨a, rfl⟩ := fit_is (hr 0 _ _ rfl rfl)
      obtain ⟨b, rfl⟩ := fit_is (hr 1 _ _ rfl rfl)
      obtain ⟨c, rfl⟩ := fit_is (hr 2 _ _ rfl rfl)
      obtain ⟨d, rfl⟩ := fit_is (hr 3 _ _ rfl rfl)
      exact ⟨⟨a, b, c, d⟩, rfl, trivial⟩)
  exact ⟨xs, rfl⟩
theorem fit_certs (h : Fit (.sl [shInt, shInt, shInt, shInt, shInt, shInt]) t) : ∃ l : List Cert, t = certsT l := by
  obtain ⟨xs, rfl, _⟩ := h.sl_inv Cert.row (fun _ => True) (fun r hl hr => by
    match r, hl with
    | [a, b, c, d, e, f], _ =>
      obtain ⟨a, rfl⟩ := fit_is (hr 0 _ _ rfl rfl)
      obtain ⟨b, rfl⟩ := fit_is (hr 1 _ _ rfl rfl)
      obtain ⟨c, rfl⟩ := fit_is (hr 2 _ _ rfl rfl)
      obtain ⟨d, rfl⟩ := fit_is (hr 3 _ _ rfl rfl)
      obtain ⟨e, rfl⟩ := fit_is (hr 4 _ _ rfl rfl)
      obtain ⟨f, rfl⟩ := fit_is (hr 5 _ _ rfl rfl)
      exact ⟨⟨a, b, c, d, e, f⟩, rfl, trivial⟩)
  exact ⟨xs, rfl⟩
theorem fit_moves (h : Fit (.sl [shInt, shInt, shInt, shInt, shInt, .bool]) t) : ∃ l : List Move, t = movesT l := by
  obtain ⟨xs, rfl, _⟩ := h.sl_inv Move.row (fun _ => True) (fun r hl hr => by
    match r, hl with
    | [a, b, c, d, e, f], _ =>
      obtain ⟨a, rfl⟩ := fit_is (hr 0 _ _ rfl rfl)
      obtain ⟨b, rfl⟩ := fit_is (hr 1 _ _ rfl rfl)
      obtain ⟨c, rfl⟩ := fit_is (hr 2 _ _ rfl rfl)
      obtain ⟨d, rfl⟩ := fit_is (hr 3 _ _ rfl rfl)
      obtain ⟨e, rfl⟩ := fit_is (hr 4 _ _ rfl rfl)
      obtain ⟨f, rfl⟩ := (hr 5 _ _ rfl rfl).bool_inv
      exact ⟨⟨a, b, c, d, e, f⟩, rfl, trivial⟩)
  exact ⟨xs, rfl⟩
end
section
variable {H : Type} {enc : TypeId × Value → H} {w : World} {base : Nat} {spare : Nat → Bool} {held : Bool}
theorem open_fracs {v : Value} {d : DataW H} {p : List MemPlace} {r : Reach} {b0 : Nat} (hv : Value.okWide Tryz.prog w r b0 33 v) (h : DataW.Trod enc Tryz.prog w base spare held 33 v d p) : ∃ l, RS w (fun _ => none) (fun _ => False) (fracsS l) v := by
  obtain ⟨a, len, cap, rfl⟩ := okWide_slice Tryz.underlying33 hv
  obtain ⟨fuel, hf⟩ := h
  obtain ⟨_, ts, h1, h2⟩ := open_sh has_fracs fuel _ _ hf
  obtain ⟨u, t, e1, e2, e3, e4⟩ := h2 0 _ rfl
  obtain ⟨hh, rfl⟩ := fit_fracs e4
  injection e1 with e1
  subst e1
  exact ⟨hh, .c (.t e3)⟩
theorem open_trace {v : Value} {d : DataW H} {p : List MemPlace} {r : Reach} {b0 : Nat} (hv : Value.okWide Tryz.prog w r b0 32 v) (h : DataW.Trod enc Tryz.prog w base spare held 32 v d p) : ∃ t : Trace, RS w (fun _ => none) (fun _ => False) (trS t) v := by
  obtain ⟨⟨l⟩, rfl, _⟩ := okWide_struct Tryz.underlying32 hv
  obtain ⟨fuel, hf⟩ := h
  obtain ⟨ts, h1, h2, h3⟩ := rs_cells (open_sh has_tr fuel _ _ hf)
  match ts, h1 with
  | [a, b, c, d, e, f, g, h, i, j], _ =>
    obtain ⟨a, rfl⟩ := fit_is (h2 0 _ _ rfl rfl)
    obtain ⟨b, rfl⟩ := fit_is (h2 1 _ _ rfl rfl)
    obtain ⟨c, rfl⟩ := fit_is (h2 2 _ _ rfl rfl)
    obtain ⟨d, rfl⟩ := fit_places (h2 3 _ _ rfl rfl)
    obtain ⟨e, rfl⟩ := fit_moves (h2 4 _ _ rfl rfl)
    obtain ⟨f, rfl⟩ := fit_certs (h2 5 _ _ rfl rfl)
    obtain ⟨g, rfl⟩ := fit_recalls (h2 6 _ _ rfl rfl)
    obtain ⟨h, rfl⟩ := fit_purities (h2 7 _ _ rfl rfl)
    obtain ⟨i, rfl⟩ := fit_finds (h2 8 _ _ rfl rfl)
    obtain ⟨j, rfl⟩ := fit_cleans (h2 9 _ _ rfl rfl)
    exact ⟨⟨⟨a, b, c, d, e, f, g, h⟩, i, j⟩, h3⟩
end
end Go.Proofs.YtomfnfbijgjfeaaGreat
namespace Go.Proofs.YtomfnfbijgjfeaaGreat
open Go.RowKit Go.ChangeShapes Go.WideShapes Go.ChangeAt

set_option maxRecDepth 100000 in
theorem taintTells_lifted (os : Os) (started : os.Started) (H : Type) (enc : TypeId × Value → H) :
    ReturnsInHanded {} Tryz.checked os 3 .any (Rows.taintTellsSpec.pre6 enc Tryz.prog Tryz.f3 Rows.taintTellsRow.domain false) (Rows.taintTellsSpec.post enc Tryz.prog Tryz.f3 false true false false) := by
  refine returnsInHanded_of_change (C := Tryz.checked) law_own started (by kernel_rfl) Tryz.func3
    (ChangeSpec.witness6 (enc := enc) (C := Tryz.checked) false ⟨#[], #[.agg #[.int .i64 0, .int .i64 0, .int .i64 0, .slice none 0 0, .slice none 0 0, .slice none 0 0, .slice none 0 0, .slice none 0 0, .slice none 0 0, .slice none 0 0], .int .i64 0, .slice none 0 0], []⟩ 12 (by kernel_rfl) (by kernel_rfl) (by kernel_rfl) (by kernel_rfl)) ?_
  intro W base args ds gs before hval0 hW hcnd _
  have hval : ∀ (j : Nat) t v, Tryz.f3.params[j]? = some t → args[j]? = some v → Value.okWide Tryz.prog W .any base t v := hval0
  have hW' := hW
  obtain ⟨p, q, hA0, hV, rfl, hfz, hnd⟩ := hW
  have hA : DataW.TrodAll enc Tryz.prog W 0 (fun _ => true) true Tryz.f3.params.toList args.toList ds p := hA0
  rw [Tryz.params3] at hA hval
  obtain ⟨v0, vs0, d0, ds0, p0, q0, hargs, rfl, rfl, h0, r0⟩ := trodAll_cons hA
  obtain ⟨v1, vs1, d1, ds1, p1, q1, rfl, rfl, rfl, h1, r1⟩ := trodAll_cons r0
  obtain ⟨v2, vs2, d2, ds2, p2, q2, rfl, rfl, rfl, h2, r2⟩ := trodAll_cons r1
  obtain ⟨rfl, rfl, rfl⟩ := trodAll_nil r2
  obtain rfl : args = #[v0, v1, v2] := by cases args; simp_all
  obtain ⟨rfl, rfl⟩ := trodVars_none hV
  obtain ⟨a0, t0⟩ := Go.Proofs.YtomfnfbijgjfeaaGreat.open_trace (hval 0 32 v0 rfl rfl) h0
  obtain ⟨a1, rfl, rfl, rfl, w1⟩ := open_int Tryz.underlying3 (hval 1 3 v1 rfl rfl) h1
  obtain ⟨a2, t2⟩ := Go.Proofs.YtomfnfbijgjfeaaGreat.open_fracs (hval 2 33 v2 rfl rfl) h2
  refine (law_of_acall (a_TaintTells a0 a1 a2) (.cons (t0) (.cons (rs_int) (.cons (t2) (.nil))))).mono fun ee W' ⟨he, hg⟩ => ?_
  subst he
  exact ⟨_, rfl, law_post hW' law_laid (by rw [Tryz.params3]; intro t ht; simp at ht; rcases ht with rfl | rfl | rfl <;> exact ⟨by kernel_rfl, of_decide_eq_true (by kernel_rfl)⟩) rfl rfl (by kernel_rfl) Tryz.underlying4 hg⟩

theorem taintTells_holds : Rows.TaintTellsSaid :=
  OpenClaim.holds_of_wide 3 Tryz.f3 rfl rfl rfl rfl rfl rfl rfl ⟨rfl, rfl, rfl, rfl, rfl⟩ rfl rfl rfl rfl rfl (by kernel_rfl) Tryz.func3 (by kernel_rfl)
    (of_decide_eq_true (by kernel_rfl)) (by unfold Func.isWrapper; first | (rw [if_pos (by decide +kernel)]; kernel_rfl) | (rw [if_neg (by decide +kernel)]; exact ⟨rfl, rfl⟩))
    (fun os started H enc _ => taintTells_lifted os started H enc)
end Go.Proofs.YtomfnfbijgjfeaaGreat
