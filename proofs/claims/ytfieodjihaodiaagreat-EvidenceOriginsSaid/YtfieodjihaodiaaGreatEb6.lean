/- Reference of big: less, minus, times. -/
import Derived.RangeFuncBox
import Derived.RangeFuncLeaves
import Derived.Shelf.Abstract
import Derived.Shelf.RegionOpen
import Derived.WalkKit
import Derived.OwnWalkIn
import Derived.TacticsInMore
import Derived.LoopNIn
import Derived.LoopIn
import Derived.Test.YtfieodjihaodiaaGreatProg
import Derived.Maps.AppendAt
import Derived.Deep.DeepMust
import Derived.BigQuiet
import Derived.Deep.Light
import Derived.ProofKit
import Derived.OpenShut
import Derived.Deep.Slices
import Derived.Deep.Fields
import Derived.Test.YtfieodjihaodiaaGreatRows
import Derived.Test.YtfieodjihaodiaaGreatEb5
namespace Go.Proofs.YtfieodjihaodiaaGreat
open Go.RowKit
set_option linter.unusedVariables false
set_option linter.unusedSimpArgs false
set_option maxRecDepth 100000

theorem r_less (a b : List Int) (ha : Okd a) (hb : Okd b) (la : a.length ≤ 1000000) (lb : b.length ≤ 1000000) : ACall Tryz.prog 131 [intsS a, intsS b] [] (boolS (decide (val a < val b))) [] := by
  have l1 : (a.map intRow).length = a.length := by simp
  have l2 : (b.map intRow).length = b.length := by simp
  (refine acall_of tab_ok Tryz.func131 rfl (by decide) ?_; (conv => whnf); repeat (first | (refine LitB.data ?_; conv => whnf) | (refine BoxB.own ?_; conv => whnf)))
  (repeat' (first | ((refine DecB.mk (fun h => ?_) (fun h => ?_)) <;> first | (exfalso; omega) | (conv => whnf)) | ((refine BoolB.mk (fun h => ?_) (fun h => ?_)) <;> first | (exact absurd h (by decide)) | (conv => whnf)) | ((first | refine ⟨_, wrap_ok (by omega) (by omega), ?_⟩ | refine and_idx (by omega) (by omega) ?_ | refine reg_ok (by decide +kernel) ?_ | refine bar_ok (by decide +kernel) (by decide +kernel) ?_ | refine late_ok rfl rfl ?_ | refine src_ok rfl ?_ | refine .inl ⟨_, _, qcall_pure (cond) rfl rfl, ?_⟩ | refine ⟨_, wrap_eq (y := ((max a.length b.length : Nat) : Int) - 1) (by simp only [cond]; split <;> omega) (by omega) (by omega), ?_⟩ | refine LitB.data ?_ | refine BoxB.own ?_); conv => whnf)))
  refine awp_while tab_ok (σ := Nat) (fun k => ([intsS a, intsS b, J, J, J, intS .i64 ((k : Int) - 1), J, J, J, J, J, J, J, J, J, J, J, J, J, J, J, J, J, J, J, J, J, J, J, J], [])) (fun k => k ≤ 1000000 ∧ val (a.drop k) = val (b.drop k)) (fun k => k) (max a.length b.length) []
    ⟨by omega, by rw [List.drop_of_length_le (by omega), List.drop_of_length_le (by omega)]⟩ ⟨rfl, rfl, trivial, ⟨ent_t rfl, ent_t rfl, rfl, trivial⟩⟩ ?_
  rintro k ⟨hk, hd⟩
  have hk : k ≤ 1000000 := hk
  have hd : val (a.drop k) = val (b.drop k) := hd
  by_cases h0 : 0 < k
  · obtain ⟨i, rfl⟩ : ∃ i, k = i + 1 := ⟨k - 1, by omega⟩
    have d1 := r_digit a i la
    have d2 := r_digit b i lb
    have ei : (((i + 1 : Nat) : Int) - 1) = i := by omega
    rw [ei]
    conv => whnf
    (repeat' (first | ((refine DecB.mk (fun h => ?_) (fun h => ?_)) <;> first | (exfalso; omega) | (conv => whnf)) | ((refine BoolB.mk (fun h => ?_) (fun h => ?_)) <;> first | (exact absurd h (by decide)) | (conv => whnf)) | ((first | refine ⟨_, wrap_ok (by omega) (by omega), ?_⟩ | refine and_idx (by omega) (by omega) ?_ | refine reg_ok (by decide +kernel) ?_ | refine bar_ok (by decide +kernel) (by decide +kernel) ?_ | refine late_ok rfl rfl ?_ | refine src_ok rfl ?_ | refine .inl ⟨_, _, qcall_pure (d1) rfl rfl, ?_⟩ | refine .inl ⟨_, _, qcall_pure (d2) rfl rfl, ?_⟩ | refine LitB.data ?_ | refine BoxB.own ?_); conv => whnf)))
    · have h := less_top ha hb hd (by assumption)
      exact fin_bool (by simp [h])
    · have h := less_top hb ha hd.symm (by omega)
      exact fin_bool (by simp; omega)
    · have he : dat a i = dat b i := by omega
      refine ⟨[], i, ⟨rfl, rfl, trivial, ⟨rfl, rfl, rfl, trivial⟩⟩, ⟨by omega, ?_⟩, by show i < i + 1; omega⟩
      rw [drop_dat' a i, drop_dat' b i, he, hd]
  · obtain rfl : k = 0 := by omega
    rw [drop_zero_val, drop_zero_val] at hd
    conv => whnf
    (repeat' (first | ((refine DecB.mk (fun h => ?_) (fun h => ?_)) <;> first | (exfalso; omega) | (conv => whnf)) | ((refine BoolB.mk (fun h => ?_) (fun h => ?_)) <;> first | (exact absurd h (by decide)) | (conv => whnf)) | ((first | refine ⟨_, wrap_ok (by omega) (by omega), ?_⟩ | refine and_idx (by omega) (by omega) ?_ | refine reg_ok (by decide +kernel) ?_ | refine bar_ok (by decide +kernel) (by decide +kernel) ?_ | refine late_ok rfl rfl ?_ | refine src_ok rfl ?_ | refine LitB.data ?_ | refine BoxB.own ?_); conv => whnf)))
    all_goals first
      | (exfalso; omega)
      | exact fin_bool (by simp; omega)
theorem r_minus (a b : List Int) (ha : Okd a) (hb : Okd b) (la : a.length ≤ 400000) (lb : b.length ≤ a.length) (hv : val b ≤ val a) :
    ACall Tryz.prog 154 [intsS a, intsS b] [] (intsS (dg (val a - val b).toNat)) [] := by
  have l1 : (a.map intRow).length = a.length := by simp
  have l2 : (b.map intRow).length = b.length := by simp
  (refine acall_of tab_ok Tryz.func154 rfl (by decide) ?_; (conv => whnf); repeat (first | (refine LitB.data ?_; conv => whnf) | (refine BoxB.own ?_; conv => whnf)))
  (repeat' (first | ((refine DecB.mk (fun h => ?_) (fun h => ?_)) <;> first | (exfalso; omega) | (conv => whnf)) | ((refine BoolB.mk (fun h => ?_) (fun h => ?_)) <;> first | (exact absurd h (by decide)) | (conv => whnf)) | ((first | refine ⟨_, wrap_ok (by omega) (by omega), ?_⟩ | refine and_idx (by omega) (by omega) ?_ | refine reg_ok (by decide +kernel) ?_ | refine bar_ok (by decide +kernel) (by decide +kernel) ?_ | refine late_ok rfl rfl ?_ | refine src_ok rfl ?_ | refine LitB.data ?_ | refine BoxB.own ?_); conv => whnf)))
  refine awp_while tab_ok (σ := Nat × List Int × Int) (fun | (k, out, c) => ([intsS a, intsS b, J, J, J, ownI 0 out, intS .i64 c, intS .i64 k, J, J, J, J, J, J, J, J, J, J, J, J, J, J, J, J, J, J, J, J, J, J, J, J, J, J, J], [intsB out])) (fun x => MinI a b x.1 x.2.1 x.2.2) (fun x => a.length - x.1) (0, [], 0) [none]
    (MinI.init a b) ⟨rfl, rfl, ⟨⟨rfl, rfl⟩, trivial⟩, ⟨ent_t rfl, ent_t rfl, ⟨rfl, rfl, rfl⟩, rfl, rfl, trivial⟩⟩ ?_
  rintro ⟨k, out, c⟩ hI
  have hI : MinI a b k out c := hI
  have hlen := hI.len
  have hle := hI.le
  have hc0 := hI.c0
  have hc1 := hI.c1
  have hda := ha.dat k
  have hdb := hb.dat k
  have d2 := r_digit b k (by omega)
  conv => whnf
  (repeat' (first | ((refine DecB.mk (fun h => ?_) (fun h => ?_)) <;> first | (exfalso; omega) | (conv => whnf)) | ((refine BoolB.mk (fun h => ?_) (fun h => ?_)) <;> first | (exact absurd h (by decide)) | (conv => whnf)) | ((first | refine ⟨_, wrap_ok (by omega) (by omega), ?_⟩ | refine and_idx (by omega) (by omega) ?_ | refine reg_ok (by decide +kernel) ?_ | refine bar_ok (by decide +kernel) (by decide +kernel) ?_ | refine late_ok rfl rfl ?_ | refine src_ok rfl ?_ | refine .inl ⟨_, _, qcall_pure (d2) rfl rfl, ?_⟩ | refine .inl ⟨_, _, qcall_pure (toC) rfl rfl, ?_⟩ | refine .inl ⟨_, _, qcall_pure (toC) rfl rfl, ?_⟩ | refine ex_row (get_dat (by omega)) ?_ | refine app_ok (by simp [toC]) (by simp [toC]; omega) ?_ | refine LitB.data ?_ | refine BoxB.own ?_); conv => whnf)))
  · have hst := hI.step ha hb (n := dat a k - dat b k - c + 1048576) (c' := 1) (by omega) (by omega) (by omega) (by omega)
    refine ⟨[some 1], (k + 1, out ++ [dat a k - dat b k - c + 1048576], 1), ⟨rfl, rfl, ⟨entB_rows rfl rfl rfl toC_app1 rfl, trivial⟩, ⟨rfl, rfl, ent_own rfl (by simp [toC]), rfl, ent_i (by omega), trivial⟩⟩, hst, ?_⟩
    show a.length - (k + 1) < a.length - k
    omega
  · have hst := hI.step ha hb (n := dat a k - dat b k - c) (c' := 0) (by omega) (by omega) (by omega) (by omega)
    refine ⟨[some 1], (k + 1, out ++ [dat a k - dat b k - c], 0), ⟨rfl, rfl, ⟨entB_rows rfl rfl rfl toC_app1 rfl, trivial⟩, ⟨rfl, rfl, ent_own rfl (by simp [toC]), rfl, ent_i (by omega), trivial⟩⟩, hst, ?_⟩
    show a.length - (k + 1) < a.length - k
    omega
  · have hk : k = a.length := by omega
    subst hk
    have hf := hI.fin ha hb lb hv
    have t := r_trim out (by omega)
    rw [hf] at t
    refine .inr ⟨_, _, acall_freeze [0] t ⟨vs_c (vc_all (by simp) rfl (by intro h; cases h) rfl rfl (by simp)), trivial⟩ rfl, ?_⟩
    conv => whnf
    exact fin_d rfl
end Go.Proofs.YtfieodjihaodiaaGreat
/- Reference of big: times. -/
namespace Go.Proofs.YtfieodjihaodiaaGreat
open Go.RowKit
set_option linter.unusedVariables false
set_option linter.unusedSimpArgs false
set_option maxRecDepth 100000

theorem tmodB {a : Int} (h : 0 ≤ a) : a.tmod 1048576 = a % 1048576 := Int.tmod_eq_emod_of_nonneg h
set_option maxHeartbeats 1000000 in
theorem r_times (a b : List Int) (ha : Okd a) (hb : Okd b) (la : a.length ≤ 400000) (lb : b.length ≤ 400000) :
    ACall Tryz.prog 153 [intsS a, intsS b] [] (intsS (dg (val a * val b).toNat)) [] := by
  have l1 : (a.map intRow).length = a.length := by simp
  have l2 : (b.map intRow).length = b.length := by simp
  (refine acall_of tab_ok Tryz.func153 rfl (by decide) ?_; (conv => whnf); repeat (first | (refine LitB.data ?_; conv => whnf) | (refine BoxB.own ?_; conv => whnf)))
  (repeat' (first | ((refine DecB.mk (fun h => ?_) (fun h => ?_)) <;> first | (exfalso; omega) | (conv => whnf)) | ((refine BoolB.mk (fun h => ?_) (fun h => ?_)) <;> first | (exact absurd h (by decide)) | (conv => whnf)) | ((first | refine ⟨_, wrap_ok (by omega) (by omega), ?_⟩ | refine and_idx (by omega) (by omega) ?_ | refine reg_ok (by decide +kernel) ?_ | refine bar_ok (by decide +kernel) (by decide +kernel) ?_ | refine late_ok rfl rfl ?_ | refine src_ok rfl ?_ | refine mk_ok (by omega) (by omega) (by omega) (by decide) ?_ | refine LitB.data ?_ | refine BoxB.own ?_); conv => whnf)))
  refine awp_while tab_ok (σ := Nat × List Int) (fun | (i, out) => ([intsS a, intsS b, J, J, J, ownI 0 out, intS .i64 i, J, J, J, J, J, J, J, J, J, J, J, J, J, J, J, J, J, J, J, J, J, J, J, J, J, J, J, J, J, J, J, J, J, J, J, J, J, J, J, J, J, J, J, J, J, J, J, J, J, J, J, J, J], [intsB out])) (fun x => MulI a b x.1 x.2) (fun x => a.length - x.1) (0, List.replicate (a.length + b.length) 0) [some 0]
    (MulI.init a b) ⟨rfl, rfl, ⟨entB_rows rfl rfl rfl ?_ rfl, trivial⟩, ⟨ent_t rfl, ent_t rfl, ent_own rfl (by simp; omega), rfl, trivial⟩⟩ ?_
  · show List.replicate _ _ = _
    rw [show ((((a.map intRow).length : Nat) : Int) + ((b.map intRow).length : Nat)).toNat = a.length + b.length by omega]
    simp [toC, intRow, constC]
  rintro ⟨i, out⟩ hI
  have hI : MulI a b i out := hI
  have hlen := hI.len
  have hle := hI.le
  conv => whnf
  (repeat' (first | ((refine DecB.mk (fun h => ?_) (fun h => ?_)) <;> first | (exfalso; omega) | (conv => whnf)) | ((refine BoolB.mk (fun h => ?_) (fun h => ?_)) <;> first | (exact absurd h (by decide)) | (conv => whnf)) | ((first | refine ⟨_, wrap_ok (by omega) (by omega), ?_⟩ | refine and_idx (by omega) (by omega) ?_ | refine reg_ok (by decide +kernel) ?_ | refine bar_ok (by decide +kernel) (by decide +kernel) ?_ | refine late_ok rfl rfl ?_ | refine src_ok rfl ?_ | refine LitB.data ?_ | refine BoxB.own ?_); conv => whnf)))
  · have hi : i < a.length := by omega
    refine awp_while tab_ok (σ := Nat × List Int × Int) (fun | (k, out, c) => ([intsS a, intsS b, J, J, J, ownI 0 out, intS .i64 i, intS .i64 c, intS .i64 k, J, J, J, J, J, J, J, J, J, J, J, J, J, J, J, J, J, J, J, J, J, J, J, J, J, J, J, J, J, J, J, J, J, J, J, J, J, J, J, J, J, J, J, J, J, J, J, J, J, J, J], [intsB out])) (fun x => TimK a b i x.1 x.2.1 x.2.2) (fun x => b.length + 1 - x.1) (0, out, 0) [some 0]
      ⟨.inl ⟨hI.start, Nat.zero_le _⟩⟩ ⟨rfl, rfl, ⟨entB_rows rfl rfl rfl rfl rfl, trivial⟩, ⟨ent_t rfl, ent_t rfl, ent_own rfl rfl, rfl, rfl, rfl, trivial⟩⟩ ?_
    rintro ⟨k, out, c⟩ hT
    have hT : TimK a b i k out c := hT
    have hdb := hb.dat k
    have hda := ha.dat i
    have hm := mul_rng (ha.dat i) (hb.dat k)
    have d2 := r_digit b k (by omega)
    have e1 : ((i : Int) + k).toNat = i + k := by omega
    rcases hT.out with ⟨hK, hkb⟩ | ⟨hk1, hc, hM⟩
    · have hlen := hK.len
      have hc0 := hK.c0
      have hc1 := hK.c1
      have hdo := hK.ok.dat (i + k)
      have hz : k = b.length → dat out (i + k) = 0 ∧ dat b k = 0 := fun h => ⟨hK.zero _ (by omega), dat_none (by omega)⟩
      have hzm : k = b.length → dat a i * dat b k = 0 := fun h => by rw [(hz h).2, Int.mul_zero]
      conv => whnf
      (repeat' (first | ((refine DecB.mk (fun h => ?_) (fun h => ?_)) <;> first | (exfalso; omega) | (conv => whnf)) | ((refine BoolB.mk (fun h => ?_) (fun h => ?_)) <;> first | (exact absurd h (by decide)) | (conv => whnf)) | ((first | refine ⟨_, wrap_ok (by omega) (by omega), ?_⟩ | refine and_idx (by omega) (by omega) ?_ | refine reg_ok (by decide +kernel) ?_ | refine bar_ok (by decide +kernel) (by decide +kernel) ?_ | refine late_ok rfl rfl ?_ | refine src_ok rfl ?_ | refine .inl ⟨_, _, qcall_pure (d2) rfl rfl, ?_⟩ | refine ex_row (get_dat (by omega)) ?_ | refine and_idx (by omega) (by show _ < ((out.length : Nat) : Int); omega) ?_ | refine ex_own (get_dat0 e1 (by omega)) ?_ | refine ⟨by decide, _, tdivq (by omega) (by omega) (by decide), ?_⟩ | refine ne_ok (by decide) ?_ | refine LitB.data ?_ | refine BoxB.own ?_); conv => whnf)))
      all_goals have hn : 0 ≤ dat out (i + k) + dat a i * dat b k + c := by omega
      · have hst := hK.step ha hb hi (by omega)
        refine ⟨[some 0], (k + 1, out.set (i + k) ((dat out (i + k) + dat a i * dat b k + c) % 1048576), (dat out (i + k) + dat a i * dat b k + c) / 1048576), ⟨rfl, rfl, ⟨entB_rows rfl rfl rfl ?_ rfl, trivial⟩, ⟨rfl, rfl, ent_own rfl (by simp), rfl, rfl, rfl, trivial⟩⟩, ⟨.inl ⟨hst, by omega⟩⟩, ?_⟩
        · rw [← tmodB hn]; exact toC_set (by omega)
        · show b.length + 1 - (k + 1) < b.length + 1 - k; omega
      · have hkb2 : k = b.length := by omega
        obtain ⟨z1, z2⟩ := hz hkb2
        have z3 := hzm hkb2
        have en : dat out (i + k) + dat a i * dat b k + c = c := by omega
        have hdone := hK
        rw [hkb2] at hdone
        have hdone := hdone.done ha hb hi
        rw [← hkb2] at hdone
        refine ⟨[some 0], (k + 1, out.set (i + k) ((dat out (i + k) + dat a i * dat b k + c) % 1048576), (dat out (i + k) + dat a i * dat b k + c) / 1048576), ⟨rfl, rfl, ⟨entB_rows rfl rfl rfl ?_ rfl, trivial⟩, ⟨rfl, rfl, ent_own rfl (by simp), rfl, rfl, rfl, trivial⟩⟩, ⟨.inr ⟨by show k + 1 = b.length + 1; omega, by show (dat out (i + k) + dat a i * dat b k + c) / 1048576 = 0; omega, ?_⟩⟩, ?_⟩
        · rw [← tmodB hn]; exact toC_set (by omega)
        · have e2 : (dat out (i + k) + dat a i * dat b k + c) % 1048576 = dat out (i + k) + c := by omega
          rw [e2]; exact hdone
        · show b.length + 1 - (k + 1) < b.length + 1 - k; omega
      · have hx := hT.exit ha hb hi (by omega) (by omega)
        exact ⟨[some 0], (i + 1, out), ⟨rfl, rfl, ⟨entB_rows rfl rfl rfl rfl rfl, trivial⟩, ⟨rfl, rfl, ent_own rfl rfl, ent_i (by omega), trivial⟩⟩, hx, by show a.length - (i + 1) < a.length - i; omega⟩
    · have hlen := hM.len
      have hx := hT.exit ha hb hi (by omega) (by omega)
      conv => whnf
      (repeat' (first | ((refine DecB.mk (fun h => ?_) (fun h => ?_)) <;> first | (exfalso; omega) | (conv => whnf)) | ((refine BoolB.mk (fun h => ?_) (fun h => ?_)) <;> first | (exact absurd h (by decide)) | (conv => whnf)) | ((first | refine ⟨_, wrap_ok (by omega) (by omega), ?_⟩ | refine and_idx (by omega) (by omega) ?_ | refine reg_ok (by decide +kernel) ?_ | refine bar_ok (by decide +kernel) (by decide +kernel) ?_ | refine late_ok rfl rfl ?_ | refine src_ok rfl ?_ | refine LitB.data ?_ | refine BoxB.own ?_); conv => whnf)))
      all_goals first
        | (exfalso; omega)
        | exact ⟨[some 0], (i + 1, out), ⟨rfl, rfl, ⟨entB_rows rfl rfl rfl rfl rfl, trivial⟩, ⟨rfl, rfl, ent_own rfl rfl, ent_i (by omega), trivial⟩⟩, hx, by show a.length - (i + 1) < a.length - i; omega⟩
  · have hi : i = a.length := by omega
    subst hi
    have hf := hI.fin
    have t := r_trim out (by omega)
    rw [hf] at t
    refine .inr ⟨_, _, acall_freeze [0] t ⟨vs_c (vc_all (by simp) rfl (by intro h; cases h) rfl rfl (by simp)), trivial⟩ rfl, ?_⟩
    conv => whnf
    exact fin_d rfl
theorem r_timesD (m n : Nat) (lm : (dg m).length ≤ 300000) (ln : (dg n).length ≤ 300000) :
    ACall Tryz.prog 153 [intsS (dg m), intsS (dg n)] [] (intsS (dg (m * n))) [] := by
  have h := r_times (dg m) (dg n) (okd_dg m) (okd_dg n) (by omega) (by omega)
  rw [val_dg, val_dg, show ((m : Int) * n).toNat = m * n by rw [← Int.natCast_mul]; rfl] at h
  exact h
end Go.Proofs.YtfieodjihaodiaaGreat
/- Reference of big: over. -/
namespace Go.Proofs.YtfieodjihaodiaaGreat
open Go.RowKit
set_option linter.unusedVariables false
set_option linter.unusedSimpArgs false
set_option maxRecDepth 100000

set_option maxHeartbeats 1000000 in
theorem r_over (m n : Nat) (hn : 0 < n) (lm : (dg m).length ≤ 200000) (ln : (dg n).length ≤ 200000) :
    ACall Tryz.prog 128 [intsS (dg m), intsS (dg n)] [] (divS m n) [] := by
  have l1 : ((dg m).map intRow).length = (dg m).length := by simp
  have l2 : ((dg n).map intRow).length = (dg n).length := by simp
  (refine acall_of tab_ok Tryz.func128 rfl (by decide) ?_; (conv => whnf); repeat (first | (refine LitB.data ?_; conv => whnf) | (refine BoxB.own ?_; conv => whnf)))
  (repeat' (first | ((refine DecB.mk (fun h => ?_) (fun h => ?_)) <;> first | (exfalso; omega) | (conv => whnf)) | ((refine BoolB.mk (fun h => ?_) (fun h => ?_)) <;> first | (exact absurd h (by decide)) | (conv => whnf)) | ((first | refine ⟨_, wrap_ok (by omega) (by omega), ?_⟩ | refine and_idx (by omega) (by omega) ?_ | refine reg_ok (by decide +kernel) ?_ | refine bar_ok (by decide +kernel) (by decide +kernel) ?_ | refine late_ok rfl rfl ?_ | refine src_ok rfl ?_ | refine mk_ok (by omega) (by omega) (by omega) (by decide) ?_ | refine LitB.data ?_ | refine BoxB.own ?_); conv => whnf)))
  refine awp_while tab_ok (σ := Nat × List Int × Nat) (fun | (j, q, r) => ([intsS (dg m), intsS (dg n), J, J, J, J, ownI 0 q, intsS (dg r), intS .i64 ((j : Int) - 1), J, J, J, J, J, J, J, J, J, J, J, J, J, J, J, J, J, J, J, J, J, J, J, J, J, J, J, J, J, J, J, J, J, J, J, J, J, J, J, J, J, J, J, J, J, J, J, J, J, J, J], [intsB q])) (fun x => ShortI (dg m) n x.1 x.2.1 x.2.2) (fun x => x.1) ((dg m).length, List.replicate (dg m).length 0, 0) [some 0]
    (ShortI.init _ (by omega)) ⟨rfl, rfl, ⟨entB_rows rfl rfl rfl ?_ rfl, trivial⟩, ⟨ent_t rfl, ent_t rfl, ent_own rfl (by simp), rfl, ent_i (by omega), trivial⟩⟩ ?_
  · show List.replicate _ _ = _
    simp [toC, intRow, constC]
  rintro ⟨j, q, r⟩ hI
  have hI : ShortI (dg m) n j q r := hI
  have hlen := hI.len
  have hle := hI.le
  have hr1 := hI.r1
  by_cases hj : 0 < j
  · obtain ⟨i, rfl⟩ : ∃ i, j = i + 1 := ⟨j - 1, by omega⟩
    have ei : (((i + 1 : Nat) : Int) - 1) = i := by omega
    have hda := (okd_dg m).dat i
    obtain ⟨y, hy⟩ := Int.eq_ofNat_of_zero_le hda.1
    have lr := dg_len_mono (show r ≤ n by omega)
    have lm2 : i < (dg m).length := by omega
    generalize hR : r * 1048576 + y = R
    have hRn : R < n * 1048576 := by
      have := Nat.mul_le_mul_right 1048576 (show r + 1 ≤ n by omega)
      rw [Nat.add_mul] at this
      omega
    have lR : (dg R).length ≤ (dg n).length + 1 := dg_len_le (by
      have h1 := dg_lt_pw n
      rw [pw_succ]
      have h2 := Int.mul_le_mul_of_nonneg_right (a := (n : Int) + 1) (b := pw (dg n).length) (c := 1048576) (by omega) (by decide)
      omega)
    have tr := r_trim (dat (dg m) i :: dg r) (by simp; omega)
    rw [over_val (d := n) hda, hy, Int.toNat_natCast, hR] at tr
    conv => whnf
    (repeat' (first | ((refine DecB.mk (fun h => ?_) (fun h => ?_)) <;> first | (exfalso; omega) | (conv => whnf)) | ((refine BoolB.mk (fun h => ?_) (fun h => ?_)) <;> first | (exact absurd h (by decide)) | (conv => whnf)) | ((first | refine ⟨_, wrap_ok (by omega) (by omega), ?_⟩ | refine and_idx (by omega) (by omega) ?_ | refine reg_ok (by decide +kernel) ?_ | refine bar_ok (by decide +kernel) (by decide +kernel) ?_ | refine late_ok rfl rfl ?_ | refine src_ok rfl ?_ | refine .inl ⟨_, _, qcall_pure (toC, newBlk) rfl rfl, ?_⟩ | refine .inl ⟨_, _, qcall_pure (toC) rfl rfl, ?_⟩ | refine .inl ⟨_, _, qcall_pure (2) rfl rfl, ?_⟩ | refine .inl ⟨_, _, qcall_pure (toC, newBlk, intRow, hy) rfl rfl, ?_⟩ | refine .inl ⟨_, _, qcall_pure (toC, Nat.add_comm) rfl rfl, ?_⟩ | refine LitB.own ?_ | refine ex_rowE ei (get_dat (by omega)) ?_ | refine app_ok (by simp [toC, newBlk]) (by simp [toC]; omega) ?_ | refine .inr ⟨_, _, acall_freeze [2] tr ⟨vs_c (vc_all (by simp) rfl (by intro h; cases h) rfl (by simp [toC, newBlk, intRow, hy]) (by simp [toC, Nat.add_comm])), trivial⟩ rfl, ?_⟩ | refine LitB.data ?_ | refine BoxB.own ?_); conv => whnf)))
    refine awp_while tab_ok (σ := Nat × Nat) (fun | (lo, hi) => ([intsS (dg m), intsS (dg n), J, J, J, J, ownI 0 q, intsS (dg R), intS .i64 i, intS .i64 lo, intS .i64 hi, J, J, J, J, J, J, J, J, J, J, J, J, J, J, J, J, J, J, J, J, J, J, J, J, J, J, J, J, J, J, J, J, J, J, J, J, J, J, J, J, J, J, J, J, J, J, J, J, J], [intsB q])) (fun x => x.1 * n ≤ R ∧ R < x.2 * n ∧ x.1 < x.2 ∧ x.2 ≤ 1048576) (fun x => x.2 - x.1) (0, 1048576) [some 0]
      ⟨by simp, by show R < 1048576 * n; rw [Nat.mul_comm]; exact hRn, by decide, by decide⟩ ⟨rfl, rfl, ⟨entB_rows rfl rfl rfl rfl rfl, trivial⟩, ⟨rfl, rfl, ent_own rfl rfl, rfl, ent_i ei, rfl, rfl, trivial⟩⟩ ?_
    rintro ⟨lo, hi⟩ ⟨i1, i2, i3, i4⟩
    have i1 : lo * n ≤ R := i1
    have i2 : R < hi * n := i2
    have i3 : lo < hi := i3
    have i4 : hi ≤ 1048576 := i4
    have ln1 : (dg n).length ≤ 200000 := ln
    by_cases hc : 1 < hi - lo
    · have hmid : (((lo : Int) + hi) / 2) = (((lo + hi) / 2 : Nat) : Int) := by omega
      generalize hM : (lo + hi) / 2 = mid at hmid
      have tm := r_times (dg n) [(mid : Int)] (okd_dg n) (by intro x hx; simp at hx; omega) (by omega) (by simp)
      have e0 : val [(mid : Int)] = mid := by simp [val]
      rw [e0, val_dg, show ((n : Int) * mid).toNat = n * mid by rw [← Int.natCast_mul]; rfl] at tm
      have lnm : (dg (n * mid)).length ≤ (dg n).length + 1 := Nat.le_trans (dg_mul_len _ _) (by have := bl_small (x := (mid : Int)) (by omega) (by omega); simp only [bl, Int.natAbs_natCast] at this; omega)
      have ls := r_less (dg R) (dg (n * mid)) (okd_dg _) (okd_dg _) (by omega) (by omega)
      rw [val_dg, val_dg] at ls
      conv => whnf
      (repeat' (first | ((refine DecB.mk (fun h => ?_) (fun h => ?_)) <;> first | (exfalso; omega) | (conv => whnf)) | ((refine BoolB.mk (fun h => ?_) (fun h => ?_)) <;> first | (exact absurd h (by decide)) | (conv => whnf)) | ((first | refine ⟨_, wrap_ok (by omega) (by omega), ?_⟩ | refine and_idx (by omega) (by omega) ?_ | refine reg_ok (by decide +kernel) ?_ | refine bar_ok (by decide +kernel) (by decide +kernel) ?_ | refine late_ok rfl rfl ?_ | refine src_ok rfl ?_ | refine .inl ⟨_, _, qcall_pure (ls) rfl rfl, ?_⟩ | refine .inl ⟨_, _, qcall_pure (Int.tdiv_eq_ediv_of_nonneg (by omega)) rfl rfl, ?_⟩ | refine ⟨by decide, _, wrap_eq (y := (mid : Int)) (by rw [Int.tdiv_eq_ediv_of_nonneg (by omega)]; exact hmid) (by omega) (by omega), ?_⟩ | refine .inl ⟨_, _, qcall_data tm ⟨vs_t, vs_c (vc_t rfl), trivial⟩ rfl, ?_⟩ | refine LitB.data ?_ | refine BoxB.own ?_); conv => whnf)))
      · have hlt : R < n * mid := Int.ofNat_lt.1 (of_decide_eq_true (by assumption))
        exact ⟨[some 0], (lo, mid), ⟨rfl, rfl, ⟨entB_rows rfl rfl rfl rfl rfl, trivial⟩, ⟨rfl, rfl, ent_own rfl rfl, rfl, rfl, rfl, rfl, trivial⟩⟩, ⟨i1, by show R < mid * n; rw [Nat.mul_comm]; exact hlt, by show lo < mid; omega, by show mid ≤ 1048576; omega⟩, by show mid - lo < hi - lo; omega⟩
      · have hlt : n * mid ≤ R := Nat.not_lt.1 (fun h => absurd (Int.ofNat_lt.2 h) (of_decide_eq_false (by assumption)))
        exact ⟨[some 0], (mid, hi), ⟨rfl, rfl, ⟨entB_rows rfl rfl rfl rfl rfl, trivial⟩, ⟨rfl, rfl, ent_own rfl rfl, rfl, rfl, rfl, rfl, trivial⟩⟩, ⟨by show mid * n ≤ R; rw [Nat.mul_comm]; exact hlt, i2, by show mid < hi; omega, i4⟩, by show hi - mid < hi - lo; omega⟩
    · obtain rfl : hi = lo + 1 := by omega
      have hq : R / n = lo := by
        rw [Nat.div_eq_iff hn]
        rw [Nat.add_mul] at i2
        omega
      have hm2 := Nat.div_add_mod R n
      rw [hq] at hm2
      have hrm := Nat.mod_lt R hn
      have tl := r_trim [(lo : Int)] (by simp)
      rw [trimL_dg (by intro x hx; simp at hx; omega), show (val [(lo : Int)]).toNat = lo by simp [val]] at tl
      have llo : (dg lo).length ≤ 1 := by have := bl_small (x := (lo : Int)) (by omega) (by omega); simpa [bl] using this
      have tt := r_timesD n lo (by omega) (by omega)
      have mi := r_minus (dg R) (dg (n * lo)) (okd_dg _) (okd_dg _) (by omega) (dg_len_mono (by omega)) (by rw [val_dg, val_dg]; omega)
      rw [val_dg, val_dg, show ((R : Int) - ((n * lo : Nat) : Int)).toNat = R % n by omega] at mi
      have hst := hI.step (okd_dg m) (by omega)
      have c1 : ((r : Int) * 1048576 + dat (dg m) i) = (R : Int) := by rw [hy, ← hR]; simp
      rw [c1] at hst
      have c2 : (R : Int) / n = (lo : Int) := by rw [← hq]; simp
      have c3 : (R : Int) % n = ((R % n : Nat) : Int) := by simp
      rw [c2, c3] at hst
      have gq : q[0 + (i : Int).toNat]? = some (dat q i) := get_dat0 (by omega) (by omega)
      conv => whnf
      (repeat' (first | ((refine DecB.mk (fun h => ?_) (fun h => ?_)) <;> first | (exfalso; omega) | (conv => whnf)) | ((refine BoolB.mk (fun h => ?_) (fun h => ?_)) <;> first | (exact absurd h (by decide)) | (conv => whnf)) | ((first | refine ⟨_, wrap_ok (by omega) (by omega), ?_⟩ | refine and_idx (by omega) (by omega) ?_ | refine reg_ok (by decide +kernel) ?_ | refine bar_ok (by decide +kernel) (by decide +kernel) ?_ | refine late_ok rfl rfl ?_ | refine src_ok rfl ?_ | refine .inl ⟨_, _, qcall_pure (tt) rfl rfl, ?_⟩ | refine .inl ⟨_, _, qcall_pure (mi) rfl rfl, ?_⟩ | refine .inl ⟨_, _, qcall_data tl ⟨vs_c (vc_t rfl), trivial⟩ rfl, ?_⟩ | refine and_idx (by omega) (by show _ < ((q.length : Nat) : Int); omega) ?_ | refine ex_own gq ?_ | refine LitB.data ?_ | refine BoxB.own ?_); conv => whnf)))
      all_goals try (exfalso; omega)
      refine ⟨[some 0], (i, q.set i lo, R % n), ⟨rfl, rfl, ⟨entB_rows rfl rfl rfl (toC_set (by omega)) rfl, trivial⟩, ⟨rfl, rfl, ent_own rfl (by simp), rfl, ent_i (by omega), trivial⟩⟩, hst, by show i < i + 1; omega⟩
  · obtain rfl : j = 0 := by omega
    obtain ⟨f1, f2⟩ := hI.fin (okd_dg m) (by omega)
    have tq := r_trim q (by have := hI.len; omega)
    rw [f1, val_dg, show ((m : Int) / n).toNat = m / n by rw [← Int.natCast_ediv]; rfl] at tq
    rw [val_dg] at f2
    have f3 : r = m % n := by
      have : (m : Int) % n = ((m % n : Nat) : Int) := by simp
      omega
    subst f3
    conv => whnf
    (repeat' (first | ((refine DecB.mk (fun h => ?_) (fun h => ?_)) <;> first | (exfalso; omega) | (conv => whnf)) | ((refine BoolB.mk (fun h => ?_) (fun h => ?_)) <;> first | (exact absurd h (by decide)) | (conv => whnf)) | ((first | refine ⟨_, wrap_ok (by omega) (by omega), ?_⟩ | refine and_idx (by omega) (by omega) ?_ | refine reg_ok (by decide +kernel) ?_ | refine bar_ok (by decide +kernel) (by decide +kernel) ?_ | refine late_ok rfl rfl ?_ | refine src_ok rfl ?_ | refine .inl ⟨_, _, qcall_pure (0) rfl rfl, ?_⟩ | refine .inr ⟨_, _, acall_freeze [0] tq ⟨vs_c (vc_all (by simp) rfl (by intro h; cases h) rfl rfl (by simp)), trivial⟩ rfl, ?_⟩ | refine LitB.data ?_ | refine BoxB.own ?_); conv => whnf)))
    all_goals try (exfalso; omega)
    exact fin_t ⟨rfl, rfl, trivial⟩
end Go.Proofs.YtfieodjihaodiaaGreat
/- Reference of big and frac: Of, Right, Gcd, Div (exact), New, Int. -/
namespace Go.Proofs.YtfieodjihaodiaaGreat
open Go.RowKit
set_option linter.unusedVariables false
set_option linter.unusedSimpArgs false
set_option maxRecDepth 100000

theorem r_bigRight (b : Bg) (hl : b.dl.length ≤ 1000000) : ACall Tryz.prog 98 [bgS b] [] (boolS (rightB b)) [] := by
  have l2 : (b.dl.map intRow).length = b.dl.length := by simp
  (refine acall_of tab_ok Tryz.func98 rfl (by decide) ?_; (conv => whnf); repeat (first | (refine LitB.data ?_; conv => whnf) | (refine BoxB.data ?_; conv => whnf)))
  (repeat' (first | ((refine DecB.mk (fun h => ?_) (fun h => ?_)) <;> first | (exfalso; omega) | (conv => whnf)) | ((refine BoolB.mk (fun h => ?_) (fun h => ?_)) <;> first | (exact absurd h (by decide)) | (conv => whnf)) | ((first | refine ⟨_, wrap_ok (by omega) (by omega), ?_⟩ | refine and_idx (by omega) (by omega) ?_ | refine reg_ok (by decide +kernel) ?_ | refine bar_ok (by decide +kernel) (by decide +kernel) ?_ | refine late_ok rfl rfl ?_ | refine src_ok rfl ?_ | refine LitB.data ?_ | refine BoxB.own ?_); conv => whnf)))
  refine awp_for tab_ok (fun k => ([J, S.c (C.t (T.ptr [ti b.sg, intsT b.dl])), J, intS .i64 k, J, J, J, J, J, J, J, J, J, J, J, J, J, J, J, J, J, J, J, J, J, J, J, J, J, J, J, J, J, J, J, J, J, J, J, J, J, J, J, J, J, J, J, J, J, J, J, J, J, J, J, J], [])) b.dl.length (fun k => (b.dl.take k).all inD = true) [] rfl
    ⟨rfl, rfl, trivial, ⟨ent_t rfl, rfl, trivial⟩⟩ ?_
  intro k hk hI
  by_cases hlt : k < b.dl.length
  · conv => whnf
    (repeat' (first | ((refine DecB.mk (fun h => ?_) (fun h => ?_)) <;> first | (exfalso; omega) | (conv => whnf)) | ((refine BoolB.mk (fun h => ?_) (fun h => ?_)) <;> first | (exact absurd h (by decide)) | (conv => whnf)) | ((first | refine ⟨_, wrap_ok (by omega) (by omega), ?_⟩ | refine and_idx (by omega) (by omega) ?_ | refine reg_ok (by decide +kernel) ?_ | refine bar_ok (by decide +kernel) (by decide +kernel) ?_ | refine late_ok rfl rfl ?_ | refine src_ok rfl ?_ | refine ex_row (get_dat (by omega)) ?_ | refine LitB.data ?_ | refine BoxB.own ?_); conv => whnf)))
    all_goals first
      | (exfalso; omega)
      | exact ⟨hlt, by rw [all_take_succ (get_dat hlt), hI]; simp [inD]; omega, [], rfl, rfl, trivial, ⟨rfl, rfl, trivial⟩⟩
      | (refine fin_bool ?_; unfold rightB; rw [all_of_get (get_dat hlt) (by simp [inD]; omega)]; rfl)
  · have hke : k = b.dl.length := by omega
    subst hke
    have ha : b.dl.all inD = true := by rw [← hI, List.take_of_length_le (by omega)]
    have hgl : 0 < b.dl.length → b.dl[((((b.dl.map intRow).length : Nat) : Int) - 1).toNat]? = some (dat b.dl (b.dl.length - 1)) := fun h => by rw [l2]; exact get_last h
    conv => whnf
    (repeat' (first | ((refine DecB.mk (fun h => ?_) (fun h => ?_)) <;> first | (exfalso; omega) | (conv => whnf)) | ((refine BoolB.mk (fun h => ?_) (fun h => ?_)) <;> first | (exact absurd h (by decide)) | (conv => whnf)) | ((first | refine ⟨_, wrap_ok (by omega) (by omega), ?_⟩ | refine and_idx (by omega) (by omega) ?_ | refine reg_ok (by decide +kernel) ?_ | refine bar_ok (by decide +kernel) (by decide +kernel) ?_ | refine late_ok rfl rfl ?_ | refine src_ok rfl ?_ | refine ex_rowI (by omega) (hgl (by omega)) ?_ | refine LitB.data ?_ | refine BoxB.own ?_); conv => whnf)))
    all_goals first
      | (exfalso; omega)
      | (exfalso; simp_all; done)
      | (exfalso; simp_all; omega)
      | skip
    all_goals
      refine fin_bool ?_
      unfold rightB
      rw [ha]
      by_cases hz : b.dl.length = 0
      · rw [if_pos hz]; simp_all <;> omega
      · rw [if_neg hz]; simp_all <;> omega
theorem r4Right (x : Int) (lx : bl x ≤ 300000) : ACall Tryz.prog 98 [bgS (bz x)] [] (boolS true) [] := by
  have := r_bigRight (bz x) (show bl x ≤ 1000000 by omega)
  rw [bz_right] at this
  exact this
theorem r4Of (n : Int) (h0 : -9223372036854775808 ≤ n) (h1 : n ≤ 9223372036854775807) : ACall Tryz.prog 101 [intS .i64 n] [] (bgS (bz n)) [] := by
  rcases Int.lt_trichotomy n 0 with hn | hn | hn
  · (refine acall_of tab_ok Tryz.func101 rfl (by decide) ?_; (conv => whnf); repeat (first | (refine LitB.data ?_; conv => whnf) | (refine BoxB.own ?_; conv => whnf)))
    (repeat' (first | ((refine DecB.mk (fun h => ?_) (fun h => ?_)) <;> first | (exfalso; omega) | (conv => whnf)) | ((refine BoolB.mk (fun h => ?_) (fun h => ?_)) <;> first | (exact absurd h (by decide)) | (conv => whnf)) | ((first | refine ⟨_, wrap_ok (by omega) (by omega), ?_⟩ | refine and_idx (by omega) (by omega) ?_ | refine reg_ok (by decide +kernel) ?_ | refine bar_ok (by decide +kernel) (by decide +kernel) ?_ | refine late_ok rfl rfl ?_ | refine src_ok rfl ?_ | refine LitB.data ?_ | refine BoxB.own ?_); conv => whnf)))
    all_goals try (exfalso; omega)
    refine awp_while tab_ok (σ := List Int × Nat) (fun | (acc, u) => ([intS .i64 (- (u : Int)), J, S.c (C.ptr 0 0 0), intS .i64 (-1), ownI 1 acc, J, J, J, J, J, J, J, J, J, J, J, J, J, J, J, J, J, J, J, J, J, J, J], [zBox, intsB acc])) (fun s => OfI n s.1 s.2) (fun s => s.2) ([], n.natAbs) [some 0, none]
      ⟨rfl⟩ ⟨rfl, rfl, ⟨⟨rfl, rfl, rfl, .inl ⟨rfl, rowsT_z⟩⟩, ⟨rfl, rfl⟩, trivial⟩, ⟨ent_i (by omega), ⟨rfl, rfl, rfl⟩, rfl, ⟨rfl, rfl, rfl⟩, trivial⟩⟩ ?_
    rintro ⟨acc, u⟩ hI
    have hI : OfI n acc u := hI
    have hl := hI.len h0 h1
    have hu := hI.le
    have hm : (- (u : Int)).tmod 1048576 = - ((u : Int) % 1048576) := by
      first
        | exact Int.tmod_eq_emod_of_nonneg (by omega)
        | (rw [Int.neg_tmod, Int.tmod_eq_emod_of_nonneg (by omega)])
    have hd : (- (u : Int)).tdiv 1048576 = - ((u / 1048576 : Nat) : Int) := by
      first
        | (rw [Int.tdiv_eq_ediv_of_nonneg (by omega)]; simp; done)
        | (rw [Int.neg_tdiv, Int.tdiv_eq_ediv_of_nonneg (by omega)]; simp)
    by_cases hu0 : 0 < u
    · have hst := hI.step hu0
      conv => whnf
      (repeat' (first | ((refine DecB.mk (fun h => ?_) (fun h => ?_)) <;> first | (exfalso; omega) | (conv => whnf)) | ((refine BoolB.mk (fun h => ?_) (fun h => ?_)) <;> first | (exact absurd h (by decide)) | (conv => whnf)) | ((first | refine ⟨_, wrap_ok (by omega) (by omega), ?_⟩ | refine and_idx (by omega) (by omega) ?_ | refine reg_ok (by decide +kernel) ?_ | refine bar_ok (by decide +kernel) (by decide +kernel) ?_ | refine late_ok rfl rfl ?_ | refine src_ok rfl ?_ | refine .inl ⟨_, _, qcall_pure (toC) rfl rfl, ?_⟩ | refine .inl ⟨_, _, qcall_pure (toC) rfl rfl, ?_⟩ | refine app_ok (by simp [toC]) (by simp [toC]; omega) ?_ | refine ⟨by decide, _, wrap_eq hd (by omega) (by omega), ?_⟩ | refine ne_ok (by decide) ?_ | refine LitB.data ?_ | refine BoxB.own ?_); conv => whnf)))
      all_goals try (exfalso; omega)
      all_goals
        refine ⟨[some 0, some 2], (acc ++ [(u : Int) % 1048576], u / 1048576), ⟨rfl, rfl, ⟨⟨rfl, rfl, rfl, .inl ⟨rfl, rowsT_z⟩⟩, entB_rows rfl rfl rfl ?_ rfl, trivial⟩, ⟨ent_i rfl, ⟨rfl, rfl, rfl⟩, rfl, ent_own rfl (by simp [toC]), trivial⟩⟩, hst, by show u / 1048576 < u; omega⟩
        have e : ∀ y : Int, y = (u : Int) % 1048576 → (toC (acc.map intRow)).take acc.length ++ toC [[ti y]] = toC ((acc ++ [(u : Int) % 1048576]).map intRow) := fun y hy => by rw [hy]; exact toC_app1
        exact e _ (by omega)
    · have h0u : u = 0 := by omega
      subst h0u
      have e : acc = dg n.natAbs := by have := hI.eq; rw [dg_zero, List.append_nil] at this; exact this
      have sg := r_madeD (-1) n.natAbs (by omega) (by rw [← e]; omega)
      rw [← e, show (-1) * (n.natAbs : Int) = n by omega] at sg
      conv => whnf
      (repeat' (first | ((refine DecB.mk (fun h => ?_) (fun h => ?_)) <;> first | (exfalso; omega) | (conv => whnf)) | ((refine BoolB.mk (fun h => ?_) (fun h => ?_)) <;> first | (exact absurd h (by decide)) | (conv => whnf)) | ((first | refine ⟨_, wrap_ok (by omega) (by omega), ?_⟩ | refine and_idx (by omega) (by omega) ?_ | refine reg_ok (by decide +kernel) ?_ | refine bar_ok (by decide +kernel) (by decide +kernel) ?_ | refine late_ok rfl rfl ?_ | refine src_ok rfl ?_ | refine .inl ⟨_, _, qcall_pure (1) rfl rfl, ?_⟩ | refine .inr ⟨_, _, acall_freeze [1] sg ⟨vs_t, vs_c (vc_all (by simp) rfl (by intro h; cases h) rfl rfl (by simp)), trivial⟩ rfl, ?_⟩ | refine LitB.data ?_ | refine BoxB.own ?_); conv => whnf)))
      all_goals try (exfalso; omega)
      exact fin_t ⟨rfl, rfl, trivial⟩
  · subst hn
    (refine acall_of tab_ok Tryz.func101 rfl (by decide) ?_; (conv => whnf); repeat (first | (refine LitB.data ?_; conv => whnf) | (refine BoxB.own ?_; conv => whnf)))
    (repeat' (first | ((refine DecB.mk (fun h => ?_) (fun h => ?_)) <;> first | (exfalso; omega) | (conv => whnf)) | ((refine BoolB.mk (fun h => ?_) (fun h => ?_)) <;> first | (exact absurd h (by decide)) | (conv => whnf)) | ((first | refine ⟨_, wrap_ok (by omega) (by omega), ?_⟩ | refine and_idx (by omega) (by omega) ?_ | refine reg_ok (by decide +kernel) ?_ | refine bar_ok (by decide +kernel) (by decide +kernel) ?_ | refine late_ok rfl rfl ?_ | refine src_ok rfl ?_ | refine LitB.data ?_ | refine BoxB.own ?_); conv => whnf)))
    all_goals first
      | (exfalso; omega)
      | exact fin_t ⟨rfl, rfl, trivial⟩
  · (refine acall_of tab_ok Tryz.func101 rfl (by decide) ?_; (conv => whnf); repeat (first | (refine LitB.data ?_; conv => whnf) | (refine BoxB.own ?_; conv => whnf)))
    (repeat' (first | ((refine DecB.mk (fun h => ?_) (fun h => ?_)) <;> first | (exfalso; omega) | (conv => whnf)) | ((refine BoolB.mk (fun h => ?_) (fun h => ?_)) <;> first | (exact absurd h (by decide)) | (conv => whnf)) | ((first | refine ⟨_, wrap_ok (by omega) (by omega), ?_⟩ | refine and_idx (by omega) (by omega) ?_ | refine reg_ok (by decide +kernel) ?_ | refine bar_ok (by decide +kernel) (by decide +kernel) ?_ | refine late_ok rfl rfl ?_ | refine src_ok rfl ?_ | refine LitB.data ?_ | refine BoxB.own ?_); conv => whnf)))
    all_goals try (exfalso; omega)
    refine awp_while tab_ok (σ := List Int × Nat) (fun | (acc, u) => ([intS .i64 ((u : Int)), J, S.c (C.ptr 0 0 0), intS .i64 (1), ownI 1 acc, J, J, J, J, J, J, J, J, J, J, J, J, J, J, J, J, J, J, J, J, J, J, J], [zBox, intsB acc])) (fun s => OfI n s.1 s.2) (fun s => s.2) ([], n.natAbs) [some 0, none]
      ⟨rfl⟩ ⟨rfl, rfl, ⟨⟨rfl, rfl, rfl, .inl ⟨rfl, rowsT_z⟩⟩, ⟨rfl, rfl⟩, trivial⟩, ⟨ent_i (by omega), ⟨rfl, rfl, rfl⟩, rfl, ⟨rfl, rfl, rfl⟩, trivial⟩⟩ ?_
    rintro ⟨acc, u⟩ hI
    have hI : OfI n acc u := hI
    have hl := hI.len h0 h1
    have hu := hI.le
    have hm : ((u : Int)).tmod 1048576 = ((u : Int) % 1048576) := by
      first
        | exact Int.tmod_eq_emod_of_nonneg (by omega)
        | (rw [Int.neg_tmod, Int.tmod_eq_emod_of_nonneg (by omega)])
    have hd : ((u : Int)).tdiv 1048576 = ((u / 1048576 : Nat) : Int) := by
      first
        | (rw [Int.tdiv_eq_ediv_of_nonneg (by omega)]; simp; done)
        | (rw [Int.neg_tdiv, Int.tdiv_eq_ediv_of_nonneg (by omega)]; simp)
    by_cases hu0 : 0 < u
    · have hst := hI.step hu0
      conv => whnf
      (repeat' (first | ((refine DecB.mk (fun h => ?_) (fun h => ?_)) <;> first | (exfalso; omega) | (conv => whnf)) | ((refine BoolB.mk (fun h => ?_) (fun h => ?_)) <;> first | (exact absurd h (by decide)) | (conv => whnf)) | ((first | refine ⟨_, wrap_ok (by omega) (by omega), ?_⟩ | refine and_idx (by omega) (by omega) ?_ | refine reg_ok (by decide +kernel) ?_ | refine bar_ok (by decide +kernel) (by decide +kernel) ?_ | refine late_ok rfl rfl ?_ | refine src_ok rfl ?_ | refine .inl ⟨_, _, qcall_pure (toC) rfl rfl, ?_⟩ | refine .inl ⟨_, _, qcall_pure (toC) rfl rfl, ?_⟩ | refine app_ok (by simp [toC]) (by simp [toC]; omega) ?_ | refine ⟨by decide, _, wrap_eq hd (by omega) (by omega), ?_⟩ | refine ne_ok (by decide) ?_ | refine LitB.data ?_ | refine BoxB.own ?_); conv => whnf)))
      all_goals try (exfalso; omega)
      all_goals
        refine ⟨[some 0, some 2], (acc ++ [(u : Int) % 1048576], u / 1048576), ⟨rfl, rfl, ⟨⟨rfl, rfl, rfl, .inl ⟨rfl, rowsT_z⟩⟩, entB_rows rfl rfl rfl ?_ rfl, trivial⟩, ⟨ent_i rfl, ⟨rfl, rfl, rfl⟩, rfl, ent_own rfl (by simp [toC]), trivial⟩⟩, hst, by show u / 1048576 < u; omega⟩
        have e : ∀ y : Int, y = (u : Int) % 1048576 → (toC (acc.map intRow)).take acc.length ++ toC [[ti y]] = toC ((acc ++ [(u : Int) % 1048576]).map intRow) := fun y hy => by rw [hy]; exact toC_app1
        exact e _ (by omega)
    · have h0u : u = 0 := by omega
      subst h0u
      have e : acc = dg n.natAbs := by have := hI.eq; rw [dg_zero, List.append_nil] at this; exact this
      have sg := r_madeD (1) n.natAbs (by omega) (by rw [← e]; omega)
      rw [← e, show (1) * (n.natAbs : Int) = n by omega] at sg
      conv => whnf
      (repeat' (first | ((refine DecB.mk (fun h => ?_) (fun h => ?_)) <;> first | (exfalso; omega) | (conv => whnf)) | ((refine BoolB.mk (fun h => ?_) (fun h => ?_)) <;> first | (exact absurd h (by decide)) | (conv => whnf)) | ((first | refine ⟨_, wrap_ok (by omega) (by omega), ?_⟩ | refine and_idx (by omega) (by omega) ?_ | refine reg_ok (by decide +kernel) ?_ | refine bar_ok (by decide +kernel) (by decide +kernel) ?_ | refine late_ok rfl rfl ?_ | refine src_ok rfl ?_ | refine .inl ⟨_, _, qcall_pure (1) rfl rfl, ?_⟩ | refine .inr ⟨_, _, acall_freeze [1] sg ⟨vs_t, vs_c (vc_all (by simp) rfl (by intro h; cases h) rfl rfl (by simp)), trivial⟩ rfl, ?_⟩ | refine LitB.data ?_ | refine BoxB.own ?_); conv => whnf)))
      all_goals try (exfalso; omega)
      exact fin_t ⟨rfl, rfl, trivial⟩
theorem r4Gcd (x y : Int) (lx : bl x ≤ 200000) (ly : bl y ≤ 200000) : ACall Tryz.prog 99 [bgS (bz x), bgS (bz y)] [] (.tup [bgS (bz (Int.gcd x y)), intS .i64 0]) [] := by
  have r1 := r4Right x (by omega)
  have r2 := r4Right y (by omega)
  (refine acall_of tab_ok Tryz.func99 rfl (by decide) ?_; (conv => whnf); repeat (first | (refine LitB.data ?_; conv => whnf) | (refine BoxB.own ?_; conv => whnf)))
  (repeat' (first | ((refine DecB.mk (fun h => ?_) (fun h => ?_)) <;> first | (exfalso; omega) | (conv => whnf)) | ((refine BoolB.mk (fun h => ?_) (fun h => ?_)) <;> first | (exact absurd h (by decide)) | (conv => whnf)) | ((first | refine ⟨_, wrap_ok (by omega) (by omega), ?_⟩ | refine and_idx (by omega) (by omega) ?_ | refine reg_ok (by decide +kernel) ?_ | refine bar_ok (by decide +kernel) (by decide +kernel) ?_ | refine late_ok rfl rfl ?_ | refine src_ok rfl ?_ | refine .inl ⟨_, _, qcall_pure (r1) rfl rfl, ?_⟩ | refine .inl ⟨_, _, qcall_pure (r2) rfl rfl, ?_⟩ | refine LitB.data ?_ | refine BoxB.own ?_); conv => whnf)))
  all_goals first
    | (exfalso; simp_all; done)
    | skip
  refine awp_while tab_ok (σ := Nat × Nat) (fun | (X, Y) => ([J, J, J, J, S.c (C.ptr 0 0 0), J, intsS (dg X), intsS (dg Y), J, J, J, J, J, J, J, J, J, J, J, J, J, J, J, J, J, J, J, J, J, J, J, J, J, J, J, J], [zBox])) (fun s => GcdI x y s.1 s.2) (fun s => s.2) (x.natAbs, y.natAbs) [some 2]
    ⟨rfl, lx, ly⟩ ⟨rfl, rfl, ⟨⟨rfl, rfl, rfl, .inl ⟨rfl, rowsT_z⟩⟩, trivial⟩, ⟨⟨rfl, rfl, rfl⟩, rfl, rfl, trivial⟩⟩ ?_
  rintro ⟨X, Y⟩ hI
  have hI : GcdI x y X Y := hI
  obtain ⟨g1, g2, g3⟩ := hI
  have l2 : ((dg Y).map intRow).length = (dg Y).length := by simp
  by_cases hY : 0 < Y
  · have hp : (dg Y).length ≠ 0 := by rw [Ne, List.length_eq_zero_iff, dg_eq_nil]; omega
    have dv := r_over X Y hY (by omega) (by omega)
    conv => whnf
    (repeat' (first | ((refine DecB.mk (fun h => ?_) (fun h => ?_)) <;> first | (exfalso; omega) | (conv => whnf)) | ((refine BoolB.mk (fun h => ?_) (fun h => ?_)) <;> first | (exact absurd h (by decide)) | (conv => whnf)) | ((first | refine ⟨_, wrap_ok (by omega) (by omega), ?_⟩ | refine and_idx (by omega) (by omega) ?_ | refine reg_ok (by decide +kernel) ?_ | refine bar_ok (by decide +kernel) (by decide +kernel) ?_ | refine late_ok rfl rfl ?_ | refine src_ok rfl ?_ | refine .inl ⟨_, _, qcall_pure (dv) rfl rfl, ?_⟩ | refine LitB.data ?_ | refine BoxB.own ?_); conv => whnf)))
    all_goals first
      | (exfalso; omega)
      | exact ⟨[some 0], (Y, X % Y), ⟨rfl, rfl, ⟨⟨rfl, rfl, rfl, .inl ⟨rfl, rowsT_z⟩⟩, trivial⟩, ⟨⟨rfl, rfl, rfl⟩, rfl, rfl, trivial⟩⟩, ⟨by rw [← g1, Nat.gcd_comm Y, ← Nat.gcd_rec, Nat.gcd_comm], g3, Nat.le_trans (dg_len_mono (Nat.le_of_lt (Nat.mod_lt X hY))) g3⟩, Nat.mod_lt X hY⟩
  · have hY : Y = 0 := by omega
    subst hY
    have hp : (dg 0).length = 0 := rfl
    have s1 := r_madeD 1 X (by simp) (by omega)
    conv => whnf
    (repeat' (first | ((refine DecB.mk (fun h => ?_) (fun h => ?_)) <;> first | (exfalso; omega) | (conv => whnf)) | ((refine BoolB.mk (fun h => ?_) (fun h => ?_)) <;> first | (exact absurd h (by decide)) | (conv => whnf)) | ((first | refine ⟨_, wrap_ok (by omega) (by omega), ?_⟩ | refine and_idx (by omega) (by omega) ?_ | refine reg_ok (by decide +kernel) ?_ | refine bar_ok (by decide +kernel) (by decide +kernel) ?_ | refine late_ok rfl rfl ?_ | refine src_ok rfl ?_ | refine .inl ⟨_, _, qcall_pure (s1) rfl rfl, ?_⟩ | refine LitB.data ?_ | refine BoxB.own ?_); conv => whnf)))
    all_goals first
      | (exfalso; omega)
      | skip
    refine fin_be ?_
    rw [Int.one_mul, show X = Int.gcd x y by rw [Int.gcd, ← g1, Nat.gcd_zero_right]]
theorem r4Div (x y : Int) (hy : 0 < y) (hxy : x % y = 0) (lx : bl x ≤ 200000) (ly : bl y ≤ 200000) : ACall Tryz.prog 140 [bgS (bz x), bgS (bz y)] [] (.tup [bgS (bz (x / y)), bgS (bz 0), intS .i64 0]) [] := by
  have r1 := r4Right x (by omega)
  have r2 := r4Right y (by omega)
  have hys : (bz y).sg = 1 := by rw [bz_sg, Int.sign_eq_one_of_pos hy]
  have ov := r_over x.natAbs y.natAbs (by omega) lx ly
  have hmod : x.natAbs % y.natAbs = 0 := by
    have := Int.natAbs_dvd_natAbs.2 (Int.dvd_of_emod_eq_zero hxy)
    exact Nat.mod_eq_zero_of_dvd this
  have lq := dg_len_mono (Nat.div_le_self x.natAbs y.natAbs)
  have hsg : (bz x).sg = x.sign := rfl
  have hs := sign_cases x
  have hq : x.sign * ((x.natAbs / y.natAbs : Nat) : Int) = x / y := by
    obtain ⟨k, hk⟩ := Int.dvd_of_emod_eq_zero hxy
    subst hk
    have hk2 : (y * k) / y = k := Int.mul_ediv_cancel_left _ (by omega)
    rw [hk2, Int.natAbs_mul, Nat.mul_div_cancel_left _ (by omega), Int.sign_mul, Int.sign_eq_one_of_pos hy, Int.one_mul]
    exact Int.sign_mul_natAbs k
  have s1 := r_madeD x.sign (x.natAbs / y.natAbs) (by
    rcases hs with ⟨h, h1⟩ | ⟨h, h1⟩ | ⟨h, h1⟩
    · right; right; subst h1; simp
    · exact .inl h
    · exact .inr (.inl h)) (by unfold bl at lx; omega)
  rw [hq] at s1
  have s2 := r_madeD x.sign 0 (by simp) (by rw [dg_zero]; simp)
  rw [show x.sign * ((0 : Nat) : Int) = 0 by simp] at s2
  have hmul : x.sign * 1 = x.sign := Int.mul_one _
  have hd0 : ((dg (x.natAbs % y.natAbs)).map intRow).length = 0 := by rw [hmod, dg_zero]; rfl
  unfold divS at ov
  rw [hmod] at ov hd0
  (refine acall_of tab_ok Tryz.func140 rfl (by decide) ?_; (conv => whnf); repeat (first | (refine LitB.data ?_; conv => whnf) | (refine BoxB.own ?_; conv => whnf)))
  (repeat' (first | ((refine DecB.mk (fun h => ?_) (fun h => ?_)) <;> first | (exfalso; omega) | (conv => whnf)) | ((refine BoolB.mk (fun h => ?_) (fun h => ?_)) <;> first | (exact absurd h (by decide)) | (conv => whnf)) | ((first | refine ⟨_, wrap_ok (by omega) (by omega), ?_⟩ | refine and_idx (by omega) (by omega) ?_ | refine reg_ok (by decide +kernel) ?_ | refine bar_ok (by decide +kernel) (by decide +kernel) ?_ | refine late_ok rfl rfl ?_ | refine src_ok rfl ?_ | refine .inl ⟨_, _, qcall_pure (r1) rfl rfl, ?_⟩ | refine .inl ⟨_, _, qcall_pure (r2) rfl rfl, ?_⟩ | refine .inl ⟨_, _, qcall_pure (ov) rfl rfl, ?_⟩ | refine .inl ⟨_, _, qcall_pure (s1) rfl rfl, ?_⟩ | refine .inl ⟨_, _, qcall_pure (s2) rfl rfl, ?_⟩ | refine .inl ⟨_, _, qcall_pure (hys, hsg) rfl rfl, ?_⟩ | refine ⟨_, wrap_eq (y := x.sign) (by rw [hys, hsg]; exact hmul) (by omega) (by omega), ?_⟩ | refine LitB.data ?_ | refine BoxB.own ?_); conv => whnf)))
  all_goals first
    | (exfalso; omega)
    | (exfalso; simp_all; done)
    | exact fin_be2 rfl rfl
theorem r5New (p q : Int) (hq : 0 < q) (lp : bl p ≤ 200000) (lq : bl q ≤ 200000) : ACall Tryz.prog 112 [bgS (bz p), bgS (bz q)] [] (.tup [frS (fz (Rat.divInt p q)), intS .i64 0]) [] := by
  have r1 := r4Right p (by omega)
  have r2 := r4Right q (by omega)
  have hsg : (bz q).sg = 1 := by rw [bz_sg, Int.sign_eq_one_of_pos hq]
  have lg := bl_gcd p q lp lq
  have hg : 0 < (Int.gcd p q : Int) := by have := Int.gcd_pos_of_ne_zero_right p (b := q) (by omega); omega
  have g := r4Gcd p q lp lq
  have d1 := r4Div p _ hg (Int.emod_eq_zero_of_dvd (Int.gcd_dvd_left ..)) lp lg
  have d2 := r4Div q _ hg (Int.emod_eq_zero_of_dvd (Int.gcd_dvd_right ..)) lq lg
  have e := fz_divInt (p := p) (q := q) (by omega) rfl
  (refine acall_of tab_ok Tryz.func112 rfl (by decide) ?_; (conv => whnf); repeat (first | (refine LitB.data ?_; conv => whnf) | (refine BoxB.own ?_; conv => whnf)))
  (repeat' (first | ((refine DecB.mk (fun h => ?_) (fun h => ?_)) <;> first | (exfalso; omega) | (conv => whnf)) | ((refine BoolB.mk (fun h => ?_) (fun h => ?_)) <;> first | (exact absurd h (by decide)) | (conv => whnf)) | ((first | refine ⟨_, wrap_ok (by omega) (by omega), ?_⟩ | refine and_idx (by omega) (by omega) ?_ | refine reg_ok (by decide +kernel) ?_ | refine bar_ok (by decide +kernel) (by decide +kernel) ?_ | refine late_ok rfl rfl ?_ | refine src_ok rfl ?_ | refine .inl ⟨_, _, qcall_pure (r1) rfl rfl, ?_⟩ | refine .inl ⟨_, _, qcall_pure (r2) rfl rfl, ?_⟩ | refine .inl ⟨_, _, qcall_pure (g) rfl rfl, ?_⟩ | refine .inl ⟨_, _, qcall_pure (d1) rfl rfl, ?_⟩ | refine .inl ⟨_, _, qcall_pure (d2) rfl rfl, ?_⟩ | refine LitB.data ?_ | refine BoxB.own ?_); conv => whnf)))
  all_goals first
    | (exfalso; omega)
    | (exfalso; simp_all; done)
    | exact fin_fe e.symm
theorem r5Of (p q : Int) (hq : 0 < q) (p0 : -9223372036854775808 ≤ p) (p1 : p ≤ 9223372036854775807) (q1 : q ≤ 9223372036854775807) :
    ACall Tryz.prog 74 [intS .i64 p, intS .i64 q] [] (.tup [frS (fz (Rat.divInt p q)), intS .i64 0]) [] := by
  have l1 := bl_int p0 p1
  have l2 := bl_int (x := q) (by omega) q1
  have o1 := r4Of p p0 p1
  have o2 := r4Of q (by omega) q1
  have n := r5New p q hq (by omega) (by omega)
  (refine acall_of tab_ok Tryz.func74 rfl (by decide) ?_; (conv => whnf); repeat (first | (refine LitB.data ?_; conv => whnf) | (refine BoxB.own ?_; conv => whnf)))
  (repeat' (first | ((refine DecB.mk (fun h => ?_) (fun h => ?_)) <;> first | (exfalso; omega) | (conv => whnf)) | ((refine BoolB.mk (fun h => ?_) (fun h => ?_)) <;> first | (exact absurd h (by decide)) | (conv => whnf)) | ((first | refine ⟨_, wrap_ok (by omega) (by omega), ?_⟩ | refine and_idx (by omega) (by omega) ?_ | refine reg_ok (by decide +kernel) ?_ | refine bar_ok (by decide +kernel) (by decide +kernel) ?_ | refine late_ok rfl rfl ?_ | refine src_ok rfl ?_ | refine .inl ⟨_, _, qcall_pure (o1) rfl rfl, ?_⟩ | refine .inl ⟨_, _, qcall_pure (o2) rfl rfl, ?_⟩ | refine .inl ⟨_, _, qcall_pure (n) rfl rfl, ?_⟩ | refine LitB.data ?_ | refine BoxB.own ?_); conv => whnf)))
  all_goals exact fin_fe rfl
theorem r5Int (n : Int) (p0 : -9223372036854775808 ≤ n) (p1 : n ≤ 9223372036854775807) : ACall Tryz.prog 35 [intS .i64 n] [] (frS (fz (n : Rat))) [] := by
  have o := r5Of n 1 (by decide) p0 p1 (by decide)
  have e : Rat.divInt n 1 = (n : Rat) := by rw [Rat.divInt_eq_div]; simp; grind
  rw [e] at o
  (refine acall_of tab_ok Tryz.func35 rfl (by decide) ?_; (conv => whnf); repeat (first | (refine LitB.data ?_; conv => whnf) | (refine BoxB.own ?_; conv => whnf)))
  (repeat' (first | ((refine DecB.mk (fun h => ?_) (fun h => ?_)) <;> first | (exfalso; omega) | (conv => whnf)) | ((refine BoolB.mk (fun h => ?_) (fun h => ?_)) <;> first | (exact absurd h (by decide)) | (conv => whnf)) | ((first | refine ⟨_, wrap_ok (by omega) (by omega), ?_⟩ | refine and_idx (by omega) (by omega) ?_ | refine reg_ok (by decide +kernel) ?_ | refine bar_ok (by decide +kernel) (by decide +kernel) ?_ | refine late_ok rfl rfl ?_ | refine src_ok rfl ?_ | refine .inl ⟨_, _, qcall_pure (o) rfl rfl, ?_⟩ | refine LitB.data ?_ | refine BoxB.own ?_); conv => whnf)))
  all_goals exact fin_t ⟨rfl, rfl, rfl, rfl, trivial⟩
end Go.Proofs.YtfieodjihaodiaaGreat
/- Small references: Few, Little, Same; few. -/
namespace Go.Proofs.YtfieodjihaodiaaGreat
open Go.RowKit
set_option linter.unusedVariables false
set_option linter.unusedSimpArgs false
set_option maxRecDepth 100000

theorem a_SameBig (b : Bg) (hl : b.dl.length ≤ 1000000) : ACall Tryz.prog 73 [bgS b, bgS b] [] (boolS true) [] := by
  have l2 : (b.dl.map intRow).length = b.dl.length := by simp
  (refine acall_of tab_ok Tryz.func73 rfl (by decide) ?_; (conv => whnf); repeat (first | (refine LitB.data ?_; conv => whnf) | (refine BoxB.data ?_; conv => whnf)))
  (repeat' (first | ((refine DecB.mk (fun h => ?_) (fun h => ?_)) <;> first | (exfalso; omega) | (conv => whnf)) | ((refine BoolB.mk (fun h => ?_) (fun h => ?_)) <;> first | (exact absurd h (by decide)) | (conv => whnf)) | ((first | refine ⟨_, wrap_ok (by omega) (by omega), ?_⟩ | refine and_idx (by omega) (by omega) ?_ | refine reg_ok (by decide +kernel) ?_ | refine bar_ok (by decide +kernel) (by decide +kernel) ?_ | refine late_ok rfl rfl ?_ | refine src_ok rfl ?_ | refine LitB.data ?_ | refine BoxB.own ?_); conv => whnf)))
  all_goals try (exfalso; omega)
  refine awp_for tab_ok (fun k => ([J, J, S.c (C.t (T.ptr [ti b.sg, intsT b.dl])), S.c (C.t (T.ptr [ti b.sg, intsT b.dl])), J, intS .i64 k, J, J, J, J, J, J, J, J, J, J, J, J, J, J, J, J, J, J, J, J, J, J, J, J, J, J, J, J, J, J, J, J], [])) b.dl.length (fun _ => True) [] trivial
    ⟨rfl, rfl, trivial, ⟨rfl, rfl, rfl, trivial⟩⟩ ?_
  intro k hk _
  by_cases hlt : k < b.dl.length
  · conv => whnf
    (repeat' (first | ((refine DecB.mk (fun h => ?_) (fun h => ?_)) <;> first | (exfalso; omega) | (conv => whnf)) | ((refine BoolB.mk (fun h => ?_) (fun h => ?_)) <;> first | (exact absurd h (by decide)) | (conv => whnf)) | ((first | refine ⟨_, wrap_ok (by omega) (by omega), ?_⟩ | refine and_idx (by omega) (by omega) ?_ | refine reg_ok (by decide +kernel) ?_ | refine bar_ok (by decide +kernel) (by decide +kernel) ?_ | refine late_ok rfl rfl ?_ | refine src_ok rfl ?_ | refine ex_row (get_dat (by omega)) ?_ | refine LitB.data ?_ | refine BoxB.own ?_); conv => whnf)))
    all_goals first
      | (exfalso; omega)
      | exact ⟨hlt, trivial, [], rfl, rfl, trivial, ⟨rfl, rfl, rfl, trivial⟩⟩
  · conv => whnf
    (repeat' (first | ((refine DecB.mk (fun h => ?_) (fun h => ?_)) <;> first | (exfalso; omega) | (conv => whnf)) | ((refine BoolB.mk (fun h => ?_) (fun h => ?_)) <;> first | (exact absurd h (by decide)) | (conv => whnf)) | ((first | refine ⟨_, wrap_ok (by omega) (by omega), ?_⟩ | refine and_idx (by omega) (by omega) ?_ | refine reg_ok (by decide +kernel) ?_ | refine bar_ok (by decide +kernel) (by decide +kernel) ?_ | refine late_ok rfl rfl ?_ | refine src_ok rfl ?_ | refine LitB.data ?_ | refine BoxB.own ?_); conv => whnf)))
    all_goals first
      | (exfalso; omega)
      | exact fin_bool rfl
theorem a_SameF (f : Fr) (lp : f.p.dl.length ≤ 1000000) (lq : f.q.dl.length ≤ 1000000) : ACall Tryz.prog 32 [frS f, frS f] [] (boolS true) [] := by
  have s1 := a_SameBig f.p lp
  have s2 := a_SameBig f.q lq
  (refine acall_of tab_ok Tryz.func32 rfl (by decide) ?_; (conv => whnf); repeat (first | (refine LitB.data ?_; conv => whnf) | (refine BoxB.data ?_; conv => whnf)))
  (repeat' (first | ((refine DecB.mk (fun h => ?_) (fun h => ?_)) <;> first | (exfalso; omega) | (conv => whnf)) | ((refine BoolB.mk (fun h => ?_) (fun h => ?_)) <;> first | (exact absurd h (by decide)) | (conv => whnf)) | ((first | refine ⟨_, wrap_ok (by omega) (by omega), ?_⟩ | refine and_idx (by omega) (by omega) ?_ | refine reg_ok (by decide +kernel) ?_ | refine bar_ok (by decide +kernel) (by decide +kernel) ?_ | refine late_ok rfl rfl ?_ | refine src_ok rfl ?_ | refine .inl ⟨_, _, qcall_pure (s1) rfl rfl, ?_⟩ | refine .inl ⟨_, _, qcall_pure (s2) rfl rfl, ?_⟩ | refine LitB.data ?_ | refine BoxB.own ?_); conv => whnf)))
  all_goals first
    | (exfalso; simp_all; done)
    | exact fin_bool rfl
def fewF (n : Int) (f : Fr) : Bool := decide ((f.p.dl.length : Int) ≤ n) && decide ((f.q.dl.length : Int) ≤ n)
theorem SmallH.mono {m n : Nat} {hh : List (List Fr)} (h : SmallH m hh) (hmn : m ≤ n) : SmallH n hh := ⟨h.l1, h.l2, fun l hl f hf => by have := h.l3 l hl f hf; omega⟩
end Go.Proofs.YtfieodjihaodiaaGreat
/- reference 16: Few, FewMasses; reference 8: FewPoint. -/
namespace Go.Proofs.YtfieodjihaodiaaGreat
open Go.RowKit
set_option linter.unusedVariables false
set_option linter.unusedSimpArgs false
set_option maxRecDepth 100000

def few16 (e : Ev) (n : Int) : Bool := !((decide ((e.moves.length : Int) > n) && decide (e.moves.length ≤ 200)) || (decide (e.purities.length > 20) && decide (e.purities.length ≤ 200))) &&
  decide (e.moves.length ≤ 220) && decide (e.purities.length ≤ 220) && decide (e.places.length ≤ 120) && decide (e.certs.length ≤ 120) && decide (e.recalls.length ≤ 40)
set_option maxHeartbeats 4000000 in
theorem a_Few16 (e : Ev) (n : Int) : ACall Tryz.prog 11 [evS e, intS .i64 n] [] (boolS (few16 e n)) [] := by
  have l1 : (e.places.map Place.row).length = e.places.length := by simp
  have l2 : (e.moves.map Move.row).length = e.moves.length := by simp
  have l3 : (e.certs.map Cert.row).length = e.certs.length := by simp
  have l4 : (e.recalls.map Recall.row).length = e.recalls.length := by simp
  have l5 : (e.purities.map Purity.row).length = e.purities.length := by simp
  (refine acall_of tab_ok Tryz.func11 rfl (by decide) ?_; (conv => whnf); repeat (first | (refine LitB.data ?_; conv => whnf) | (refine BoxB.data ?_; conv => whnf)))
  (repeat' (first | ((refine DecB.mk (fun h => ?_) (fun h => ?_)) <;> first | (exfalso; omega) | (conv => whnf)) | ((refine BoolB.mk (fun h => ?_) (fun h => ?_)) <;> first | (exact absurd h (by decide)) | (conv => whnf)) | ((first | refine ⟨_, wrap_ok (by omega) (by omega), ?_⟩ | refine and_idx (by omega) (by omega) ?_ | refine reg_ok (by decide +kernel) ?_ | refine bar_ok (by decide +kernel) (by decide +kernel) ?_ | refine late_ok rfl rfl ?_ | refine src_ok rfl ?_ | refine LitB.data ?_ | refine BoxB.own ?_); conv => whnf)))
  all_goals first
    | (exfalso; omega)
    | (refine fin_bool ?_; unfold few16; simp; omega)
theorem few16_sized {e : Ev} {n : Int} (h : few16 e n = true) : e.Sized := by
  unfold few16 at h
  simp only [Bool.and_eq_true, decide_eq_true_eq] at h
  exact ⟨by omega, by omega, by omega, by omega, by omega⟩
theorem few16_small {e : Ev} (h : few16 e 8 = true) (hc : check e = 0) : EvSm e := by
  have hz := few16_sized h
  obtain ⟨b1, b2, b3, b4⟩ := check_bounds16 hc
  have hf := (check_zero hc).1
  have hp : e.purities.length ≤ 200 := by unfold fullB at hf; simp at hf; omega
  have h1 : ((e.moves.length : Int) > 8 && decide (e.moves.length ≤ 200)) = false ∧ (decide (e.purities.length > 20) && decide (e.purities.length ≤ 200)) = false := by
    unfold few16 at h
    simp only [Bool.and_eq_true, Bool.not_eq_true', Bool.or_eq_false_iff] at h
    exact h.1.1.1.1.1
  obtain ⟨h1, h2⟩ := h1
  simp only [Bool.and_eq_false_iff, decide_eq_false_iff_not] at h1 h2
  refine ⟨hz, b1, b2, by omega, by omega, fun x hx => ?_, fun p hp => ?_⟩
  · have := check_move hc hx
    unfold moveOk idx at this
    simp only [Bool.and_eq_true, decide_eq_true_eq] at this
    omega
  · have hs := (check_zero hc).2.2.2.2.2.2
    unfold saidOk at hs
    simp only [Bool.and_eq_true] at hs
    have := List.all_eq_true.1 hs.2 p hp
    unfold purityOk idx at this
    simp only [Bool.and_eq_true, decide_eq_true_eq] at this
    omega
end Go.Proofs.YtfieodjihaodiaaGreat
/- reference 8: Same of terms; reference 16: SameRow, at equal arguments. -/
namespace Go.Proofs.YtfieodjihaodiaaGreat
open Go.RowKit
set_option linter.unusedVariables false
set_option linter.unusedSimpArgs false
set_option maxRecDepth 100000

theorem fz_len8 {x : Rat} (h : rl x ≤ 200) : (fz x).p.dl.length ≤ 1000000 ∧ (fz x).q.dl.length ≤ 1000000 := by
  have h4 := rl_num x
  have h5 := rl_den x
  exact ⟨show bl x.num ≤ 1000000 by omega, show bl x.den ≤ 1000000 by omega⟩
theorem a_SameT8 (l : List (Int × Rat)) (hl : l.length ≤ 100) (hd : ∀ t ∈ l, rl t.2 ≤ 200) : ACall Tryz.prog 41 [.c (.t (termsT l)), .c (.t (termsT l))] [] (boolS true) [] := by
  have m1 : (l.map termRow).length = l.length := by simp
  (refine acall_of tab_ok Tryz.func41 rfl (by decide) ?_; (conv => whnf); repeat (first | (refine LitB.data ?_; conv => whnf) | (refine BoxB.data ?_; conv => whnf)))
  (repeat' (first | ((refine DecB.mk (fun h => ?_) (fun h => ?_)) <;> first | (exfalso; omega) | (conv => whnf)) | ((refine BoolB.mk (fun h => ?_) (fun h => ?_)) <;> first | (exact absurd h (by decide)) | (conv => whnf)) | ((first | refine ⟨_, wrap_ok (by omega) (by omega), ?_⟩ | refine and_idx (by omega) (by omega) ?_ | refine reg_ok (by decide +kernel) ?_ | refine bar_ok (by decide +kernel) (by decide +kernel) ?_ | refine late_ok rfl rfl ?_ | refine src_ok rfl ?_ | refine LitB.data ?_ | refine BoxB.own ?_); conv => whnf)))
  all_goals try (exfalso; omega)
  refine awp_for tab_ok (fun k => ([S.c (C.t (termsT l)), S.c (C.t (termsT l)), J, J, J, intS .i64 k, J, J, J, J, J, J, J, J, J, J, J, J, J, J, J, J, J, J, J, J, J, J, J, J, J, J, J, J, J, J, J, J, J, J, J, J], [])) l.length (fun _ => True) [] trivial
    ⟨rfl, rfl, trivial, ⟨rfl, rfl, rfl, trivial⟩⟩ ?_
  intro k hk _
  by_cases hlt : k < l.length
  · obtain ⟨t, ht⟩ : ∃ t, l[k]? = some t := ⟨_, List.getElem?_eq_getElem hlt⟩
    have q := fz_len8 (hd t (List.mem_of_getElem? ht))
    have r := a_SameF (fz t.2) q.1 q.2
    conv => whnf
    (repeat' (first | ((refine DecB.mk (fun h => ?_) (fun h => ?_)) <;> first | (exfalso; omega) | (conv => whnf)) | ((refine BoolB.mk (fun h => ?_) (fun h => ?_)) <;> first | (exact absurd h (by decide)) | (conv => whnf)) | ((first | refine ⟨_, wrap_ok (by omega) (by omega), ?_⟩ | refine and_idx (by omega) (by omega) ?_ | refine reg_ok (by decide +kernel) ?_ | refine bar_ok (by decide +kernel) (by decide +kernel) ?_ | refine late_ok rfl rfl ?_ | refine src_ok rfl ?_ | refine .inl ⟨_, _, qcall_pure (r) rfl rfl, ?_⟩ | refine ex_row ht ?_ | refine LitB.data ?_ | refine BoxB.own ?_); conv => whnf)))
    all_goals first
      | (exfalso; omega)
      | exact ⟨hlt, trivial, [], rfl, rfl, trivial, ⟨rfl, rfl, rfl, trivial⟩⟩
  · conv => whnf
    (repeat' (first | ((refine DecB.mk (fun h => ?_) (fun h => ?_)) <;> first | (exfalso; omega) | (conv => whnf)) | ((refine BoolB.mk (fun h => ?_) (fun h => ?_)) <;> first | (exact absurd h (by decide)) | (conv => whnf)) | ((first | refine ⟨_, wrap_ok (by omega) (by omega), ?_⟩ | refine and_idx (by omega) (by omega) ?_ | refine reg_ok (by decide +kernel) ?_ | refine bar_ok (by decide +kernel) (by decide +kernel) ?_ | refine late_ok rfl rfl ?_ | refine src_ok rfl ?_ | refine LitB.data ?_ | refine BoxB.own ?_); conv => whnf)))
    all_goals first
      | (exfalso; omega)
      | exact fin_bool rfl
theorem a_SameRow16 (w : RowP) (h1 : w.terms.length ≤ 100) (h2 : ∀ t ∈ w.terms, rl t.2 ≤ 200) (h3 : rl w.value ≤ 200) :
    ACall Tryz.prog 30 [.agg ((rowRow w).map C.t), .agg ((rowRow w).map C.t)] [] (boolS true) [] := by
  have st := a_SameT8 w.terms h1 h2
  have q := fz_len8 h3
  have r := a_SameF (fz w.value) q.1 q.2
  (refine acall_of tab_ok Tryz.func30 rfl (by decide) ?_; (conv => whnf); repeat (first | (refine LitB.data ?_; conv => whnf) | (refine BoxB.data ?_; conv => whnf)))
  (repeat' (first | ((refine DecB.mk (fun h => ?_) (fun h => ?_)) <;> first | (exfalso; omega) | (conv => whnf)) | ((refine BoolB.mk (fun h => ?_) (fun h => ?_)) <;> first | (exact absurd h (by decide)) | (conv => whnf)) | ((first | refine ⟨_, wrap_ok (by omega) (by omega), ?_⟩ | refine and_idx (by omega) (by omega) ?_ | refine reg_ok (by decide +kernel) ?_ | refine bar_ok (by decide +kernel) (by decide +kernel) ?_ | refine late_ok rfl rfl ?_ | refine src_ok rfl ?_ | refine .inl ⟨_, _, qcall_pure (st) rfl rfl, ?_⟩ | refine .inl ⟨_, _, qcall_pure (r) rfl rfl, ?_⟩ | refine LitB.data ?_ | refine BoxB.own ?_); conv => whnf)))
  all_goals first
    | (exfalso; omega)
    | exact fin_bool rfl
end Go.Proofs.YtfieodjihaodiaaGreat
/- slices.Chunk: its closure's contract for a range over it (the kit's page on ranges over a function). -/
namespace Go.Proofs.YtfieodjihaodiaaGreat
open Go.RowKit Go.Shelf
set_option linter.unusedVariables false
set_option linter.unusedSimpArgs false
attribute [local go_sem] Oper.semAt_some

/-- what lies below n, but for the block B, lies as it lay -/
structure BelowX (B n : Nat) (w w' : World) : Prop where
  os : w'.os = w.os
  tape : w'.tape = w.tape
  output : w'.output = w.output
  size : w.heap.size ≤ w'.heap.size
  block : ∀ k, k < n → k ≠ B → w'.heap[k]? = w.heap[k]?
theorem BelowX.refl (B n : Nat) (w : World) : BelowX B n w w := ⟨rfl, rfl, rfl, Nat.le_refl _, fun _ _ _ => rfl⟩
theorem BelowX.trans {B n : Nat} {a b c : World} (h : BelowX B n a b) (k : BelowX B n b c) : BelowX B n a c :=
  ⟨k.os.trans h.os, k.tape.trans h.tape, k.output.trans h.output, Nat.le_trans h.size k.size, fun i hi hB => (k.block i hi hB).trans (h.block i hi hB)⟩
theorem BelowX.of {B n : Nat} {a b : World} (h : Below n a b) : BelowX B n a b := ⟨h.os, h.tape, h.output, h.size, fun k hk _ => h.block k hk⟩
theorem BelowX.drew {B n : Nat} {a w : World} (h : BelowX B n a w) : BelowX B n a w.drew := ⟨h.os, h.tape, h.output, h.size, h.block⟩
theorem BelowX.cell {B n : Nat} {w w' : World} (h : BelowX B n w w') {p : Addr} (hp : p.block < n) (hB : p.block ≠ B) : w'.cell? p = w.cell? p := World.cell?_of_block (w := w) (h.block p.block hp hB)
theorem BelowX.mono {B n : Nat} {w w' : World} (h : BelowX B n w w') {m : Nat} (hm : m ≤ n) : BelowX B m w w' := ⟨h.os, h.tape, h.output, h.size, fun k hk => h.block k (by omega)⟩
theorem BelowX.low {B n : Nat} {w w' : World} (h : BelowX B n w w') {m : Nat} (hm : m ≤ n) (hB : m ≤ B) : Below m w w' := ⟨h.os, h.tape, h.output, h.size, fun k hk => h.block k (by omega) (by omega)⟩
def ckV (b off c i : Nat) : Value := .slice (some ⟨b, off + i * c * 4, none⟩) c c
set_option maxRecDepth 100000 in
set_option maxHeartbeats 2000000 in
theorem ck1_in (F : Fence) (n : Nat) (hF : F.fn 87) (hro : F.round = none) (hn : 1 ≤ n) (l X Bs Bn n₀ b off c N cap : Nat) (hBs : Bs < n₀) (hBn : Bn < n₀) (xBs : Bs ≠ X) (xBn : Bn ≠ X) (hc : 1 ≤ c) (hc2 : c ≤ 1000) (hN : N ≤ 1000) (hcap : N * c ≤ cap) (len : Nat) (hl : len = N * c)
    (J Jx : List Nat → World → Prop) (hJd : ∀ pre W, J pre W → J pre W.drew)
    (hY : ∀ pre x W, J pre W → pre.length < N → YieldAt F (n - 1) Tryz.prog l #[ckV b off c x] W fun e W' =>
      (e = .returned (.bool true) ∧ J (pre ++ [x]) W' ∧ BelowX X n₀ W W') ∨ (e = .returned (.bool false) ∧ Jx (pre ++ [x]) W'))
    (W : World) (h1 : W.cell? ⟨Bs, 0, none⟩ = some (.slice (some ⟨b, off, none⟩) len cap)) (h2 : W.cell? ⟨Bn, 0, none⟩ = some (.int .i64 c)) (h0 : J [] W) :
    CallsIn F n Tryz.prog 87 #[.func (.yield l) #[] #[], .pointer (some ⟨Bs, 0, none⟩), .pointer (some ⟨Bn, 0, none⟩)] W fun e W' => (∃ v, e = .returned v) ∧
      ((∃ ys, ys = List.range N ∧ J ys W') ∨ (∃ pre, (∃ k, k ≤ N ∧ pre = List.range k) ∧ Jx pre W')) := by
  refine callsIn_of_wp Tryz.func87 rfl hF ?_ hro
  simp only [Tryz.ntmps87, List.size_toArray, List.length_cons, List.length_nil, Nat.reduceAdd, Nat.reduceSub, Array.replicate_succ, Array.replicate_zero, List.push_toArray, List.append_toArray, List.nil_append, List.cons_append]
  gi_wp2
  gi_loopw [4] (fun i wr => ∃ k s : Nat, k ≤ N ∧ s = k * c ∧ i = .int .i64 (s : Int) ∧ J (List.range k) wr ∧ BelowX X n₀ W wr)
    (fun i _ => len - (intOf i).toNat)
  case atStart => exact ⟨0, 0, Nat.zero_le _, by simp, rfl, h0, BelowX.refl _ _ _⟩
  case round =>
    obtain ⟨k, s, hk, hs, rfl, hJs, hnx⟩ := hrel
    have q1 := (hnx.cell (p := ⟨Bs, 0, none⟩) hBs xBs).trans h1
    have q2 := (hnx.cell (p := ⟨Bn, 0, none⟩) hBn xBn).trans h2
    by_cases hlt : k < N
    · obtain ⟨fn, tmps, assign, body, hy, hR⟩ := hY _ k wr.drew (hJd _ _ hJs) (by rw [List.length_range]; exact hlt)
      simp only [ckV] at hy
      have b1 : s + c ≤ len := by
        have : (k + 1) * c ≤ N * c := Nat.mul_le_mul_right _ hlt
        rw [Nat.succ_mul] at this; omega
      have b2 : len ≤ 1000000 := by rw [hl]; exact Nat.mul_le_mul hN hc2
      gi_wp2
      all_goals try (exfalso; omega)
      gi_region
      all_goals try (exfalso; omega)
      all_goals gi_wp2
      all_goals try (exfalso; omega)
      all_goals
        refine hR.mono ?_
        rintro e W3 (⟨rfl, hJ3, hk3⟩ | ⟨rfl, hJx3⟩)
        · have hnx3 : BelowX X n₀ W W3 := hnx.trans (((BelowX.refl X n₀ wr).drew).trans hk3)
          have q3 := (hnx3.cell (p := ⟨Bn, 0, none⟩) hBn xBn).trans h2
          gi_wp2
          go_roundw
          case rel => exact ⟨k + 1, (k + 1) * c, by omega, rfl, by simp [Nat.succ_mul], by rw [List.range_succ]; exact hJ3, hnx3⟩
          case measure => simp [intOf]; omega
        · gi_wp2
          refine bodyPost_ret (results_none rfl _ _ _) rfl ?_
          exact ⟨⟨_, rfl⟩, .inr ⟨_, ⟨k + 1, by omega, List.range_succ.symm⟩, hJx3⟩⟩
    · obtain rfl : k = N := by omega
      have b1 : s = len := by omega
      gi_wp2
      all_goals try (exfalso; omega)
      go_end0
      exact ⟨⟨_, rfl⟩, .inl ⟨_, rfl, hJs⟩⟩
set_option maxRecDepth 100000 in
set_option maxHeartbeats 1000000 in
theorem ck0_in (F : Fence) (n : Nat) (hF : F.fn 87) (hro : F.round = none) (l Bs Bn : Nat) (A : Option Addr) (cap : Nat)
    (J : List Nat → World → Prop) (W : World) (h1 : W.cell? ⟨Bs, 0, none⟩ = some (.slice A 0 cap)) (h0 : J [] W) :
    CallsIn F n Tryz.prog 87 #[.func (.yield l) #[] #[], .pointer (some ⟨Bs, 0, none⟩), .pointer (some ⟨Bn, 0, none⟩)] W fun e W' => (∃ v, e = .returned v) ∧ J [] W' := by
  refine callsIn_of_wp Tryz.func87 rfl hF ?_ hro
  simp only [Tryz.ntmps87, List.size_toArray, List.length_cons, List.length_nil, Nat.reduceAdd, Nat.reduceSub, Array.replicate_succ, Array.replicate_zero, List.push_toArray, List.append_toArray, List.nil_append, List.cons_append]
  gi_wp2
  gi_loopw [4] (fun i wr => i = .int .i64 0 ∧ J [] wr ∧ wr.cell? ⟨Bs, 0, none⟩ = some (.slice A 0 cap)) (fun _ _ => 0)
  case atStart => exact ⟨rfl, h0, h1⟩
  case round =>
    obtain ⟨rfl, hJs, q1⟩ := hrel
    gi_wp2
    go_end0
    exact ⟨⟨_, rfl⟩, hJs⟩
/-- what a slice of N chunks of c elements is -/
def CkOK (b off c N : Nat) (sv : Value) : Prop := (N = 0 ∧ ∃ A cap, sv = .slice A 0 cap) ∨ ∃ cap, sv = .slice (some ⟨b, off, none⟩) (N * c) cap ∧ N * c ≤ cap
theorem ck_stops (F : Fence) (n : Nat) (hF : F.fn 87) (hro : F.round = none) (hn : 1 ≤ n) (X Bs Bn n₀ b off c N : Nat) (sv : Value) (hBs : Bs < n₀) (hBn : Bn < n₀) (xBs : Bs ≠ X) (xBn : Bn ≠ X) (hc : 1 ≤ c) (hc2 : c ≤ 1000) (hN : N ≤ 1000) (hsv : CkOK b off c N sv)
    (w : World) (hn₀ : n₀ ≤ w.heap.size) (h1 : w.cell? ⟨Bs, 0, none⟩ = some sv) (h2 : w.cell? ⟨Bn, 0, none⟩ = some (.int .i64 c)) :
    SeqStopsK F n Tryz.prog 87 #[.pointer (some ⟨Bs, 0, none⟩), .pointer (some ⟨Bn, 0, none⟩)] (fun i : Nat => #[ckV b off c i]) (BelowX X n₀) (fun ys => ys = List.range N) (fun pre => pre <+: List.range N) N w := fun l J Jx W hW hJ _ hY h0 => by
  have q1 := (hW.cell (p := ⟨Bs, 0, none⟩) (by show Bs < w.heap.size; omega)).trans h1
  have q2 := (hW.cell (p := ⟨Bn, 0, none⟩) (by show Bn < w.heap.size; omega)).trans h2
  rcases hsv with ⟨rfl, A, cap, rfl⟩ | ⟨cap, rfl, hcap⟩
  · exact (ck0_in F n hF hro l Bs Bn A cap J W q1 h0).mono fun e W' ⟨he, hj⟩ => ⟨he, .inl ⟨_, rfl, hj⟩⟩
  · refine (ck1_in F n hF hro hn l X Bs Bn n₀ b off c N cap hBs hBn xBs xBn hc hc2 hN hcap (N * c) rfl J Jx (fun pre W1 h => ?_) hY W q1 q2 h0).mono ?_
    · exact hJ pre W1 W1.drew none h ⟨rfl, rfl, rfl, Nat.le_refl _, fun _ _ _ => rfl⟩ (fun r e => by cases e)
    · rintro e W' ⟨he, ⟨ys, rfl, hj⟩ | ⟨pre, ⟨k, hk, rfl⟩, hj⟩⟩
      · exact ⟨he, .inl ⟨_, rfl, hj⟩⟩
      · refine ⟨he, .inr ⟨_, ?_, hj⟩⟩
        rw [show List.range k = (List.range N).take k by rw [List.take_range, Nat.min_eq_left hk]]
        exact List.take_prefix _ _
set_option maxRecDepth 100000 in
set_option maxHeartbeats 1000000 in
/-- slices.Chunk itself: two boxes, and the closure -/
theorem ck_make (A : Option Addr) (len cap c : Nat) (hc : 1 ≤ c) (hc2 : c ≤ 1000) (w : World) :
    Calls Tryz.prog 45 #[.slice A len cap, .int .i64 c] w fun e w' => e = .returned (.func (.func 87) #[] #[.pointer (some ⟨w.heap.size, 0, none⟩), .pointer (some ⟨w.heap.size + 1, 0, none⟩)]) ∧
      w' = (w.alloc (.cells #[.slice A len cap] 30)).alloc (.cells #[.int .i64 c] 3) := by
  go_enter Tryz.func45, Tryz.ntmps45
  go_wp2
  all_goals try (exfalso; omega)
  go_ret
  exact ⟨rfl, rfl⟩
end Go.Proofs.YtfieodjihaodiaaGreat
/- slices.Clone of a list that is not empty. -/
namespace Go.Proofs.YtfieodjihaodiaaGreat
open Go.RowKit
set_option linter.unusedVariables false
set_option linter.unusedSimpArgs false
set_option maxRecDepth 100000

theorem a_CloneF (l : List Fr) (h0 : 0 < l.length) (h1 : l.length ≤ 100000) : ACall Tryz.prog 46 [fracsS l] [] (fracsS l) [] := by
  have m1 : (l.map frRow).length = l.length := by simp
  have hl : 0 < (l.map frRow).length := by omega
  (refine acall_of tab_ok Tryz.func46 rfl (by decide) ?_; (conv => whnf); repeat (first | (refine LitB.data ?_; conv => whnf) | (refine BoxB.own ?_; conv => whnf)))
  (repeat' (first | ((refine DecB.mk (fun h => ?_) (fun h => ?_)) <;> first | (exfalso; omega) | (conv => whnf)) | ((refine BoolB.mk (fun h => ?_) (fun h => ?_)) <;> first | (exact absurd h (by decide)) | (conv => whnf)) | ((first | refine ⟨_, wrap_ok (by omega) (by omega), ?_⟩ | refine and_idx (by omega) (by omega) ?_ | refine reg_ok (by decide +kernel) ?_ | refine bar_ok (by decide +kernel) (by decide +kernel) ?_ | refine late_ok rfl rfl ?_ | refine src_ok rfl ?_ | refine .inl ⟨_, _, qcall_pure (toC, List.length_map, List.length_nil) rfl rfl, ?_⟩ | refine .inl ⟨_, _, qcall_pure (toC, List.length_map) rfl rfl, ?_⟩ | refine ⟨hl, ?_⟩ | refine src_ok rfl ?_ | refine app_nil rfl (by simp only [toC, List.length_map, List.length_nil]; omega) ?_ | refine app_ok (Nat.zero_le _) (by simp only [toC, List.length_map]; omega) ?_ | refine LitB.data ?_ | refine BoxB.own ?_); conv => whnf)))
  all_goals first
    | (exfalso; omega)
    | exact fin_own rfl (by intro h; cases h) rfl rfl (by simp only [toC, List.length_map, List.length_nil, Nat.zero_add])
end Go.Proofs.YtfieodjihaodiaaGreat
/- evidence.History, where there is none. -/
namespace Go.Proofs.YtfieodjihaodiaaGreat
open Go.RowKit
set_option linter.unusedVariables false
set_option linter.unusedSimpArgs false
set_option maxRecDepth 100000

set_option maxHeartbeats 4000000 in
theorem a_EHist0 (e : Ev) (hs : e.Sized) (hE : check e = 0 → EvSm e) (x : List Fr) (hx : x.length ≤ 100000) (h : check e ≠ 0 ∨ (x.length : Int) ≠ (e.moves.length : Int) * e.mats) : ACall Tryz.prog 23 [evS e, fracsS x] [] (histS []) [] := by
  have ck := a_Check e hs
  have m0 : (e.moves.map Move.row).length = e.moves.length := by simp
  have m1 : (x.map frRow).length = x.length := by simp
  by_cases h0 : check e = 0
  · have hE := hE h0
    rw [h0] at ck
    have h1 := hE.m1
    have h6 := hE.m6
    have hmv := hE.mv
    have n0 : 0 ≤ (e.moves.length : Int) * e.mats := Int.mul_nonneg (by omega) (by omega)
    have n1 : (e.moves.length : Int) * e.mats ≤ 8 * 6 := Int.mul_le_mul (by omega) h6 (by omega) (by decide)
    have mm : ((e.moves.map Move.row).length : Int) * e.mats = (e.moves.length : Int) * e.mats := by rw [m0]
    (refine acall_of tab_ok Tryz.func23 rfl (by decide) ?_; (conv => whnf); repeat (first | (refine LitB.data ?_; conv => whnf) | (refine BoxB.data ?_; conv => whnf)))
    (repeat' (first | ((refine DecB.mk (fun h => ?_) (fun h => ?_)) <;> first | (exfalso; omega) | (conv => whnf)) | ((refine BoolB.mk (fun h => ?_) (fun h => ?_)) <;> first | (exact absurd h (by decide)) | (conv => whnf)) | ((first | refine ⟨_, wrap_ok (by omega) (by omega), ?_⟩ | refine and_idx (by omega) (by omega) ?_ | refine reg_ok (by decide +kernel) ?_ | refine bar_ok (by decide +kernel) (by decide +kernel) ?_ | refine late_ok rfl rfl ?_ | refine src_ok rfl ?_ | refine .inl ⟨_, _, qcall_pure (ck) rfl rfl, ?_⟩ | refine LitB.data ?_ | refine BoxB.own ?_); conv => whnf)))
    all_goals first
      | (exfalso; omega)
      | exact fin_t rfl
  · (refine acall_of tab_ok Tryz.func23 rfl (by decide) ?_; (conv => whnf); repeat (first | (refine LitB.data ?_; conv => whnf) | (refine BoxB.data ?_; conv => whnf)))
    (repeat' (first | ((refine DecB.mk (fun h => ?_) (fun h => ?_)) <;> first | (exfalso; omega) | (conv => whnf)) | ((refine BoolB.mk (fun h => ?_) (fun h => ?_)) <;> first | (exact absurd h (by decide)) | (conv => whnf)) | ((first | refine ⟨_, wrap_ok (by omega) (by omega), ?_⟩ | refine and_idx (by omega) (by omega) ?_ | refine reg_ok (by decide +kernel) ?_ | refine bar_ok (by decide +kernel) (by decide +kernel) ?_ | refine late_ok rfl rfl ?_ | refine src_ok rfl ?_ | refine .inl ⟨_, _, qcall_pure (ck) rfl rfl, ?_⟩ | refine LitB.data ?_ | refine BoxB.own ?_); conv => whnf)))
    all_goals first
      | (exfalso; omega)
      | exact fin_t rfl
end Go.Proofs.YtfieodjihaodiaaGreat
/- evidence.History: what its rows read as, once the loop is over (no walk yet). -/
namespace Go.Proofs.YtfieodjihaodiaaGreat
open Go.RowKit Go.Shelf
set_option linter.unusedVariables false
set_option linter.unusedSimpArgs false

theorem heapRel_nil (w : World) (ι : Io) (M : Ms) : HeapRel w ι M [] :=
  ⟨fun id k h => by simp at h, fun id k h => by simp at h, fun id k h => by simp at h, fun id id' k k' h => by simp at h, fun id id' k k' h => by simp at h⟩
theorem acall_belowM {P : Program} {g : FuncId} {args : List S} {r : S} (h : ACall P g args [] r []) {w : World} {ι : Io} {M : Ms} {vals : List Value} (hl : vals.length = args.length)
    (hv : ∀ j s, args[j]? = some s → RS w ι M s (vals.getD j undef)) (hMB : MB w M) (hF : Fresh ι 0) :
    Calls P g vals.toArray w fun e w' => ∃ v, e = .returned v ∧ (∃ ι' M', RS w' ι' M' r v ∧ (∀ b, M b → M' b)) ∧ Below w.heap.size w w' := by
  have := h.2 w ι M vals hl hv (heapRel_nil _ _ _) hMB hF
  refine Calls.mono this ?_
  rintro e w' ⟨v, rfl, ι', M', h1, h2, h3, h4, h5⟩
  have nl : ∀ b, ¬ Live ι [] b := by rintro b ⟨id, k, c, s, hk, _⟩; simp at hk
  refine ⟨v, rfl, ⟨ι', M', h1, fun b hb => ?_⟩, ⟨h5.os, h5.tape, h5.output, h5.size, fun b hb => h5.keep b hb (nl b)⟩⟩
  rcases h5.mold b hb with h | h
  · exact h
  · exact absurd h (nl b)
theorem gpost_below {w w' : World} {ι : Io} {M : Ms} {s : S} {v : Value} (h : RS w' ι M s v) (hb : Below w.heap.size w w') (hMB : MB w M) (hF : Fresh ι 0) : GPost w ι M [] s [] v w' :=
  ⟨ι, M, h, heapRel_nil _ _ _, fun b hm => Nat.lt_of_lt_of_le (hMB b hm) hb.size, hF,
    ⟨hb.os, hb.tape, hb.output, hb.size, fun b hb' _ => hb.block b hb', fun _ _ => rfl, fun b h => .inl h, fun b h => .inl h, fun b h => by obtain ⟨id, k, c, s, hk, _⟩ := h; simp at hk, Nat.le_refl _⟩⟩
theorem rs_belowB {w w' : World} {ι : Io} {M : Ms} (hb : Below w.heap.size w w') {s : S} {v : Value} (h : RS w ι M s v) : RS w' ι M s v :=
  h.keep (fun b hb' _ => hb.block b hb') (fun b h => .inl h) (fun _ _ h => h)

def chunks (c N : Nat) (x : List Fr) : List (List Fr) := (List.range N).map fun i => (x.drop (i * c)).take c
theorem chunk_len {c N : Nat} {x : List Fr} (hx : x.length = N * c) {i : Nat} (hi : i < N) : ((x.drop (i * c)).take c).length = c := by
  have : (i + 1) * c ≤ N * c := Nat.mul_le_mul_right _ hi
  rw [Nat.succ_mul] at this
  simp; omega
theorem at2_map {α β : Type} (l : List α) (f : α → List β) (i j : Nat) : at2 (l.map f) i j = (l[i]?).bind fun a => (f a)[j]? := by
  simp [at2]
  cases l[i]? <;> rfl

theorem hist_rows {w2 W : World} {M M2 : Ms} {x : List Fr} {A : Option Addr} {len cap b off : Nat} (hx : RT w2 M2 (fracsT x) (.slice A len cap)) {X : Nat} (hk : BelowX X w2.heap.size w2 W) (hX : M2 X) (hM : ∀ k, M k → M2 k)
    {N c : Nat} (hl : x.length = N * c) (hc : 1 ≤ c) {n₀ e : Nat} {v : Value} (hrow : W.ownsRow n₀ e 1 v N ((List.range N).map (ckV b off c))) (hn : ∀ k, M k → k < n₀) (hc2 : c ≤ 1000) (hN : N ≤ maxLen) (hm : 1000 ≤ maxLen) (hA : 0 < N → A = some ⟨b, off, none⟩) :
    RT W M (histT (chunks c N x)) v := by
  cases hx with
  | @sl _ _ _ b' off' cap A f hrow' hcap hmax hk1 hn1 hA' hcc hr hx1 =>
  have cl : ((chunks c N x).map fracsRow).length = N := by simp [chunks]
  have row : ∀ i, i < N → RT W M (fracsT ((x.drop (i * c)).take c)) (ckV b off c i) := by
    intro i hi
    have hlen := chunk_len hl hi
    have ml : (((x.drop (i * c)).take c).map frRow).length = c := by simp only [List.length_map]; exact hlen
    have e0 : ckV b off c i = .slice (some ⟨b, off + i * c * 4, none⟩) (((x.drop (i * c)).take c).map frRow).length c := by rw [ml]; rfl
    have ile : (i + 1) * c ≤ N * c := Nat.mul_le_mul_right _ hi
    rw [Nat.succ_mul] at ile
    have hAA := hA' (by intro h; have h9 := congrArg List.length h; rw [List.length_map, List.length_nil] at h9; omega)
    rw [hA (by omega)] at hAA
    injection hAA with hAA
    injection hAA with h1 h2
    subst h1; subst h2
    rw [e0]
    have key : ∀ r j t, at2 (((x.drop (i * c)).take c).map frRow) r j = some t → at2 (x.map frRow) (i * c + r) j = some t := by
      intro r j t h
      rw [at2_map] at h ⊢
      rw [List.getElem?_take] at h
      split at h
      · rw [List.getElem?_drop] at h; exact h
      · simp at h
    refine .sl (b := b) (off := off + i * c * 4) (fun r j => f (i * c + r) j) ?_ (by rw [ml]; exact Nat.le_refl _) (by omega) (fun h => by cases h) (fun h => by cases h) (fun _ => rfl) ?_ ?_
    · intro r hr'
      obtain ⟨q, hq, rfl⟩ := List.mem_map.1 hr'
      rfl
    · intro r j t ht
      have h3 := hcc _ _ _ (key r j t ht)
      have h4 : off + i * c * 4 + (r * 4 + j) = off + ((i * c + r) * 4 + j) := by rw [Nat.add_mul]; omega
      rw [h4]
      exact ⟨(World.cell?_of_block (hk.block _ (cell_lt h3.1) (fun e => h3.2 (by have e9 : b = X := e; rw [e9]; exact hX)))).trans h3.1, fun h => h3.2 (hM _ h)⟩
    · intro r j t ht
      exact (hr _ _ _ (key r j t ht)).keep (fun b hb hb2 => hk.block b hb (fun e => hb2 (by rw [e]; exact hX))) (fun b h => .inl (hM b h))
  have at1 : ∀ i j t, at2 ((chunks c N x).map fracsRow) i j = some t → i < N ∧ j = 0 ∧ t = fracsT ((x.drop (i * c)).take c) := by
    intro i j t h
    rw [at2_map, chunks, List.getElem?_map] at h
    by_cases hi : i < N
    · rw [List.getElem?_range hi] at h
      cases j with
      | zero => simp [fracsRow] at h; exact ⟨hi, rfl, h.symm⟩
      | succ j => simp [fracsRow] at h
    · rw [List.getElem?_eq_none (by simp; omega)] at h
      simp at h
  have size1 : ∀ r ∈ (chunks c N x).map fracsRow, r.length = 1 := by
    intro r hr'
    obtain ⟨q, hq, rfl⟩ := List.mem_map.1 hr'
    rfl
  rcases hrow.2 with ⟨rfl, h0⟩ | ⟨g, cap1, cur, rfl, hg, hcur, hcap1, hcm, hcs, htake⟩
  · have e1 : Value.slice none 0 0 = .slice none ((chunks c N x).map fracsRow).length 0 := by rw [cl, h0]
    rw [e1]
    refine .sl (b := 0) (off := 0) (fun _ _ => undef) size1 (by rw [cl]; omega) (Nat.zero_le _) (fun h => by cases h) (fun h => by cases h) (fun h => absurd (List.eq_nil_of_length_eq_zero (cl.trans h0)) h) (fun i j t h => ?_) (fun i j t h => ?_)
    · have := (at1 i j t h).1; omega
    · have := (at1 i j t h).1; omega
  · have e1 : Value.slice (some ⟨g, 0, none⟩) N cap1 = .slice (some ⟨g, 0, none⟩) ((chunks c N x).map fracsRow).length cap1 := by rw [cl]
    rw [e1]
    refine .sl (b := g) (off := 0) (fun i _ => ckV b off c i) size1 (by rw [cl]; exact hcap1) hcm (fun h => by cases h) (fun h => by cases h) (fun _ => rfl) (fun i j t h => ?_) (fun i j t h => ?_)
    · obtain ⟨hi, rfl, rfl⟩ := at1 i j t h
      refine ⟨?_, fun h => ?_⟩
      · have h5 : cur[i]? = some (ckV b off c i) := by
          have := congrArg (·[i]?) htake
          simp only [List.getElem?_take, List.getElem?_map, Nat.mul_one] at this
          rw [if_pos hi, List.getElem?_range hi] at this
          simpa using this
        simp [World.cell?, hcur, h5]
      · have := hn _ h; omega
    · obtain ⟨hi, rfl, rfl⟩ := at1 i j t h
      exact row i hi
end Go.Proofs.YtfieodjihaodiaaGreat
/- evidence.History: its walk, by the kit's page on ranges over a function. -/
namespace Go.Proofs.YtfieodjihaodiaaGreat
open Go.RowKit Go.Shelf
set_option linter.unusedVariables false
set_option linter.unusedSimpArgs false
attribute [local go_sem] Oper.semAt_some

theorem ev_vals {w : World} {ι : Io} {M : Ms} {e : Ev} {v : Value} (h : RS w ι M (evS e) v) : ∃ (a b : Int) (v3 : Value) (A4 : Option Addr) (c4 : Nat) (v5 v6 v7 : Value),
    v = .agg #[.int .i64 e.mats, .int .i64 a, .int .i64 b, v3, .slice A4 e.moves.length c4, v5, v6, v7] ∧ v3.oneCell' = true ∧ v5.oneCell' = true ∧ v6.oneCell' = true ∧ v7.oneCell' = true := by
  cases h with
  | agg vs hl hr =>
    match vs, hl, hr with
    | [u0, u1, u2, u3, u4, u5, u6, u7], _, hr =>
      have h0 := hr 0 _ rfl
      have h1 := hr 1 _ rfl
      have h2 := hr 2 _ rfl
      have h3 := hr 3 _ rfl
      have h4 := hr 4 _ rfl
      have h5 := hr 5 _ rfl
      have h6 := hr 6 _ rfl
      have h7 := hr 7 _ rfl
      simp only [List.getD_cons_zero, List.getD_cons_succ] at h0 h1 h2 h3 h4 h5 h6 h7
      have o3 := h3.one
      have o5 := h5.one
      have o6 := h6.one
      have o7 := h7.one
      cases h0 with | t h0 => cases h0 with | atm =>
      cases h1 with | t h1 => cases h1 with | atm =>
      cases h2 with | t h2 => cases h2 with | atm =>
      cases h4 with | t h4 =>
      cases h4 with | @sl _ _ _ b4 off4 cap4 A4 f4 hrow hcap hmax hk hn hA hc hr4 hx =>
      exact ⟨e.hhs, e.scs, u3, A4, cap4, u5, u6, u7, by rw [List.length_map], o3, o5, o6, o7⟩
theorem fr_vals {w : World} {ι : Io} {M : Ms} {x : List Fr} {v : Value} (h : RS w ι M (fracsS x) v) : ∃ (A : Option Addr) (cap : Nat), v = .slice A x.length cap ∧ x.length ≤ cap ∧ cap ≤ maxLen ∧ (x ≠ [] → ∃ b off, A = some ⟨b, off, none⟩) ∧ RT w M (fracsT x) v := by
  cases h with | c h => cases h with | t h =>
  have h' := h
  cases h with | @sl _ _ _ b4 off4 cap4 A4 f4 hrow hcap hmax hk hn hA hc hr4 hx =>
  exact ⟨A4, cap4, by rw [List.length_map], by simpa using hcap, hmax, fun hne => ⟨_, _, hA (by simpa using hne)⟩, h'⟩

theorem wpIn_calm {F : Fence} {n : Nat} {P : Program} {c : Code} {K : Act → World → Prop} {Q : Exit → Act → World → Prop} {a : Act} {w : World} (h : c.wpIn F n P (Exit.then K (fun _ _ _ => False)) a w) : c.wpIn F n P (Exit.then K Q) a w :=
  wpIn_mono h (fun e a w h => by cases e <;> first | exact h | exact h.elim)
theorem ownFrom_belowX {β : Type} {X n₀ B : Nat} {w₀ : World} (hn : n₀ ≤ w₀.heap.size) (hB : n₀ ≤ B) : OwnFrom B (fun (_ : β) W => BelowX X n₀ w₀ W) :=
  fun _ _ _ _ hs hg hr => hs.trans ⟨hg.os, hg.tape, hg.output, hg.size, fun k hk _ => hg.block k (by have := hs.size; omega) (fun e => by have := (hr k e.symm).1; omega)⟩
theorem rowBase {W : World} {base : Nat} {e : TypeId} {size : Nat} {v : Value} {k : Nat} {xs : List Value} (h : W.ownsRow base e size v k xs) : W.ownsRow 0 e size v k xs :=
  ⟨h.1, h.2.imp id fun ⟨g, cap, cur, h1, _, h2⟩ => ⟨g, cap, cur, h1, Nat.zero_le _, h2⟩⟩
theorem appendedX {W w1 : World} {n₀ B : Nat} {t e : TypeId} {size : Nat} {v v' : Value} {k m : Nat} {xs ys : List Value} {tmp : Obj}
    (hv : Boxed W B t v) (hte : t ≠ e) (hrow : W.ownsRow n₀ e size v k xs) (hn₀ : n₀ ≤ W.heap.size)
    (hown' : w1.ownsRow n₀ e size v' m ys) (hgrow : (W.alloc tmp).grownBy w1 v.ownBlock) :
    Boxed w1 B t v ∧ Boxed (w1.setCell ⟨B, 0, none⟩ v') B t v' ∧ (w1.setCell ⟨B, 0, none⟩ v').ownsRow n₀ e size v' m ys ∧ KeepsOthers W (w1.setCell ⟨B, 0, none⟩ v') ∧ BelowX B n₀ W (w1.setCell ⟨B, 0, none⟩ v') := by
  obtain ⟨h1, h2, _, h4, _⟩ := hv.appended (n₀ := 0) hte (rowBase hrow) (Nat.zero_le _) (Nat.zero_le _) (rowBase hown') hgrow
  refine ⟨h1, h2, hown'.kept (grownBy_setCell' w1 B v') (.inr (h1.not_row hte hown').symm), h4, ?_⟩
  refine (BelowX.of (((Below.refl n₀ W).alloc hn₀ tmp).grown hgrow (by simp; omega) fun j ej => ?_)).trans ⟨rfl, rfl, rfl, by simp [World.setCell], fun k _ hk => Below.heap_setCell _ _ _ _ hk⟩
  rcases hrow.2 with ⟨rfl, _⟩ | ⟨g, cap, cur, rfl, hb, _, _⟩
  · simp [Value.ownBlock] at ej
  · obtain rfl : g = j := by simpa [Value.ownBlock] using ej
    exact hb
theorem infoRow : (Tryz.prog.info? 30).map (fun i => (i.zero, i.size, i.bytes)) = some (some (.slice none 0 0), 1, 24) := by kernel_rfl
set_option maxRecDepth 100000 in
set_option maxHeartbeats 4000000 in
theorem hist_walk {w : World} {ι : Io} {M : Ms} (hMB : MB w M) (hF : Fresh ι 0) (e : Ev) (hE : EvSm e) (hck : check e = 0) (x : List Fr) (hx : x.length = e.moves.length * e.mats.toNat) {v0 v1 : Value} (h0 : RS w ι M (evS e) v0) (h1 : RS w ι M (fracsS x) v1)
    (hcl : ∀ W (M1 : Ms), Below w.heap.size w W → (∀ b, M1 b → M b ∨ w.heap.size ≤ b) → MB W M1 → Calls Tryz.prog 46 #[v1] W fun ee w' => ∃ v, ee = .returned v ∧ (∃ ι' M', RS w' ι' M' (fracsS x) v ∧ (∀ b, M1 b → M' b)) ∧ Below W.heap.size W w') :
    Calls Tryz.prog 23 #[v0, v1] w fun ee w' => ∃ v, ee = .returned v ∧ RT w' M (histT (chunks e.mats.toNat e.moves.length x)) v ∧ Below w.heap.size w w' := by
  obtain ⟨i0, hi, hz0, hz1, hz2⟩ := info_parts infoRow
  have hml : (1000 : Nat) ≤ maxLen := by decide
  have hchk : ∀ W, Below w.heap.size w W → Calls Tryz.prog 25 #[v0] W fun ee w' => ee = .returned (.int .i64 0) ∧ Below W.heap.size W w' := by
    intro W hW
    have := a_Check e hE.sz
    rw [hck] at this
    refine (acall_belowM (ι := ι) (M := M) this (vals := [v0]) rfl (fun j s hj => ?_) (fun b hb => Nat.lt_of_lt_of_le (hMB b hb) hW.size) hF).mono ?_
    · cases j with
      | zero => cases hj; exact rs_belowB hW h0
      | succ j => simp at hj
    · rintro ee w' ⟨v, rfl, ⟨ι', M', hr, _⟩, hb⟩
      cases hr with | c hr => cases hr with | t hr => cases hr with | atm =>
      exact ⟨rfl, hb⟩
  obtain ⟨a1, a2, v3, A4, c4, v5, v6, v7, rfl, o3, o5, o6, o7⟩ := ev_vals h0
  obtain ⟨A1, c1, rfl, q1, q2, q3, q4⟩ := fr_vals h1
  obtain ⟨mats, hm⟩ : ∃ n : Nat, e.mats = n := ⟨e.mats.toNat, by have := hE.m1; omega⟩
  rw [hm] at hx
  simp only [hm, Int.toNat_natCast] at hx hchk ⊢
  have m1 : 1 ≤ mats := by have := hE.m1; omega
  have m6 : mats ≤ 6 := by have := hE.m6; omega
  have mv := hE.mv
  have hlen : e.moves.length * mats ≤ 48 := Nat.mul_le_mul mv m6
  have hB0 : Below w.heap.size w (w.alloc (.cells #[.int .i64 (mats : Int), .int .i64 a1, .int .i64 a2, v3, .slice A4 e.moves.length c4, v5, v6, v7] 28)) := (Below.refl _ w).alloc (Nat.le_refl _) _
  refine (callsIn_wide (n := 5)).1 ?_
  refine callsIn_of_wp_marks Tryz.func23 rfl trivial ?_ rfl
  simp only [Tryz.ntmps23, List.size_toArray, List.length_cons, List.length_nil, Nat.reduceAdd, Nat.reduceSub, Array.replicate_succ, Array.replicate_zero, List.push_toArray, List.append_toArray, List.nil_append, List.cons_append]
  obtain ⟨W0, hW0⟩ : ∃ W0, w.alloc (.cells #[.int .i64 (mats : Int), .int .i64 a1, .int .i64 a2, v3, .slice A4 e.moves.length c4, v5, v6, v7] 28) = W0 := ⟨_, rfl⟩
  have b0 : W0.heap[w.heap.size]? = some (.cells #[.int .i64 (mats : Int), .int .i64 a1, .int .i64 a2, v3, .slice A4 e.moves.length c4, v5, v6, v7] 28 (0, 0)) := by rw [← hW0]; exact World.alloc_heap_new w _
  have s0 : W0.heap.size = w.heap.size + 1 := by rw [← hW0]; simp
  have c0 : W0.cell? ⟨w.heap.size, 0, none⟩ = some (.int .i64 (mats : Int)) := by simp [World.cell?, b0]
  have c4' : W0.cell? ⟨w.heap.size, 4, none⟩ = some (.slice A4 e.moves.length c4) := by simp [World.cell?, b0]
  have c1' : W0.cell? ⟨w.heap.size, 1, none⟩ = some (.int .i64 a1) := by simp [World.cell?, b0]
  have c2' : W0.cell? ⟨w.heap.size, 2, none⟩ = some (.int .i64 a2) := by simp [World.cell?, b0]
  have c3' : W0.cell? ⟨w.heap.size, 3, none⟩ = some v3 := by simp [World.cell?, b0]
  have c5' : W0.cell? ⟨w.heap.size, 5, none⟩ = some v5 := by simp [World.cell?, b0]
  have c6' : W0.cell? ⟨w.heap.size, 6, none⟩ = some v6 := by simp [World.cell?, b0]
  have c7' : W0.cell? ⟨w.heap.size, 7, none⟩ = some v7 := by simp [World.cell?, b0]
  rw [hW0] at hB0
  gi_wp2_with (refine ⟨trivial, ?_⟩; gi_at_call 25; (try rw [hW0]); refine (callsIn_wide.2 (hchk _ hB0)).mono ?_; rintro ee W1 ⟨rfl, hB1⟩; have d0 := (hB1.cell (p := ⟨w.heap.size, 0, none⟩) (by show w.heap.size < _; omega)).trans c0; have d4 := (hB1.cell (p := ⟨w.heap.size, 4, none⟩) (by show w.heap.size < _; omega)).trans c4')
  rw [hx] at hcl
  have bO1 := Boxed.new W1 29 (.slice none 0 0)
  have hB2 : Below W1.heap.size W1 (W1.alloc (.cells #[.slice none 0 0] 29)) := (Below.refl _ _).alloc (Nat.le_refl _) _
  have g2 := (hB2.cell (p := ⟨w.heap.size, 0, none⟩) (by show w.heap.size < _; have := hB1.size; omega)).trans d0
  have s2 : (W1.alloc (.cells #[.slice none 0 0] 29)).heap.size = W1.heap.size + 1 := by simp
  obtain ⟨W2, hW2⟩ : ∃ W2, W1.alloc (.cells #[.slice none 0 0] 29) = W2 := ⟨_, rfl⟩
  rw [hW2] at bO1 hB2 g2 s2 ⊢
  have hBw2 : Below w.heap.size w W2 := hB0.trans ((hB1.mono (by omega)).trans (hB2.mono (by have := hB1.size; omega)))
  have hBd : Below w.heap.size w W2.drew := hBw2.trans ((Below.refl _ _).drew)
  have g2d : W2.drew.cell? ⟨w.heap.size, 0, none⟩ = some (.int .i64 (mats : Int)) := g2
  have sd : W2.drew.heap.size = W2.heap.size := rfl
  have hmax : (if (1 : Int) < (mats : Int) then (mats : Int) else 1) = (mats : Int) := by split <;> omega
  have hs02 : w.heap.size < W2.heap.size := by have := hB1.size; omega
  have hMX : ∀ b, (M b ∨ b = W1.heap.size) → M b ∨ w.heap.size ≤ b := fun b h => h.imp id (fun e => by have := hB1.size; omega)
  have hMBX : MB W2.drew (fun b => M b ∨ b = W1.heap.size) := fun b h => by
    show b < W2.heap.size
    rcases h with h | h
    · have := hMB b h; have := hB1.size; omega
    · omega
  have hmx : Tryz.prog.follows .mixedOrders = true := by kernel_rfl
  refine wpIn_calm ?_
  gi_region_with_o (first
    | (refine ⟨trivial, ?_⟩; gi_at_call 46; refine (callsIn_wide.2 (hcl _ (fun b => M b ∨ b = W1.heap.size) hBd hMX hMBX)).mono ?_; rintro ee W3 ⟨vc, rfl, ⟨ι3, M3, hr3, hM3⟩, hB3⟩; have g3 := (hB3.cell (p := ⟨w.heap.size, 0, none⟩) (by show w.heap.size < _; omega)).trans g2d; obtain ⟨A3, c3, rfl, r1, r2, r3, r4⟩ := fr_vals hr3)
    | (refine ⟨trivial, ?_⟩; gi_at_call 45; (try rw [hmax]); refine (callsIn_wide.2 (ck_make _ _ _ mats m1 (by omega) _)).mono ?_; rintro ee W4 ⟨rfl, hW4⟩))
  all_goals
    have sB : W1.heap.size < W3.heap.size := by have := hB3.size; have e9 : W2.drew.heap.size = W2.heap.size := rfl; omega
    have o3' : Boxed W3 W1.heap.size 29 (.slice none 0 0) := (hB3.block _ (by show _ < W2.heap.size; omega)).trans bO1
    have bS := Boxed.new W3 30 (.slice A3 (e.moves.length * mats) c3)
    have bN := Boxed.new (W3.alloc (.cells #[.slice A3 (e.moves.length * mats) c3] 30)) 3 (.int .i64 (mats : Int))
    have bS2 := bS.alloc (.cells #[.int .i64 (mats : Int)] 3)
    have o5' := (o3'.alloc (.cells #[.slice A3 (e.moves.length * mats) c3] 30)).alloc (.cells #[.int .i64 (mats : Int)] 3)
    have hB5 : Below W3.heap.size W3 ((W3.alloc (.cells #[.slice A3 (e.moves.length * mats) c3] 30)).alloc (.cells #[.int .i64 (mats : Int)] 3)) := ((Below.refl _ W3).alloc (Nat.le_refl _) _).alloc (by simp) _
    have s5 : ((W3.alloc (.cells #[.slice A3 (e.moves.length * mats) c3] 30)).alloc (.cells #[.int .i64 (mats : Int)] 3)).heap.size = W3.heap.size + 1 + 1 := by simp
    rw [World.size_alloc] at bN
    obtain ⟨W5, hW5⟩ : ∃ W5, (W3.alloc (.cells #[.slice A3 (e.moves.length * mats) c3] 30)).alloc (.cells #[.int .i64 (mats : Int)] 3) = W5 := ⟨_, rfl⟩
    rw [hW5] at bN bS2 o5' hB5 s5 ⊢
    clear hW5
    gi_wp2
    obtain ⟨b, off, hCk, hA3⟩ : ∃ b off, CkOK b off mats e.moves.length (.slice A3 (e.moves.length * mats) c3) ∧ (0 < e.moves.length → A3 = some ⟨b, off, none⟩) := by
      by_cases hz : e.moves.length = 0
      · exact ⟨0, 0, .inl ⟨hz, A3, c3, by rw [hz, Nat.zero_mul]⟩, fun h => absurd hz (by omega)⟩
      · have hp : 1 * 1 ≤ e.moves.length * mats := Nat.mul_le_mul (by omega) m1
        obtain ⟨b, off, hb⟩ := r3 (by intro h; rw [h] at hx; simp only [List.length_nil] at hx; omega)
        exact ⟨b, off, .inr ⟨c3, by rw [hb], by omega⟩, fun _ => hb⟩
    refine wpIn_rangeFunc_ownG (n := 5) rfl (by omega) (gf := 87) (lb := #[.pointer (some ⟨W3.heap.size, 0, none⟩), .pointer (some ⟨W3.heap.size + 1, 0, none⟩)]) rfl trivial (enters_of Tryz.func87 (by kernel_rfl) rfl)
      (ck_stops Fence.wide _ trivial rfl (by omega) W1.heap.size W3.heap.size (W3.heap.size + 1) W5.heap.size b off mats e.moves.length _ (by omega) (by omega) (by omega) (by omega) m1 (by omega) (by omega) hCk W5 (Nat.le_refl _) bS2.cell bN.cell)
      BelowX.trans (fun W l o o' h1 h2 h3 h4 => BelowX.of (belowK_b (Nat.le_refl _) W l o o' h1 h2 h3 h4)) (Below.refl _ _) (fun _ => rfl)
      (fun pre W => (∃ v, Boxed W W1.heap.size 29 v ∧ W.ownsRow W5.heap.size 30 1 v pre.length (pre.map (ckV b off mats)) ∧ True) ∧ BelowX W1.heap.size W5.heap.size W5 W)
      (fun _ _ _ => False)
      (OwnFrom.and (Own.from (holdsRow_own W5.heap.size W1.heap.size 29 30 1 (fun pre : List Nat => pre.length) (fun pre : List Nat => pre.map (ckV b off mats)) (fun _ _ => True)) _) (ownFrom_belowX (Nat.le_refl _) (Nat.le_refl _)))
      (fun _ _ _ _ _ hs _ _ => hs)
      ⟨⟨_, o5', World.ownsRow_nil _ _ _ _, trivial⟩, BelowX.refl _ _ _⟩
      (fun i => { tmps := #[.agg #[.int .i64 (mats : Int), .int .i64 a1, .int .i64 a2, v3, .slice A4 e.moves.length c4, v5, v6, v7], .slice A1 (e.moves.length * mats) c1, .pointer (some ⟨w.heap.size, 0, none⟩), undef, .slice none 0 0, .pointer (some ⟨W1.heap.size, 0, none⟩), ckV b off mats i,
        .agg #[.int .i64 (mats : Int), .int .i64 a1, .int .i64 a2, v3, .slice A4 e.moves.length c4, v5, v6, v7], .int .i64 0, .bool false, .bool false, .slice A1 (e.moves.length * mats) c1, .int .i64 ((e.moves.length : Int) * mats), .pointer (some ⟨w.heap.size, 4, none⟩), .slice A4 e.moves.length c4, .int .i64 (e.moves.length : Int), .pointer (some ⟨w.heap.size, 0, none⟩), .int .i64 (mats : Int), .int .i64 ((e.moves.length : Int) * mats), .bool false, .bool false,
        .slice A1 (e.moves.length * mats) c1, .slice A3 (e.moves.length * mats) c3, .pointer (some ⟨w.heap.size, 0, none⟩), .int .i64 (mats : Int), .int .i64 (mats : Int), .func (.func 87) #[] #[.pointer (some ⟨W3.heap.size, 0, none⟩), .pointer (some ⟨W3.heap.size + 1, 0, none⟩)], ckV b off mats i, undef, undef, undef, undef, undef], defers := [] }) ?assign ?body ?done ?stop
    case assign =>
      intro l i W K hK
      gi_wp2
      exact hK
    case body =>
      rintro l pre i W ⟨⟨v, hv, hrow, -⟩, hB⟩ hlt
      have hc := hv.cell
      simp only [ckV]
      gi_wp2_with (gi_at_builtin; refine wpListIn_append_own _ rfl _ _ 29 rfl W5.heap.size 30 i0 (.slice none 0 0) 1 24 Tryz.underlying29 hi hz0 hz1 hz2 rfl (by decide) _ _ _ rfl (hrow.alloc _) ⟨W.heap.size, 0, none⟩ 1 1 [.slice (some ⟨b, off + i * mats * 4, none⟩) mats mats] rfl rfl (cell_one_new _ _ _) (by simp [Value.oneCell']) (by omega) (by omega) (by have := hB.size; simp; omega) ?_; intro v' w1 hown' hgrow _; obtain ⟨g', cap', rfl⟩ := ownsRow_succ hown'; obtain ⟨hv1, hv2, hr2, hk2, hb2⟩ := appendedX hv (by decide) hrow hB.size hown' hgrow; have hc1 := hv1.cell; have hf1 := hv1.frozen)
      exact ⟨hk2.from _, hb2, ⟨_, hv2, by rw [List.length_append, List.map_append]; exact hr2, trivial⟩, hB.trans hb2⟩
    case done =>
      rintro D ys W hD rfl ⟨⟨v, hv, hrow, -⟩, hB⟩ hK
      have hc := hv.cell
      gi_wp2
      refine ⟨by simp, .inl ⟨_, _, rfl, run_takeDeferred hK, ?_⟩⟩
      rw [List.length_range] at hrow
      have hfin : BelowX W1.heap.size W5.heap.size W5 (W.putObj D (.deferred none)) := hB.trans (BelowX.of (belowK_b (w := W5) (Nat.le_refl _) W D _ _ hD hK rfl rfl))
      have e9 : W2.drew.heap.size = W2.heap.size := rfl
      have h93 := hB3.size
      have h91 := hB1.size
      have h92 := hBd.size
      refine ⟨_, results_tmp rfl _ _ _, v, rfl, hist_rows (w2 := W3) (X := W1.heap.size) r4 ((BelowX.of hB5).trans (hfin.mono (by omega))) (hM3 _ (.inr rfl)) (fun k h => hM3 k (.inl h)) hx m1 (ownsRow_putObj hrow _ hK rfl) (fun k h => by have := hMB k h; omega) (by omega) (by omega) hml hA3, ?_⟩
      exact hBd.trans ((hB3.mono (by omega)).trans ((hB5.mono (by omega)).trans (hfin.low (by omega) (by omega))))
    case stop =>
      rintro D c pre W _ _ h _
      exact h.elim
end Go.Proofs.YtfieodjihaodiaaGreat
/- evidence.History: its contract. -/
namespace Go.Proofs.YtfieodjihaodiaaGreat
open Go.RowKit
set_option linter.unusedVariables false
set_option linter.unusedSimpArgs false
set_option maxRecDepth 100000

theorem a_CloneNul : ACall Tryz.prog 46 [.c (.t (.sl 4 .nul []))] [] (.c (.t (.sl 4 .any []))) [] := by
  (refine acall_of tab_ok Tryz.func46 rfl (by decide) ?_; (conv => whnf); repeat (first | (refine LitB.data ?_; conv => whnf) | (refine BoxB.own ?_; conv => whnf)))
  (repeat' (first | ((refine DecB.mk (fun h => ?_) (fun h => ?_)) <;> first | (exfalso; omega) | (conv => whnf)) | ((refine BoolB.mk (fun h => ?_) (fun h => ?_)) <;> first | (exact absurd h (by decide)) | (conv => whnf)) | ((first | refine ⟨_, wrap_ok (by omega) (by omega), ?_⟩ | refine and_idx (by omega) (by omega) ?_ | refine reg_ok (by decide +kernel) ?_ | refine bar_ok (by decide +kernel) (by decide +kernel) ?_ | refine late_ok rfl rfl ?_ | refine src_ok rfl ?_ | refine LitB.data ?_ | refine BoxB.own ?_); conv => whnf)))
  exact fin_t rfl
theorem a_CloneNon : ACall Tryz.prog 46 [.c (.t (.sl 4 .non []))] [] (.c (.t (.sl 4 .any []))) [] := by
  (refine acall_of tab_ok Tryz.func46 rfl (by decide) ?_; (conv => whnf); repeat (first | (refine LitB.data ?_; conv => whnf) | (refine BoxB.own ?_; conv => whnf)))
  (repeat' (first | ((refine DecB.mk (fun h => ?_) (fun h => ?_)) <;> first | (exfalso; omega) | (conv => whnf)) | ((refine BoolB.mk (fun h => ?_) (fun h => ?_)) <;> first | (exact absurd h (by decide)) | (conv => whnf)) | ((first | refine ⟨_, wrap_ok (by omega) (by omega), ?_⟩ | refine and_idx (by omega) (by omega) ?_ | refine reg_ok (by decide +kernel) ?_ | refine bar_ok (by decide +kernel) (by decide +kernel) ?_ | refine late_ok rfl rfl ?_ | refine src_ok rfl ?_ | refine app_nil rfl (by decide) ?_ | refine LitB.data ?_ | refine BoxB.own ?_); conv => whnf)))
  exact fin_own rfl (by intro h; cases h) rfl rfl rfl
theorem cl_empty {w : World} {M : Ms} {A : Option Addr} {cap : Nat} (h : RT w M (.sl 4 .any []) (.slice A 0 cap)) : RT w M (.sl 4 (if A = none then .nul else .non) []) (.slice A 0 cap) := by
  cases h with
  | @sl _ _ _ b off cap A f hrow hcap hmax hk1 hn hA hc hr hx =>
    refine .sl (rows := []) (b := 0) (off := 0) (fun _ _ => undef) (by simp) (Nat.zero_le _) hmax (fun h => by split at h <;> cases h) (fun h => by split at h <;> cases h) (fun h => absurd rfl h) (fun i j c h => by simp [at2] at h) (fun i j c h => by simp [at2] at h) ⟨fun h => ⟨rfl, ?_⟩, fun h => ?_⟩
    · split at h
      · assumption
      · cases h
    · split at h
      · cases h
      · assumption
set_option maxHeartbeats 4000000 in
theorem a_EHist1 (e : Ev) (hE : EvSm e) (hck : check e = 0) (x : List Fr) (hx : x.length = e.moves.length * e.mats.toNat) :
    ACall Tryz.prog 23 [evS e, fracsS x] [] (histS (chunks e.mats.toNat e.moves.length x)) [] := by
  refine ⟨⟨Tryz.f23, Tryz.func23, rfl, by decide⟩, fun w ι M vals hl hr hH hM hF => ?_⟩
  match vals, hl, hr with
  | [v0, v1], _, hr =>
  have h0 := hr 0 _ rfl
  have h1 := hr 1 _ rfl
  simp only [List.getD_cons_zero, List.getD_cons_succ] at h0 h1
  have one : ∀ {s : S} {v : Value} {W : World} {M1 : Ms}, RS W ι M1 s v → ∀ (j : Nat) (s' : S), [s][j]? = some s' → RS W ι M1 s' ([v].getD j undef) := by
    intro s v W M1 h j s' hj
    cases j with
    | zero => cases hj; exact h
    | succ j => simp at hj
  refine (hist_walk hM hF e hE hck x hx h0 h1 ?_).mono ?_
  · intro W M1 hW hm hMB1
    have h1' : RS W ι M1 (fracsS x) v1 := h1.keep (fun b hb _ => hW.block b hb) hm (fun _ _ h => h)
    by_cases hx0 : x = []
    · subst hx0
      obtain ⟨A, cap, rfl, _, _, _, rt⟩ := fr_vals h1'
      have rt2 := cl_empty rt
      by_cases hA : A = none
      · rw [if_pos hA] at rt2
        exact acall_belowM (vals := [_]) a_CloneNul rfl (one (.c (.t rt2))) hMB1 hF
      · rw [if_neg hA] at rt2
        exact acall_belowM (vals := [_]) a_CloneNon rfl (one (.c (.t rt2))) hMB1 hF
    · have hp : 0 < x.length := List.length_pos_iff.2 hx0
      have hb : x.length ≤ 8 * 6 := by rw [hx]; exact Nat.mul_le_mul hE.mv (by have := hE.m6; omega)
      exact acall_belowM (vals := [_]) (a_CloneF x hp (by omega)) rfl (one h1') hMB1 hF
  · rintro ee w' ⟨v, rfl, hrt, hb⟩
    exact ⟨v, rfl, gpost_below (.c (.t hrt)) hb hM hF⟩
/-- what History returns -/
def histR (e : Ev) (x : List Fr) : List (List Fr) := if check e ≠ 0 ∨ (x.length : Int) ≠ (e.moves.length : Int) * e.mats then [] else chunks e.mats.toNat e.moves.length x
theorem a_EHist (e : Ev) (hs : e.Sized) (hE : check e = 0 → EvSm e) (x : List Fr) (hx : x.length ≤ 100000) : ACall Tryz.prog 23 [evS e, fracsS x] [] (histS (histR e x)) [] := by
  unfold histR
  by_cases h : check e ≠ 0 ∨ (x.length : Int) ≠ (e.moves.length : Int) * e.mats
  · rw [if_pos h]; exact a_EHist0 e hs hE x hx h
  · rw [if_neg h]
    obtain ⟨h0, h1⟩ : check e = 0 ∧ (x.length : Int) = (e.moves.length : Int) * e.mats := by omega
    refine a_EHist1 e (hE h0) h0 x ?_
    have hm : e.mats = (e.mats.toNat : Int) := by have := (hE h0).m1; omega
    rw [hm] at h1
    exact_mod_cast h1
end Go.Proofs.YtfieodjihaodiaaGreat
/- the system of evidence: its size; its solutions are the histories, as the program sees them. -/
namespace Go.Proofs.YtfieodjihaodiaaGreat
open Go.RowKit
set_option linter.unusedVariables false
set_option linter.unusedSimpArgs false
set_option maxRecDepth 100000

theorem rl_mid {n : Int} (h1 : -10000 ≤ n) (h2 : n ≤ 10000) : rl ((n : Int) : Rat) ≤ 200 := by
  rw [rl_int]; have := bl_int (x := n) (by omega) (by omega); omega
theorem termsE_b {e : Ev} {p : Int} {m : Nat} : ∀ k, (termsE e p m k).length ≤ k ∧ ∀ t ∈ termsE e p m k, t.2 = ((1 : Int) : Rat) ∨ t.2 = ((-1 : Int) : Rat)
  | 0 => ⟨Nat.le_refl _, fun t ht => by cases ht⟩
  | k + 1 => by
    obtain ⟨h1, h2⟩ := termsE_b (e := e) (p := p) (m := m) k
    unfold termsE
    split
    · exact ⟨by omega, h2⟩
    · split
      · refine ⟨by simp; omega, fun t ht => ?_⟩
        rcases List.mem_append.1 ht with ht | ht
        · exact h2 t ht
        · simp at ht; subst ht; exact .inr rfl
      · split
        · refine ⟨by simp; omega, fun t ht => ?_⟩
          rcases List.mem_append.1 ht with ht | ht
          · exact h2 t ht
          · simp at ht; subst ht; exact .inl rfl
        · exact ⟨by omega, h2⟩
theorem sumT_b {e : Ev} {i : Nat} {b own more : Int} : ∀ n, ∀ t ∈ sumT e i b own more n, t.2 = ((b : Int) : Rat) ∨ t.2 = ((b + more : Int) : Rat)
  | 0, t, ht => by cases ht
  | n + 1, t, ht => by
    have ih := sumT_b (e := e) (i := i) (b := b) (own := own) (more := more) n
    unfold sumT at ht
    split at ht
    · rcases List.mem_append.1 ht with ht | ht
      · exact ih t ht
      · simp at ht; subst ht
        unfold coefS
        split
        · exact .inr rfl
        · exact .inl rfl
    · exact ih t ht
theorem row_sm {e : Ev} (hE : EvSm e) {w : RowP × OrP} (h : w ∈ evRows e) : w.1.terms.length ≤ 100 ∧ (∀ t ∈ w.1.terms, rl t.2 ≤ 200) ∧ rl w.1.value ≤ 200 := by
  have h6 := hE.m6
  have hmv := hE.mv
  have m1 := rl_mid (n := 1) (by decide) (by decide)
  have m2 := rl_mid (n := -1) (by decide) (by decide)
  have m0 := rl_mid (n := 0) (by decide) (by decide)
  obtain ⟨i, x, hi, hx, hw⟩ := evTo_mem h
  have sum : ∀ (b own more : Int), -2000 ≤ b → b ≤ 2000 → -2000 ≤ more → more ≤ 2000 → (sumA e i b own more).length ≤ 100 ∧ ∀ t ∈ sumA e i b own more, rl t.2 ≤ 200 := by
    intro b own more b1 b2 b3 b4
    have hl := sumT_le (e := e) (i := i) (b := b) (own := own) (more := more) e.mats.toNat
    refine ⟨by unfold sumA; omega, fun t ht => ?_⟩
    rcases sumT_b _ t ht with h | h
    · rw [h]; exact rl_mid (by omega) (by omega)
    · rw [h]; exact rl_mid (by omega) (by omega)
  rcases moveP_mem hw with ⟨_, m, hm, rfl⟩ | ⟨lo, hi', hiv, hw⟩ | ⟨k, p, hk, hpm, hw⟩
  · obtain ⟨h1, h2⟩ := termsE_b (e := e) (p := x.src) (m := m) (i + 1)
    refine ⟨by show (termsE e x.src m (i + 1)).length ≤ 100; omega, fun t ht => ?_, m0⟩
    rcases h2 t ht with h | h <;> rw [h] <;> assumption
  · have hb : rl lo ≤ 200 ∧ rl hi' ≤ 200 := by
      unfold ivOf at hiv
      by_cases hs : x.scale = -1
      · rw [if_pos hs] at hiv; cases hiv
      · rw [if_neg hs] at hiv
        have := rl_interval hiv
        omega
    have s := sum 1 (-1) 0 (by decide) (by decide) (by decide) (by decide)
    rcases hw with rfl | rfl
    · exact ⟨s.1, s.2, hb.1⟩
    · exact ⟨s.1, s.2, hb.2⟩
  · have q := hE.pq p (List.mem_of_getElem? hk)
    have s1 := sum (-p.least) p.mat 1000 (by omega) (by omega) (by decide) (by decide)
    have s2 := sum p.most p.mat (-1000) (by omega) (by omega) (by decide) (by decide)
    simp only [pur2, List.mem_cons, List.not_mem_nil, or_false] at hw
    rcases hw with rfl | rfl
    · exact ⟨s1.1, s1.2, m0⟩
    · exact ⟨s2.1, s2.2, m0⟩
theorem ev_sb {e : Ev} (hE : EvSm e) : SysB (evSys e) := by
  refine ⟨?_, fun w hw => ?_⟩
  · have := evTo_small hE (Nat.le_refl _)
    show ((evRows e).map Prod.fst).length ≤ _
    rw [List.length_map]
    show (evTo e e.moves.length).length ≤ _
    omega
  · obtain ⟨p, hp, rfl⟩ := List.mem_map.1 (show w ∈ (evRows e).map Prod.fst from hw)
    exact row_sm hE hp
end Go.Proofs.YtfieodjihaodiaaGreat
/- law 16: the example, row. -/
namespace Go.Proofs.YtfieodjihaodiaaGreat
open Go.RowKit
set_option linter.unusedVariables false
set_option linter.unusedSimpArgs false
set_option maxRecDepth 100000

def rowTo (l : List Int) : Nat → List (Int × Rat)
  | 0 => []
  | k + 1 => match l[k]? with
    | none => rowTo l k
    | some c => if c ≠ 0 then rowTo l k ++ [((k : Int), (c : Rat))] else rowTo l k
def rowW (l : List Int) (kind v : Int) : RowP := ⟨rowTo l l.length, kind, (v : Rat)⟩
theorem rowTo_le {l : List Int} : ∀ k, (rowTo l k).length ≤ k
  | 0 => by simp [rowTo]
  | k + 1 => by
    have ih := rowTo_le (l := l) k
    unfold rowTo
    split
    · omega
    · split
      · simp; omega
      · omega
abbrev rwB (r n : Nat) (kind : Int) (v : Rat) : Blk := { mode := .live, elem := 65, size := 6, rows := [.own r 0 n true :: .t (ti kind) :: frC (fz v)], box := true }
abbrev rwZ : Blk := { mode := .live, elem := 65, size := 6, rows := [[.t (termsT []), .t (ti 0), .t (ti 0), .t (intsT []), .t (ti 0), .t (intsT [])]], box := true }
set_option maxHeartbeats 4000000 in
theorem a_row16 (l : List Int) (kind v : Int) (hl : l.length ≤ 1000) (hs : ∀ c ∈ l, -1000000 ≤ c ∧ c ≤ 1000000) (hv : -1000000 ≤ v ∧ v ≤ 1000000) :
    ACall Tryz.prog 34 [intsS l, intS .i64 kind, intS .i64 v] [] (rowS (rowW l kind v)) [] := by
  have i0 := r5Int v (by omega) (by omega)
  have m1 : (l.map intRow).length = l.length := by simp
  (refine acall_of tab_ok Tryz.func34 rfl (by decide) ?_; (conv => whnf); repeat (first | (refine LitB.data ?_; conv => whnf) | (refine BoxB.own ?_; conv => whnf)))
  (repeat' (first | ((refine DecB.mk (fun h => ?_) (fun h => ?_)) <;> first | (exfalso; omega) | (conv => whnf)) | ((refine BoolB.mk (fun h => ?_) (fun h => ?_)) <;> first | (exact absurd h (by decide)) | (conv => whnf)) | ((first | refine ⟨_, wrap_ok (by omega) (by omega), ?_⟩ | refine and_idx (by omega) (by omega) ?_ | refine reg_ok (by decide +kernel) ?_ | refine bar_ok (by decide +kernel) (by decide +kernel) ?_ | refine late_ok rfl rfl ?_ | refine src_ok rfl ?_ | refine .inl ⟨_, _, qcall_pure (i0) rfl rfl, ?_⟩ | refine LitB.data ?_ | refine BoxB.own ?_); conv => whnf)))
  refine awp_for tab_ok (fun k => ([intsS l, J, J, J, J, J, S.c (C.ptr 0 0 0), S.c (C.ptr 1 0 0), intS .i64 k, J, J, J, J, J, J, J, J, J, J, J, J, J, J, J, J, J, J, J, J, J, J, J, J, J, J, J, J], [rwZ, rwB 2 (rowTo l k).length kind (v : Rat), termsB (rowTo l k)])) l.length (fun _ => True) [some 0, some 1, none] trivial
    ⟨rfl, rfl, ⟨⟨rfl, rfl, rfl, .inr ⟨⟨rfl, rfl, rfl, rfl, rfl, rfl, trivial⟩, trivial⟩⟩, ⟨rfl, rfl, rfl, .inr ⟨⟨⟨rfl, rfl, rfl⟩, rfl, rfl, rfl, rfl, rfl, trivial⟩, trivial⟩⟩, ⟨rfl, rfl⟩, trivial⟩, ⟨rfl, ⟨rfl, rfl, rfl⟩, ⟨rfl, rfl, rfl⟩, rfl, trivial⟩⟩ ?_
  intro k hk _
  have lk := rowTo_le (l := l) k
  by_cases hlt : k < l.length
  · obtain ⟨c, hc⟩ : ∃ c, l[k]? = some c := ⟨_, List.getElem?_eq_getElem hlt⟩
    have hcb := hs c (List.mem_of_getElem? hc)
    have ic := r5Int c (by omega) (by omega)
    have lA : (rowTo l k).length ≤ (termsB (rowTo l k)).rows.length := by show _ ≤ (toC _).length; simp [toC]
    have lC : ((rowTo l k).length + 1) * 73 ≤ 140737488355328 := by omega
    have eT : rowTo l (k + 1) = if c ≠ 0 then rowTo l k ++ [((k : Int), (c : Rat))] else rowTo l k := by rw [rowTo, hc]
    by_cases h0 : c ≠ 0
    · rw [if_pos h0] at eT
      conv => whnf
      (repeat' (first | ((refine DecB.mk (fun h => ?_) (fun h => ?_)) <;> first | (exfalso; omega) | (conv => whnf)) | ((refine BoolB.mk (fun h => ?_) (fun h => ?_)) <;> first | (exact absurd h (by decide)) | (conv => whnf)) | ((first | refine ⟨_, wrap_ok (by omega) (by omega), ?_⟩ | refine and_idx (by omega) (by omega) ?_ | refine reg_ok (by decide +kernel) ?_ | refine bar_ok (by decide +kernel) (by decide +kernel) ?_ | refine late_ok rfl rfl ?_ | refine src_ok rfl ?_ | refine .inl ⟨_, _, qcall_pure (ic) rfl rfl, ?_⟩ | refine ex_row hc ?_ | refine app_ok lA lC ?_ | refine LitB.data ?_ | refine BoxB.own ?_); conv => whnf)))
      all_goals try (exfalso; omega)
      refine ⟨hlt, trivial, [some 0, some 1, some 3], rfl, rfl, ⟨⟨rfl, rfl, rfl, .inr ⟨⟨rfl, rfl, rfl, rfl, rfl, rfl, trivial⟩, trivial⟩⟩, ⟨rfl, rfl, rfl, .inr ⟨⟨⟨rfl, rfl, ?_, fun h => h⟩, rfl, rfl, rfl, rfl, rfl, trivial⟩, trivial⟩⟩, entB_rows rfl rfl rfl ?_ rfl, trivial⟩, ⟨rfl, ⟨rfl, rfl, rfl⟩, ⟨rfl, rfl, rfl⟩, rfl, trivial⟩⟩
      · rw [eT]; simp [toC]
      · rw [eT]; exact ext_termsE (w := ((k : Int), (c : Rat))) rfl
    · rw [if_neg h0] at eT
      conv => whnf
      (repeat' (first | ((refine DecB.mk (fun h => ?_) (fun h => ?_)) <;> first | (exfalso; omega) | (conv => whnf)) | ((refine BoolB.mk (fun h => ?_) (fun h => ?_)) <;> first | (exact absurd h (by decide)) | (conv => whnf)) | ((first | refine ⟨_, wrap_ok (by omega) (by omega), ?_⟩ | refine and_idx (by omega) (by omega) ?_ | refine reg_ok (by decide +kernel) ?_ | refine bar_ok (by decide +kernel) (by decide +kernel) ?_ | refine late_ok rfl rfl ?_ | refine src_ok rfl ?_ | refine ex_row hc ?_ | refine LitB.data ?_ | refine BoxB.own ?_); conv => whnf)))
      all_goals try (exfalso; omega)
      refine ⟨hlt, trivial, [some 0, some 1, some 2], rfl, rfl, ⟨⟨rfl, rfl, rfl, .inr ⟨⟨rfl, rfl, rfl, rfl, rfl, rfl, trivial⟩, trivial⟩⟩, ⟨rfl, rfl, rfl, .inr ⟨⟨⟨rfl, rfl, ?_, fun h => h⟩, rfl, rfl, rfl, rfl, rfl, trivial⟩, trivial⟩⟩, entB_rows rfl rfl rfl ?_ rfl, trivial⟩, ⟨rfl, ⟨rfl, rfl, rfl⟩, ⟨rfl, rfl, rfl⟩, rfl, trivial⟩⟩
      · rw [eT]
      · rw [eT]
  · have hke : k = l.length := by omega
    subst hke
    conv => whnf
    (repeat' (first | ((refine DecB.mk (fun h => ?_) (fun h => ?_)) <;> first | (exfalso; omega) | (conv => whnf)) | ((refine BoolB.mk (fun h => ?_) (fun h => ?_)) <;> first | (exact absurd h (by decide)) | (conv => whnf)) | ((first | refine ⟨_, wrap_ok (by omega) (by omega), ?_⟩ | refine and_idx (by omega) (by omega) ?_ | refine reg_ok (by decide +kernel) ?_ | refine bar_ok (by decide +kernel) (by decide +kernel) ?_ | refine late_ok rfl rfl ?_ | refine src_ok rfl ?_ | refine LitB.data ?_ | refine BoxB.own ?_); conv => whnf)))
    all_goals try (exfalso; omega)
    exact fin_t ⟨show VC _ (fun id => notIn [] id = true) _ _ from vc_all rfl rfl (by intro h; cases h) rfl rfl (by simp [rowW]), rfl, rfl, rfl, rfl, rfl, trivial⟩
def exE16 : Ev := ⟨2, 1, 1, [⟨0, 0, 0⟩, ⟨2, -1, -1⟩, ⟨5, -1, -1⟩], [⟨1, 0, 1, 0, 100, false⟩, ⟨2, 1, 2, -1, 0, true⟩], [⟨0, 0, 9, 5, 0, 0⟩], [], [⟨0, 0, 900, 1000⟩]⟩
theorem a_Example16 : ACall Tryz.prog 33 [] [] (evS exE16) [] := by
  (refine acall_of tab_ok Tryz.func33 rfl (by decide) ?_; (conv => whnf); repeat (first | (refine LitB.data ?_; conv => whnf) | (refine BoxB.own ?_; conv => whnf)))
  (repeat' (first | ((refine DecB.mk (fun h => ?_) (fun h => ?_)) <;> first | (exfalso; omega) | (conv => whnf)) | ((refine BoolB.mk (fun h => ?_) (fun h => ?_)) <;> first | (exact absurd h (by decide)) | (conv => whnf)) | ((first | refine ⟨_, wrap_ok (by omega) (by omega), ?_⟩ | refine and_idx (by omega) (by omega) ?_ | refine reg_ok (by decide +kernel) ?_ | refine bar_ok (by decide +kernel) (by decide +kernel) ?_ | refine late_ok rfl rfl ?_ | refine src_ok rfl ?_ | refine LitB.weak ?_ | refine LitB.data ?_ | refine BoxB.own ?_); conv => whnf)))
  exact fin_t ⟨rfl, rfl, rfl, rfl, rfl, rfl, rfl, rfl, trivial⟩
end Go.Proofs.YtfieodjihaodiaaGreat
/- law 16: sane. -/
namespace Go.Proofs.YtfieodjihaodiaaGreat
open Go.RowKit
set_option linter.unusedVariables false
set_option linter.unusedSimpArgs false
set_option maxRecDepth 100000

instance : DecidableEq RowP := fun a b => decidable_of_iff (a.terms = b.terms ∧ a.kind = b.kind ∧ a.value = b.value) ⟨fun ⟨h1, h2, h3⟩ => by cases a; cases b; simp_all, fun h => by subst h; exact ⟨rfl, rfl, rfl⟩⟩
instance : DecidableEq SysP := fun a b => decidable_of_iff (a.n = b.n ∧ a.rows = b.rows) ⟨fun ⟨h1, h2⟩ => by cases a; cases b; simp_all, fun h => by subst h; exact ⟨rfl, rfl⟩⟩
instance : DecidableEq OrP := fun a b => decidable_of_iff (a.kind = b.kind ∧ a.mv = b.mv ∧ a.mat = b.mat ∧ a.idx = b.idx) ⟨fun ⟨h1, h2, h3, h4⟩ => by cases a; cases b; simp_all, fun h => by subst h; exact ⟨rfl, rfl, rfl, rfl⟩⟩
def exS16 : SysP := ⟨4, [rowW [1, 1] 0 95, rowW [1, 1] 1 105, rowW [100, -900] 0 0, rowW [0, 1000] 0 0, rowW [1, 0, -1] 2 0, rowW [0, 1, 0, -1] 2 0]⟩
theorem ex16_sys : evSysR exE16 = exS16 := by decide +kernel
theorem ex16_check : check exE16 = 0 := by decide +kernel
theorem ex16_o4 : orAt exE16 4 = some ⟨0, 1, 0, -1⟩ := by decide +kernel
theorem ex16_o3 : orAt exE16 3 = some ⟨4, 0, -1, 0⟩ := by decide +kernel
theorem ex16_o6 : orAt exE16 6 = none := by decide +kernel
theorem ex16_sm : EvSm exE16 := ⟨⟨by simp [exE16], by simp [exE16], by simp [exE16], by simp [exE16], by simp [exE16]⟩, by decide, by decide, by decide, by decide, by decide, by decide⟩
def exX16 : List Fr := [fz ((99 : Int) : Rat), fz ((1 : Int) : Rat), fz ((99 : Int) : Rat), fz ((1 : Int) : Rat)]
def exH16 : List (List Fr) := [[fz ((99 : Int) : Rat), fz ((1 : Int) : Rat)], [fz ((99 : Int) : Rat), fz ((1 : Int) : Rat)]]
theorem ex16_hist : histR exE16 exX16 = exH16 := by
  unfold histR
  rw [if_neg (by rw [ex16_check]; decide)]
  rfl
theorem ex16_holds : solB exS16 exX16 = true := by decide +kernel
theorem ex16_hc : histCheck exE16 exH16 = 0 := by decide +kernel
theorem ex16_pt : pointR exE16 exH16 = exX16 := by
  unfold pointR
  rw [if_neg (by rw [ex16_check]; decide)]
  rfl
theorem ex16_right : rightSys exS16 = true := by decide +kernel
def rowSm16 (w : RowP) : Bool := decide (w.terms.length ≤ 100) && w.terms.all (fun t => decide (rl t.2 ≤ 200)) && decide (rl w.value ≤ 200)
theorem ex16_rows : exS16.rows.all rowSm16 = true := by decide +kernel
theorem sm16_get {w : RowP} (h : rowSm16 w = true) : w.terms.length ≤ 100 ∧ (∀ t ∈ w.terms, rl t.2 ≤ 200) ∧ rl w.value ≤ 200 := by
  unfold rowSm16 at h
  simp only [Bool.and_eq_true, decide_eq_true_eq, List.all_eq_true] at h
  exact ⟨h.1.1, h.1.2, h.2⟩
theorem eqs_or : EqS Tryz.prog 42 4 := by
  refine ⟨by kernel_rfl, fun us vs w h1 h2 => ?_⟩
  match us, vs, h1, h2 with
  | [a, b, c, d], [a', b', c', d'], _, _ =>
    have u3 := Tryz.underlying3
    have a3 := Tryz.isAgg3
    have z3 := Tryz.sizeOf3
    have hS : Tryz.prog.underlying 42 = some (.struct (Tryz.prog.fieldsOf 42)) := by kernel_rfl
    have hp : Tryz.prog.stoodInHeld 42 = false := by kernel_rfl
    show (Op.equalIn 10000 42 (.agg #[.int .i64 a, .int .i64 b, .int .i64 c, .int .i64 d]) (.agg #[.int .i64 a', .int .i64 b', .int .i64 c', .int .i64 d'])).run Tryz.prog w = _
    rw [show (10000 : Nat) = 9999 + 1 from rfl, run_equalIn_agg w 9999 42 _ _ hS hp]
    simp only [Program.fieldsOf, Tryz.underlying42]
    go_simp
    by_cases h1 : a = a' <;> by_cases h2 : b = b' <;> by_cases h3 : c = c' <;> by_cases h4 : d = d' <;> simp [h1, h2, h3, h4]
theorem eqs_ok {P : Program} {t : TypeId} {n m : Nat} {K : Prop} (h : EqS P t n) (hl : m = n) (k : K) : (EqS P t n ∧ m = n) ∧ K := ⟨⟨h, hl⟩, k⟩
theorem ex16_sb : SysB exS16 := ⟨by decide, fun w hw => sm16_get (List.all_eq_true.1 ex16_rows w hw)⟩
abbrev sysXB (s : SysP) : Blk := { mode := .live, elem := 37, size := 2, rows := [[.t (ti s.n), .t (rowsTT s.rows)]], box := true }
theorem fz_dl3 {f : Fr} (h : fewF 3 f = true) : f.p.dl.length ≤ 3 ∧ f.q.dl.length ≤ 3 := by unfold fewF at h; simp only [Bool.and_eq_true, decide_eq_true_eq] at h; omega
theorem exX16_few : exX16.all (fewF 3) = true := by decide +kernel
set_option maxHeartbeats 8000000 in
theorem a_sane16 : ACall Tryz.prog 10 [] [] (boolS true) [] := by
  have ex := a_Example16
  have sy := a_ESystem exE16 ex16_sm.sz (fun _ => ex16_sm)
  rw [ex16_sys, ex16_check] at sy
  have r1 := a_row16 [1, 1] 0 95 (by decide) (by decide) (by decide)
  have r2 := a_row16 [1, 1] 1 105 (by decide) (by decide) (by decide)
  have r3 := a_row16 [100, -900] 0 0 (by decide) (by decide) (by decide)
  have r4 := a_row16 [0, 1000] 0 0 (by decide) (by decide) (by decide)
  have r5 := a_row16 [1, 0, -1] 2 0 (by decide) (by decide) (by decide)
  have r6 := a_row16 [0, 1, 0, -1] 2 0 (by decide) (by decide) (by decide)
  have o1 := a_EOrigin exE16 ex16_sm.sz (fun _ => ex16_sm) 4
  have o2 := a_EOrigin exE16 ex16_sm.sz (fun _ => ex16_sm) 3
  have o3 := a_EOrigin exE16 ex16_sm.sz (fun _ => ex16_sm) 6
  rw [ex16_o4] at o1
  rw [ex16_o3] at o2
  rw [ex16_o6] at o3
  have i99 := r5Int 99 (by decide) (by decide)
  have i1 := r5Int 1 (by decide) (by decide)
  have hi := a_EHist exE16 ex16_sm.sz (fun _ => ex16_sm) exX16 (by decide)
  rw [ex16_hist] at hi
  have f3 : ∀ f ∈ exX16, f.p.dl.length ≤ 3 ∧ f.q.dl.length ≤ 3 := fun f hf => fz_dl3 (List.all_eq_true.1 exX16_few f hf)
  have ho := a_Holds exS16 ex16_sb ex16_right exX16 (by decide) (fun f hf => by have := f3 f hf; omega)
  rw [ex16_holds] at ho
  have hc := a_hCheck exE16 exH16 ex16_sm.sz ⟨by decide, by decide, fun l hl f hf => by
    have hf' : f ∈ exX16 := by
      simp only [exH16, List.mem_cons, List.not_mem_nil, or_false] at hl
      rcases hl with rfl | rfl <;> simp only [List.mem_cons, List.not_mem_nil, or_false, exX16] at hf ⊢ <;> rcases hf with rfl | rfl <;> simp
    have := f3 f hf'; omega⟩
  rw [ex16_hc] at hc
  have pt := a_EPoint exE16 ex16_sm.sz exH16 (by decide) (by decide)
  rw [ex16_pt] at pt
  have m6 : (exS16.rows.map rowRow).length = 6 := rfl
  (refine acall_of tab_ok Tryz.func10 rfl (by decide) ?_; (conv => whnf); repeat (first | (refine LitB.data ?_; conv => whnf) | (refine BoxB.own ?_; conv => whnf)))
  (repeat' (first | ((refine DecB.mk (fun h => ?_) (fun h => ?_)) <;> first | (exfalso; omega) | (conv => whnf)) | ((refine BoolB.mk (fun h => ?_) (fun h => ?_)) <;> first | (exact absurd h (by decide)) | (conv => whnf)) | ((first | refine ⟨_, wrap_ok (by omega) (by omega), ?_⟩ | refine and_idx (by omega) (by omega) ?_ | refine reg_ok (by decide +kernel) ?_ | refine bar_ok (by decide +kernel) (by decide +kernel) ?_ | refine late_ok rfl rfl ?_ | refine src_ok rfl ?_ | refine .inl ⟨_, _, qcall_pure (ex) rfl rfl, ?_⟩ | refine .inl ⟨_, _, qcall_pure (sy) rfl rfl, ?_⟩ | refine .inl ⟨_, _, qcall_pure (r1) rfl rfl, ?_⟩ | refine .inl ⟨_, _, qcall_pure (r2) rfl rfl, ?_⟩ | refine .inl ⟨_, _, qcall_pure (r3) rfl rfl, ?_⟩ | refine .inl ⟨_, _, qcall_pure (r4) rfl rfl, ?_⟩ | refine .inl ⟨_, _, qcall_pure (r5) rfl rfl, ?_⟩ | refine .inl ⟨_, _, qcall_pure (r6) rfl rfl, ?_⟩ | refine .inl ⟨_, _, qcall_pure (4) rfl rfl, ?_⟩ | refine bar_late [4] (by decide +kernel) (by decide +kernel) ?_ | refine LitB.weak ?_ | refine LitB.data ?_ | refine BoxB.own ?_); conv => whnf)))
  all_goals try (exfalso; exact h rfl)
  all_goals try (exfalso; exact absurd h (by decide))
  refine awp_for tab_ok (fun k => ([J, S.c (C.ptr 0 0 0), J, S.c (C.t (rowsTT exS16.rows)), intS .i64 k, J, J, J, J, J, J, J, J, J, J, J, J, J, J, J, J, J, J, J, J, J, J, J, J, J, J, J, J, J, J, J, J, J, J, J, J, J, J, J, J, J, J, J, J, J, J, J, J, J, J, J, J, J, J, J, J, J, J, J, J, J, J, J, J, J, J, J, J, J, J, J, J, J, J, J, J, J, J, J, J, J, J, J, J, J, J, J, J, J, J, J, J, J, J, J, J, J, J, J, J, J, J, J, J, J, J, J, J, J, J, J, J, J, J, J, J, J, J, J, J, J], [sysXB exS16])) 6 (fun _ => True) [some 0] trivial
    ⟨rfl, rfl, ⟨⟨rfl, rfl, rfl, .inr ⟨⟨rfl, rfl, trivial⟩, trivial⟩⟩, trivial⟩, ⟨⟨rfl, rfl, rfl⟩, rfl, rfl, trivial⟩⟩ ?_
  intro k hk _
  by_cases hlt : k < 6
  · obtain ⟨w, hw⟩ : ∃ w, exS16.rows[k]? = some w := ⟨_, List.getElem?_eq_getElem hlt⟩
    obtain ⟨b1, b2, b3⟩ := sm16_get (List.all_eq_true.1 ex16_rows w (List.mem_of_getElem? hw))
    have sr := a_SameRow16 w b1 b2 b3
    conv => whnf
    (repeat' (first | ((refine DecB.mk (fun h => ?_) (fun h => ?_)) <;> first | (exfalso; omega) | (conv => whnf)) | ((refine BoolB.mk (fun h => ?_) (fun h => ?_)) <;> first | (exact absurd h (by decide)) | (conv => whnf)) | ((first | refine ⟨_, wrap_ok (by omega) (by omega), ?_⟩ | refine and_idx (by omega) (by omega) ?_ | refine reg_ok (by decide +kernel) ?_ | refine bar_ok (by decide +kernel) (by decide +kernel) ?_ | refine late_ok rfl rfl ?_ | refine src_ok rfl ?_ | refine .inl ⟨_, _, qcall_pure (sr) rfl rfl, ?_⟩ | refine ex_row hw ?_ | refine LitB.data ?_ | refine BoxB.own ?_); conv => whnf)))
    all_goals first
      | (exfalso; omega)
      | exact ⟨hlt, trivial, [some 0], rfl, rfl, ⟨⟨rfl, rfl, rfl, .inr ⟨⟨rfl, rfl, trivial⟩, trivial⟩⟩, trivial⟩, ⟨⟨rfl, rfl, rfl⟩, rfl, rfl, trivial⟩⟩
      | skip
  · have hke : k = 6 := by omega
    subst hke
    conv => whnf
    (repeat' (first | ((refine DecB.mk (fun h => ?_) (fun h => ?_)) <;> first | (exfalso; omega) | (conv => whnf)) | ((refine BoolB.mk (fun h => ?_) (fun h => ?_)) <;> first | (exact absurd h (by decide)) | (conv => whnf)) | ((first | refine ⟨_, wrap_ok (by omega) (by omega), ?_⟩ | refine and_idx (by omega) (by omega) ?_ | refine reg_ok (by decide +kernel) ?_ | refine bar_ok (by decide +kernel) (by decide +kernel) ?_ | refine late_ok rfl rfl ?_ | refine src_ok rfl ?_ | refine .inl ⟨_, _, qcall_pure (ex) rfl rfl, ?_⟩ | refine .inl ⟨_, _, qcall_pure (o1) rfl rfl, ?_⟩ | refine .inl ⟨_, _, qcall_pure (o2) rfl rfl, ?_⟩ | refine .inl ⟨_, _, qcall_pure (o3) rfl rfl, ?_⟩ | refine .inl ⟨_, _, qcall_pure (i99) rfl rfl, ?_⟩ | refine .inl ⟨_, _, qcall_pure (i1) rfl rfl, ?_⟩ | refine .inl ⟨_, _, qcall_pure (hi) rfl rfl, ?_⟩ | refine .inl ⟨_, _, qcall_pure (ho) rfl rfl, ?_⟩ | refine .inl ⟨_, _, qcall_pure (hc) rfl rfl, ?_⟩ | refine .inl ⟨_, _, qcall_pure (pt) rfl rfl, ?_⟩ | refine .inl ⟨_, _, qcall_pure (4) rfl rfl, ?_⟩ | refine bar_late [4] (by decide +kernel) (by decide +kernel) ?_ | refine LitB.weak ?_ | refine eqs_ok eqs_or rfl ?_ | refine LitB.data ?_ | refine BoxB.own ?_); conv => whnf)))
    all_goals try (exfalso; omega)
    all_goals first
      | exact fin_bool rfl
      | (exfalso; exact h rfl)
      | (exfalso; exact absurd h (by decide))
end Go.Proofs.YtfieodjihaodiaaGreat
/- EvidenceWeights: its walk. -/
namespace Go.Proofs.YtfieodjihaodiaaGreat
open Go.RowKit
set_option linter.unusedVariables false
set_option linter.unusedSimpArgs false
set_option maxRecDepth 100000

/-- the origins, as the laws ask for them -/
theorem or_get {e : Ev} (hc : check e = 0) {k : Nat} {w : RowP × OrP} (h : (evRows e)[k]? = some w) : orAt e k = some w.2 := by
  unfold orAt
  rw [if_neg (by omega), if_neg (by omega)]
  show ((evRows e)[(k : Int).toNat]?).map Prod.snd = _
  rw [Int.toNat_natCast, h]; rfl
theorem or_none {e : Ev} {i : Int} (h : i < 0 ∨ (evRows e).length ≤ i) : orAt e i = none := by
  unfold orAt
  split
  · rfl
  · split
    · rfl
    · rw [List.getElem?_eq_none (by omega)]; rfl
theorem row_get {e : Ev} {k : Nat} {w : RowP × OrP} (h : (evRows e)[k]? = some w) : (evSys e).rows[k]? = some w.1 := by
  show ((evRows e).map Prod.fst)[k]? = _
  rw [List.getElem?_map, h]; rfl
theorem rows_len (e : Ev) : (evSys e).rows.length = (evRows e).length := by show ((evRows e).map Prod.fst).length = _; simp
theorem take_snocE {α : Type} {l : List α} {k : Nat} {x : α} (h : l[k]? = some x) : l.take (k + 1) = l.take k ++ [x] := by rw [List.take_add_one, h]; rfl
end Go.Proofs.YtfieodjihaodiaaGreat
/- Digits, for the reference of big: plus. No program is in sight. -/
namespace Go.Proofs.YtfieodjihaodiaaGreat
set_option linter.unusedVariables false
set_option linter.unusedSimpArgs false

/-- the sum, digit by digit, appended -/
structure PluI (a b : List Int) (i : Nat) (out : List Int) (c : Int) : Prop where
  len : out.length = i
  ok : Okd out
  le : i ≤ max a.length b.length + 1
  top : i = max a.length b.length + 1 → c = 0
  c0 : 0 ≤ c
  c1 : c ≤ 1
  eq : val out + pw i * c = val (a.take i) + val (b.take i)
theorem PluI.init (a b : List Int) : PluI a b 0 [] 0 := ⟨rfl, .nil, Nat.zero_le _, fun _ => rfl, by decide, by decide, by simp [val]⟩
theorem PluI.step {a b out : List Int} {i : Nat} {c : Int} (h : PluI a b i out c) (ha : Okd a) (hb : Okd b) (hi : i < a.length ∨ i < b.length ∨ 0 < c) :
    PluI a b (i + 1) (out ++ [(dat a i + dat b i + c) % 1048576]) ((dat a i + dat b i + c) / 1048576) := by
  have h1 := ha.dat i
  have h2 := hb.dat i
  have h3 := h.c0
  have h4 := h.c1
  have hl := h.le
  have ht := h.top
  have hi2 : i ≤ max a.length b.length := by
    rcases Nat.lt_or_ge (max a.length b.length) i with h5 | h5
    · have := ht (by omega); omega
    · exact h5
  refine ⟨by simp [h.len], h.ok.append (Okd.cons (mod_rng _) .nil), by omega, fun e => ?_, by omega, by omega, ?_⟩
  · have e1 : dat a i = 0 := dat_none (by omega)
    have e2 : dat b i = 0 := dat_none (by omega)
    rw [e1, e2]; omega
  · rw [val_append, h.len, val_take_dat, val_take_dat, pw_succ]
    have h5 := h.eq
    have h6 : (dat a i + dat b i + c) % 1048576 = dat a i + dat b i + c - 1048576 * ((dat a i + dat b i + c) / 1048576) := by omega
    simp only [val]
    rw [h6]
    grind
theorem PluI.fin {a b out : List Int} {i : Nat} {c : Int} (h : PluI a b i out c) (la : a.length ≤ i) (lb : b.length ≤ i) (hc : c ≤ 0) : trimL out = dg (val a + val b).toNat := by
  have h1 := h.eq
  have h2 := h.c0
  obtain rfl : c = 0 := by omega
  rw [List.take_of_length_le la, List.take_of_length_le lb] at h1
  rw [trimL_dg h.ok]
  congr 2
  grind
end Go.Proofs.YtfieodjihaodiaaGreat
/- Reference of big: plus, Neg, Add, Sub, Mul, Compare. -/
namespace Go.Proofs.YtfieodjihaodiaaGreat
open Go.RowKit
set_option linter.unusedVariables false
set_option linter.unusedSimpArgs false
set_option maxRecDepth 100000

theorem r_lessD (m n : Nat) (lm : (dg m).length ≤ 300000) (ln : (dg n).length ≤ 300000) : ACall Tryz.prog 131 [intsS (dg m), intsS (dg n)] [] (boolS (decide (m < n))) [] := by
  have h := r_less (dg m) (dg n) (okd_dg m) (okd_dg n) (by omega) (by omega)
  rw [val_dg, val_dg, show decide ((m : Int) < n) = decide (m < n) by simp] at h
  exact h
end Go.Proofs.YtfieodjihaodiaaGreat
/- Reference of big: Same, Add, Sub, Mul, Compare. -/
namespace Go.Proofs.YtfieodjihaodiaaGreat
open Go.RowKit
set_option linter.unusedVariables false
set_option linter.unusedSimpArgs false
set_option maxRecDepth 100000

theorem take_snocR {α : Type} {l : List α} {k : Nat} {x : α} (h : l[k]? = some x) : l.take (k + 1) = l.take k ++ [x] := by
  rw [List.take_add_one, h]; rfl
theorem r4Same (a b : Bg) (ha : a.dl.length ≤ 1000000) (hb : b.dl.length ≤ 1000000) : ACall Tryz.prog 130 [bgS a, bgS b] [] (boolS (decide (a.sg = b.sg ∧ a.dl = b.dl))) [] := by
  have l1 : (a.dl.map intRow).length = a.dl.length := by simp
  have l2 : (b.dl.map intRow).length = b.dl.length := by simp
  by_cases h0 : ¬ (a.sg = b.sg ∧ a.dl.length = b.dl.length)
  · (refine acall_of tab_ok Tryz.func130 rfl (by decide) ?_; (conv => whnf); repeat (first | (refine LitB.data ?_; conv => whnf) | (refine BoxB.data ?_; conv => whnf)))
    (repeat' (first | ((refine DecB.mk (fun h => ?_) (fun h => ?_)) <;> first | (exfalso; omega) | (conv => whnf)) | ((refine BoolB.mk (fun h => ?_) (fun h => ?_)) <;> first | (exact absurd h (by decide)) | (conv => whnf)) | ((first | refine ⟨_, wrap_ok (by omega) (by omega), ?_⟩ | refine and_idx (by omega) (by omega) ?_ | refine reg_ok (by decide +kernel) ?_ | refine bar_ok (by decide +kernel) (by decide +kernel) ?_ | refine late_ok rfl rfl ?_ | refine src_ok rfl ?_ | refine LitB.data ?_ | refine BoxB.own ?_); conv => whnf)))
    all_goals first
      | (exfalso; omega)
      | (refine fin_bool (decide_eq_false ?_).symm; rintro ⟨h1, h2⟩; rw [h2] at h0; exact h0 ⟨h1, rfl⟩)
  have h0 : a.sg = b.sg ∧ a.dl.length = b.dl.length := Decidable.not_not.1 h0
  (refine acall_of tab_ok Tryz.func130 rfl (by decide) ?_; (conv => whnf); repeat (first | (refine LitB.data ?_; conv => whnf) | (refine BoxB.data ?_; conv => whnf)))
  (repeat' (first | ((refine DecB.mk (fun h => ?_) (fun h => ?_)) <;> first | (exfalso; omega) | (conv => whnf)) | ((refine BoolB.mk (fun h => ?_) (fun h => ?_)) <;> first | (exact absurd h (by decide)) | (conv => whnf)) | ((first | refine ⟨_, wrap_ok (by omega) (by omega), ?_⟩ | refine and_idx (by omega) (by omega) ?_ | refine reg_ok (by decide +kernel) ?_ | refine bar_ok (by decide +kernel) (by decide +kernel) ?_ | refine late_ok rfl rfl ?_ | refine src_ok rfl ?_ | refine LitB.data ?_ | refine BoxB.own ?_); conv => whnf)))
  all_goals try (exfalso; omega)
  refine awp_for tab_ok (fun k => ([J, J, S.c (C.t (T.ptr [ti a.sg, intsT a.dl])), S.c (C.t (T.ptr [ti b.sg, intsT b.dl])), J, intS .i64 k, J, J, J, J, J, J, J, J, J, J, J, J, J, J, J, J, J, J, J, J, J, J, J, J, J, J, J, J, J, J, J, J], [])) a.dl.length (fun k => a.dl.take k = b.dl.take k) [] rfl
    ⟨rfl, rfl, trivial, ⟨rfl, rfl, rfl, trivial⟩⟩ ?_
  intro k hk hI
  by_cases hlt : k < a.dl.length
  · obtain ⟨x, hx⟩ : ∃ x, a.dl[k]? = some x := ⟨_, List.getElem?_eq_getElem hlt⟩
    obtain ⟨y, hy⟩ : ∃ y, b.dl[k]? = some y := ⟨_, List.getElem?_eq_getElem (by omega)⟩
    conv => whnf
    (repeat' (first | ((refine DecB.mk (fun h => ?_) (fun h => ?_)) <;> first | (exfalso; omega) | (conv => whnf)) | ((refine BoolB.mk (fun h => ?_) (fun h => ?_)) <;> first | (exact absurd h (by decide)) | (conv => whnf)) | ((first | refine ⟨_, wrap_ok (by omega) (by omega), ?_⟩ | refine and_idx (by omega) (by omega) ?_ | refine reg_ok (by decide +kernel) ?_ | refine bar_ok (by decide +kernel) (by decide +kernel) ?_ | refine late_ok rfl rfl ?_ | refine src_ok rfl ?_ | refine ex_row hx ?_ | refine ex_row hy ?_ | refine LitB.data ?_ | refine BoxB.own ?_); conv => whnf)))
    · have hne : x ≠ y := ‹x ≠ y›
      refine fin_bool (decide_eq_false ?_).symm
      rintro ⟨_, hq⟩; rw [hq, hy] at hx; injection hx with hx; exact hne hx.symm
    · have hxy : x = y := by omega
      refine ⟨hlt, ?_, [], rfl, rfl, trivial, ⟨rfl, rfl, rfl, trivial⟩⟩
      rw [take_snocR hx, take_snocR hy, hI, hxy]
    all_goals (exfalso; omega)
  · rw [List.take_of_length_le (by omega), List.take_of_length_le (by omega)] at hI
    conv => whnf
    (repeat' (first | ((refine DecB.mk (fun h => ?_) (fun h => ?_)) <;> first | (exfalso; omega) | (conv => whnf)) | ((refine BoolB.mk (fun h => ?_) (fun h => ?_)) <;> first | (exact absurd h (by decide)) | (conv => whnf)) | ((first | refine ⟨_, wrap_ok (by omega) (by omega), ?_⟩ | refine and_idx (by omega) (by omega) ?_ | refine reg_ok (by decide +kernel) ?_ | refine bar_ok (by decide +kernel) (by decide +kernel) ?_ | refine late_ok rfl rfl ?_ | refine src_ok rfl ?_ | refine LitB.data ?_ | refine BoxB.own ?_); conv => whnf)))
    all_goals first
      | (exfalso; omega)
      | exact fin_bool (decide_eq_true ⟨h0.1, hI⟩).symm
theorem bz_inj2 {x y : Int} (h : (bz x).sg = (bz y).sg ∧ (bz x).dl = (bz y).dl) : x = y := by
  have : bz x = bz y := by
    obtain ⟨h1, h2⟩ := h
    cases hx : bz x with
    | mk a b =>
      cases hy : bz y with
      | mk c d => rw [hx, hy] at h1 h2; simp only at h1 h2; rw [h1, h2]
  rw [← bv_bz x, ← bv_bz y, this]
set_option maxHeartbeats 4000000 in
theorem r4Compare (x y : Int) (lx : bl x ≤ 300000) (ly : bl y ≤ 300000) : ACall Tryz.prog 100 [bgS (bz x), bgS (bz y)] [] (intS .i64 (cmpI x y)) [] := by
  have r1 := r4Right x lx
  have r2 := r4Right y ly
  have hsx : (bz x).sg = x.sign := rfl
  have hsy : (bz y).sg = y.sign := rfl
  have sx := sign_cases x
  have sy := sign_cases y
  have sm := r4Same (bz x) (bz y) (show bl x ≤ 1000000 by omega) (show bl y ≤ 1000000 by omega)
  by_cases he : x = y
  · subst he
    have sm : ACall Tryz.prog 130 [bgS (bz x), bgS (bz x)] [] (boolS true) [] := by rw [show decide ((bz x).sg = (bz x).sg ∧ (bz x).dl = (bz x).dl) = true from decide_eq_true ⟨rfl, rfl⟩] at sm; exact sm
    have e0 : cmpI x x = 0 := by unfold cmpI; rw [if_neg (by omega), if_neg (by omega)]
    rw [e0]
    (refine acall_of tab_ok Tryz.func100 rfl (by decide) ?_; (conv => whnf); repeat (first | (refine LitB.data ?_; conv => whnf) | (refine BoxB.data ?_; conv => whnf)))
    (repeat' (first | ((refine DecB.mk (fun h => ?_) (fun h => ?_)) <;> first | (exfalso; omega) | (conv => whnf)) | ((refine BoolB.mk (fun h => ?_) (fun h => ?_)) <;> first | (exact absurd h (by decide)) | (conv => whnf)) | ((first | refine ⟨_, wrap_ok (by omega) (by omega), ?_⟩ | refine and_idx (by omega) (by omega) ?_ | refine reg_ok (by decide +kernel) ?_ | refine bar_ok (by decide +kernel) (by decide +kernel) ?_ | refine late_ok rfl rfl ?_ | refine src_ok rfl ?_ | refine .inl ⟨_, _, qcall_pure (r1) rfl rfl, ?_⟩ | refine .inl ⟨_, _, qcall_pure (r2) rfl rfl, ?_⟩ | refine .inl ⟨_, _, qcall_pure (sm) rfl rfl, ?_⟩ | refine LitB.data ?_ | refine BoxB.own ?_); conv => whnf)))
    all_goals first
      | (exfalso; simp_all; done)
      | exact fin_int rfl
  rw [decide_eq_false (fun h => he (bz_inj2 h))] at sm
  have ls := r_lessD x.natAbs y.natAbs lx ly
  rcases Int.lt_or_gt_of_ne he with hlt | hgt
  · have e1 : cmpI x y = -1 := by unfold cmpI; rw [if_pos hlt]
    rw [e1]
    by_cases hl : x.natAbs < y.natAbs
    · rw [decide_eq_true hl] at ls
      (refine acall_of tab_ok Tryz.func100 rfl (by decide) ?_; (conv => whnf); repeat (first | (refine LitB.data ?_; conv => whnf) | (refine BoxB.data ?_; conv => whnf)))
      (repeat' (first | ((refine DecB.mk (fun h => ?_) (fun h => ?_)) <;> first | (exfalso; omega) | (conv => whnf)) | ((refine BoolB.mk (fun h => ?_) (fun h => ?_)) <;> first | (exact absurd h (by decide)) | (conv => whnf)) | ((first | refine ⟨_, wrap_ok (by omega) (by omega), ?_⟩ | refine and_idx (by omega) (by omega) ?_ | refine reg_ok (by decide +kernel) ?_ | refine bar_ok (by decide +kernel) (by decide +kernel) ?_ | refine late_ok rfl rfl ?_ | refine src_ok rfl ?_ | refine .inl ⟨_, _, qcall_pure (r1) rfl rfl, ?_⟩ | refine .inl ⟨_, _, qcall_pure (r2) rfl rfl, ?_⟩ | refine .inl ⟨_, _, qcall_pure (sm) rfl rfl, ?_⟩ | refine .inl ⟨_, _, qcall_pure (ls) rfl rfl, ?_⟩ | refine LitB.data ?_ | refine BoxB.own ?_); conv => whnf)))
      all_goals first
        | (exfalso; omega)
        | (exfalso; simp_all; done)
        | exact fin_int rfl
    · rw [decide_eq_false hl] at ls
      (refine acall_of tab_ok Tryz.func100 rfl (by decide) ?_; (conv => whnf); repeat (first | (refine LitB.data ?_; conv => whnf) | (refine BoxB.data ?_; conv => whnf)))
      (repeat' (first | ((refine DecB.mk (fun h => ?_) (fun h => ?_)) <;> first | (exfalso; omega) | (conv => whnf)) | ((refine BoolB.mk (fun h => ?_) (fun h => ?_)) <;> first | (exact absurd h (by decide)) | (conv => whnf)) | ((first | refine ⟨_, wrap_ok (by omega) (by omega), ?_⟩ | refine and_idx (by omega) (by omega) ?_ | refine reg_ok (by decide +kernel) ?_ | refine bar_ok (by decide +kernel) (by decide +kernel) ?_ | refine late_ok rfl rfl ?_ | refine src_ok rfl ?_ | refine .inl ⟨_, _, qcall_pure (r1) rfl rfl, ?_⟩ | refine .inl ⟨_, _, qcall_pure (r2) rfl rfl, ?_⟩ | refine .inl ⟨_, _, qcall_pure (sm) rfl rfl, ?_⟩ | refine .inl ⟨_, _, qcall_pure (ls) rfl rfl, ?_⟩ | refine LitB.data ?_ | refine BoxB.own ?_); conv => whnf)))
      all_goals first
        | (exfalso; omega)
        | (exfalso; simp_all; done)
        | exact fin_int rfl
  · have e1 : cmpI x y = 1 := by unfold cmpI; rw [if_neg (by omega), if_pos (by omega)]
    rw [e1]
    by_cases hl : x.natAbs < y.natAbs
    · rw [decide_eq_true hl] at ls
      (refine acall_of tab_ok Tryz.func100 rfl (by decide) ?_; (conv => whnf); repeat (first | (refine LitB.data ?_; conv => whnf) | (refine BoxB.data ?_; conv => whnf)))
      (repeat' (first | ((refine DecB.mk (fun h => ?_) (fun h => ?_)) <;> first | (exfalso; omega) | (conv => whnf)) | ((refine BoolB.mk (fun h => ?_) (fun h => ?_)) <;> first | (exact absurd h (by decide)) | (conv => whnf)) | ((first | refine ⟨_, wrap_ok (by omega) (by omega), ?_⟩ | refine and_idx (by omega) (by omega) ?_ | refine reg_ok (by decide +kernel) ?_ | refine bar_ok (by decide +kernel) (by decide +kernel) ?_ | refine late_ok rfl rfl ?_ | refine src_ok rfl ?_ | refine .inl ⟨_, _, qcall_pure (r1) rfl rfl, ?_⟩ | refine .inl ⟨_, _, qcall_pure (r2) rfl rfl, ?_⟩ | refine .inl ⟨_, _, qcall_pure (sm) rfl rfl, ?_⟩ | refine .inl ⟨_, _, qcall_pure (ls) rfl rfl, ?_⟩ | refine LitB.data ?_ | refine BoxB.own ?_); conv => whnf)))
      all_goals first
        | (exfalso; omega)
        | (exfalso; simp_all; done)
        | exact fin_int rfl
    · rw [decide_eq_false hl] at ls
      (refine acall_of tab_ok Tryz.func100 rfl (by decide) ?_; (conv => whnf); repeat (first | (refine LitB.data ?_; conv => whnf) | (refine BoxB.data ?_; conv => whnf)))
      (repeat' (first | ((refine DecB.mk (fun h => ?_) (fun h => ?_)) <;> first | (exfalso; omega) | (conv => whnf)) | ((refine BoolB.mk (fun h => ?_) (fun h => ?_)) <;> first | (exact absurd h (by decide)) | (conv => whnf)) | ((first | refine ⟨_, wrap_ok (by omega) (by omega), ?_⟩ | refine and_idx (by omega) (by omega) ?_ | refine reg_ok (by decide +kernel) ?_ | refine bar_ok (by decide +kernel) (by decide +kernel) ?_ | refine late_ok rfl rfl ?_ | refine src_ok rfl ?_ | refine .inl ⟨_, _, qcall_pure (r1) rfl rfl, ?_⟩ | refine .inl ⟨_, _, qcall_pure (r2) rfl rfl, ?_⟩ | refine .inl ⟨_, _, qcall_pure (sm) rfl rfl, ?_⟩ | refine .inl ⟨_, _, qcall_pure (ls) rfl rfl, ?_⟩ | refine LitB.data ?_ | refine BoxB.own ?_); conv => whnf)))
      all_goals first
        | (exfalso; omega)
        | (exfalso; simp_all; done)
        | exact fin_int rfl
end Go.Proofs.YtfieodjihaodiaaGreat
/- Reference of frac: Right, Add, Sub, Mul, Sign, Compare. -/
namespace Go.Proofs.YtfieodjihaodiaaGreat
open Go.RowKit
set_option linter.unusedVariables false
set_option linter.unusedSimpArgs false
set_option maxRecDepth 100000

theorem cmpI_zero {x y : Int} : cmpI x y = 0 ↔ x = y := by unfold cmpI; split <;> (try split) <;> omega
theorem r5Right (f : Fr) (lp : f.p.dl.length ≤ 200000) (lq : f.q.dl.length ≤ 200000) : ACall Tryz.prog 65 [frS f] [] (boolS (rightF f)) [] := by
  obtain ⟨p, q⟩ := f
  simp only at lp lq
  have r1 := r_bigRight p (by omega)
  have r2 := r_bigRight q (by omega)
  cases hp : rightB p with
  | false =>
    rw [hp] at r1
    (refine acall_of tab_ok Tryz.func65 rfl (by decide) ?_; (conv => whnf); repeat (first | (refine LitB.data ?_; conv => whnf) | (refine BoxB.data ?_; conv => whnf)))
    (repeat' (first | ((refine DecB.mk (fun h => ?_) (fun h => ?_)) <;> first | (exfalso; omega) | (conv => whnf)) | ((refine BoolB.mk (fun h => ?_) (fun h => ?_)) <;> first | (exact absurd h (by decide)) | (conv => whnf)) | ((first | refine ⟨_, wrap_ok (by omega) (by omega), ?_⟩ | refine and_idx (by omega) (by omega) ?_ | refine reg_ok (by decide +kernel) ?_ | refine bar_ok (by decide +kernel) (by decide +kernel) ?_ | refine late_ok rfl rfl ?_ | refine src_ok rfl ?_ | refine .inl ⟨_, _, qcall_pure (r1) rfl rfl, ?_⟩ | refine .inl ⟨_, _, qcall_pure (r2) rfl rfl, ?_⟩ | refine LitB.data ?_ | refine BoxB.own ?_); conv => whnf)))
    all_goals (first | (exfalso; simp_all; done) | (refine fin_bool ?_; unfold rightF; simp [hp]))
  | true =>
    rw [hp] at r1
    cases hq : rightB q with
    | false =>
      rw [hq] at r2
      (refine acall_of tab_ok Tryz.func65 rfl (by decide) ?_; (conv => whnf); repeat (first | (refine LitB.data ?_; conv => whnf) | (refine BoxB.data ?_; conv => whnf)))
      (repeat' (first | ((refine DecB.mk (fun h => ?_) (fun h => ?_)) <;> first | (exfalso; omega) | (conv => whnf)) | ((refine BoolB.mk (fun h => ?_) (fun h => ?_)) <;> first | (exact absurd h (by decide)) | (conv => whnf)) | ((first | refine ⟨_, wrap_ok (by omega) (by omega), ?_⟩ | refine and_idx (by omega) (by omega) ?_ | refine reg_ok (by decide +kernel) ?_ | refine bar_ok (by decide +kernel) (by decide +kernel) ?_ | refine late_ok rfl rfl ?_ | refine src_ok rfl ?_ | refine .inl ⟨_, _, qcall_pure (r1) rfl rfl, ?_⟩ | refine .inl ⟨_, _, qcall_pure (r2) rfl rfl, ?_⟩ | refine LitB.data ?_ | refine BoxB.own ?_); conv => whnf)))
      all_goals (first | (exfalso; simp_all; done) | (refine fin_bool ?_; unfold rightF; simp [hq]))
    | true =>
      rw [hq] at r2
      obtain ⟨x, rfl⟩ := bz_of hp
      obtain ⟨y, rfl⟩ := bz_of hq
      have hsg : (bz y).sg = y.sign := rfl
      have hsg2 : (Fr.mk (bz x) (bz y)).q.sg = y.sign := rfl
      have sy := sign_cases y
      have lg := bl_gcd x y lp lq
      have g := r4Gcd x y lp lq
      have o := r4Of 1 (by decide) (by decide)
      have c := r4Compare (Int.gcd x y) 1 (by omega) (by have := bl_small (x := 1) (by decide) (by decide); omega)
      have hc := cmpI_zero (x := Int.gcd x y) (y := 1)
      (refine acall_of tab_ok Tryz.func65 rfl (by decide) ?_; (conv => whnf); repeat (first | (refine LitB.data ?_; conv => whnf) | (refine BoxB.data ?_; conv => whnf)))
      (repeat' (first | ((refine DecB.mk (fun h => ?_) (fun h => ?_)) <;> first | (exfalso; omega) | (conv => whnf)) | ((refine BoolB.mk (fun h => ?_) (fun h => ?_)) <;> first | (exact absurd h (by decide)) | (conv => whnf)) | ((first | refine ⟨_, wrap_ok (by omega) (by omega), ?_⟩ | refine and_idx (by omega) (by omega) ?_ | refine reg_ok (by decide +kernel) ?_ | refine bar_ok (by decide +kernel) (by decide +kernel) ?_ | refine late_ok rfl rfl ?_ | refine src_ok rfl ?_ | refine .inl ⟨_, _, qcall_pure (r1) rfl rfl, ?_⟩ | refine .inl ⟨_, _, qcall_pure (r2) rfl rfl, ?_⟩ | refine .inl ⟨_, _, qcall_pure (g) rfl rfl, ?_⟩ | refine .inl ⟨_, _, qcall_pure (o) rfl rfl, ?_⟩ | refine .inl ⟨_, _, qcall_pure (c) rfl rfl, ?_⟩ | refine .inl ⟨_, _, qcall_pure (5) rfl rfl, ?_⟩ | refine bar_late [5] (by decide +kernel) (by decide +kernel) ?_ | refine LitB.data ?_ | refine BoxB.own ?_); conv => whnf)))
      all_goals first
        | (exfalso; simp_all; done)
        | (refine fin_bool ?_; unfold rightF; simp only [bz_right, bv_bz, Bool.true_and]; simp; omega)
theorem r5Rz (x : Rat) (lx : rl x ≤ 200000) : ACall Tryz.prog 65 [frS (fz x)] [] (boolS true) [] := by
  have h := r5Right (fz x) (Nat.le_trans (rl_num x) lx) (Nat.le_trans (rl_den x) lx)
  rw [fz_right] at h
  exact h
theorem r5Sign (x : Rat) (lx : rl x ≤ 60000) : ACall Tryz.prog 29 [frS (fz x)] [] (intS .i64 (sgR x)) [] := by
  have r1 := r5Rz x (by omega)
  (refine acall_of tab_ok Tryz.func29 rfl (by decide) ?_; (conv => whnf); repeat (first | (refine LitB.data ?_; conv => whnf) | (refine BoxB.data ?_; conv => whnf)))
  (repeat' (first | ((refine DecB.mk (fun h => ?_) (fun h => ?_)) <;> first | (exfalso; omega) | (conv => whnf)) | ((refine BoolB.mk (fun h => ?_) (fun h => ?_)) <;> first | (exact absurd h (by decide)) | (conv => whnf)) | ((first | refine ⟨_, wrap_ok (by omega) (by omega), ?_⟩ | refine and_idx (by omega) (by omega) ?_ | refine reg_ok (by decide +kernel) ?_ | refine bar_ok (by decide +kernel) (by decide +kernel) ?_ | refine late_ok rfl rfl ?_ | refine src_ok rfl ?_ | refine .inl ⟨_, _, qcall_pure (r1) rfl rfl, ?_⟩ | refine LitB.data ?_ | refine BoxB.own ?_); conv => whnf)))
  all_goals first
    | (exfalso; simp_all; done)
    | exact fin_int (sign_num x)
end Go.Proofs.YtfieodjihaodiaaGreat
/- EvidenceOrigins: its walk. -/
namespace Go.Proofs.YtfieodjihaodiaaGreat
open Go.RowKit
set_option linter.unusedVariables false
set_option linter.unusedSimpArgs false
set_option maxRecDepth 100000

def mvAt (e : Ev) (i : Nat) : Int := match (evRows e)[i]? with
  | some w => w.2.mv
  | none => 0
def lastOf (e : Ev) : Nat → Int
  | 0 => 0
  | i + 1 => mvAt e i
theorem last_le {e : Ev} (hc : check e = 0) {i : Nat} {w : RowP × OrP} (h : (evRows e)[i]? = some w) : lastOf e i ≤ w.2.mv := by
  cases i with
  | zero => exact (ev_ok hc (List.mem_of_getElem? h)).mv.1
  | succ i =>
    have hl : i < (evRows e).length := by have := (List.getElem?_eq_some_iff.1 h).1; omega
    obtain ⟨p, hp⟩ : ∃ p, (evRows e)[i]? = some p := ⟨_, List.getElem?_eq_getElem hl⟩
    show mvAt e i ≤ _
    unfold mvAt
    rw [hp]
    exact evTo_asc (check_bounds16 hc).1 _ (Nat.le_refl _) i p w hp h
theorem last_succ {e : Ev} {i : Nat} {w : RowP × OrP} (h : (evRows e)[i]? = some w) : lastOf e (i + 1) = w.2.mv := by show mvAt e i = _; unfold mvAt; rw [h]
abbrev orB16 (kind mv mat idx : Int) : Blk := { mode := .live, elem := 42, size := 4, rows := [[.t (ti kind), .t (ti mv), .t (ti mat), .t (ti idx)]], box := true }
theorem rowsT_or16 (a b c d : Int) : rowsT [[C.t (ti a), C.t (ti b), C.t (ti c), C.t (ti d)]] := by simp [rowsT, C.isT]
set_option maxHeartbeats 8000000 in
theorem a_EvidenceOrigins (e : Ev) (at' : Int) : ACall Tryz.prog 6 [evS e, intS .i64 at'] [] (boolS true) [] := by
  have sa := a_sane16
  have f1 := a_Few16 e 8
  have m0 : (e.moves.map Move.row).length = e.moves.length := by simp
  have m9 : (e.purities.map Purity.row).length = e.purities.length := by simp
  cases h1 : few16 e 8 with
  | false =>
    rw [h1] at f1
    (refine acall_of tab_ok Tryz.func6 rfl (by decide) ?_; (conv => whnf); repeat (first | (refine LitB.data ?_; conv => whnf) | (refine BoxB.data ?_; conv => whnf)))
    (repeat' (first | ((refine DecB.mk (fun h => ?_) (fun h => ?_)) <;> first | (exfalso; omega) | (conv => whnf)) | ((refine BoolB.mk (fun h => ?_) (fun h => ?_)) <;> first | (exact absurd h (by decide)) | (conv => whnf)) | ((first | refine ⟨_, wrap_ok (by omega) (by omega), ?_⟩ | refine and_idx (by omega) (by omega) ?_ | refine reg_ok (by decide +kernel) ?_ | refine bar_ok (by decide +kernel) (by decide +kernel) ?_ | refine late_ok rfl rfl ?_ | refine src_ok rfl ?_ | refine .inl ⟨_, _, qcall_pure (sa) rfl rfl, ?_⟩ | refine .inl ⟨_, _, qcall_pure (f1) rfl rfl, ?_⟩ | refine LitB.data ?_ | refine BoxB.own ?_); conv => whnf)))
    all_goals first
      | (exfalso; omega)
      | exact fin_bool rfl
  | true =>
  rw [h1] at f1
  have hs := few16_sized h1
  have ck := a_Check e hs
  by_cases h3 : ¬ check e = 0
  · (refine acall_of tab_ok Tryz.func6 rfl (by decide) ?_; (conv => whnf); repeat (first | (refine LitB.data ?_; conv => whnf) | (refine BoxB.data ?_; conv => whnf)))
    (repeat' (first | ((refine DecB.mk (fun h => ?_) (fun h => ?_)) <;> first | (exfalso; omega) | (conv => whnf)) | ((refine BoolB.mk (fun h => ?_) (fun h => ?_)) <;> first | (exact absurd h (by decide)) | (conv => whnf)) | ((first | refine ⟨_, wrap_ok (by omega) (by omega), ?_⟩ | refine and_idx (by omega) (by omega) ?_ | refine reg_ok (by decide +kernel) ?_ | refine bar_ok (by decide +kernel) (by decide +kernel) ?_ | refine late_ok rfl rfl ?_ | refine src_ok rfl ?_ | refine .inl ⟨_, _, qcall_pure (sa) rfl rfl, ?_⟩ | refine .inl ⟨_, _, qcall_pure (f1) rfl rfl, ?_⟩ | refine .inl ⟨_, _, qcall_pure (ck) rfl rfl, ?_⟩ | refine LitB.data ?_ | refine BoxB.own ?_); conv => whnf)))
    all_goals first
      | (exfalso; omega)
      | exact fin_bool rfl
  have h3 : check e = 0 := Decidable.not_not.1 h3
  have hE := few16_small h1 h3
  have sy := a_ESystem e hs (fun _ => hE)
  have e1 : evSysR e = evSys e := by unfold evSysR; rw [if_neg (by omega)]
  rw [e1, h3] at sy
  rw [h3] at ck
  have hmv := hE.mv
  have hm1 := hE.m1
  have hm6 := hE.m6
  have rl0 := rows_len e
  have rl1 : (evRows e).length ≤ 400 := evTo_small hE (Nat.le_refl _)
  have m3 : ((evSys e).rows.map rowRow).length = (evRows e).length := by rw [List.length_map, rl0]
  have hb := ev_sb hE
  have lr := a_LRight (evSys e) hb
  rw [ev_right h3 hE.mv hE.pu] at lr
  have n0 : 0 ≤ (e.moves.length : Int) * e.mats := Int.mul_nonneg (by omega) (by omega)
  have n1 : (e.moves.length : Int) * e.mats ≤ 8 * 6 := Int.mul_le_mul (by omega) hm6 (by omega) (by decide)
  have mm : ((e.moves.map Move.row).length : Int) * e.mats = (e.moves.length : Int) * e.mats := by rw [m0]
  have nn : (evSys e).n = (e.moves.length : Int) * e.mats := rfl
  (refine acall_of tab_ok Tryz.func6 rfl (by decide) ?_; (conv => whnf); repeat (first | (refine LitB.data ?_; conv => whnf) | (refine BoxB.data ?_; conv => whnf)))
  (repeat' (first | ((refine DecB.mk (fun h => ?_) (fun h => ?_)) <;> first | (exfalso; omega) | (conv => whnf)) | ((refine BoolB.mk (fun h => ?_) (fun h => ?_)) <;> first | (exact absurd h (by decide)) | (conv => whnf)) | ((first | refine ⟨_, wrap_ok (by omega) (by omega), ?_⟩ | refine and_idx (by omega) (by omega) ?_ | refine reg_ok (by decide +kernel) ?_ | refine bar_ok (by decide +kernel) (by decide +kernel) ?_ | refine late_ok rfl rfl ?_ | refine src_ok rfl ?_ | refine .inl ⟨_, _, qcall_pure (sa) rfl rfl, ?_⟩ | refine .inl ⟨_, _, qcall_pure (f1) rfl rfl, ?_⟩ | refine .inl ⟨_, _, qcall_pure (ck) rfl rfl, ?_⟩ | refine .inl ⟨_, _, qcall_pure (sy) rfl rfl, ?_⟩ | refine .inl ⟨_, _, qcall_pure (lr) rfl rfl, ?_⟩ | refine .inl ⟨_, _, qcall_pure (4) rfl rfl, ?_⟩ | refine bar_late [4] (by decide +kernel) (by decide +kernel) ?_ | refine LitB.data ?_ | refine BoxB.own ?_); conv => whnf)))
  all_goals try (exfalso; omega)
  refine awp_for tab_ok (fun i => ([J, intS .i64 at', S.c (C.t (T.ptr (evT e))), J, J, boolS true, S.c (C.ptr 0 0 0), J, intS .i64 (lastOf e i), intS .i64 i, J, J, J, J, J, J, J, J, J, J, J, J, J, J, J, J, J, J, J, J, J, J, J, J, J, J, J, J, J, J, J, J, J, J, J, J, J, J, J, J, J, J, J, J, J, J, J, J, J, J, J, J, J, J, J, J, J, J, J, J, J, J, J, J, J, J, J, J, J, J, J, J, J, J, J, J, J, J, J, J, J, J, J, J, J, J, J, J, J, J, J, J, J, J, J, J, J, J, J, J, J, J, J, J, J, J, J, J, J, J, J, J, J, J, J, J, J, J, J, J, J, J, J, J, J, J, J, J, J, J, J, J, J, J, J, J, J, J, J, J, J, J, J, J, J, J, J, J, J, J, J, J, J, J, J, J, J, J, J, J, J, J, J, J, J, J, J, J, J, J, J, J, J, J, J, J, J, J, J, J, J, J, J, J, J, J, J, J, J, J, J, J, J, J, J, J, J, J, J, J, J, J, J, J, J, J, J, J, J, J, J, J, J, J, J, J, J, J, J, J, J, J, J, J, J, J, J, J, J, J, J, J, J, J, J, J, J], [sysXB (evSys e)])) (evRows e).length (fun _ => True) [some 0] trivial
    ⟨rfl, rfl, ⟨⟨rfl, rfl, rfl, .inr ⟨⟨rfl, rfl, trivial⟩, trivial⟩⟩, trivial⟩, ⟨rfl, rfl, rfl, ⟨rfl, rfl, rfl⟩, rfl, rfl, trivial⟩⟩ ?_
  intro i hi' _
  by_cases hlt : i < (evRows e).length
  · obtain ⟨w, hw⟩ : ∃ w, (evRows e)[i]? = some w := ⟨_, List.getElem?_eq_getElem hlt⟩
    have oo := a_EOrigin e hs (fun _ => hE) i
    rw [or_get h3 hw] at oo
    simp only [Option.getD_some, Option.isSome_some] at oo
    have rw1 := row_get hw
    have ok := ev_ok h3 (List.mem_of_getElem? hw)
    have tb := (row_sm hE (List.mem_of_getElem? hw)).1
    have hle := last_le h3 hw
    have hls := last_succ hw
    obtain ⟨⟨tl, kd, val⟩, ⟨kind, mv, mat, idx⟩⟩ := w
    simp only at rw1 ok hle hls tb
    have oi : ACall Tryz.prog 16 [evS e, intS .i64 i] [] (.tup [.agg [.t (ti kind), .t (ti mv), .t (ti mat), .t (ti idx)], boolS true]) [] := oo
    clear oo
    have o1 := ok.mv
    have o2 := ok.kd
    have o3 := ok.ix
    have o4 := ok.mt
    have o5 := ok.pu
    have o6 := ok.st
    simp only at o1 o2 o3 o4 o5 o6
    have m7 : (tl.map termRow).length = tl.length := by simp
    have p1 : 0 ≤ mv * e.mats := Int.mul_nonneg o1.1 (by omega)
    have p2 : mv * e.mats ≤ 8 * 6 := Int.mul_le_mul (by omega) hm6 (by omega) (by decide)
    have p3 : (mv + 1) * e.mats = mv * e.mats + e.mats := by rw [Int.add_mul, Int.one_mul]
    have hkk : kind = 0 ∨ kind = 1 ∨ kind = 2 ∨ kind = 3 ∨ kind = 4 := by omega
    rcases hkk with rfl | rfl | rfl | rfl | rfl
    · have hI : ∀ t ∈ tl, 0 ≤ t.1 ∧ t.1 < (mv + 1) * e.mats ∧ t.1.tmod e.mats = mat := fun t ht => by
        have q := ok.tm t ht
        rw [Int.tmod_eq_emod_of_nonneg q.1]
        exact ⟨q.1, q.2.1, q.2.2.2 rfl⟩
      have hv : val = ((0 : Int) : Rat) := ok.va (by simp) (by simp)
      subst hv
      have sg : ACall Tryz.prog 29 [frS (fz ((0 : Int) : Rat))] [] (intS .i64 0) [] := r5Sign ((0 : Int) : Rat) (by have := rl_mid (n := 0) (by decide) (by decide); omega)
      conv => whnf
      (repeat' (first | ((refine DecB.mk (fun h => ?_) (fun h => ?_)) <;> first | (exfalso; omega) | (conv => whnf)) | ((refine BoolB.mk (fun h => ?_) (fun h => ?_)) <;> first | (exact absurd h (by decide)) | (conv => whnf)) | ((first | refine ⟨_, wrap_ok (by omega) (by omega), ?_⟩ | refine and_idx (by omega) (by omega) ?_ | refine reg_ok (by decide +kernel) ?_ | refine bar_ok (by decide +kernel) (by decide +kernel) ?_ | refine late_ok rfl rfl ?_ | refine src_ok rfl ?_ | refine .inl ⟨_, _, qcall_pure (oi) rfl rfl, ?_⟩ | refine .inl ⟨_, _, qcall_pure (sg) rfl rfl, ?_⟩ | refine .inl ⟨_, _, qcall_pure (5) rfl rfl, ?_⟩ | refine bar_late [5] (by decide +kernel) (by decide +kernel) ?_ | refine ex_row rw1 ?_ | refine LitB.data ?_ | refine BoxB.own ?_); conv => whnf)))
      all_goals try (exfalso; omega)
      refine awp_for tab_ok (fun k => ([J, intS .i64 at', S.c (C.t (T.ptr (evT e))), J, J, boolS true, S.c (C.ptr 0 0 0), J, intS .i64 mv, intS .i64 i, S.c (C.ptr 1 0 0), J, J, J, S.c (C.t (termsT tl)), intS .i64 k, J, J, J, J, J, J, J, J, J, J, J, J, J, J, J, J, J, J, J, J, J, J, J, J, J, J, J, J, J, J, J, J, J, J, J, J, J, J, J, J, J, J, J, J, J, J, J, J, J, J, J, J, J, J, J, J, J, J, J, J, J, J, J, J, J, J, J, J, J, J, J, J, J, J, J, J, J, J, J, J, J, J, J, J, J, J, J, J, J, J, J, J, J, J, J, J, J, J, J, J, J, J, J, J, J, J, J, J, J, J, J, J, J, J, J, J, J, J, J, J, J, J, J, J, J, J, J, J, J, J, J, J, J, J, J, J, J, J, J, J, J, J, J, J, J, J, J, J, J, J, J, J, J, J, J, J, J, J, J, J, J, J, J, J, J, J, J, J, J, J, J, J, J, J, J, J, J, J, J, J, J, J, J, J, J, J, J, J, J, J, J, J, J, J, J, J, J, J, J, J, J, J, J, J, J, J, J, J, J, J, J, J, J, J, J, J, J, J, J, J, J, J, J, J, J, J, J, J, J, J, J], [sysXB (evSys e), orB16 0 mv mat idx])) tl.length (fun _ => True) [some 0, some 1] trivial
        ⟨rfl, rfl, ⟨⟨rfl, rfl, rfl, .inr ⟨⟨rfl, rfl, trivial⟩, trivial⟩⟩, ⟨rfl, rfl, rfl, .inl ⟨rfl, rowsT_or16 _ _ _ _⟩⟩, trivial⟩, ⟨rfl, rfl, rfl, ⟨rfl, rfl, rfl⟩, rfl, rfl, ⟨rfl, rfl, rfl⟩, rfl, rfl, trivial⟩⟩ ?_
      intro k hk _
      by_cases hkt : k < tl.length
      · obtain ⟨t, ht⟩ : ∃ t, tl[k]? = some t := ⟨_, List.getElem?_eq_getElem hkt⟩
        have q := hI t (List.mem_of_getElem? ht)
        conv => whnf
        (repeat' (first | ((refine DecB.mk (fun h => ?_) (fun h => ?_)) <;> first | (exfalso; omega) | (conv => whnf)) | ((refine BoolB.mk (fun h => ?_) (fun h => ?_)) <;> first | (exact absurd h (by decide)) | (conv => whnf)) | ((first | refine ⟨_, wrap_ok (by omega) (by omega), ?_⟩ | refine and_idx (by omega) (by omega) ?_ | refine reg_ok (by decide +kernel) ?_ | refine bar_ok (by decide +kernel) (by decide +kernel) ?_ | refine late_ok rfl rfl ?_ | refine src_ok rfl ?_ | refine ex_row ht ?_ | refine ne_ok (by omega) ?_ | refine LitB.data ?_ | refine BoxB.own ?_); conv => whnf)))
        all_goals first
          | (exfalso; omega)
          | exact ⟨hkt, trivial, [some 0, some 1], rfl, rfl, ⟨⟨rfl, rfl, rfl, .inr ⟨⟨rfl, rfl, trivial⟩, trivial⟩⟩, ⟨rfl, rfl, rfl, .inl ⟨rfl, rowsT_or16 _ _ _ _⟩⟩, trivial⟩, ⟨rfl, rfl, rfl, ⟨rfl, rfl, rfl⟩, rfl, rfl, ⟨rfl, rfl, rfl⟩, rfl, rfl, trivial⟩⟩
          | skip
      · have hke : k = tl.length := by omega
        subst hke
        conv => whnf
        (repeat' (first | ((refine DecB.mk (fun h => ?_) (fun h => ?_)) <;> first | (exfalso; omega) | (conv => whnf)) | ((refine BoolB.mk (fun h => ?_) (fun h => ?_)) <;> first | (exact absurd h (by decide)) | (conv => whnf)) | ((first | refine ⟨_, wrap_ok (by omega) (by omega), ?_⟩ | refine and_idx (by omega) (by omega) ?_ | refine reg_ok (by decide +kernel) ?_ | refine bar_ok (by decide +kernel) (by decide +kernel) ?_ | refine late_ok rfl rfl ?_ | refine src_ok rfl ?_ | refine LitB.data ?_ | refine BoxB.own ?_); conv => whnf)))
        all_goals first
          | (exfalso; omega)
          | exact ⟨hlt, trivial, [some 0], rfl, rfl, ⟨⟨rfl, rfl, rfl, .inr ⟨⟨rfl, rfl, trivial⟩, trivial⟩⟩, trivial⟩, ⟨rfl, rfl, rfl, ⟨rfl, rfl, rfl⟩, ent_i hls.symm, rfl, trivial⟩⟩
          | skip
    · have hI : ∀ t ∈ tl, 0 ≤ t.1 ∧ t.1 < (mv + 1) * e.mats ∧ mv * e.mats ≤ t.1 := fun t ht => by
        have q := ok.tm t ht
        exact ⟨q.1, q.2.1, q.2.2.1 (by simp)⟩
      conv => whnf
      (repeat' (first | ((refine DecB.mk (fun h => ?_) (fun h => ?_)) <;> first | (exfalso; omega) | (conv => whnf)) | ((refine BoolB.mk (fun h => ?_) (fun h => ?_)) <;> first | (exact absurd h (by decide)) | (conv => whnf)) | ((first | refine ⟨_, wrap_ok (by omega) (by omega), ?_⟩ | refine and_idx (by omega) (by omega) ?_ | refine reg_ok (by decide +kernel) ?_ | refine bar_ok (by decide +kernel) (by decide +kernel) ?_ | refine late_ok rfl rfl ?_ | refine src_ok rfl ?_ | refine .inl ⟨_, _, qcall_pure (oi) rfl rfl, ?_⟩ | refine .inl ⟨_, _, qcall_pure (5) rfl rfl, ?_⟩ | refine bar_late [5] (by decide +kernel) (by decide +kernel) ?_ | refine ex_row rw1 ?_ | refine LitB.data ?_ | refine BoxB.own ?_); conv => whnf)))
      all_goals try (exfalso; omega)
      refine awp_for tab_ok (fun k => ([J, intS .i64 at', S.c (C.t (T.ptr (evT e))), J, J, boolS true, S.c (C.ptr 0 0 0), J, intS .i64 mv, intS .i64 i, S.c (C.ptr 1 0 0), J, J, J, S.c (C.t (termsT tl)), intS .i64 k, J, J, J, J, J, J, J, J, J, J, J, J, J, J, J, J, J, J, J, J, J, J, J, J, J, J, J, J, J, J, J, J, J, J, J, J, J, J, J, J, J, J, J, J, J, J, J, J, J, J, J, J, J, J, J, J, J, J, J, J, J, J, J, J, J, J, J, J, J, J, J, J, J, J, J, J, J, J, J, J, J, J, J, J, J, J, J, J, J, J, J, J, J, J, J, J, J, J, J, J, J, J, J, J, J, J, J, J, J, J, J, J, J, J, J, J, J, J, J, J, J, J, J, J, J, J, J, J, J, J, J, J, J, J, J, J, J, J, J, J, J, J, J, J, J, J, J, J, J, J, J, J, J, J, J, J, J, J, J, J, J, J, J, J, J, J, J, J, J, J, J, J, J, J, J, J, J, J, J, J, J, J, J, J, J, J, J, J, J, J, J, J, J, J, J, J, J, J, J, J, J, J, J, J, J, J, J, J, J, J, J, J, J, J, J, J, J, J, J, J, J, J, J, J, J, J, J, J, J, J, J], [sysXB (evSys e), orB16 1 mv mat idx])) tl.length (fun _ => True) [some 0, some 1] trivial
        ⟨rfl, rfl, ⟨⟨rfl, rfl, rfl, .inr ⟨⟨rfl, rfl, trivial⟩, trivial⟩⟩, ⟨rfl, rfl, rfl, .inl ⟨rfl, rowsT_or16 _ _ _ _⟩⟩, trivial⟩, ⟨rfl, rfl, rfl, ⟨rfl, rfl, rfl⟩, rfl, rfl, ⟨rfl, rfl, rfl⟩, rfl, rfl, trivial⟩⟩ ?_
      intro k hk _
      by_cases hkt : k < tl.length
      · obtain ⟨t, ht⟩ : ∃ t, tl[k]? = some t := ⟨_, List.getElem?_eq_getElem hkt⟩
        have q := hI t (List.mem_of_getElem? ht)
        conv => whnf
        (repeat' (first | ((refine DecB.mk (fun h => ?_) (fun h => ?_)) <;> first | (exfalso; omega) | (conv => whnf)) | ((refine BoolB.mk (fun h => ?_) (fun h => ?_)) <;> first | (exact absurd h (by decide)) | (conv => whnf)) | ((first | refine ⟨_, wrap_ok (by omega) (by omega), ?_⟩ | refine and_idx (by omega) (by omega) ?_ | refine reg_ok (by decide +kernel) ?_ | refine bar_ok (by decide +kernel) (by decide +kernel) ?_ | refine late_ok rfl rfl ?_ | refine src_ok rfl ?_ | refine ex_row ht ?_ | refine ne_ok (by omega) ?_ | refine LitB.data ?_ | refine BoxB.own ?_); conv => whnf)))
        all_goals first
          | (exfalso; omega)
          | exact ⟨hkt, trivial, [some 0, some 1], rfl, rfl, ⟨⟨rfl, rfl, rfl, .inr ⟨⟨rfl, rfl, trivial⟩, trivial⟩⟩, ⟨rfl, rfl, rfl, .inl ⟨rfl, rowsT_or16 _ _ _ _⟩⟩, trivial⟩, ⟨rfl, rfl, rfl, ⟨rfl, rfl, rfl⟩, rfl, rfl, ⟨rfl, rfl, rfl⟩, rfl, rfl, trivial⟩⟩
          | skip
      · have hke : k = tl.length := by omega
        subst hke
        conv => whnf
        (repeat' (first | ((refine DecB.mk (fun h => ?_) (fun h => ?_)) <;> first | (exfalso; omega) | (conv => whnf)) | ((refine BoolB.mk (fun h => ?_) (fun h => ?_)) <;> first | (exact absurd h (by decide)) | (conv => whnf)) | ((first | refine ⟨_, wrap_ok (by omega) (by omega), ?_⟩ | refine and_idx (by omega) (by omega) ?_ | refine reg_ok (by decide +kernel) ?_ | refine bar_ok (by decide +kernel) (by decide +kernel) ?_ | refine late_ok rfl rfl ?_ | refine src_ok rfl ?_ | refine LitB.data ?_ | refine BoxB.own ?_); conv => whnf)))
        all_goals first
          | (exfalso; omega)
          | exact ⟨hlt, trivial, [some 0], rfl, rfl, ⟨⟨rfl, rfl, rfl, .inr ⟨⟨rfl, rfl, trivial⟩, trivial⟩⟩, trivial⟩, ⟨rfl, rfl, rfl, ⟨rfl, rfl, rfl⟩, ent_i hls.symm, rfl, trivial⟩⟩
          | skip
    · have hI : ∀ t ∈ tl, 0 ≤ t.1 ∧ t.1 < (mv + 1) * e.mats ∧ mv * e.mats ≤ t.1 := fun t ht => by
        have q := ok.tm t ht
        exact ⟨q.1, q.2.1, q.2.2.1 (by simp)⟩
      conv => whnf
      (repeat' (first | ((refine DecB.mk (fun h => ?_) (fun h => ?_)) <;> first | (exfalso; omega) | (conv => whnf)) | ((refine BoolB.mk (fun h => ?_) (fun h => ?_)) <;> first | (exact absurd h (by decide)) | (conv => whnf)) | ((first | refine ⟨_, wrap_ok (by omega) (by omega), ?_⟩ | refine and_idx (by omega) (by omega) ?_ | refine reg_ok (by decide +kernel) ?_ | refine bar_ok (by decide +kernel) (by decide +kernel) ?_ | refine late_ok rfl rfl ?_ | refine src_ok rfl ?_ | refine .inl ⟨_, _, qcall_pure (oi) rfl rfl, ?_⟩ | refine .inl ⟨_, _, qcall_pure (5) rfl rfl, ?_⟩ | refine bar_late [5] (by decide +kernel) (by decide +kernel) ?_ | refine ex_row rw1 ?_ | refine LitB.data ?_ | refine BoxB.own ?_); conv => whnf)))
      all_goals try (exfalso; omega)
      refine awp_for tab_ok (fun k => ([J, intS .i64 at', S.c (C.t (T.ptr (evT e))), J, J, boolS true, S.c (C.ptr 0 0 0), J, intS .i64 mv, intS .i64 i, S.c (C.ptr 1 0 0), J, J, J, S.c (C.t (termsT tl)), intS .i64 k, J, J, J, J, J, J, J, J, J, J, J, J, J, J, J, J, J, J, J, J, J, J, J, J, J, J, J, J, J, J, J, J, J, J, J, J, J, J, J, J, J, J, J, J, J, J, J, J, J, J, J, J, J, J, J, J, J, J, J, J, J, J, J, J, J, J, J, J, J, J, J, J, J, J, J, J, J, J, J, J, J, J, J, J, J, J, J, J, J, J, J, J, J, J, J, J, J, J, J, J, J, J, J, J, J, J, J, J, J, J, J, J, J, J, J, J, J, J, J, J, J, J, J, J, J, J, J, J, J, J, J, J, J, J, J, J, J, J, J, J, J, J, J, J, J, J, J, J, J, J, J, J, J, J, J, J, J, J, J, J, J, J, J, J, J, J, J, J, J, J, J, J, J, J, J, J, J, J, J, J, J, J, J, J, J, J, J, J, J, J, J, J, J, J, J, J, J, J, J, J, J, J, J, J, J, J, J, J, J, J, J, J, J, J, J, J, J, J, J, J, J, J, J, J, J, J, J, J, J, J, J], [sysXB (evSys e), orB16 2 mv mat idx])) tl.length (fun _ => True) [some 0, some 1] trivial
        ⟨rfl, rfl, ⟨⟨rfl, rfl, rfl, .inr ⟨⟨rfl, rfl, trivial⟩, trivial⟩⟩, ⟨rfl, rfl, rfl, .inl ⟨rfl, rowsT_or16 _ _ _ _⟩⟩, trivial⟩, ⟨rfl, rfl, rfl, ⟨rfl, rfl, rfl⟩, rfl, rfl, ⟨rfl, rfl, rfl⟩, rfl, rfl, trivial⟩⟩ ?_
      intro k hk _
      by_cases hkt : k < tl.length
      · obtain ⟨t, ht⟩ : ∃ t, tl[k]? = some t := ⟨_, List.getElem?_eq_getElem hkt⟩
        have q := hI t (List.mem_of_getElem? ht)
        conv => whnf
        (repeat' (first | ((refine DecB.mk (fun h => ?_) (fun h => ?_)) <;> first | (exfalso; omega) | (conv => whnf)) | ((refine BoolB.mk (fun h => ?_) (fun h => ?_)) <;> first | (exact absurd h (by decide)) | (conv => whnf)) | ((first | refine ⟨_, wrap_ok (by omega) (by omega), ?_⟩ | refine and_idx (by omega) (by omega) ?_ | refine reg_ok (by decide +kernel) ?_ | refine bar_ok (by decide +kernel) (by decide +kernel) ?_ | refine late_ok rfl rfl ?_ | refine src_ok rfl ?_ | refine ex_row ht ?_ | refine ne_ok (by omega) ?_ | refine LitB.data ?_ | refine BoxB.own ?_); conv => whnf)))
        all_goals first
          | (exfalso; omega)
          | exact ⟨hkt, trivial, [some 0, some 1], rfl, rfl, ⟨⟨rfl, rfl, rfl, .inr ⟨⟨rfl, rfl, trivial⟩, trivial⟩⟩, ⟨rfl, rfl, rfl, .inl ⟨rfl, rowsT_or16 _ _ _ _⟩⟩, trivial⟩, ⟨rfl, rfl, rfl, ⟨rfl, rfl, rfl⟩, rfl, rfl, ⟨rfl, rfl, rfl⟩, rfl, rfl, trivial⟩⟩
          | skip
      · have hke : k = tl.length := by omega
        subst hke
        conv => whnf
        (repeat' (first | ((refine DecB.mk (fun h => ?_) (fun h => ?_)) <;> first | (exfalso; omega) | (conv => whnf)) | ((refine BoolB.mk (fun h => ?_) (fun h => ?_)) <;> first | (exact absurd h (by decide)) | (conv => whnf)) | ((first | refine ⟨_, wrap_ok (by omega) (by omega), ?_⟩ | refine and_idx (by omega) (by omega) ?_ | refine reg_ok (by decide +kernel) ?_ | refine bar_ok (by decide +kernel) (by decide +kernel) ?_ | refine late_ok rfl rfl ?_ | refine src_ok rfl ?_ | refine LitB.data ?_ | refine BoxB.own ?_); conv => whnf)))
        all_goals first
          | (exfalso; omega)
          | exact ⟨hlt, trivial, [some 0], rfl, rfl, ⟨⟨rfl, rfl, rfl, .inr ⟨⟨rfl, rfl, trivial⟩, trivial⟩⟩, trivial⟩, ⟨rfl, rfl, rfl, ⟨rfl, rfl, rfl⟩, ent_i hls.symm, rfl, trivial⟩⟩
          | skip
    · have hI : ∀ t ∈ tl, 0 ≤ t.1 ∧ t.1 < (mv + 1) * e.mats ∧ mv * e.mats ≤ t.1 := fun t ht => by
        have q := ok.tm t ht
        exact ⟨q.1, q.2.1, q.2.2.1 (by simp)⟩
      have hv : val = ((0 : Int) : Rat) := ok.va (by simp) (by simp)
      subst hv
      have sg : ACall Tryz.prog 29 [frS (fz ((0 : Int) : Rat))] [] (intS .i64 0) [] := r5Sign ((0 : Int) : Rat) (by have := rl_mid (n := 0) (by decide) (by decide); omega)
      conv => whnf
      (repeat' (first | ((refine DecB.mk (fun h => ?_) (fun h => ?_)) <;> first | (exfalso; omega) | (conv => whnf)) | ((refine BoolB.mk (fun h => ?_) (fun h => ?_)) <;> first | (exact absurd h (by decide)) | (conv => whnf)) | ((first | refine ⟨_, wrap_ok (by omega) (by omega), ?_⟩ | refine and_idx (by omega) (by omega) ?_ | refine reg_ok (by decide +kernel) ?_ | refine bar_ok (by decide +kernel) (by decide +kernel) ?_ | refine late_ok rfl rfl ?_ | refine src_ok rfl ?_ | refine .inl ⟨_, _, qcall_pure (oi) rfl rfl, ?_⟩ | refine .inl ⟨_, _, qcall_pure (sg) rfl rfl, ?_⟩ | refine .inl ⟨_, _, qcall_pure (5) rfl rfl, ?_⟩ | refine bar_late [5] (by decide +kernel) (by decide +kernel) ?_ | refine ex_row rw1 ?_ | refine LitB.data ?_ | refine BoxB.own ?_); conv => whnf)))
      all_goals try (exfalso; omega)
      refine awp_for tab_ok (fun k => ([J, intS .i64 at', S.c (C.t (T.ptr (evT e))), J, J, boolS true, S.c (C.ptr 0 0 0), J, intS .i64 mv, intS .i64 i, S.c (C.ptr 1 0 0), J, J, J, S.c (C.t (termsT tl)), intS .i64 k, J, J, J, J, J, J, J, J, J, J, J, J, J, J, J, J, J, J, J, J, J, J, J, J, J, J, J, J, J, J, J, J, J, J, J, J, J, J, J, J, J, J, J, J, J, J, J, J, J, J, J, J, J, J, J, J, J, J, J, J, J, J, J, J, J, J, J, J, J, J, J, J, J, J, J, J, J, J, J, J, J, J, J, J, J, J, J, J, J, J, J, J, J, J, J, J, J, J, J, J, J, J, J, J, J, J, J, J, J, J, J, J, J, J, J, J, J, J, J, J, J, J, J, J, J, J, J, J, J, J, J, J, J, J, J, J, J, J, J, J, J, J, J, J, J, J, J, J, J, J, J, J, J, J, J, J, J, J, J, J, J, J, J, J, J, J, J, J, J, J, J, J, J, J, J, J, J, J, J, J, J, J, J, J, J, J, J, J, J, J, J, J, J, J, J, J, J, J, J, J, J, J, J, J, J, J, J, J, J, J, J, J, J, J, J, J, J, J, J, J, J, J, J, J, J, J, J, J, J, J, J], [sysXB (evSys e), orB16 3 mv mat idx])) tl.length (fun _ => True) [some 0, some 1] trivial
        ⟨rfl, rfl, ⟨⟨rfl, rfl, rfl, .inr ⟨⟨rfl, rfl, trivial⟩, trivial⟩⟩, ⟨rfl, rfl, rfl, .inl ⟨rfl, rowsT_or16 _ _ _ _⟩⟩, trivial⟩, ⟨rfl, rfl, rfl, ⟨rfl, rfl, rfl⟩, rfl, rfl, ⟨rfl, rfl, rfl⟩, rfl, rfl, trivial⟩⟩ ?_
      intro k hk _
      by_cases hkt : k < tl.length
      · obtain ⟨t, ht⟩ : ∃ t, tl[k]? = some t := ⟨_, List.getElem?_eq_getElem hkt⟩
        have q := hI t (List.mem_of_getElem? ht)
        conv => whnf
        (repeat' (first | ((refine DecB.mk (fun h => ?_) (fun h => ?_)) <;> first | (exfalso; omega) | (conv => whnf)) | ((refine BoolB.mk (fun h => ?_) (fun h => ?_)) <;> first | (exact absurd h (by decide)) | (conv => whnf)) | ((first | refine ⟨_, wrap_ok (by omega) (by omega), ?_⟩ | refine and_idx (by omega) (by omega) ?_ | refine reg_ok (by decide +kernel) ?_ | refine bar_ok (by decide +kernel) (by decide +kernel) ?_ | refine late_ok rfl rfl ?_ | refine src_ok rfl ?_ | refine ex_row ht ?_ | refine ne_ok (by omega) ?_ | refine LitB.data ?_ | refine BoxB.own ?_); conv => whnf)))
        all_goals first
          | (exfalso; omega)
          | exact ⟨hkt, trivial, [some 0, some 1], rfl, rfl, ⟨⟨rfl, rfl, rfl, .inr ⟨⟨rfl, rfl, trivial⟩, trivial⟩⟩, ⟨rfl, rfl, rfl, .inl ⟨rfl, rowsT_or16 _ _ _ _⟩⟩, trivial⟩, ⟨rfl, rfl, rfl, ⟨rfl, rfl, rfl⟩, rfl, rfl, ⟨rfl, rfl, rfl⟩, rfl, rfl, trivial⟩⟩
          | skip
      · have hke : k = tl.length := by omega
        subst hke
        conv => whnf
        (repeat' (first | ((refine DecB.mk (fun h => ?_) (fun h => ?_)) <;> first | (exfalso; omega) | (conv => whnf)) | ((refine BoolB.mk (fun h => ?_) (fun h => ?_)) <;> first | (exact absurd h (by decide)) | (conv => whnf)) | ((first | refine ⟨_, wrap_ok (by omega) (by omega), ?_⟩ | refine and_idx (by omega) (by omega) ?_ | refine reg_ok (by decide +kernel) ?_ | refine bar_ok (by decide +kernel) (by decide +kernel) ?_ | refine late_ok rfl rfl ?_ | refine src_ok rfl ?_ | refine LitB.data ?_ | refine BoxB.own ?_); conv => whnf)))
        all_goals first
          | (exfalso; omega)
          | exact ⟨hlt, trivial, [some 0], rfl, rfl, ⟨⟨rfl, rfl, rfl, .inr ⟨⟨rfl, rfl, trivial⟩, trivial⟩⟩, trivial⟩, ⟨rfl, rfl, rfl, ⟨rfl, rfl, rfl⟩, ent_i hls.symm, rfl, trivial⟩⟩
          | skip
    · have hI : ∀ t ∈ tl, 0 ≤ t.1 ∧ t.1 < (mv + 1) * e.mats ∧ mv * e.mats ≤ t.1 := fun t ht => by
        have q := ok.tm t ht
        exact ⟨q.1, q.2.1, q.2.2.1 (by simp)⟩
      have hv : val = ((0 : Int) : Rat) := ok.va (by simp) (by simp)
      subst hv
      have sg : ACall Tryz.prog 29 [frS (fz ((0 : Int) : Rat))] [] (intS .i64 0) [] := r5Sign ((0 : Int) : Rat) (by have := rl_mid (n := 0) (by decide) (by decide); omega)
      conv => whnf
      (repeat' (first | ((refine DecB.mk (fun h => ?_) (fun h => ?_)) <;> first | (exfalso; omega) | (conv => whnf)) | ((refine BoolB.mk (fun h => ?_) (fun h => ?_)) <;> first | (exact absurd h (by decide)) | (conv => whnf)) | ((first | refine ⟨_, wrap_ok (by omega) (by omega), ?_⟩ | refine and_idx (by omega) (by omega) ?_ | refine reg_ok (by decide +kernel) ?_ | refine bar_ok (by decide +kernel) (by decide +kernel) ?_ | refine late_ok rfl rfl ?_ | refine src_ok rfl ?_ | refine .inl ⟨_, _, qcall_pure (oi) rfl rfl, ?_⟩ | refine .inl ⟨_, _, qcall_pure (sg) rfl rfl, ?_⟩ | refine .inl ⟨_, _, qcall_pure (5) rfl rfl, ?_⟩ | refine bar_late [5] (by decide +kernel) (by decide +kernel) ?_ | refine ex_row rw1 ?_ | refine LitB.data ?_ | refine BoxB.own ?_); conv => whnf)))
      all_goals try (exfalso; omega)
      refine awp_for tab_ok (fun k => ([J, intS .i64 at', S.c (C.t (T.ptr (evT e))), J, J, boolS true, S.c (C.ptr 0 0 0), J, intS .i64 mv, intS .i64 i, S.c (C.ptr 1 0 0), J, J, J, S.c (C.t (termsT tl)), intS .i64 k, J, J, J, J, J, J, J, J, J, J, J, J, J, J, J, J, J, J, J, J, J, J, J, J, J, J, J, J, J, J, J, J, J, J, J, J, J, J, J, J, J, J, J, J, J, J, J, J, J, J, J, J, J, J, J, J, J, J, J, J, J, J, J, J, J, J, J, J, J, J, J, J, J, J, J, J, J, J, J, J, J, J, J, J, J, J, J, J, J, J, J, J, J, J, J, J, J, J, J, J, J, J, J, J, J, J, J, J, J, J, J, J, J, J, J, J, J, J, J, J, J, J, J, J, J, J, J, J, J, J, J, J, J, J, J, J, J, J, J, J, J, J, J, J, J, J, J, J, J, J, J, J, J, J, J, J, J, J, J, J, J, J, J, J, J, J, J, J, J, J, J, J, J, J, J, J, J, J, J, J, J, J, J, J, J, J, J, J, J, J, J, J, J, J, J, J, J, J, J, J, J, J, J, J, J, J, J, J, J, J, J, J, J, J, J, J, J, J, J, J, J, J, J, J, J, J, J, J, J, J, J], [sysXB (evSys e), orB16 4 mv mat idx])) tl.length (fun _ => True) [some 0, some 1] trivial
        ⟨rfl, rfl, ⟨⟨rfl, rfl, rfl, .inr ⟨⟨rfl, rfl, trivial⟩, trivial⟩⟩, ⟨rfl, rfl, rfl, .inl ⟨rfl, rowsT_or16 _ _ _ _⟩⟩, trivial⟩, ⟨rfl, rfl, rfl, ⟨rfl, rfl, rfl⟩, rfl, rfl, ⟨rfl, rfl, rfl⟩, rfl, rfl, trivial⟩⟩ ?_
      intro k hk _
      by_cases hkt : k < tl.length
      · obtain ⟨t, ht⟩ : ∃ t, tl[k]? = some t := ⟨_, List.getElem?_eq_getElem hkt⟩
        have q := hI t (List.mem_of_getElem? ht)
        conv => whnf
        (repeat' (first | ((refine DecB.mk (fun h => ?_) (fun h => ?_)) <;> first | (exfalso; omega) | (conv => whnf)) | ((refine BoolB.mk (fun h => ?_) (fun h => ?_)) <;> first | (exact absurd h (by decide)) | (conv => whnf)) | ((first | refine ⟨_, wrap_ok (by omega) (by omega), ?_⟩ | refine and_idx (by omega) (by omega) ?_ | refine reg_ok (by decide +kernel) ?_ | refine bar_ok (by decide +kernel) (by decide +kernel) ?_ | refine late_ok rfl rfl ?_ | refine src_ok rfl ?_ | refine ex_row ht ?_ | refine ne_ok (by omega) ?_ | refine LitB.data ?_ | refine BoxB.own ?_); conv => whnf)))
        all_goals first
          | (exfalso; omega)
          | exact ⟨hkt, trivial, [some 0, some 1], rfl, rfl, ⟨⟨rfl, rfl, rfl, .inr ⟨⟨rfl, rfl, trivial⟩, trivial⟩⟩, ⟨rfl, rfl, rfl, .inl ⟨rfl, rowsT_or16 _ _ _ _⟩⟩, trivial⟩, ⟨rfl, rfl, rfl, ⟨rfl, rfl, rfl⟩, rfl, rfl, ⟨rfl, rfl, rfl⟩, rfl, rfl, trivial⟩⟩
          | skip
      · have hke : k = tl.length := by omega
        subst hke
        conv => whnf
        (repeat' (first | ((refine DecB.mk (fun h => ?_) (fun h => ?_)) <;> first | (exfalso; omega) | (conv => whnf)) | ((refine BoolB.mk (fun h => ?_) (fun h => ?_)) <;> first | (exact absurd h (by decide)) | (conv => whnf)) | ((first | refine ⟨_, wrap_ok (by omega) (by omega), ?_⟩ | refine and_idx (by omega) (by omega) ?_ | refine reg_ok (by decide +kernel) ?_ | refine bar_ok (by decide +kernel) (by decide +kernel) ?_ | refine late_ok rfl rfl ?_ | refine src_ok rfl ?_ | refine LitB.data ?_ | refine BoxB.own ?_); conv => whnf)))
        all_goals first
          | (exfalso; omega)
          | exact ⟨hlt, trivial, [some 0], rfl, rfl, ⟨⟨rfl, rfl, rfl, .inr ⟨⟨rfl, rfl, trivial⟩, trivial⟩⟩, trivial⟩, ⟨rfl, rfl, rfl, ⟨rfl, rfl, rfl⟩, ent_i hls.symm, rfl, trivial⟩⟩
          | skip
  · have hke : i = (evRows e).length := by omega
    subst hke
    by_cases ha : 0 ≤ at' ∧ at' < (evRows e).length
    · obtain ⟨k, rfl⟩ := Int.eq_ofNat_of_zero_le ha.1
      obtain ⟨w, hw⟩ : ∃ w, (evRows e)[k]? = some w := ⟨_, List.getElem?_eq_getElem (by omega)⟩
      have oo := a_EOrigin e hs (fun _ => hE) k
      rw [or_get h3 hw] at oo
      simp only [Option.getD_some, Option.isSome_some] at oo
      conv => whnf
      (repeat' (first | ((refine DecB.mk (fun h => ?_) (fun h => ?_)) <;> first | (exfalso; omega) | (conv => whnf)) | ((refine BoolB.mk (fun h => ?_) (fun h => ?_)) <;> first | (exact absurd h (by decide)) | (conv => whnf)) | ((first | refine ⟨_, wrap_ok (by omega) (by omega), ?_⟩ | refine and_idx (by omega) (by omega) ?_ | refine reg_ok (by decide +kernel) ?_ | refine bar_ok (by decide +kernel) (by decide +kernel) ?_ | refine late_ok rfl rfl ?_ | refine src_ok rfl ?_ | refine .inl ⟨_, _, qcall_pure (oo) rfl rfl, ?_⟩ | refine .inl ⟨_, _, qcall_pure (5) rfl rfl, ?_⟩ | refine bar_late [5] (by decide +kernel) (by decide +kernel) ?_ | refine LitB.data ?_ | refine BoxB.own ?_); conv => whnf)))
      all_goals first
        | (exfalso; omega)
        | exact fin_bool rfl
        | skip
    · have oo := a_EOrigin e hs (fun _ => hE) at'
      rw [or_none (by omega)] at oo
      simp only [Option.getD_none, Option.isSome_none] at oo
      conv => whnf
      (repeat' (first | ((refine DecB.mk (fun h => ?_) (fun h => ?_)) <;> first | (exfalso; omega) | (conv => whnf)) | ((refine BoolB.mk (fun h => ?_) (fun h => ?_)) <;> first | (exact absurd h (by decide)) | (conv => whnf)) | ((first | refine ⟨_, wrap_ok (by omega) (by omega), ?_⟩ | refine and_idx (by omega) (by omega) ?_ | refine reg_ok (by decide +kernel) ?_ | refine bar_ok (by decide +kernel) (by decide +kernel) ?_ | refine late_ok rfl rfl ?_ | refine src_ok rfl ?_ | refine .inl ⟨_, _, qcall_pure (oo) rfl rfl, ?_⟩ | refine .inl ⟨_, _, qcall_pure (5) rfl rfl, ?_⟩ | refine bar_late [5] (by decide +kernel) (by decide +kernel) ?_ | refine LitB.data ?_ | refine BoxB.own ?_); conv => whnf)))
      all_goals first
        | (exfalso; omega)
        | exact fin_bool rfl
        | skip
end Go.Proofs.YtfieodjihaodiaaGreat
/- Laws on appending to a slice that the call itself made, in the form that my walks use. Over any program. -/
namespace Go.Proofs.YtfieodjihaodiaaGreat
open Go.RowKit

/-- what an append leaves of older worlds -/
def Later (base : Nat) (w w' : World) : Prop := w.heap.size ≤ w'.heap.size ∧ ∀ (w0 : World) (B : Nat), Below B w0 w → B ≤ base → Below B w0 w'
theorem Later.below {base B : Nat} {w w' w0 : World} (h : Later base w w') (hb : Below B w0 w) (hB : B ≤ base) : Below B w0 w' := h.2 w0 B hb hB
theorem Later.size {base : Nat} {w w' : World} (h : Later base w w') : w.heap.size ≤ w'.heap.size := h.1

end Go.Proofs.YtfieodjihaodiaaGreat
/- More words on memory: boxes of evidence; an append whose value is written out. -/
namespace Go.Proofs.YtfieodjihaodiaaGreat
open Go.RowKit

/-- Block b holds evidence of these parts. -/
structure EvBox (w : World) (b : Nat) (m h s : Int) (A1 : Option Addr) (n1 c1 : Nat) (A2 : Option Addr) (n2 c2 : Nat) (A3 : Option Addr) (n3 c3 : Nat) (A4 : Option Addr) (n4 c4 : Nat) (A5 : Option Addr) (n5 c5 : Nat) : Prop where
  b0 : w.cell? ⟨b, 0, none⟩ = some (vi m)
  b1 : w.cell? ⟨b, 1, none⟩ = some (vi h)
  b2 : w.cell? ⟨b, 2, none⟩ = some (vi s)
  b3 : w.cell? ⟨b, 3, none⟩ = some (.slice A1 n1 c1)
  b4 : w.cell? ⟨b, 4, none⟩ = some (.slice A2 n2 c2)
  b5 : w.cell? ⟨b, 5, none⟩ = some (.slice A3 n3 c3)
  b6 : w.cell? ⟨b, 6, none⟩ = some (.slice A4 n4 c4)
  b7 : w.cell? ⟨b, 7, none⟩ = some (.slice A5 n5 c5)
section
variable {w w' : World} {b : Nat} {m h s : Int} {A1 A2 A3 A4 A5 : Option Addr} {n1 n2 n3 n4 n5 c1 c2 c3 c4 c5 : Nat}
theorem EvBox.lt (h0 : EvBox w b m h s A1 n1 c1 A2 n2 c2 A3 n3 c3 A4 n4 c4 A5 n5 c5) : b < w.heap.size := lt_of_cell h0.b0
theorem EvBox.keep {B : Nat} (h0 : EvBox w b m h s A1 n1 c1 A2 n2 c2 A3 n3 c3 A4 n4 c4 A5 n5 c5) (hb : Below B w w') (hB : b < B) : EvBox w' b m h s A1 n1 c1 A2 n2 c2 A3 n3 c3 A4 n4 c4 A5 n5 c5 :=
  ⟨(hb.cell (p := ⟨b, 0, none⟩) hB).trans h0.b0, (hb.cell (p := ⟨b, 1, none⟩) hB).trans h0.b1, (hb.cell (p := ⟨b, 2, none⟩) hB).trans h0.b2, (hb.cell (p := ⟨b, 3, none⟩) hB).trans h0.b3,
   (hb.cell (p := ⟨b, 4, none⟩) hB).trans h0.b4, (hb.cell (p := ⟨b, 5, none⟩) hB).trans h0.b5, (hb.cell (p := ⟨b, 6, none⟩) hB).trans h0.b6, (hb.cell (p := ⟨b, 7, none⟩) hB).trans h0.b7⟩
theorem EvBox.later (h0 : EvBox w b m h s A1 n1 c1 A2 n2 c2 A3 n3 c3 A4 n4 c4 A5 n5 c5) (hb : Below w.heap.size w w') : EvBox w' b m h s A1 n1 c1 A2 n2 c2 A3 n3 c3 A4 n4 c4 A5 n5 c5 := h0.keep hb h0.lt
theorem EvBox.new (w : World) (m h s : Int) (A1 : Option Addr) (n1 c1 : Nat) (A2 : Option Addr) (n2 c2 : Nat) (A3 : Option Addr) (n3 c3 : Nat) (A4 : Option Addr) (n4 c4 : Nat) (A5 : Option Addr) (n5 c5 : Nat) (t : TypeId) :
    EvBox (w.alloc (.cells #[.int .i64 m, .int .i64 h, .int .i64 s, .slice A1 n1 c1, .slice A2 n2 c2, .slice A3 n3 c3, .slice A4 n4 c4, .slice A5 n5 c5] t)) w.heap.size m h s A1 n1 c1 A2 n2 c2 A3 n3 c3 A4 n4 c4 A5 n5 c5 := by
  have hc := fun i => cell_of_row (w.alloc (.cells #[.int .i64 m, .int .i64 h, .int .i64 s, .slice A1 n1 c1, .slice A2 n2 c2, .slice A3 n3 c3, .slice A4 n4 c4, .slice A5 n5 c5] t)) w.heap.size i _ t (0, 0) (heap_alloc_new w _)
  exact ⟨hc 0, hc 1, hc 2, hc 3, hc 4, hc 5, hc 6, hc 7⟩
end
end Go.Proofs.YtfieodjihaodiaaGreat
/- From a walk to a row: every law of the seat is closed by these, over any program. And: arguments opened to cells. -/
namespace Go.Proofs.YtfieodjihaodiaaGreat
open Go.RowKit Go.ChangeShapes Go.WideShapes Go.Deep

section
variable {H : Type} {enc : TypeId × Value → H} {P : Program}
theorem trodAll_stays (hl : laidOutB P = true) {W W' : World} {sp : Nat → Bool} : ∀ {ts : List TypeId} {vs : List Value} {ds : List (DataW H)} {ps : List MemPlace}, (∀ t ∈ ts, P.readableRec t = true ∧ t < P.types.size) →
    DataW.TrodAll enc P W 0 (fun _ => true) true ts vs ds ps → (∀ p ∈ ps, W.sameAt W' p) → (∀ p ∈ ps, sp p.block = true) → DataW.TrodAll enc P W' 0 sp true ts vs ds ps := by
  intro ts
  induction ts with
  | nil =>
    intro vs ds ps _ h _ _
    obtain ⟨rfl, rfl, rfl⟩ := trodAll_nil h
    exact trodAll_mk0
  | cons t ts ih =>
    intro vs ds ps hr h hsame hs
    obtain ⟨v, vs', d, ds', p, q, rfl, rfl, rfl, h1, h2⟩ := trodAll_cons h
    obtain ⟨ht, hlt⟩ := hr t (by simp)
    exact trodAll_cons_mk (WideElems.Trod_stays hl ht hlt h1 (fun x hx => hsame x (by simp [hx])) (fun x hx => hs x (by simp [hx]))) (ih (fun t ht => hr t (by simp [ht])) h2 (fun x hx => hsame x (by simp [hx])) (fun x hx => hs x (by simp [hx])))

/-- A law's post: it returned true, and old memory is as it was. -/
theorem law_post {f : Func} {s : ChangeSpec} {fresh handsOn : Bool} {W W' : World} {args : Array Value} {ds gs : List (DataW H)} {before : List MemPlace} {tb : TypeId}
    (hW : DataW.Whole enc P f.params.toList s.vars false W args.toList ds gs before) (hl : laidOutB P = true) (hr : ∀ t ∈ f.params.toList, P.readableRec t = true ∧ t < P.types.size) (hv : s.vars = [])
    (hfn : s.fn H (ds ++ gs) = { results := [.lit (.bool true)], args := ds }) (hres : f.resultTypes = #[tb]) (hbool : P.underlying tb = some .bool) (hb : Below W.heap.size W W') :
    s.post enc P f false fresh handsOn false W args (.bool true) W' := by
  have hW' := hW
  obtain ⟨p, q, hA, hV, rfl, hfz, hnd⟩ := hW
  rw [hv] at hV
  obtain ⟨rfl, rfl⟩ := trodVars_none hV
  have hlt : ∀ x ∈ p, x.block < W.heap.size := fun x hx => by have := hW'.lt x (by simpa using hx); simpa using this
  refine ⟨ds, [], p ++ [], [], p, [], hW', ?_, ?_, ?_, hb.frame _, fun h => by cases h⟩
  · rw [hfn, hres]
    exact trodAll_mk1 (shut_bool hbool true)
  · rw [hfn]
    exact trodAll_stays hl hr hA (fun x hx => hb.same (hlt x hx)) (fun x hx => by simpa using hlt x hx)
  · rw [hv, hfn]
    exact rfl

/-- lists out of cells that can be read one by one -/
theorem Rd.of_each {α : Type} {k : Nat} {f : α → List Value} {w : World} {b off : Nat} : ∀ (n : Nat), (∀ i, i < n → ∃ x : α, ∀ j u, (f x)[j]? = some u → w.cell? ⟨b, off + (i * k + j), none⟩ = some u) → ∃ xs, Rd k f w (some ⟨b, off, none⟩) n xs := by
  intro n
  induction n with
  | zero => intro _; exact ⟨[], Rd.nil _⟩
  | succ n ih =>
    intro h
    obtain ⟨xs, hx⟩ := ih (fun i hi => h i (by omega))
    obtain ⟨x, hxn⟩ := h n (by omega)
    have hl := hx.len
    refine ⟨xs ++ [x], by simp [← hl], fun _ => ⟨b, off, rfl, fun i y hy j u hu => ?_⟩⟩
    by_cases hi : i < xs.length
    · rw [List.getElem?_append_left hi] at hy
      obtain ⟨b', off', e, hc⟩ := hx.2 (by omega)
      injection e with e
      injection e with e1 e2
      subst e1 e2
      exact hc i y hy j u hu
    · have hi2 : i = n := by
        have := (List.getElem?_eq_some_iff.1 hy).1
        simp at this
        omega
      subst hi2
      have hy2 : x = y := by
        rw [List.getElem?_append_right (by omega), ← hl] at hy
        simpa using hy
      subst hy2
      exact hxn j u hu

variable {w : World} {base : Nat} {spare : Nat → Bool} {held : Bool}
/-- a slice of structs whose fields are one cell each -/
theorem open_structs {α : Type} (f : α → List Value) {t e : TypeId} {fs : Array Field} {fuel : Nat} {v : Value} {x : DataW H × List MemPlace} (ht : P.underlying t = some (.slice e)) (he : P.underlying e = some (.struct fs))
    (hone : oneCellFields P fs = true) (hC : P.cellsOf e = fs.size) (hpos : 0 < fs.size)
    (hdec : ∀ vs : Nat → Value, (∀ j fld, fs[j]? = some fld → ∃ y n, DataW.trod enc P w base spare held n fld.type [vs j] = some y) → ∃ x : α, ∀ j u, (f x)[j]? = some u → vs j = u ∧ j < fs.size)
    (h : DataW.trod enc P w base spare held fuel t [v] = some x) : ∃ A n c xs, v = .slice A n c ∧ Rd fs.size f w A n xs ∧ n ≤ c ∧ c ≤ maxLen := by
  rcases open_slice ht h with ⟨h0, _⟩ | ⟨a, len, cap, m, n, D, Pl, hcs, hb, hl, hm, hmm, hx, hi⟩
  · injection h0 with h0
    exact ⟨none, 0, 0, [], h0, Rd.nil _, Nat.le_refl _, by unfold maxLen; omega⟩
  · injection hcs with hv
    by_cases hz : len = 0
    · subst hz
      exact ⟨some a, 0, cap, [], hv, Rd.nil _, hl, hm⟩
    have hlm : len ≤ m := by rw [hmm]; split <;> omega
    have key : ∀ i, i < m → ∀ j fld, fs[j]? = some fld → ∃ u y n, w.cell? (a.add (i * fs.size + j)) = some u ∧ DataW.trod enc P w base spare held n fld.type [u] = some y := by
      intro i him j fld hj
      obtain ⟨cs', hc, ht'⟩ := hi i him
      rw [hC] at hc
      obtain ⟨ys, n', hn', hy, hlen, hyl, hf⟩ := DataW.trod_struct he ht'
      obtain ⟨_, hcl, hat⟩ := World.cells?_some hc
      obtain ⟨ho, hk⟩ := hone_of hone j fld hj
      have hjl : j < fs.size := (Array.getElem?_eq_some_iff.1 hj).1
      have hcell := hat j hjl
      have hv : cs'[j]? = some (cs'[j]'(by omega)) := List.getElem?_eq_getElem (by omega)
      have h1 := hf j fld hj
      rw [ho, hk] at h1
      have hone' : (cs'.drop j).take 1 = [cs'[j]'(by omega)] := by
        rw [List.drop_eq_getElem_cons (by omega)]
        rfl
      rw [hone'] at h1
      have hys : ys[j]? = some (ys[j]'(by omega)) := List.getElem?_eq_getElem (by omega)
      exact ⟨_, _, _, by rw [← Go.Deep.add_add, hcell, hv], h1.trans hys⟩
    obtain ⟨f0, hf0⟩ : ∃ f0, fs[0]? = some f0 := ⟨_, Array.getElem?_eq_getElem hpos⟩
    obtain ⟨u0, _, _, hu0, _⟩ := key 0 (by omega) 0 f0 hf0
    have hspot : a.spot = none := by
      have := World.cell?_spot hu0
      simpa [Addr.add] using this
    obtain ⟨b, off, sp⟩ := a
    simp only at hspot
    subst hspot
    have hadd : ∀ k, (⟨b, off, none⟩ : Addr).add k = ⟨b, off + k, none⟩ := by
      intro k
      unfold Addr.add
      split
      · subst_vars; rfl
      · rfl
    obtain ⟨xs, hxs⟩ := Rd.of_each (k := fs.size) (f := f) (w := w) (b := b) (off := off) len (fun i hil => by
      have hsel : ∀ j, ∃ u, ∀ fld, fs[j]? = some fld → w.cell? ⟨b, off + (i * fs.size + j), none⟩ = some u ∧ ∃ y n, DataW.trod enc P w base spare held n fld.type [u] = some y := by
        intro j
        by_cases hj : j < fs.size
        · obtain ⟨u, y, n, hu, hy⟩ := key i (by omega) j fs[j] (Array.getElem?_eq_getElem hj)
          rw [hadd] at hu
          refine ⟨u, fun fld hfld => ?_⟩
          rw [Array.getElem?_eq_getElem hj] at hfld
          injection hfld with hfld
          subst hfld
          exact ⟨hu, y, n, hy⟩
        · exact ⟨.nilFunc, fun fld hfld => absurd (Array.getElem?_eq_some_iff.1 hfld).1 hj⟩
      let vs : Nat → Value := fun j => Classical.choose (hsel j)
      obtain ⟨x, hx⟩ := hdec vs (fun j fld hj => (Classical.choose_spec (hsel j) fld hj).2)
      refine ⟨x, fun j u hu => ?_⟩
      obtain ⟨hvu, hjl⟩ := hx j u hu
      rw [← hvu]
      exact (Classical.choose_spec (hsel j) fs[j] (Array.getElem?_eq_getElem hjl)).1)
    exact ⟨_, len, cap, xs, hv, hxs, hl, hm⟩
end
end Go.Proofs.YtfieodjihaodiaaGreat
/- An argument 'e api.Evidence' opened to its parts. -/
namespace Go.Proofs.YtfieodjihaodiaaGreat
open Go.RowKit Go.ChangeShapes Go.WideShapes Go.Deep

set_option maxRecDepth 100000
section
variable {H : Type} {enc : TypeId × Value → H} {w : World} {base : Nat} {spare : Nat → Bool} {held : Bool}
theorem dec_int {k : TypeId} (hk : Tryz.prog.underlying k = some (.int .i64)) {u : Value} (h : ∃ y n, DataW.trod enc Tryz.prog w base spare held n k [u] = some y) : ∃ a : Int, u = .int .i64 a := by
  obtain ⟨y, n, h⟩ := h
  obtain ⟨a, e, _, _⟩ := DataW.trod_int hk h
  injection e with e
  exact ⟨a, e⟩
theorem dec_bool {k : TypeId} (hk : Tryz.prog.underlying k = some .bool) {u : Value} (h : ∃ y n, DataW.trod enc Tryz.prog w base spare held n k [u] = some y) : ∃ a : Bool, u = .bool a := by
  obtain ⟨y, n, h⟩ := h
  obtain ⟨a, e, _⟩ := DataW.trod_bool hk h
  injection e with e
  exact ⟨a, e⟩

theorem open_ev {r : Reach} {b0 : Nat} {v : Value} {d : DataW H} {p : List MemPlace} (hv : Value.okWide Tryz.prog w r b0 28 v) (h : DataW.Trod enc Tryz.prog w base spare held 28 v d p) :
    ∃ m h s A1 n1 c1 A2 n2 c2 A3 n3 c3 A4 n4 c4 A5 n5 c5 e, v = .agg #[.int .i64 m, .int .i64 h, .int .i64 s, .slice A1 n1 c1, .slice A2 n2 c2, .slice A3 n3 c3, .slice A4 n4 c4, .slice A5 n5 c5] ∧ EvR w m h s A1 n1 A2 n2 A3 n3 A4 n4 A5 n5 e ∧ n1 ≤ c1 ∧ n2 ≤ c2 ∧ n3 ≤ c3 ∧ n4 ≤ c4 ∧ n5 ≤ c5 ∧ c1 ≤ maxLen ∧ c2 ≤ maxLen ∧ c3 ≤ maxLen ∧ c4 ≤ maxLen ∧ c5 ≤ maxLen := by
  obtain ⟨fs, hs, hone, hC, hty⟩ : ∃ fs : Array Field, Tryz.prog.underlying 28 = some (.struct fs) ∧ oneCellFields Tryz.prog fs = true ∧ Tryz.prog.cellsOf 28 = 8 ∧ fs.map (·.type) = #[3, 3, 3, 22, 23, 24, 25, 26] :=
    ⟨_, Tryz.underlying28, by kernel_rfl, by kernel_rfl, by kernel_rfl⟩
  obtain ⟨cs, rfl, hsz⟩ := okWide_struct hs hv
  obtain ⟨l⟩ := cs
  obtain ⟨fuel, hf⟩ := h
  obtain ⟨xs, n, _, hx, _, hlen, hg⟩ := DataW.trod_struct hs hf
  have hl8 : l.length = 8 := by simpa [hC] using hsz
  have hfs : fs.size = 8 := by have := congrArg Array.size hty; simpa using this
  have hfld : ∀ j, j < 8 → ∃ u y m, l[j]? = some u ∧ DataW.trod enc Tryz.prog w base spare held m ((#[3, 3, 3, 22, 23, 24, 25, 26] : Array TypeId).getD j 0) [u] = some y := by
    intro j hj
    have hjf : fs[j]? = some (fs[j]'(by omega)) := Array.getElem?_eq_getElem (by omega)
    obtain ⟨ho, hk⟩ := hone_of hone j _ hjf
    have h1 := hg j _ hjf
    rw [ho, hk] at h1
    have hone' : ((Value.agg ⟨l⟩).cells.toList.drop j).take 1 = [l[j]'(by omega)] := by
      show (l.drop j).take 1 = _
      rw [List.drop_eq_getElem_cons (by omega)]
      rfl
    rw [hone'] at h1
    have hxl : j < xs.length := by omega
    rw [List.getElem?_eq_getElem hxl] at h1
    have htj : (#[3, 3, 3, 22, 23, 24, 25, 26] : Array TypeId).getD j 0 = (fs[j]'(by omega)).type := by
      rw [← hty, Array.getD_eq_getD_getElem?, Array.getElem?_map, hjf]
      rfl
    rw [htj]
    exact ⟨_, _, n, List.getElem?_eq_getElem (by omega), h1⟩
  match l, hl8 with
  | [v0, v1, v2, v3, v4, v5, v6, v7], _ =>
    obtain ⟨u0, y0, m0, e0, t0⟩ := hfld 0 (by omega)
    obtain ⟨u1, y1, m1, e1, t1⟩ := hfld 1 (by omega)
    obtain ⟨u2, y2, m2, e2, t2⟩ := hfld 2 (by omega)
    obtain ⟨u3, y3, m3, e3, t3⟩ := hfld 3 (by omega)
    obtain ⟨u4, y4, m4, e4, t4⟩ := hfld 4 (by omega)
    obtain ⟨u5, y5, m5, e5, t5⟩ := hfld 5 (by omega)
    obtain ⟨u6, y6, m6, e6, t6⟩ := hfld 6 (by omega)
    obtain ⟨u7, y7, m7, e7, t7⟩ := hfld 7 (by omega)
    simp at e0 e1 e2 e3 e4 e5 e6 e7
    subst e0 e1 e2 e3 e4 e5 e6 e7
    obtain ⟨a0, rfl⟩ := dec_int Tryz.underlying3 ⟨_, _, t0⟩
    obtain ⟨a1, rfl⟩ := dec_int Tryz.underlying3 ⟨_, _, t1⟩
    obtain ⟨a2, rfl⟩ := dec_int Tryz.underlying3 ⟨_, _, t2⟩
    obtain ⟨A1, n1, c1, ps, rfl, r1, l1, g1⟩ := open_structs Place.cells Tryz.underlying22 Tryz.underlying125 (by kernel_rfl) (by kernel_rfl) (by decide)
      (fun vs hd => by
        obtain ⟨b0, h0⟩ := dec_int Tryz.underlying3 (hd 0 _ rfl)
        obtain ⟨b1, h1⟩ := dec_int Tryz.underlying3 (hd 1 _ rfl)
        obtain ⟨b2, h2⟩ := dec_int Tryz.underlying3 (hd 2 _ rfl)
        refine ⟨⟨b0, b1, b2⟩, fun j u hu => ?_⟩
        match j, hu with
        | 0, hu => exact ⟨h0.trans (by simpa [Place.cells] using hu), by decide⟩
        | 1, hu => exact ⟨h1.trans (by simpa [Place.cells] using hu), by decide⟩
        | 2, hu => exact ⟨h2.trans (by simpa [Place.cells] using hu), by decide⟩
        | n + 3, hu => simp [Place.cells] at hu) t3
    obtain ⟨A2, n2, c2, ms, rfl, r2, l2, g2⟩ := open_structs Move.cells Tryz.underlying23 Tryz.underlying74 (by kernel_rfl) (by kernel_rfl) (by decide)
      (fun vs hd => by
        obtain ⟨b0, h0⟩ := dec_int Tryz.underlying3 (hd 0 _ rfl)
        obtain ⟨b1, h1⟩ := dec_int Tryz.underlying3 (hd 1 _ rfl)
        obtain ⟨b2, h2⟩ := dec_int Tryz.underlying3 (hd 2 _ rfl)
        obtain ⟨b3, h3⟩ := dec_int Tryz.underlying3 (hd 3 _ rfl)
        obtain ⟨b4, h4⟩ := dec_int Tryz.underlying3 (hd 4 _ rfl)
        obtain ⟨b5, h5⟩ := dec_bool Tryz.underlying4 (hd 5 _ rfl)
        refine ⟨⟨b0, b1, b2, b3, b4, b5⟩, fun j u hu => ?_⟩
        match j, hu with
        | 0, hu => exact ⟨h0.trans (by simpa [Move.cells] using hu), by decide⟩
        | 1, hu => exact ⟨h1.trans (by simpa [Move.cells] using hu), by decide⟩
        | 2, hu => exact ⟨h2.trans (by simpa [Move.cells] using hu), by decide⟩
        | 3, hu => exact ⟨h3.trans (by simpa [Move.cells] using hu), by decide⟩
        | 4, hu => exact ⟨h4.trans (by simpa [Move.cells] using hu), by decide⟩
        | 5, hu => exact ⟨h5.trans (by simpa [Move.cells] using hu), by decide⟩
        | n + 6, hu => simp [Move.cells] at hu) t4
    obtain ⟨A3, n3, c3, cts, rfl, r3, l3, g3⟩ := open_structs Cert.cells Tryz.underlying24 Tryz.underlying120 (by kernel_rfl) (by kernel_rfl) (by decide)
      (fun vs hd => by
        obtain ⟨b0, h0⟩ := dec_int Tryz.underlying3 (hd 0 _ rfl)
        obtain ⟨b1, h1⟩ := dec_int Tryz.underlying3 (hd 1 _ rfl)
        obtain ⟨b2, h2⟩ := dec_int Tryz.underlying3 (hd 2 _ rfl)
        obtain ⟨b3, h3⟩ := dec_int Tryz.underlying3 (hd 3 _ rfl)
        obtain ⟨b4, h4⟩ := dec_int Tryz.underlying3 (hd 4 _ rfl)
        obtain ⟨b5, h5⟩ := dec_int Tryz.underlying3 (hd 5 _ rfl)
        refine ⟨⟨b0, b1, b2, b3, b4, b5⟩, fun j u hu => ?_⟩
        match j, hu with
        | 0, hu => exact ⟨h0.trans (by simpa [Cert.cells] using hu), by decide⟩
        | 1, hu => exact ⟨h1.trans (by simpa [Cert.cells] using hu), by decide⟩
        | 2, hu => exact ⟨h2.trans (by simpa [Cert.cells] using hu), by decide⟩
        | 3, hu => exact ⟨h3.trans (by simpa [Cert.cells] using hu), by decide⟩
        | 4, hu => exact ⟨h4.trans (by simpa [Cert.cells] using hu), by decide⟩
        | 5, hu => exact ⟨h5.trans (by simpa [Cert.cells] using hu), by decide⟩
        | n + 6, hu => simp [Cert.cells] at hu) t5
    obtain ⟨A4, n4, c4, rcs, rfl, r4, l4, g4⟩ := open_structs Recall.cells Tryz.underlying25 Tryz.underlying72 (by kernel_rfl) (by kernel_rfl) (by decide)
      (fun vs hd => by
        obtain ⟨b0, h0⟩ := dec_int Tryz.underlying3 (hd 0 _ rfl)
        obtain ⟨b1, h1⟩ := dec_int Tryz.underlying3 (hd 1 _ rfl)
        refine ⟨⟨b0, b1⟩, fun j u hu => ?_⟩
        match j, hu with
        | 0, hu => exact ⟨h0.trans (by simpa [Recall.cells] using hu), by decide⟩
        | 1, hu => exact ⟨h1.trans (by simpa [Recall.cells] using hu), by decide⟩
        | n + 2, hu => simp [Recall.cells] at hu) t6
    obtain ⟨A5, n5, c5, pus, rfl, r5, l5, g5⟩ := open_structs Purity.cells Tryz.underlying26 Tryz.underlying69 (by kernel_rfl) (by kernel_rfl) (by decide)
      (fun vs hd => by
        obtain ⟨b0, h0⟩ := dec_int Tryz.underlying3 (hd 0 _ rfl)
        obtain ⟨b1, h1⟩ := dec_int Tryz.underlying3 (hd 1 _ rfl)
        obtain ⟨b2, h2⟩ := dec_int Tryz.underlying3 (hd 2 _ rfl)
        obtain ⟨b3, h3⟩ := dec_int Tryz.underlying3 (hd 3 _ rfl)
        refine ⟨⟨b0, b1, b2, b3⟩, fun j u hu => ?_⟩
        match j, hu with
        | 0, hu => exact ⟨h0.trans (by simpa [Purity.cells] using hu), by decide⟩
        | 1, hu => exact ⟨h1.trans (by simpa [Purity.cells] using hu), by decide⟩
        | 2, hu => exact ⟨h2.trans (by simpa [Purity.cells] using hu), by decide⟩
        | 3, hu => exact ⟨h3.trans (by simpa [Purity.cells] using hu), by decide⟩
        | n + 4, hu => simp [Purity.cells] at hu) t7
    exact ⟨a0, a1, a2, A1, n1, c1, A2, n2, c2, A3, n3, c3, A4, n4, c4, A5, n5, c5, ⟨a0, a1, a2, ps, ms, cts, rcs, pus⟩, rfl, ⟨rfl, rfl, rfl, r1, r2, r3, r4, r5⟩, l1, l2, l3, l4, l5, g1, g2, g3, g4, g5⟩
end
theorem law_own : ownKnob Tryz.prog.godebug = none := by kernel_rfl
theorem law_laid : laidOutB Tryz.prog = true := by kernel_rfl
end Go.Proofs.YtfieodjihaodiaaGreat
/- From a call's contract to what a law's row asks for. -/
namespace Go.Proofs.YtfieodjihaodiaaGreat
open Go.RowKit
set_option linter.unusedVariables false
set_option linter.unusedSimpArgs false

/-- a list that is read from the outside -/
theorem rt_of_rd {α : Type} {k : Nat} {f : α → List Value} {row : α → List T} (hrow : ∀ x, row x = (f x).map T.atm) (hone : ∀ x, ∀ v ∈ f x, v.oneCell' = true) (hk : ∀ x, (f x).length = k)
    {w : World} {A : Option Addr} {n c : Nat} {xs : List α} (h : Rd k f w A n xs) (h1 : n ≤ c) (h2 : c ≤ maxLen) : RT w (fun _ => False) (.sl k .any (xs.map row)) (.slice A n c) := by
  obtain ⟨hn, hc⟩ := h
  have hlen : (xs.map row).length = n := by simp [hn]
  rw [← hlen]
  have hat : ∀ i j t, at2 (xs.map row) i j = some t → ∃ x v, xs[i]? = some x ∧ (f x)[j]? = some v ∧ t = .atm v := fun i j t ht => by
    obtain ⟨r, q1, q2⟩ := at2_inv ht
    rw [List.getElem?_map] at q1
    cases hx : xs[i]? with
    | none => rw [hx] at q1; cases q1
    | some x =>
      rw [hx] at q1
      injection q1 with q1
      subst q1
      rw [hrow, List.getElem?_map] at q2
      cases hv : (f x)[j]? with
      | none => rw [hv] at q2; cases q2
      | some v => rw [hv] at q2; injection q2 with q2; exact ⟨x, v, rfl, hv, q2.symm⟩
  rcases Nat.eq_zero_or_pos n with h0 | h0
  · have hx : xs = [] := List.eq_nil_of_length_eq_zero (by omega)
    subst hx
    exact .sl (b := 0) (off := 0) (fun _ _ => undef) (by simp) (by simp) h2 (by intro h; cases h) (by intro h; cases h) (by simp) (by simp [at2]) (by simp [at2])
  · obtain ⟨b, off, hA, hcell⟩ := hc h0
    refine .sl (b := b) (off := off) (fun i j => ((xs[i]?).bind fun x => (f x)[j]?).getD undef) ?_ (by omega) h2 (by intro h; cases h) (by intro h; cases h) (fun _ => hA) ?_ ?_
    · intro r hr
      obtain ⟨x, _, rfl⟩ := List.mem_map.1 hr
      rw [hrow, List.length_map, hk]
    · intro i j t ht
      obtain ⟨x, v, hx, hv, rfl⟩ := hat i j t ht
      exact ⟨by rw [hcell i x hx j v hv]; simp [hx, hv], fun h => h⟩
    · intro i j t ht
      obtain ⟨x, v, hx, hv, rfl⟩ := hat i j t ht
      have : ((xs[i]?).bind fun x => (f x)[j]?).getD undef = v := by simp [hx, hv]
      rw [this]
      exact .atm (hone x v (List.mem_of_getElem? hv))

theorem rs_ev {w : World} {m h s : Int} {A1 A2 A3 A4 A5 : Option Addr} {n1 n2 n3 n4 n5 c1 c2 c3 c4 c5 : Nat} {e : Ev} (hr : EvR w m h s A1 n1 A2 n2 A3 n3 A4 n4 A5 n5 e)
    (hb : n1 ≤ c1 ∧ n2 ≤ c2 ∧ n3 ≤ c3 ∧ n4 ≤ c4 ∧ n5 ≤ c5 ∧ c1 ≤ maxLen ∧ c2 ≤ maxLen ∧ c3 ≤ maxLen ∧ c4 ≤ maxLen ∧ c5 ≤ maxLen) :
    RS w (fun _ => none) (fun _ => False) (evS e) (.agg #[.int .i64 m, .int .i64 h, .int .i64 s, .slice A1 n1 c1, .slice A2 n2 c2, .slice A3 n3 c3, .slice A4 n4 c4, .slice A5 n5 c5]) := by
  obtain ⟨rfl, rfl, rfl, r1, r2, r3, r4, r5⟩ := hr
  obtain ⟨b1, b2, b3, b4, b5, d1, d2, d3, d4, d5⟩ := hb
  have t1 := rt_of_rd (k := 3) (f := Place.cells) (row := Place.row) (fun _ => rfl) (by intro x v hv; simp [Place.cells] at hv; rcases hv with rfl | rfl | rfl <;> rfl) (fun _ => rfl) r1 b1 d1
  have t2 := rt_of_rd (k := 6) (f := Move.cells) (row := Move.row) (fun _ => rfl) (by intro x v hv; simp [Move.cells] at hv; rcases hv with rfl | rfl | rfl | rfl | rfl | rfl <;> rfl) (fun _ => rfl) r2 b2 d2
  have t3 := rt_of_rd (k := 6) (f := Cert.cells) (row := Cert.row) (fun _ => rfl) (by intro x v hv; simp [Cert.cells] at hv; rcases hv with rfl | rfl | rfl | rfl | rfl | rfl <;> rfl) (fun _ => rfl) r3 b3 d3
  have t4 := rt_of_rd (k := 2) (f := Recall.cells) (row := Recall.row) (fun _ => rfl) (by intro x v hv; simp [Recall.cells] at hv; rcases hv with rfl | rfl <;> rfl) (fun _ => rfl) r4 b4 d4
  have t5 := rt_of_rd (k := 4) (f := Purity.cells) (row := Purity.row) (fun _ => rfl) (by intro x v hv; simp [Purity.cells] at hv; rcases hv with rfl | rfl | rfl | rfl <;> rfl) (fun _ => rfl) r5 b5 d5
  refine .agg [.int .i64 e.mats, .int .i64 e.hhs, .int .i64 e.scs, .slice A1 n1 c1, .slice A2 n2 c2, .slice A3 n3 c3, .slice A4 n4 c4, .slice A5 n5 c5] rfl fun j c hj => ?_
  match j, hj with
  | 0, hj => injection hj with hj; subst hj; exact .t (.atm rfl)
  | 1, hj => injection hj with hj; subst hj; exact .t (.atm rfl)
  | 2, hj => injection hj with hj; subst hj; exact .t (.atm rfl)
  | 3, hj => injection hj with hj; subst hj; exact .t t1
  | 4, hj => injection hj with hj; subst hj; exact .t t2
  | 5, hj => injection hj with hj; subst hj; exact .t t3
  | 6, hj => injection hj with hj; subst hj; exact .t t4
  | 7, hj => injection hj with hj; subst hj; exact .t t5
  | j + 8, hj => simp [evC] at hj

theorem rs_int {w : World} {n : Int} : RS w (fun _ => none) (fun _ => False) (intS .i64 n) (.int .i64 n) := RS.int

/-- arguments one by one -/
inductive RArgs (w : World) : List S → List Value → Prop
  | nil : RArgs w [] []
  | cons {s : S} {v : Value} {ss : List S} {vs : List Value} (h : RS w (fun _ => none) (fun _ => False) s v) (hs : RArgs w ss vs) : RArgs w (s :: ss) (v :: vs)
theorem RArgs.get {w : World} {ss : List S} {vs : List Value} (h : RArgs w ss vs) : vs.length = ss.length ∧ ∀ (j : Nat) (s : S), ss[j]? = some s → RS w (fun _ => none) (fun _ => False) s (vs.getD j undef) := by
  induction h with
  | nil => exact ⟨rfl, by simp⟩
  | cons h hs ih =>
    refine ⟨by simp [ih.1], fun j s hj => ?_⟩
    cases j with
    | zero => simp at hj; subst hj; exact h
    | succ j => simpa using ih.2 j s (by simpa using hj)

theorem law_of_acall {P : Program} {g : FuncId} {ss : List S} {b : Bool} (h : ACall P g ss [] (boolS b) []) {w : World} {vs : List Value} (ha : RArgs w ss vs) :
    Calls P g vs.toArray w fun e w' => e = .returned (.bool b) ∧ Below w.heap.size w w' := by
  obtain ⟨h1, h2⟩ := ha.get
  refine Calls.mono (h.2 w (fun _ => none) (fun _ => False) vs h1 h2 ⟨by simp, by simp, by simp, by simp, by simp⟩ (fun _ h => h.elim) (fun _ _ => rfl)) ?_
  rintro e w' ⟨v, rfl, ι', M', q1, q2, q3, q4, q5⟩
  rw [q1.inv_atm]
  exact ⟨rfl, q5.os, q5.tape, q5.output, q5.size, fun k hk => q5.keep k hk (by rintro ⟨id, k, _, _, hk, _⟩; simp at hk)⟩
end Go.Proofs.YtfieodjihaodiaaGreat
/- EvidenceOrigins: at every input the law returns true, and its arguments read as before. Conditions: none. -/
namespace Go.Proofs.YtfieodjihaodiaaGreat
open Go.RowKit Go.ChangeShapes Go.WideShapes Go.ChangeAt

set_option maxRecDepth 100000 in
theorem evidenceOrigins_lifted (os : Os) (started : os.Started) (H : Type) (enc : TypeId × Value → H) :
    ReturnsInHanded {} Tryz.checked os 6 .any (Rows.evidenceOriginsSpec.pre6 enc Tryz.prog Tryz.f6 Rows.evidenceOriginsRow.domain false) (Rows.evidenceOriginsSpec.post enc Tryz.prog Tryz.f6 false true false false) := by
  refine returnsInHanded_of_change (C := Tryz.checked) law_own started (by kernel_rfl) Tryz.func6
    (ChangeSpec.witness6 (enc := enc) (C := Tryz.checked) false ⟨#[], #[.agg #[.int .i64 0, .int .i64 0, .int .i64 0, .slice none 0 0, .slice none 0 0, .slice none 0 0, .slice none 0 0, .slice none 0 0], .int .i64 0], []⟩ 12 (by kernel_rfl) (by kernel_rfl) (by kernel_rfl) (by kernel_rfl)) ?_
  intro W base args ds gs before hval0 hW hcnd _
  have hval : ∀ (j : Nat) t v, Tryz.f6.params[j]? = some t → args[j]? = some v → Value.okWide Tryz.prog W .any base t v := hval0
  have hW' := hW
  obtain ⟨p, q, hA0, hV, rfl, hfz, hnd⟩ := hW
  have hA : DataW.TrodAll enc Tryz.prog W 0 (fun _ => true) true Tryz.f6.params.toList args.toList ds p := hA0
  rw [Tryz.params6] at hA hval
  obtain ⟨v0, vs0, d0, ds0, p0, q0, hargs, rfl, rfl, h0, r0⟩ := trodAll_cons hA
  obtain ⟨v1, vs1, d1, ds1, p1, q1, rfl, rfl, rfl, h1, r1⟩ := trodAll_cons r0
  obtain ⟨rfl, rfl, rfl⟩ := trodAll_nil r1
  obtain rfl : args = #[v0, v1] := by cases args; simp_all
  obtain ⟨rfl, rfl⟩ := trodVars_none hV
  obtain ⟨m, h, s, A1, n1, c1, A2, n2, c2, A3, n3, c3, A4, n4, c4, A5, n5, c5, e, rfl, hr, hb⟩ := open_ev (hval 0 28 v0 rfl rfl) h0
  obtain ⟨a1, rfl, rfl, rfl, w1⟩ := open_int Tryz.underlying3 (hval 1 3 v1 rfl rfl) h1
  refine (law_of_acall (a_EvidenceOrigins e a1) (.cons (rs_ev hr hb) (.cons (rs_int) (.nil)))).mono fun ee W' ⟨he, hg⟩ => ?_
  subst he
  exact ⟨_, rfl, law_post hW' law_laid (by rw [Tryz.params6]; intro t ht; simp at ht; rcases ht with rfl | rfl <;> exact ⟨by kernel_rfl, of_decide_eq_true (by kernel_rfl)⟩) rfl rfl (by kernel_rfl) Tryz.underlying4 hg⟩

theorem evidenceOrigins_holds : Rows.EvidenceOriginsSaid :=
  OpenClaim.holds_of_wide 6 Tryz.f6 rfl rfl rfl rfl rfl rfl rfl ⟨rfl, rfl, rfl, rfl, rfl⟩ rfl rfl rfl rfl rfl (by kernel_rfl) Tryz.func6 (by kernel_rfl)
    (of_decide_eq_true (by kernel_rfl)) (by unfold Func.isWrapper; first | (rw [if_pos (by decide +kernel)]; kernel_rfl) | (rw [if_neg (by decide +kernel)]; exact ⟨rfl, rfl⟩))
    (fun os started H enc _ => evidenceOrigins_lifted os started H enc)
end Go.Proofs.YtfieodjihaodiaaGreat
/- EvidenceRecalls: its walk. -/
namespace Go.Proofs.YtfieodjihaodiaaGreat
open Go.RowKit
set_option linter.unusedVariables false
set_option linter.unusedSimpArgs false
set_option maxRecDepth 100000

theorem vs_moreR16 {e : Ev} {r : Recall} {H : Hp} {p : Nat → Prop} {id n : Nat} {app : Bool} {k : Blk} (hp : p id) (hk : H[id]? = some k) (hd : ¬ k.mode.gone) (hs : k.size = 2) (hc : k.rows = toC ((e.recalls ++ [r]).map Recall.row)) (hl : n = e.recalls.length + 1) :
    VS H p (.agg [.t (ti e.mats), .t (ti e.hhs), .t (ti e.scs), .t (placesT e.places), .t (movesT e.moves), .t (certsT e.certs), .own id 0 n app, .t (puritiesT e.purities)]) (evS (moreR e r)) :=
  vs_agg (ts := evT (moreR e r)) (vl_cons (vc_t rfl) (vl_cons (vc_t rfl) (vl_cons (vc_t rfl) (vl_cons (vc_t rfl) (vl_cons (vc_t rfl) (vl_cons (vc_t rfl) (vl_cons (vc_all hp hk hd hs hc (by rw [hl]; simp [moreR])) (vl_cons (vc_t rfl) vl_nil))))))))
theorem filt_get {α : Type} {l : List α} {q : α → Bool} {i : Nat} {w : α} (h : l[i]? = some w) (hq : q w = true) : (l.filter q)[((l.take i).filter q).length]? = some w := by
  have e1 : l = l.take i ++ w :: l.drop (i + 1) := by
    have hi := (List.getElem?_eq_some_iff.1 h)
    obtain ⟨hlt, hv⟩ := hi
    rw [← hv, ← List.drop_eq_getElem_cons hlt, List.take_append_drop]
  conv => lhs; arg 1; rw [e1]
  rw [List.filter_append, List.getElem?_append_right (Nat.le_refl _), Nat.sub_self, List.filter_cons_of_pos hq]
  rfl
theorem filt_succ {α : Type} {l : List α} {q : α → Bool} {i : Nat} {w : α} (h : l[i]? = some w) : ((l.take (i + 1)).filter q).length = ((l.take i).filter q).length + if q w then 1 else 0 := by
  rw [take_snocE h, List.filter_append, List.length_append]
  congr 1
  cases hq : q w <;> simp [hq]
theorem filt_le {α : Type} {l : List α} {q : α → Bool} {i : Nat} : ((l.take i).filter q).length ≤ (l.filter q).length := by
  have : l.filter q = (l.take i).filter q ++ (l.drop i).filter q := by rw [← List.filter_append, List.take_append_drop]
  rw [this, List.length_append]; omega
theorem evRows_more {e : Ev} {r : Recall} (hm : 1 ≤ e.mats) : evRows (moreR e r) = (evRows e).filter (keepR e r) := rows_recall hm _ (Nat.le_refl _)
theorem keep_iff {e : Ev} {r : Recall} {w : RowP × OrP} {km : Nat} {m : Move} (hk : w.2.mv = (km : Int)) (hm : e.moves[km]? = some m) : keepR e r w = true ↔ ¬ ((w.2.kind = 1 ∨ w.2.kind = 2) ∧ m.scale = r.scale ∧ r.since ≤ m.day) := by
  unfold keepR
  rw [hk, Int.toNat_natCast, hm]
  simp only [Bool.not_eq_eq_eq_not, Bool.not_true, Bool.and_eq_false_iff, Bool.or_eq_false_iff, decide_eq_false_iff_not]
  omega
theorem few16_less {e : Ev} {r : Recall} (h : few16 (moreR e r) 8 = true) : few16 e 8 = true := by
  unfold few16 moreR at *
  simp only [Bool.and_eq_true, decide_eq_true_eq, List.length_append, List.length_cons, List.length_nil] at h ⊢
  refine ⟨h.1, by omega⟩
set_option maxHeartbeats 8000000 in
theorem a_EvidenceRecalls (e : Ev) (x : Recall) (hrl : e.recalls.length ≤ 1048576) : ACall Tryz.prog 8 [evS e, recS x] [] (boolS true) [] := by
  have sa := a_sane16
  have f1 := a_Few16 (moreR e x) 8
  have m0 : (e.moves.map Move.row).length = e.moves.length := by simp
  have m2 : (e.recalls.map Recall.row).length = e.recalls.length := by simp
  cases h1 : few16 (moreR e x) 8 with
  | false =>
    rw [h1] at f1
    (refine acall_of tab_ok Tryz.func8 rfl (by decide) ?_; (conv => whnf); repeat (first | (refine LitB.data ?_; conv => whnf) | (refine BoxB.data ?_; conv => whnf)))
    (repeat' (first | ((refine DecB.mk (fun h => ?_) (fun h => ?_)) <;> first | (exfalso; omega) | (conv => whnf)) | ((refine BoolB.mk (fun h => ?_) (fun h => ?_)) <;> first | (exact absurd h (by decide)) | (conv => whnf)) | ((first | refine ⟨_, wrap_ok (by omega) (by omega), ?_⟩ | refine and_idx (by omega) (by omega) ?_ | refine reg_ok (by decide +kernel) ?_ | refine bar_ok (by decide +kernel) (by decide +kernel) ?_ | refine late_ok rfl rfl ?_ | refine src_ok rfl ?_ | refine .inl ⟨_, _, qcall_pure (sa) rfl rfl, ?_⟩ | refine .inl ⟨_, _, qcall_pure (toC) rfl rfl, ?_⟩ | refine .inl ⟨_, _, qcall_pure (toC, newBlk) rfl rfl, ?_⟩ | refine .inl ⟨_, _, qcall_pure (toC) rfl rfl, ?_⟩ | refine .inl ⟨_, _, qcall_pure (toC, newBlk) rfl rfl, ?_⟩ | refine .inl ⟨_, _, qcall_pure (toC) rfl rfl, ?_⟩ | refine app_nil rfl (by simp [toC]; omega) ?_ | refine app_ok (by simp [toC, newBlk]) (by simp [toC]; omega) ?_ | refine .inl ⟨_, _, qcall_view f1 ⟨vs_moreR16 (p := fun _ => True) trivial rfl (by intro h; cases h) rfl (by simp [toC, newBlk]; exact ⟨List.take_of_length_le (by simp), rfl⟩) (by simp [toC]), vs_t, trivial⟩ rfl, ?_⟩ | refine LitB.data ?_ | refine BoxB.own ?_); conv => whnf)))
    all_goals try (exfalso; omega)
    all_goals exact fin_bool rfl
  | true =>
  rw [h1] at f1
  have hf := few16_less h1
  have hs := few16_sized hf
  have hs2 := few16_sized h1
  have ck := a_Check e hs
  have ckm := a_Check (moreR e x) hs2
  by_cases h30 : ¬ (check e = 0 ∧ check (moreR e x) = 0)
  · by_cases h4 : check e = 0
    · (refine acall_of tab_ok Tryz.func8 rfl (by decide) ?_; (conv => whnf); repeat (first | (refine LitB.data ?_; conv => whnf) | (refine BoxB.data ?_; conv => whnf)))
      (repeat' (first | ((refine DecB.mk (fun h => ?_) (fun h => ?_)) <;> first | (exfalso; omega) | (conv => whnf)) | ((refine BoolB.mk (fun h => ?_) (fun h => ?_)) <;> first | (exact absurd h (by decide)) | (conv => whnf)) | ((first | refine ⟨_, wrap_ok (by omega) (by omega), ?_⟩ | refine and_idx (by omega) (by omega) ?_ | refine reg_ok (by decide +kernel) ?_ | refine bar_ok (by decide +kernel) (by decide +kernel) ?_ | refine late_ok rfl rfl ?_ | refine src_ok rfl ?_ | refine .inl ⟨_, _, qcall_pure (sa) rfl rfl, ?_⟩ | refine .inl ⟨_, _, qcall_pure (toC) rfl rfl, ?_⟩ | refine .inl ⟨_, _, qcall_pure (toC, newBlk) rfl rfl, ?_⟩ | refine .inl ⟨_, _, qcall_pure (toC) rfl rfl, ?_⟩ | refine .inl ⟨_, _, qcall_pure (toC, newBlk) rfl rfl, ?_⟩ | refine .inl ⟨_, _, qcall_pure (toC) rfl rfl, ?_⟩ | refine .inl ⟨_, _, qcall_pure (ck) rfl rfl, ?_⟩ | refine .inl ⟨_, _, qcall_pure (toC, newBlk) rfl rfl, ?_⟩ | refine .inl ⟨_, _, qcall_pure (toC) rfl rfl, ?_⟩ | refine app_nil rfl (by simp [toC]; omega) ?_ | refine app_ok (by simp [toC, newBlk]) (by simp [toC]; omega) ?_ | refine .inl ⟨_, _, qcall_view f1 ⟨vs_moreR16 (p := fun _ => True) trivial rfl (by intro h; cases h) rfl (by simp [toC, newBlk]; exact ⟨List.take_of_length_le (by simp), rfl⟩) (by simp [toC]), vs_t, trivial⟩ rfl, ?_⟩ | refine .inl ⟨_, _, qcall_view ckm ⟨vs_moreR16 (p := fun _ => True) trivial rfl (by intro h; cases h) rfl (by simp [toC, newBlk]; exact ⟨List.take_of_length_le (by simp), rfl⟩) (by simp [toC]), trivial⟩ rfl, ?_⟩ | refine LitB.data ?_ | refine BoxB.own ?_); conv => whnf)))
      all_goals first
        | (exfalso; omega)
        | exact fin_bool rfl
    · (refine acall_of tab_ok Tryz.func8 rfl (by decide) ?_; (conv => whnf); repeat (first | (refine LitB.data ?_; conv => whnf) | (refine BoxB.data ?_; conv => whnf)))
      (repeat' (first | ((refine DecB.mk (fun h => ?_) (fun h => ?_)) <;> first | (exfalso; omega) | (conv => whnf)) | ((refine BoolB.mk (fun h => ?_) (fun h => ?_)) <;> first | (exact absurd h (by decide)) | (conv => whnf)) | ((first | refine ⟨_, wrap_ok (by omega) (by omega), ?_⟩ | refine and_idx (by omega) (by omega) ?_ | refine reg_ok (by decide +kernel) ?_ | refine bar_ok (by decide +kernel) (by decide +kernel) ?_ | refine late_ok rfl rfl ?_ | refine src_ok rfl ?_ | refine .inl ⟨_, _, qcall_pure (sa) rfl rfl, ?_⟩ | refine .inl ⟨_, _, qcall_pure (toC) rfl rfl, ?_⟩ | refine .inl ⟨_, _, qcall_pure (toC, newBlk) rfl rfl, ?_⟩ | refine .inl ⟨_, _, qcall_pure (toC) rfl rfl, ?_⟩ | refine .inl ⟨_, _, qcall_pure (toC, newBlk) rfl rfl, ?_⟩ | refine .inl ⟨_, _, qcall_pure (toC) rfl rfl, ?_⟩ | refine .inl ⟨_, _, qcall_pure (ck) rfl rfl, ?_⟩ | refine app_nil rfl (by simp [toC]; omega) ?_ | refine app_ok (by simp [toC, newBlk]) (by simp [toC]; omega) ?_ | refine .inl ⟨_, _, qcall_view f1 ⟨vs_moreR16 (p := fun _ => True) trivial rfl (by intro h; cases h) rfl (by simp [toC, newBlk]; exact ⟨List.take_of_length_le (by simp), rfl⟩) (by simp [toC]), vs_t, trivial⟩ rfl, ?_⟩ | refine LitB.data ?_ | refine BoxB.own ?_); conv => whnf)))
      all_goals first
        | (exfalso; omega)
        | exact fin_bool rfl
  obtain ⟨h3, h5⟩ := Decidable.not_not.1 h30
  have hE := few16_small hf h3
  have hE2 := few16_small h1 h5
  have sy := a_ESystem e hs (fun _ => hE)
  have e1 : evSysR e = evSys e := by unfold evSysR; rw [if_neg (by omega)]
  rw [e1, h3] at sy
  have sy2 := a_ESystem (moreR e x) hs2 (fun _ => hE2)
  have e2 : evSysR (moreR e x) = evSys (moreR e x) := by unfold evSysR; rw [if_neg (by omega)]
  rw [e2, h5] at sy2
  rw [h3] at ck
  rw [h5] at ckm
  have hmv := hE.mv
  have hm1 := hE.m1
  have hm6 := hE.m6
  have rl0 := rows_len e
  have rl1 : (evRows e).length ≤ 400 := evTo_small hE (Nat.le_refl _)
  have rl2 := rows_len (moreR e x)
  rw [evRows_more hm1] at rl2
  have rl3 : ((evRows e).filter (keepR e x)).length ≤ 400 := Nat.le_trans (List.length_filter_le _ _) rl1
  have m3 : ((evSys e).rows.map rowRow).length = (evRows e).length := by rw [List.length_map, rl0]
  have m4 : ((evSys (moreR e x)).rows.map rowRow).length = ((evRows e).filter (keepR e x)).length := by rw [List.length_map, rl2]
  have nn : (evSys (moreR e x)).n = (evSys e).n := rfl
  (refine acall_of tab_ok Tryz.func8 rfl (by decide) ?_; (conv => whnf); repeat (first | (refine LitB.data ?_; conv => whnf) | (refine BoxB.data ?_; conv => whnf)))
  (repeat' (first | ((refine DecB.mk (fun h => ?_) (fun h => ?_)) <;> first | (exfalso; omega) | (conv => whnf)) | ((refine BoolB.mk (fun h => ?_) (fun h => ?_)) <;> first | (exact absurd h (by decide)) | (conv => whnf)) | ((first | refine ⟨_, wrap_ok (by omega) (by omega), ?_⟩ | refine and_idx (by omega) (by omega) ?_ | refine reg_ok (by decide +kernel) ?_ | refine bar_ok (by decide +kernel) (by decide +kernel) ?_ | refine late_ok rfl rfl ?_ | refine src_ok rfl ?_ | refine .inl ⟨_, _, qcall_pure (sa) rfl rfl, ?_⟩ | refine .inl ⟨_, _, qcall_pure (toC) rfl rfl, ?_⟩ | refine .inl ⟨_, _, qcall_pure (toC, newBlk) rfl rfl, ?_⟩ | refine .inl ⟨_, _, qcall_pure (toC) rfl rfl, ?_⟩ | refine .inl ⟨_, _, qcall_pure (toC, newBlk) rfl rfl, ?_⟩ | refine .inl ⟨_, _, qcall_pure (toC) rfl rfl, ?_⟩ | refine .inl ⟨_, _, qcall_pure (ck) rfl rfl, ?_⟩ | refine .inl ⟨_, _, qcall_pure (sy) rfl rfl, ?_⟩ | refine .inl ⟨_, _, qcall_pure (toC, newBlk) rfl rfl, ?_⟩ | refine .inl ⟨_, _, qcall_pure (toC) rfl rfl, ?_⟩ | refine .inl ⟨_, _, qcall_pure (2) rfl rfl, ?_⟩ | refine .inl ⟨_, _, qcall_pure (2) rfl rfl, ?_⟩ | refine .inl ⟨_, _, qcall_pure (toC, newBlk) rfl rfl, ?_⟩ | refine .inl ⟨_, _, qcall_pure (toC) rfl rfl, ?_⟩ | refine .inl ⟨_, _, qcall_pure (4) rfl rfl, ?_⟩ | refine app_nil rfl (by simp [toC]; omega) ?_ | refine app_ok (by simp [toC, newBlk]) (by simp [toC]; omega) ?_ | refine .inl ⟨_, _, qcall_view f1 ⟨vs_moreR16 (p := fun _ => True) trivial rfl (by intro h; cases h) rfl (by simp [toC, newBlk]; exact ⟨List.take_of_length_le (by simp), rfl⟩) (by simp [toC]), vs_t, trivial⟩ rfl, ?_⟩ | refine .inl ⟨_, _, qcall_view ckm ⟨vs_moreR16 (p := fun _ => True) trivial rfl (by intro h; cases h) rfl (by simp [toC, newBlk]; exact ⟨List.take_of_length_le (by simp), rfl⟩) (by simp [toC]), trivial⟩ rfl, ?_⟩ | refine .inr ⟨_, _, acall_freeze [2] sy2 ⟨vs_moreR16 (p := (· ∈ [2])) (by simp) rfl (by intro h; cases h) rfl (by simp [toC, newBlk]; exact ⟨List.take_of_length_le (by simp), rfl⟩) (by simp [toC]), trivial⟩ rfl, ?_⟩ | refine bar_late [4] (by decide +kernel) (by decide +kernel) ?_ | refine LitB.data ?_ | refine BoxB.own ?_); conv => whnf)))
  all_goals try (exfalso; omega)
  refine awp_for tab_ok (fun i => ([J, J, S.c (C.t (T.ptr (evT e))), S.c (C.t (T.ptr x.row)), J, boolS true, J, S.c (C.ptr 0 0 0), J, S.c (C.ptr 1 0 0), J, intS .i64 (((evRows e).take i).filter (keepR e x)).length, intS .i64 i, J, J, J, J, J, J, J, J, J, J, J, J, J, J, J, J, J, J, J, J, J, J, J, J, J, J, J, J, J, J, J, J, J, J, J, J, J, J, J, J, J, J, J, J, J, J, J, J, J, J, J, J, J, J, J, J, J, J, J, J, J, J, J, J, J, J, J, J, J, J, J, J, J, J, J, J, J, J, J, J, J, J, J, J, J, J, J, J, J, J, J, J, J, J, J, J, J, J, J, J, J, J, J, J, J, J, J, J, J, J, J, J, J, J, J, J, J, J, J, J, J, J, J, J, J, J, J, J, J, J, J, J, J, J, J, J, J, J, J, J, J], [sysXB (evSys e), sysXB (evSys (moreR e x))])) (evRows e).length (fun _ => True) [some 3, some 4] trivial
    ⟨rfl, rfl, ⟨⟨rfl, rfl, rfl, .inr ⟨⟨rfl, rfl, trivial⟩, trivial⟩⟩, ⟨rfl, rfl, rfl, .inr ⟨⟨rfl, rfl, trivial⟩, trivial⟩⟩, trivial⟩, ⟨rfl, rfl, rfl, ⟨rfl, rfl, rfl⟩, ⟨rfl, rfl, rfl⟩, rfl, rfl, trivial⟩⟩ ?_
  intro i hi' _
  have nle := filt_le (l := evRows e) (q := keepR e x) (i := i)
  obtain ⟨nx, hnx⟩ : ∃ nx, (((evRows e).take i).filter (keepR e x)).length = nx := ⟨_, rfl⟩
  rw [hnx] at nle ⊢
  by_cases hlt : i < (evRows e).length
  · obtain ⟨w, hw⟩ : ∃ w, (evRows e)[i]? = some w := ⟨_, List.getElem?_eq_getElem hlt⟩
    have oo := a_EOrigin e hs (fun _ => hE) i
    rw [or_get h3 hw] at oo
    simp only [Option.getD_some, Option.isSome_some] at oo
    have rw1 := row_get hw
    have ok := (ev_ok h3 (List.mem_of_getElem? hw)).mv
    have hb := row_sm hE (List.mem_of_getElem? hw)
    have sr := a_SameRow16 w.1 hb.1 hb.2.1 hb.2.2
    have fs := filt_succ (q := keepR e x) hw
    rw [hnx] at fs
    obtain ⟨km, hkm⟩ := Int.eq_ofNat_of_zero_le ok.1
    obtain ⟨m, hm⟩ : ∃ m, e.moves[km]? = some m := ⟨_, List.getElem?_eq_getElem (by omega)⟩
    have ki := keep_iff (r := x) hkm hm
    by_cases hq : keepR e x w = true
    · have fg := filt_get hw hq
      rw [hnx] at fg
      have rw2 : (evSys (moreR e x)).rows[nx]? = some w.1 := by
        refine row_get ?_
        rw [evRows_more hm1]; exact fg
      have nlt : nx < ((evRows e).filter (keepR e x)).length := (List.getElem?_eq_some_iff.1 fg).1
      have hk2 := ki.1 hq
      rw [if_pos hq] at fs
      have hmm : (if (if ((((evSys (moreR e x)).rows.map rowRow).length : Int) - 1) > 0 then ((((evSys (moreR e x)).rows.map rowRow).length : Int) - 1) else 0) < (nx : Int) then (if ((((evSys (moreR e x)).rows.map rowRow).length : Int) - 1) > 0 then ((((evSys (moreR e x)).rows.map rowRow).length : Int) - 1) else 0) else (nx : Int)) = nx := by
        have hM : (if ((((evSys (moreR e x)).rows.map rowRow).length : Int) - 1) > 0 then ((((evSys (moreR e x)).rows.map rowRow).length : Int) - 1) else 0) = ((((evSys (moreR e x)).rows.map rowRow).length : Int) - 1) := by split <;> omega
        rw [hM]; split <;> omega
      conv => whnf
      (repeat' (first | ((refine DecB.mk (fun h => ?_) (fun h => ?_)) <;> first | (exfalso; omega) | (conv => whnf)) | ((refine BoolB.mk (fun h => ?_) (fun h => ?_)) <;> first | (exact absurd h (by decide)) | (conv => whnf)) | ((first | refine ⟨_, wrap_ok (by omega) (by omega), ?_⟩ | refine and_idx (by omega) (by omega) ?_ | refine reg_ok (by decide +kernel) ?_ | refine bar_ok (by decide +kernel) (by decide +kernel) ?_ | refine late_ok rfl rfl ?_ | refine src_ok rfl ?_ | refine .inl ⟨_, _, qcall_pure (oo) rfl rfl, ?_⟩ | refine .inl ⟨_, _, qcall_pure (sr) rfl rfl, ?_⟩ | refine .inl ⟨_, _, qcall_pure (5) rfl rfl, ?_⟩ | refine bar_late [5] (by decide +kernel) (by decide +kernel) ?_ | refine ex_rowE hkm hm ?_ | refine ex_row rw1 ?_ | refine ex_rowE hmm rw2 ?_ | refine LitB.data ?_ | refine BoxB.own ?_); conv => whnf)))
      all_goals first
        | (exfalso; omega)
        | exact ⟨hlt, trivial, [some 0, some 1], rfl, rfl, ⟨⟨rfl, rfl, rfl, .inr ⟨⟨rfl, rfl, trivial⟩, trivial⟩⟩, ⟨rfl, rfl, rfl, .inr ⟨⟨rfl, rfl, trivial⟩, trivial⟩⟩, trivial⟩, ⟨rfl, rfl, rfl, ⟨rfl, rfl, rfl⟩, ⟨rfl, rfl, rfl⟩, ent_i (by omega), rfl, trivial⟩⟩
        | skip
    · have hk2 : (w.2.kind = 1 ∨ w.2.kind = 2) ∧ m.scale = x.scale ∧ x.since ≤ m.day := Decidable.not_not.1 fun h => hq (ki.2 h)
      rw [if_neg hq] at fs
      conv => whnf
      (repeat' (first | ((refine DecB.mk (fun h => ?_) (fun h => ?_)) <;> first | (exfalso; omega) | (conv => whnf)) | ((refine BoolB.mk (fun h => ?_) (fun h => ?_)) <;> first | (exact absurd h (by decide)) | (conv => whnf)) | ((first | refine ⟨_, wrap_ok (by omega) (by omega), ?_⟩ | refine and_idx (by omega) (by omega) ?_ | refine reg_ok (by decide +kernel) ?_ | refine bar_ok (by decide +kernel) (by decide +kernel) ?_ | refine late_ok rfl rfl ?_ | refine src_ok rfl ?_ | refine .inl ⟨_, _, qcall_pure (oo) rfl rfl, ?_⟩ | refine .inl ⟨_, _, qcall_pure (sr) rfl rfl, ?_⟩ | refine .inl ⟨_, _, qcall_pure (5) rfl rfl, ?_⟩ | refine bar_late [5] (by decide +kernel) (by decide +kernel) ?_ | refine ex_rowE hkm hm ?_ | refine ex_row rw1 ?_ | refine LitB.data ?_ | refine BoxB.own ?_); conv => whnf)))
      all_goals first
        | (exfalso; omega)
        | exact ⟨hlt, trivial, [some 0, some 1], rfl, rfl, ⟨⟨rfl, rfl, rfl, .inr ⟨⟨rfl, rfl, trivial⟩, trivial⟩⟩, ⟨rfl, rfl, rfl, .inr ⟨⟨rfl, rfl, trivial⟩, trivial⟩⟩, trivial⟩, ⟨rfl, rfl, rfl, ⟨rfl, rfl, rfl⟩, ⟨rfl, rfl, rfl⟩, ent_i (by omega), rfl, trivial⟩⟩
        | skip
  · have hke : i = (evRows e).length := by omega
    subst hke
    rw [List.take_length] at hnx
    conv => whnf
    (repeat' (first | ((refine DecB.mk (fun h => ?_) (fun h => ?_)) <;> first | (exfalso; omega) | (conv => whnf)) | ((refine BoolB.mk (fun h => ?_) (fun h => ?_)) <;> first | (exact absurd h (by decide)) | (conv => whnf)) | ((first | refine ⟨_, wrap_ok (by omega) (by omega), ?_⟩ | refine and_idx (by omega) (by omega) ?_ | refine reg_ok (by decide +kernel) ?_ | refine bar_ok (by decide +kernel) (by decide +kernel) ?_ | refine late_ok rfl rfl ?_ | refine src_ok rfl ?_ | refine LitB.data ?_ | refine BoxB.own ?_); conv => whnf)))
    all_goals first
      | (exfalso; omega)
      | exact fin_bool rfl
      | skip
end Go.Proofs.YtfieodjihaodiaaGreat
