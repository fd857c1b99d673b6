/- Reference of big: over. -/
import Derived.RangeFuncBox
import Derived.RangeFuncLeaves
import Derived.Shelf.Abstract
import Derived.Shelf.RegionOpen
import Derived.WalkKit
import Derived.OwnWalkIn
import Derived.TacticsInMore
import Derived.LoopNIn
import Derived.LoopIn
import Derived.Test.YtfieodjihaodiaaGreatProg
import Derived.Maps.AppendAt
import Derived.Test.YtfieodjihaodiaaGreatEc5
namespace Go.Proofs.YtfieodjihaodiaaGreat
open Go.RowKit
set_option linter.unusedVariables false
set_option linter.unusedSimpArgs false
set_option maxRecDepth 100000

set_option maxHeartbeats 1000000 in
theorem r_over (m n : Nat) (hn : 0 < n) (lm : (dg m).length ≤ 200000) (ln : (dg n).length ≤ 200000) :
    ACall Tryz.prog 128 [intsS (dg m), intsS (dg n)] [] (divS m n) [] := by
  have l1 : ((dg m).map intRow).length = (dg m).length := by simp
  have l2 : ((dg n).map intRow).length = (dg n).length := by simp
  (refine acall_of tab_ok Tryz.func128 rfl (by decide) ?_; (conv => whnf); repeat (first | (refine LitB.data ?_; conv => whnf) | (refine BoxB.own ?_; conv => whnf)))
  (repeat' (first | ((refine DecB.mk (fun h => ?_) (fun h => ?_)) <;> first | (exfalso; omega) | (conv => whnf)) | ((refine BoolB.mk (fun h => ?_) (fun h => ?_)) <;> first | (exact absurd h (by decide)) | (conv => whnf)) | ((first | refine zzW ?_ | refine zzI ?_ | refine zzR ?_ | refine zzB ?_ | refine late_ok rfl rfl ?_ | refine src_ok rfl ?_ | refine mk_ok (by omega) (by omega) (by omega) (by decide) ?_ | refine LitB.data ?_ | refine BoxB.own ?_); conv => whnf)))
  refine awp_while tab_ok (σ := Nat × List Int × Nat) (fun | (j, q, r) => ([intsS (dg m), intsS (dg n), J, J, J, J, ownI 0 q, intsS (dg r), intS .i64 ((j : Int) - 1), J, J, J, J, J, J, J, J, J, J, J, J, J, J, J, J, J, J, J, J, J, J, J, J, J, J, J, J, J, J, J, J, J, J, J, J, J, J, J, J, J, J, J, J, J, J, J, J, J, J, J], [intsB q])) (fun x => ShortI (dg m) n x.1 x.2.1 x.2.2) (fun x => x.1) ((dg m).length, List.replicate (dg m).length 0, 0) [some 0]
    (ShortI.init _ (by omega)) ⟨rfl, rfl, ⟨entB_rows rfl rfl rfl ?_ rfl, trivial⟩, ⟨ent_t rfl, ent_t rfl, ent_own rfl (by simp), rfl, ent_i (by omega), trivial⟩⟩ ?_
  · show List.replicate _ _ = _
    simp [toC, intRow, constC]
  rintro ⟨j, q, r⟩ hI
  have hI : ShortI (dg m) n j q r := hI
  have hlen := hI.len
  have hle := hI.le
  have hr1 := hI.r1
  by_cases hj : 0 < j
  · obtain ⟨i, rfl⟩ : ∃ i, j = i + 1 := ⟨j - 1, by omega⟩
    have ei : (((i + 1 : Nat) : Int) - 1) = i := by omega
    have hda := (okd_dg m).dat i
    obtain ⟨y, hy⟩ := Int.eq_ofNat_of_zero_le hda.1
    have lr := dg_len_mono (show r ≤ n by omega)
    have lm2 : i < (dg m).length := by omega
    generalize hR : r * 1048576 + y = R
    have hRn : R < n * 1048576 := by
      have := Nat.mul_le_mul_right 1048576 (show r + 1 ≤ n by omega)
      rw [Nat.add_mul] at this
      omega
    have lR : (dg R).length ≤ (dg n).length + 1 := dg_len_le (by
      have h1 := dg_lt_pw n
      rw [pw_succ]
      have h2 := Int.mul_le_mul_of_nonneg_right (a := (n : Int) + 1) (b := pw (dg n).length) (c := 1048576) (by omega) (by decide)
      omega)
    have tr := r_trim (dat (dg m) i :: dg r) (by simp; omega)
    rw [over_val (d := n) hda, hy, Int.toNat_natCast, hR] at tr
    conv => whnf
    (repeat' (first | ((refine DecB.mk (fun h => ?_) (fun h => ?_)) <;> first | (exfalso; omega) | (conv => whnf)) | ((refine BoolB.mk (fun h => ?_) (fun h => ?_)) <;> first | (exact absurd h (by decide)) | (conv => whnf)) | ((first | refine zzW ?_ | refine zzI ?_ | refine zzR ?_ | refine zzB ?_ | refine late_ok rfl rfl ?_ | refine src_ok rfl ?_ | refine .inl ⟨_, _, qcall_pure (toC, newBlk) rfl rfl, ?_⟩ | refine .inl ⟨_, _, qcall_pure (toC) rfl rfl, ?_⟩ | refine .inl ⟨_, _, qcall_pure (2) rfl rfl, ?_⟩ | refine .inl ⟨_, _, qcall_pure (toC, newBlk, intRow, hy) rfl rfl, ?_⟩ | refine .inl ⟨_, _, qcall_pure (toC, Nat.add_comm) rfl rfl, ?_⟩ | refine LitB.own ?_ | refine ex_rowE ei (get_dat (by omega)) ?_ | refine app_ok (by simp [toC, newBlk]) (by simp [toC]; omega) ?_ | refine .inr ⟨_, _, acall_freeze [2] tr ⟨vs_c (vc_all (by simp) rfl (by intro h; cases h) rfl (by simp [toC, newBlk, intRow, hy]) (by simp [toC, Nat.add_comm])), trivial⟩ rfl, ?_⟩ | refine LitB.data ?_ | refine BoxB.own ?_); conv => whnf)))
    refine awp_while tab_ok (σ := Nat × Nat) (fun | (lo, hi) => ([intsS (dg m), intsS (dg n), J, J, J, J, ownI 0 q, intsS (dg R), intS .i64 i, intS .i64 lo, intS .i64 hi, J, J, J, J, J, J, J, J, J, J, J, J, J, J, J, J, J, J, J, J, J, J, J, J, J, J, J, J, J, J, J, J, J, J, J, J, J, J, J, J, J, J, J, J, J, J, J, J, J], [intsB q])) (fun x => x.1 * n ≤ R ∧ R < x.2 * n ∧ x.1 < x.2 ∧ x.2 ≤ 1048576) (fun x => x.2 - x.1) (0, 1048576) [some 0]
      ⟨by simp, by show R < 1048576 * n; rw [Nat.mul_comm]; exact hRn, by decide, by decide⟩ ⟨rfl, rfl, ⟨entB_rows rfl rfl rfl rfl rfl, trivial⟩, ⟨rfl, rfl, ent_own rfl rfl, rfl, ent_i ei, rfl, rfl, trivial⟩⟩ ?_
    rintro ⟨lo, hi⟩ ⟨i1, i2, i3, i4⟩
    have i1 : lo * n ≤ R := i1
    have i2 : R < hi * n := i2
    have i3 : lo < hi := i3
    have i4 : hi ≤ 1048576 := i4
    have ln1 : (dg n).length ≤ 200000 := ln
    by_cases hc : 1 < hi - lo
    · have hmid : (((lo : Int) + hi) / 2) = (((lo + hi) / 2 : Nat) : Int) := by omega
      generalize hM : (lo + hi) / 2 = mid at hmid
      have tm := r_times (dg n) [(mid : Int)] (okd_dg n) (by intro x hx; simp at hx; omega) (by omega) (by simp)
      have e0 : val [(mid : Int)] = mid := by simp [val]
      rw [e0, val_dg, show ((n : Int) * mid).toNat = n * mid by rw [← Int.natCast_mul]; rfl] at tm
      have lnm : (dg (n * mid)).length ≤ (dg n).length + 1 := Nat.le_trans (dg_mul_len _ _) (by have := bl_small (x := (mid : Int)) (by omega) (by omega); simp only [bl, Int.natAbs_natCast] at this; omega)
      have ls := r_less (dg R) (dg (n * mid)) (okd_dg _) (okd_dg _) (by omega) (by omega)
      rw [val_dg, val_dg] at ls
      conv => whnf
      (repeat' (first | ((refine DecB.mk (fun h => ?_) (fun h => ?_)) <;> first | (exfalso; omega) | (conv => whnf)) | ((refine BoolB.mk (fun h => ?_) (fun h => ?_)) <;> first | (exact absurd h (by decide)) | (conv => whnf)) | ((first | refine zzW ?_ | refine zzI ?_ | refine zzR ?_ | refine zzB ?_ | refine late_ok rfl rfl ?_ | refine src_ok rfl ?_ | refine .inl ⟨_, _, qcall_pure (ls) rfl rfl, ?_⟩ | refine .inl ⟨_, _, qcall_pure (Int.tdiv_eq_ediv_of_nonneg (by omega)) rfl rfl, ?_⟩ | refine ⟨by decide, _, wrap_eq (y := (mid : Int)) (by rw [Int.tdiv_eq_ediv_of_nonneg (by omega)]; exact hmid) (by omega) (by omega), ?_⟩ | refine .inl ⟨_, _, qcall_data tm ⟨vs_t, vs_c (vc_t rfl), trivial⟩ rfl, ?_⟩ | refine LitB.data ?_ | refine BoxB.own ?_); conv => whnf)))
      · have hlt : R < n * mid := Int.ofNat_lt.1 (of_decide_eq_true (by assumption))
        exact ⟨[some 0], (lo, mid), ⟨rfl, rfl, ⟨entB_rows rfl rfl rfl rfl rfl, trivial⟩, ⟨rfl, rfl, ent_own rfl rfl, rfl, rfl, rfl, rfl, trivial⟩⟩, ⟨i1, by show R < mid * n; rw [Nat.mul_comm]; exact hlt, by show lo < mid; omega, by show mid ≤ 1048576; omega⟩, by show mid - lo < hi - lo; omega⟩
      · have hlt : n * mid ≤ R := Nat.not_lt.1 (fun h => absurd (Int.ofNat_lt.2 h) (of_decide_eq_false (by assumption)))
        exact ⟨[some 0], (mid, hi), ⟨rfl, rfl, ⟨entB_rows rfl rfl rfl rfl rfl, trivial⟩, ⟨rfl, rfl, ent_own rfl rfl, rfl, rfl, rfl, rfl, trivial⟩⟩, ⟨by show mid * n ≤ R; rw [Nat.mul_comm]; exact hlt, i2, by show mid < hi; omega, i4⟩, by show hi - mid < hi - lo; omega⟩
    · obtain rfl : hi = lo + 1 := by omega
      have hq : R / n = lo := by
        rw [Nat.div_eq_iff hn]
        rw [Nat.add_mul] at i2
        omega
      have hm2 := Nat.div_add_mod R n
      rw [hq] at hm2
      have hrm := Nat.mod_lt R hn
      have tl := r_trim [(lo : Int)] (by simp)
      rw [trimL_dg (by intro x hx; simp at hx; omega), show (val [(lo : Int)]).toNat = lo by simp [val]] at tl
      have llo : (dg lo).length ≤ 1 := by have := bl_small (x := (lo : Int)) (by omega) (by omega); simpa [bl] using this
      have tt := r_timesD n lo (by omega) (by omega)
      have mi := r_minus (dg R) (dg (n * lo)) (okd_dg _) (okd_dg _) (by omega) (dg_len_mono (by omega)) (by rw [val_dg, val_dg]; omega)
      rw [val_dg, val_dg, show ((R : Int) - ((n * lo : Nat) : Int)).toNat = R % n by omega] at mi
      have hst := hI.step (okd_dg m) (by omega)
      have c1 : ((r : Int) * 1048576 + dat (dg m) i) = (R : Int) := by rw [hy, ← hR]; simp
      rw [c1] at hst
      have c2 : (R : Int) / n = (lo : Int) := by rw [← hq]; simp
      have c3 : (R : Int) % n = ((R % n : Nat) : Int) := by simp
      rw [c2, c3] at hst
      have gq : q[0 + (i : Int).toNat]? = some (dat q i) := get_dat0 (by omega) (by omega)
      conv => whnf
      (repeat' (first | ((refine DecB.mk (fun h => ?_) (fun h => ?_)) <;> first | (exfalso; omega) | (conv => whnf)) | ((refine BoolB.mk (fun h => ?_) (fun h => ?_)) <;> first | (exact absurd h (by decide)) | (conv => whnf)) | ((first | refine zzW ?_ | refine zzI ?_ | refine zzR ?_ | refine zzB ?_ | refine late_ok rfl rfl ?_ | refine src_ok rfl ?_ | refine .inl ⟨_, _, qcall_pure (tt) rfl rfl, ?_⟩ | refine .inl ⟨_, _, qcall_pure (mi) rfl rfl, ?_⟩ | refine .inl ⟨_, _, qcall_data tl ⟨vs_c (vc_t rfl), trivial⟩ rfl, ?_⟩ | refine and_idx (by omega) (by show _ < ((q.length : Nat) : Int); omega) ?_ | refine ex_own gq ?_ | refine LitB.data ?_ | refine BoxB.own ?_); conv => whnf)))
      all_goals try (exfalso; omega)
      refine ⟨[some 0], (i, q.set i lo, R % n), ⟨rfl, rfl, ⟨entB_rows rfl rfl rfl (toC_set (by omega)) rfl, trivial⟩, ⟨rfl, rfl, ent_own rfl (by simp), rfl, ent_i (by omega), trivial⟩⟩, hst, by show i < i + 1; omega⟩
  · obtain rfl : j = 0 := by omega
    obtain ⟨f1, f2⟩ := hI.fin (okd_dg m) (by omega)
    have tq := r_trim q (by have := hI.len; omega)
    rw [f1, val_dg, show ((m : Int) / n).toNat = m / n by rw [← Int.natCast_ediv]; rfl] at tq
    rw [val_dg] at f2
    have f3 : r = m % n := by
      have : (m : Int) % n = ((m % n : Nat) : Int) := by simp
      omega
    subst f3
    conv => whnf
    (repeat' (first | ((refine DecB.mk (fun h => ?_) (fun h => ?_)) <;> first | (exfalso; omega) | (conv => whnf)) | ((refine BoolB.mk (fun h => ?_) (fun h => ?_)) <;> first | (exact absurd h (by decide)) | (conv => whnf)) | ((first | refine zzW ?_ | refine zzI ?_ | refine zzR ?_ | refine zzB ?_ | refine late_ok rfl rfl ?_ | refine src_ok rfl ?_ | refine .inl ⟨_, _, qcall_pure (0) rfl rfl, ?_⟩ | refine .inr ⟨_, _, acall_freeze [0] tq ⟨vs_c (vc_all (by simp) rfl (by intro h; cases h) rfl rfl (by simp)), trivial⟩ rfl, ?_⟩ | refine LitB.data ?_ | refine BoxB.own ?_); conv => whnf)))
    all_goals try (exfalso; omega)
    exact fin_t ⟨rfl, rfl, trivial⟩
end Go.Proofs.YtfieodjihaodiaaGreat
/- Reference of big and frac: Of, Right, Gcd, Div (exact), New, Int. -/
namespace Go.Proofs.YtfieodjihaodiaaGreat
open Go.RowKit
set_option linter.unusedVariables false
set_option linter.unusedSimpArgs false
set_option maxRecDepth 100000

theorem r_bigRight (b : Bg) (hl : b.dl.length ≤ 1000000) : ACall Tryz.prog 98 [bgS b] [] (boolS (rightB b)) [] := by
  have l2 : (b.dl.map intRow).length = b.dl.length := by simp
  (refine acall_of tab_ok Tryz.func98 rfl (by decide) ?_; (conv => whnf); repeat (first | (refine LitB.data ?_; conv => whnf) | (refine BoxB.data ?_; conv => whnf)))
  (repeat' (first | ((refine DecB.mk (fun h => ?_) (fun h => ?_)) <;> first | (exfalso; omega) | (conv => whnf)) | ((refine BoolB.mk (fun h => ?_) (fun h => ?_)) <;> first | (exact absurd h (by decide)) | (conv => whnf)) | ((first | refine zzW ?_ | refine zzI ?_ | refine zzR ?_ | refine zzB ?_ | refine late_ok rfl rfl ?_ | refine src_ok rfl ?_ | refine LitB.data ?_ | refine BoxB.own ?_); conv => whnf)))
  refine awp_for tab_ok (fun k => ([J, S.c (C.t (T.ptr [ti b.sg, intsT b.dl])), J, intS .i64 k, J, J, J, J, J, J, J, J, J, J, J, J, J, J, J, J, J, J, J, J, J, J, J, J, J, J, J, J, J, J, J, J, J, J, J, J, J, J, J, J, J, J, J, J, J, J, J, J, J, J, J, J], [])) b.dl.length (fun k => (b.dl.take k).all inD = true) [] rfl
    ⟨rfl, rfl, trivial, ⟨ent_t rfl, rfl, trivial⟩⟩ ?_
  intro k hk hI
  by_cases hlt : k < b.dl.length
  · conv => whnf
    (repeat' (first | ((refine DecB.mk (fun h => ?_) (fun h => ?_)) <;> first | (exfalso; omega) | (conv => whnf)) | ((refine BoolB.mk (fun h => ?_) (fun h => ?_)) <;> first | (exact absurd h (by decide)) | (conv => whnf)) | ((first | refine zzW ?_ | refine zzI ?_ | refine zzR ?_ | refine zzB ?_ | refine late_ok rfl rfl ?_ | refine src_ok rfl ?_ | refine ex_row (get_dat (by omega)) ?_ | refine LitB.data ?_ | refine BoxB.own ?_); conv => whnf)))
    all_goals first
      | (exfalso; omega)
      | exact ⟨hlt, by rw [all_take_succ (get_dat hlt), hI]; simp [inD]; omega, [], rfl, rfl, trivial, ⟨rfl, rfl, trivial⟩⟩
      | (refine fin_bool ?_; unfold rightB; rw [all_of_get (get_dat hlt) (by simp [inD]; omega)]; rfl)
  · have hke : k = b.dl.length := by omega
    subst hke
    have ha : b.dl.all inD = true := by rw [← hI, List.take_of_length_le (by omega)]
    have hgl : 0 < b.dl.length → b.dl[((((b.dl.map intRow).length : Nat) : Int) - 1).toNat]? = some (dat b.dl (b.dl.length - 1)) := fun h => by rw [l2]; exact get_last h
    conv => whnf
    (repeat' (first | ((refine DecB.mk (fun h => ?_) (fun h => ?_)) <;> first | (exfalso; omega) | (conv => whnf)) | ((refine BoolB.mk (fun h => ?_) (fun h => ?_)) <;> first | (exact absurd h (by decide)) | (conv => whnf)) | ((first | refine zzW ?_ | refine zzI ?_ | refine zzR ?_ | refine zzB ?_ | refine late_ok rfl rfl ?_ | refine src_ok rfl ?_ | refine ex_rowI (by omega) (hgl (by omega)) ?_ | refine LitB.data ?_ | refine BoxB.own ?_); conv => whnf)))
    all_goals first
      | (exfalso; omega)
      | (exfalso; simp_all; done)
      | (exfalso; simp_all; omega)
      | skip
    all_goals
      refine fin_bool ?_
      unfold rightB
      rw [ha]
      by_cases hz : b.dl.length = 0
      · rw [if_pos hz]; simp_all <;> omega
      · rw [if_neg hz]; simp_all <;> omega
theorem r4Right (x : Int) (lx : bl x ≤ 300000) : ACall Tryz.prog 98 [bgS (bz x)] [] (boolS true) [] := by
  have := r_bigRight (bz x) (show bl x ≤ 1000000 by omega)
  rw [bz_right] at this
  exact this
theorem r4Of (n : Int) (h0 : -9223372036854775808 ≤ n) (h1 : n ≤ 9223372036854775807) : ACall Tryz.prog 101 [intS .i64 n] [] (bgS (bz n)) [] := by
  rcases Int.lt_trichotomy n 0 with hn | hn | hn
  · (refine acall_of tab_ok Tryz.func101 rfl (by decide) ?_; (conv => whnf); repeat (first | (refine LitB.data ?_; conv => whnf) | (refine BoxB.own ?_; conv => whnf)))
    (repeat' (first | ((refine DecB.mk (fun h => ?_) (fun h => ?_)) <;> first | (exfalso; omega) | (conv => whnf)) | ((refine BoolB.mk (fun h => ?_) (fun h => ?_)) <;> first | (exact absurd h (by decide)) | (conv => whnf)) | ((first | refine zzW ?_ | refine zzI ?_ | refine zzR ?_ | refine zzB ?_ | refine late_ok rfl rfl ?_ | refine src_ok rfl ?_ | refine LitB.data ?_ | refine BoxB.own ?_); conv => whnf)))
    all_goals try (exfalso; omega)
    refine awp_while tab_ok (σ := List Int × Nat) (fun | (acc, u) => ([intS .i64 (- (u : Int)), J, S.c (C.ptr 0 0 0), intS .i64 (-1), ownI 1 acc, J, J, J, J, J, J, J, J, J, J, J, J, J, J, J, J, J, J, J, J, J, J, J], [zBox, intsB acc])) (fun s => OfI n s.1 s.2) (fun s => s.2) ([], n.natAbs) [some 0, none]
      ⟨rfl⟩ ⟨rfl, rfl, ⟨⟨rfl, rfl, rfl, .inl ⟨rfl, rowsT_z⟩⟩, ⟨rfl, rfl⟩, trivial⟩, ⟨ent_i (by omega), ⟨rfl, rfl, rfl⟩, rfl, ⟨rfl, rfl, rfl⟩, trivial⟩⟩ ?_
    rintro ⟨acc, u⟩ hI
    have hI : OfI n acc u := hI
    have hl := hI.len h0 h1
    have hu := hI.le
    have hm : (- (u : Int)).tmod 1048576 = - ((u : Int) % 1048576) := by
      first
        | exact Int.tmod_eq_emod_of_nonneg (by omega)
        | (rw [Int.neg_tmod, Int.tmod_eq_emod_of_nonneg (by omega)])
    have hd : (- (u : Int)).tdiv 1048576 = - ((u / 1048576 : Nat) : Int) := by
      first
        | (rw [Int.tdiv_eq_ediv_of_nonneg (by omega)]; simp; done)
        | (rw [Int.neg_tdiv, Int.tdiv_eq_ediv_of_nonneg (by omega)]; simp)
    by_cases hu0 : 0 < u
    · have hst := hI.step hu0
      conv => whnf
      (repeat' (first | ((refine DecB.mk (fun h => ?_) (fun h => ?_)) <;> first | (exfalso; omega) | (conv => whnf)) | ((refine BoolB.mk (fun h => ?_) (fun h => ?_)) <;> first | (exact absurd h (by decide)) | (conv => whnf)) | ((first | refine zzW ?_ | refine zzI ?_ | refine zzR ?_ | refine zzB ?_ | refine late_ok rfl rfl ?_ | refine src_ok rfl ?_ | refine .inl ⟨_, _, qcall_pure (toC) rfl rfl, ?_⟩ | refine .inl ⟨_, _, qcall_pure (toC) rfl rfl, ?_⟩ | refine app_ok (by simp [toC]) (by simp [toC]; omega) ?_ | refine ⟨by decide, _, wrap_eq hd (by omega) (by omega), ?_⟩ | refine ne_ok (by decide) ?_ | refine LitB.data ?_ | refine BoxB.own ?_); conv => whnf)))
      all_goals try (exfalso; omega)
      all_goals
        refine ⟨[some 0, some 2], (acc ++ [(u : Int) % 1048576], u / 1048576), ⟨rfl, rfl, ⟨⟨rfl, rfl, rfl, .inl ⟨rfl, rowsT_z⟩⟩, entB_rows rfl rfl rfl ?_ rfl, trivial⟩, ⟨ent_i rfl, ⟨rfl, rfl, rfl⟩, rfl, ent_own rfl (by simp [toC]), trivial⟩⟩, hst, by show u / 1048576 < u; omega⟩
        have e : ∀ y : Int, y = (u : Int) % 1048576 → (toC (acc.map intRow)).take acc.length ++ toC [[ti y]] = toC ((acc ++ [(u : Int) % 1048576]).map intRow) := fun y hy => by rw [hy]; exact toC_app1
        exact e _ (by omega)
    · have h0u : u = 0 := by omega
      subst h0u
      have e : acc = dg n.natAbs := by have := hI.eq; rw [dg_zero, List.append_nil] at this; exact this
      have sg := r_madeD (-1) n.natAbs (by omega) (by rw [← e]; omega)
      rw [← e, show (-1) * (n.natAbs : Int) = n by omega] at sg
      conv => whnf
      (repeat' (first | ((refine DecB.mk (fun h => ?_) (fun h => ?_)) <;> first | (exfalso; omega) | (conv => whnf)) | ((refine BoolB.mk (fun h => ?_) (fun h => ?_)) <;> first | (exact absurd h (by decide)) | (conv => whnf)) | ((first | refine zzW ?_ | refine zzI ?_ | refine zzR ?_ | refine zzB ?_ | refine late_ok rfl rfl ?_ | refine src_ok rfl ?_ | refine .inl ⟨_, _, qcall_pure (1) rfl rfl, ?_⟩ | refine .inr ⟨_, _, acall_freeze [1] sg ⟨vs_t, vs_c (vc_all (by simp) rfl (by intro h; cases h) rfl rfl (by simp)), trivial⟩ rfl, ?_⟩ | refine LitB.data ?_ | refine BoxB.own ?_); conv => whnf)))
      all_goals try (exfalso; omega)
      exact fin_t ⟨rfl, rfl, trivial⟩
  · subst hn
    (refine acall_of tab_ok Tryz.func101 rfl (by decide) ?_; (conv => whnf); repeat (first | (refine LitB.data ?_; conv => whnf) | (refine BoxB.own ?_; conv => whnf)))
    (repeat' (first | ((refine DecB.mk (fun h => ?_) (fun h => ?_)) <;> first | (exfalso; omega) | (conv => whnf)) | ((refine BoolB.mk (fun h => ?_) (fun h => ?_)) <;> first | (exact absurd h (by decide)) | (conv => whnf)) | ((first | refine zzW ?_ | refine zzI ?_ | refine zzR ?_ | refine zzB ?_ | refine late_ok rfl rfl ?_ | refine src_ok rfl ?_ | refine LitB.data ?_ | refine BoxB.own ?_); conv => whnf)))
    all_goals first
      | (exfalso; omega)
      | exact fin_t ⟨rfl, rfl, trivial⟩
  · (refine acall_of tab_ok Tryz.func101 rfl (by decide) ?_; (conv => whnf); repeat (first | (refine LitB.data ?_; conv => whnf) | (refine BoxB.own ?_; conv => whnf)))
    (repeat' (first | ((refine DecB.mk (fun h => ?_) (fun h => ?_)) <;> first | (exfalso; omega) | (conv => whnf)) | ((refine BoolB.mk (fun h => ?_) (fun h => ?_)) <;> first | (exact absurd h (by decide)) | (conv => whnf)) | ((first | refine zzW ?_ | refine zzI ?_ | refine zzR ?_ | refine zzB ?_ | refine late_ok rfl rfl ?_ | refine src_ok rfl ?_ | refine LitB.data ?_ | refine BoxB.own ?_); conv => whnf)))
    all_goals try (exfalso; omega)
    refine awp_while tab_ok (σ := List Int × Nat) (fun | (acc, u) => ([intS .i64 ((u : Int)), J, S.c (C.ptr 0 0 0), intS .i64 (1), ownI 1 acc, J, J, J, J, J, J, J, J, J, J, J, J, J, J, J, J, J, J, J, J, J, J, J], [zBox, intsB acc])) (fun s => OfI n s.1 s.2) (fun s => s.2) ([], n.natAbs) [some 0, none]
      ⟨rfl⟩ ⟨rfl, rfl, ⟨⟨rfl, rfl, rfl, .inl ⟨rfl, rowsT_z⟩⟩, ⟨rfl, rfl⟩, trivial⟩, ⟨ent_i (by omega), ⟨rfl, rfl, rfl⟩, rfl, ⟨rfl, rfl, rfl⟩, trivial⟩⟩ ?_
    rintro ⟨acc, u⟩ hI
    have hI : OfI n acc u := hI
    have hl := hI.len h0 h1
    have hu := hI.le
    have hm : ((u : Int)).tmod 1048576 = ((u : Int) % 1048576) := by
      first
        | exact Int.tmod_eq_emod_of_nonneg (by omega)
        | (rw [Int.neg_tmod, Int.tmod_eq_emod_of_nonneg (by omega)])
    have hd : ((u : Int)).tdiv 1048576 = ((u / 1048576 : Nat) : Int) := by
      first
        | (rw [Int.tdiv_eq_ediv_of_nonneg (by omega)]; simp; done)
        | (rw [Int.neg_tdiv, Int.tdiv_eq_ediv_of_nonneg (by omega)]; simp)
    by_cases hu0 : 0 < u
    · have hst := hI.step hu0
      conv => whnf
      (repeat' (first | ((refine DecB.mk (fun h => ?_) (fun h => ?_)) <;> first | (exfalso; omega) | (conv => whnf)) | ((refine BoolB.mk (fun h => ?_) (fun h => ?_)) <;> first | (exact absurd h (by decide)) | (conv => whnf)) | ((first | refine zzW ?_ | refine zzI ?_ | refine zzR ?_ | refine zzB ?_ | refine late_ok rfl rfl ?_ | refine src_ok rfl ?_ | refine .inl ⟨_, _, qcall_pure (toC) rfl rfl, ?_⟩ | refine .inl ⟨_, _, qcall_pure (toC) rfl rfl, ?_⟩ | refine app_ok (by simp [toC]) (by simp [toC]; omega) ?_ | refine ⟨by decide, _, wrap_eq hd (by omega) (by omega), ?_⟩ | refine ne_ok (by decide) ?_ | refine LitB.data ?_ | refine BoxB.own ?_); conv => whnf)))
      all_goals try (exfalso; omega)
      all_goals
        refine ⟨[some 0, some 2], (acc ++ [(u : Int) % 1048576], u / 1048576), ⟨rfl, rfl, ⟨⟨rfl, rfl, rfl, .inl ⟨rfl, rowsT_z⟩⟩, entB_rows rfl rfl rfl ?_ rfl, trivial⟩, ⟨ent_i rfl, ⟨rfl, rfl, rfl⟩, rfl, ent_own rfl (by simp [toC]), trivial⟩⟩, hst, by show u / 1048576 < u; omega⟩
        have e : ∀ y : Int, y = (u : Int) % 1048576 → (toC (acc.map intRow)).take acc.length ++ toC [[ti y]] = toC ((acc ++ [(u : Int) % 1048576]).map intRow) := fun y hy => by rw [hy]; exact toC_app1
        exact e _ (by omega)
    · have h0u : u = 0 := by omega
      subst h0u
      have e : acc = dg n.natAbs := by have := hI.eq; rw [dg_zero, List.append_nil] at this; exact this
      have sg := r_madeD (1) n.natAbs (by omega) (by rw [← e]; omega)
      rw [← e, show (1) * (n.natAbs : Int) = n by omega] at sg
      conv => whnf
      (repeat' (first | ((refine DecB.mk (fun h => ?_) (fun h => ?_)) <;> first | (exfalso; omega) | (conv => whnf)) | ((refine BoolB.mk (fun h => ?_) (fun h => ?_)) <;> first | (exact absurd h (by decide)) | (conv => whnf)) | ((first | refine zzW ?_ | refine zzI ?_ | refine zzR ?_ | refine zzB ?_ | refine late_ok rfl rfl ?_ | refine src_ok rfl ?_ | refine .inl ⟨_, _, qcall_pure (1) rfl rfl, ?_⟩ | refine .inr ⟨_, _, acall_freeze [1] sg ⟨vs_t, vs_c (vc_all (by simp) rfl (by intro h; cases h) rfl rfl (by simp)), trivial⟩ rfl, ?_⟩ | refine LitB.data ?_ | refine BoxB.own ?_); conv => whnf)))
      all_goals try (exfalso; omega)
      exact fin_t ⟨rfl, rfl, trivial⟩
theorem r4Gcd (x y : Int) (lx : bl x ≤ 200000) (ly : bl y ≤ 200000) : ACall Tryz.prog 99 [bgS (bz x), bgS (bz y)] [] (.tup [bgS (bz (Int.gcd x y)), intS .i64 0]) [] := by
  have r1 := r4Right x (by omega)
  have r2 := r4Right y (by omega)
  (refine acall_of tab_ok Tryz.func99 rfl (by decide) ?_; (conv => whnf); repeat (first | (refine LitB.data ?_; conv => whnf) | (refine BoxB.own ?_; conv => whnf)))
  (repeat' (first | ((refine DecB.mk (fun h => ?_) (fun h => ?_)) <;> first | (exfalso; omega) | (conv => whnf)) | ((refine BoolB.mk (fun h => ?_) (fun h => ?_)) <;> first | (exact absurd h (by decide)) | (conv => whnf)) | ((first | refine zzW ?_ | refine zzI ?_ | refine zzR ?_ | refine zzB ?_ | refine late_ok rfl rfl ?_ | refine src_ok rfl ?_ | refine .inl ⟨_, _, qcall_pure (r1) rfl rfl, ?_⟩ | refine .inl ⟨_, _, qcall_pure (r2) rfl rfl, ?_⟩ | refine LitB.data ?_ | refine BoxB.own ?_); conv => whnf)))
  all_goals first
    | (exfalso; simp_all; done)
    | skip
  refine awp_while tab_ok (σ := Nat × Nat) (fun | (X, Y) => ([J, J, J, J, S.c (C.ptr 0 0 0), J, intsS (dg X), intsS (dg Y), J, J, J, J, J, J, J, J, J, J, J, J, J, J, J, J, J, J, J, J, J, J, J, J, J, J, J, J], [zBox])) (fun s => GcdI x y s.1 s.2) (fun s => s.2) (x.natAbs, y.natAbs) [some 2]
    ⟨rfl, lx, ly⟩ ⟨rfl, rfl, ⟨⟨rfl, rfl, rfl, .inl ⟨rfl, rowsT_z⟩⟩, trivial⟩, ⟨⟨rfl, rfl, rfl⟩, rfl, rfl, trivial⟩⟩ ?_
  rintro ⟨X, Y⟩ hI
  have hI : GcdI x y X Y := hI
  obtain ⟨g1, g2, g3⟩ := hI
  have l2 : ((dg Y).map intRow).length = (dg Y).length := by simp
  by_cases hY : 0 < Y
  · have hp : (dg Y).length ≠ 0 := by rw [Ne, List.length_eq_zero_iff, dg_eq_nil]; omega
    have dv := r_over X Y hY (by omega) (by omega)
    conv => whnf
    (repeat' (first | ((refine DecB.mk (fun h => ?_) (fun h => ?_)) <;> first | (exfalso; omega) | (conv => whnf)) | ((refine BoolB.mk (fun h => ?_) (fun h => ?_)) <;> first | (exact absurd h (by decide)) | (conv => whnf)) | ((first | refine zzW ?_ | refine zzI ?_ | refine zzR ?_ | refine zzB ?_ | refine late_ok rfl rfl ?_ | refine src_ok rfl ?_ | refine .inl ⟨_, _, qcall_pure (dv) rfl rfl, ?_⟩ | refine LitB.data ?_ | refine BoxB.own ?_); conv => whnf)))
    all_goals first
      | (exfalso; omega)
      | exact ⟨[some 0], (Y, X % Y), ⟨rfl, rfl, ⟨⟨rfl, rfl, rfl, .inl ⟨rfl, rowsT_z⟩⟩, trivial⟩, ⟨⟨rfl, rfl, rfl⟩, rfl, rfl, trivial⟩⟩, ⟨by rw [← g1, Nat.gcd_comm Y, ← Nat.gcd_rec, Nat.gcd_comm], g3, Nat.le_trans (dg_len_mono (Nat.le_of_lt (Nat.mod_lt X hY))) g3⟩, Nat.mod_lt X hY⟩
  · have hY : Y = 0 := by omega
    subst hY
    have hp : (dg 0).length = 0 := rfl
    have s1 := r_madeD 1 X (by simp) (by omega)
    conv => whnf
    (repeat' (first | ((refine DecB.mk (fun h => ?_) (fun h => ?_)) <;> first | (exfalso; omega) | (conv => whnf)) | ((refine BoolB.mk (fun h => ?_) (fun h => ?_)) <;> first | (exact absurd h (by decide)) | (conv => whnf)) | ((first | refine zzW ?_ | refine zzI ?_ | refine zzR ?_ | refine zzB ?_ | refine late_ok rfl rfl ?_ | refine src_ok rfl ?_ | refine .inl ⟨_, _, qcall_pure (s1) rfl rfl, ?_⟩ | refine LitB.data ?_ | refine BoxB.own ?_); conv => whnf)))
    all_goals first
      | (exfalso; omega)
      | skip
    refine fin_be ?_
    rw [Int.one_mul, show X = Int.gcd x y by rw [Int.gcd, ← g1, Nat.gcd_zero_right]]
theorem r4Div (x y : Int) (hy : 0 < y) (hxy : x % y = 0) (lx : bl x ≤ 200000) (ly : bl y ≤ 200000) : ACall Tryz.prog 140 [bgS (bz x), bgS (bz y)] [] (.tup [bgS (bz (x / y)), bgS (bz 0), intS .i64 0]) [] := by
  have r1 := r4Right x (by omega)
  have r2 := r4Right y (by omega)
  have hys : (bz y).sg = 1 := by rw [bz_sg, Int.sign_eq_one_of_pos hy]
  have ov := r_over x.natAbs y.natAbs (by omega) lx ly
  have hmod : x.natAbs % y.natAbs = 0 := by
    have := Int.natAbs_dvd_natAbs.2 (Int.dvd_of_emod_eq_zero hxy)
    exact Nat.mod_eq_zero_of_dvd this
  have lq := dg_len_mono (Nat.div_le_self x.natAbs y.natAbs)
  have hsg : (bz x).sg = x.sign := rfl
  have hs := sign_cases x
  have hq : x.sign * ((x.natAbs / y.natAbs : Nat) : Int) = x / y := by
    obtain ⟨k, hk⟩ := Int.dvd_of_emod_eq_zero hxy
    subst hk
    have hk2 : (y * k) / y = k := Int.mul_ediv_cancel_left _ (by omega)
    rw [hk2, Int.natAbs_mul, Nat.mul_div_cancel_left _ (by omega), Int.sign_mul, Int.sign_eq_one_of_pos hy, Int.one_mul]
    exact Int.sign_mul_natAbs k
  have s1 := r_madeD x.sign (x.natAbs / y.natAbs) (by
    rcases hs with ⟨h, h1⟩ | ⟨h, h1⟩ | ⟨h, h1⟩
    · right; right; subst h1; simp
    · exact .inl h
    · exact .inr (.inl h)) (by unfold bl at lx; omega)
  rw [hq] at s1
  have s2 := r_madeD x.sign 0 (by simp) (by rw [dg_zero]; simp)
  rw [show x.sign * ((0 : Nat) : Int) = 0 by simp] at s2
  have hmul : x.sign * 1 = x.sign := Int.mul_one _
  have hd0 : ((dg (x.natAbs % y.natAbs)).map intRow).length = 0 := by rw [hmod, dg_zero]; rfl
  unfold divS at ov
  rw [hmod] at ov hd0
  (refine acall_of tab_ok Tryz.func140 rfl (by decide) ?_; (conv => whnf); repeat (first | (refine LitB.data ?_; conv => whnf) | (refine BoxB.own ?_; conv => whnf)))
  (repeat' (first | ((refine DecB.mk (fun h => ?_) (fun h => ?_)) <;> first | (exfalso; omega) | (conv => whnf)) | ((refine BoolB.mk (fun h => ?_) (fun h => ?_)) <;> first | (exact absurd h (by decide)) | (conv => whnf)) | ((first | refine zzW ?_ | refine zzI ?_ | refine zzR ?_ | refine zzB ?_ | refine late_ok rfl rfl ?_ | refine src_ok rfl ?_ | refine .inl ⟨_, _, qcall_pure (r1) rfl rfl, ?_⟩ | refine .inl ⟨_, _, qcall_pure (r2) rfl rfl, ?_⟩ | refine .inl ⟨_, _, qcall_pure (ov) rfl rfl, ?_⟩ | refine .inl ⟨_, _, qcall_pure (s1) rfl rfl, ?_⟩ | refine .inl ⟨_, _, qcall_pure (s2) rfl rfl, ?_⟩ | refine .inl ⟨_, _, qcall_pure (hys, hsg) rfl rfl, ?_⟩ | refine ⟨_, wrap_eq (y := x.sign) (by rw [hys, hsg]; exact hmul) (by omega) (by omega), ?_⟩ | refine LitB.data ?_ | refine BoxB.own ?_); conv => whnf)))
  all_goals first
    | (exfalso; omega)
    | (exfalso; simp_all; done)
    | exact fin_be2 rfl rfl
theorem r5New (p q : Int) (hq : 0 < q) (lp : bl p ≤ 200000) (lq : bl q ≤ 200000) : ACall Tryz.prog 112 [bgS (bz p), bgS (bz q)] [] (.tup [frS (fz (Rat.divInt p q)), intS .i64 0]) [] := by
  have r1 := r4Right p (by omega)
  have r2 := r4Right q (by omega)
  have hsg : (bz q).sg = 1 := by rw [bz_sg, Int.sign_eq_one_of_pos hq]
  have lg := bl_gcd p q lp lq
  have hg : 0 < (Int.gcd p q : Int) := by have := Int.gcd_pos_of_ne_zero_right p (b := q) (by omega); omega
  have g := r4Gcd p q lp lq
  have d1 := r4Div p _ hg (Int.emod_eq_zero_of_dvd (Int.gcd_dvd_left ..)) lp lg
  have d2 := r4Div q _ hg (Int.emod_eq_zero_of_dvd (Int.gcd_dvd_right ..)) lq lg
  have e := fz_divInt (p := p) (q := q) (by omega) rfl
  (refine acall_of tab_ok Tryz.func112 rfl (by decide) ?_; (conv => whnf); repeat (first | (refine LitB.data ?_; conv => whnf) | (refine BoxB.own ?_; conv => whnf)))
  (repeat' (first | ((refine DecB.mk (fun h => ?_) (fun h => ?_)) <;> first | (exfalso; omega) | (conv => whnf)) | ((refine BoolB.mk (fun h => ?_) (fun h => ?_)) <;> first | (exact absurd h (by decide)) | (conv => whnf)) | ((first | refine zzW ?_ | refine zzI ?_ | refine zzR ?_ | refine zzB ?_ | refine late_ok rfl rfl ?_ | refine src_ok rfl ?_ | refine .inl ⟨_, _, qcall_pure (r1) rfl rfl, ?_⟩ | refine .inl ⟨_, _, qcall_pure (r2) rfl rfl, ?_⟩ | refine .inl ⟨_, _, qcall_pure (g) rfl rfl, ?_⟩ | refine .inl ⟨_, _, qcall_pure (d1) rfl rfl, ?_⟩ | refine .inl ⟨_, _, qcall_pure (d2) rfl rfl, ?_⟩ | refine LitB.data ?_ | refine BoxB.own ?_); conv => whnf)))
  all_goals first
    | (exfalso; omega)
    | (exfalso; simp_all; done)
    | exact fin_fe e.symm
theorem r5Of (p q : Int) (hq : 0 < q) (p0 : -9223372036854775808 ≤ p) (p1 : p ≤ 9223372036854775807) (q1 : q ≤ 9223372036854775807) :
    ACall Tryz.prog 74 [intS .i64 p, intS .i64 q] [] (.tup [frS (fz (Rat.divInt p q)), intS .i64 0]) [] := by
  have l1 := bl_int p0 p1
  have l2 := bl_int (x := q) (by omega) q1
  have o1 := r4Of p p0 p1
  have o2 := r4Of q (by omega) q1
  have n := r5New p q hq (by omega) (by omega)
  (refine acall_of tab_ok Tryz.func74 rfl (by decide) ?_; (conv => whnf); repeat (first | (refine LitB.data ?_; conv => whnf) | (refine BoxB.own ?_; conv => whnf)))
  (repeat' (first | ((refine DecB.mk (fun h => ?_) (fun h => ?_)) <;> first | (exfalso; omega) | (conv => whnf)) | ((refine BoolB.mk (fun h => ?_) (fun h => ?_)) <;> first | (exact absurd h (by decide)) | (conv => whnf)) | ((first | refine zzW ?_ | refine zzI ?_ | refine zzR ?_ | refine zzB ?_ | refine late_ok rfl rfl ?_ | refine src_ok rfl ?_ | refine .inl ⟨_, _, qcall_pure (o1) rfl rfl, ?_⟩ | refine .inl ⟨_, _, qcall_pure (o2) rfl rfl, ?_⟩ | refine .inl ⟨_, _, qcall_pure (n) rfl rfl, ?_⟩ | refine LitB.data ?_ | refine BoxB.own ?_); conv => whnf)))
  all_goals exact fin_fe rfl
theorem r5Int (n : Int) (p0 : -9223372036854775808 ≤ n) (p1 : n ≤ 9223372036854775807) : ACall Tryz.prog 35 [intS .i64 n] [] (frS (fz (n : Rat))) [] := by
  have o := r5Of n 1 (by decide) p0 p1 (by decide)
  have e : Rat.divInt n 1 = (n : Rat) := by rw [Rat.divInt_eq_div]; simp; grind
  rw [e] at o
  (refine acall_of tab_ok Tryz.func35 rfl (by decide) ?_; (conv => whnf); repeat (first | (refine LitB.data ?_; conv => whnf) | (refine BoxB.own ?_; conv => whnf)))
  (repeat' (first | ((refine DecB.mk (fun h => ?_) (fun h => ?_)) <;> first | (exfalso; omega) | (conv => whnf)) | ((refine BoolB.mk (fun h => ?_) (fun h => ?_)) <;> first | (exact absurd h (by decide)) | (conv => whnf)) | ((first | refine zzW ?_ | refine zzI ?_ | refine zzR ?_ | refine zzB ?_ | refine late_ok rfl rfl ?_ | refine src_ok rfl ?_ | refine .inl ⟨_, _, qcall_pure (o) rfl rfl, ?_⟩ | refine LitB.data ?_ | refine BoxB.own ?_); conv => whnf)))
  all_goals exact fin_t ⟨rfl, rfl, rfl, rfl, trivial⟩
end Go.Proofs.YtfieodjihaodiaaGreat
/- Small references: Few, Little, Same; few. -/
namespace Go.Proofs.YtfieodjihaodiaaGreat
open Go.RowKit
set_option linter.unusedVariables false
set_option linter.unusedSimpArgs false
set_option maxRecDepth 100000

theorem a_SameBig (b : Bg) (hl : b.dl.length ≤ 1000000) : ACall Tryz.prog 73 [bgS b, bgS b] [] (boolS true) [] := by
  have l2 : (b.dl.map intRow).length = b.dl.length := by simp
  (refine acall_of tab_ok Tryz.func73 rfl (by decide) ?_; (conv => whnf); repeat (first | (refine LitB.data ?_; conv => whnf) | (refine BoxB.data ?_; conv => whnf)))
  (repeat' (first | ((refine DecB.mk (fun h => ?_) (fun h => ?_)) <;> first | (exfalso; omega) | (conv => whnf)) | ((refine BoolB.mk (fun h => ?_) (fun h => ?_)) <;> first | (exact absurd h (by decide)) | (conv => whnf)) | ((first | refine zzW ?_ | refine zzI ?_ | refine zzR ?_ | refine zzB ?_ | refine late_ok rfl rfl ?_ | refine src_ok rfl ?_ | refine LitB.data ?_ | refine BoxB.own ?_); conv => whnf)))
  all_goals try (exfalso; omega)
  refine awp_for tab_ok (fun k => ([J, J, S.c (C.t (T.ptr [ti b.sg, intsT b.dl])), S.c (C.t (T.ptr [ti b.sg, intsT b.dl])), J, intS .i64 k, J, J, J, J, J, J, J, J, J, J, J, J, J, J, J, J, J, J, J, J, J, J, J, J, J, J, J, J, J, J, J, J], [])) b.dl.length (fun _ => True) [] trivial
    ⟨rfl, rfl, trivial, ⟨rfl, rfl, rfl, trivial⟩⟩ ?_
  intro k hk _
  by_cases hlt : k < b.dl.length
  · conv => whnf
    (repeat' (first | ((refine DecB.mk (fun h => ?_) (fun h => ?_)) <;> first | (exfalso; omega) | (conv => whnf)) | ((refine BoolB.mk (fun h => ?_) (fun h => ?_)) <;> first | (exact absurd h (by decide)) | (conv => whnf)) | ((first | refine zzW ?_ | refine zzI ?_ | refine zzR ?_ | refine zzB ?_ | refine late_ok rfl rfl ?_ | refine src_ok rfl ?_ | refine ex_row (get_dat (by omega)) ?_ | refine LitB.data ?_ | refine BoxB.own ?_); conv => whnf)))
    all_goals first
      | (exfalso; omega)
      | exact ⟨hlt, trivial, [], rfl, rfl, trivial, ⟨rfl, rfl, rfl, trivial⟩⟩
  · conv => whnf
    (repeat' (first | ((refine DecB.mk (fun h => ?_) (fun h => ?_)) <;> first | (exfalso; omega) | (conv => whnf)) | ((refine BoolB.mk (fun h => ?_) (fun h => ?_)) <;> first | (exact absurd h (by decide)) | (conv => whnf)) | ((first | refine zzW ?_ | refine zzI ?_ | refine zzR ?_ | refine zzB ?_ | refine late_ok rfl rfl ?_ | refine src_ok rfl ?_ | refine LitB.data ?_ | refine BoxB.own ?_); conv => whnf)))
    all_goals first
      | (exfalso; omega)
      | exact fin_bool rfl
theorem a_SameF (f : Fr) (lp : f.p.dl.length ≤ 1000000) (lq : f.q.dl.length ≤ 1000000) : ACall Tryz.prog 32 [frS f, frS f] [] (boolS true) [] := by
  have s1 := a_SameBig f.p lp
  have s2 := a_SameBig f.q lq
  (refine acall_of tab_ok Tryz.func32 rfl (by decide) ?_; (conv => whnf); repeat (first | (refine LitB.data ?_; conv => whnf) | (refine BoxB.data ?_; conv => whnf)))
  (repeat' (first | ((refine DecB.mk (fun h => ?_) (fun h => ?_)) <;> first | (exfalso; omega) | (conv => whnf)) | ((refine BoolB.mk (fun h => ?_) (fun h => ?_)) <;> first | (exact absurd h (by decide)) | (conv => whnf)) | ((first | refine zzW ?_ | refine zzI ?_ | refine zzR ?_ | refine zzB ?_ | refine late_ok rfl rfl ?_ | refine src_ok rfl ?_ | refine .inl ⟨_, _, qcall_pure (s1) rfl rfl, ?_⟩ | refine .inl ⟨_, _, qcall_pure (s2) rfl rfl, ?_⟩ | refine LitB.data ?_ | refine BoxB.own ?_); conv => whnf)))
  all_goals first
    | (exfalso; simp_all; done)
    | exact fin_bool rfl
def fewF (n : Int) (f : Fr) : Bool := decide ((f.p.dl.length : Int) ≤ n) && decide ((f.q.dl.length : Int) ≤ n)
theorem a_FewF (f : Fr) (n : Int) : ACall Tryz.prog 36 [frS f, intS .i64 n] [] (boolS (fewF n f)) [] := by
  have l1 : (f.p.dl.map intRow).length = f.p.dl.length := by simp
  have l2 : (f.q.dl.map intRow).length = f.q.dl.length := by simp
  (refine acall_of tab_ok Tryz.func36 rfl (by decide) ?_; (conv => whnf); repeat (first | (refine LitB.data ?_; conv => whnf) | (refine BoxB.data ?_; conv => whnf)))
  (repeat' (first | ((refine DecB.mk (fun h => ?_) (fun h => ?_)) <;> first | (exfalso; omega) | (conv => whnf)) | ((refine BoolB.mk (fun h => ?_) (fun h => ?_)) <;> first | (exact absurd h (by decide)) | (conv => whnf)) | ((first | refine zzW ?_ | refine zzI ?_ | refine zzR ?_ | refine zzB ?_ | refine late_ok rfl rfl ?_ | refine src_ok rfl ?_ | refine LitB.data ?_ | refine BoxB.own ?_); conv => whnf)))
  all_goals (refine fin_bool ?_; unfold fewF; simp; omega)
theorem SmallH.mono {m n : Nat} {hh : List (List Fr)} (h : SmallH m hh) (hmn : m ≤ n) : SmallH n hh := ⟨h.l1, h.l2, fun l hl f hf => by have := h.l3 l hl f hf; omega⟩
end Go.Proofs.YtfieodjihaodiaaGreat
/- reference 16: Few, FewMasses; reference 8: FewPoint. -/
namespace Go.Proofs.YtfieodjihaodiaaGreat
open Go.RowKit
set_option linter.unusedVariables false
set_option linter.unusedSimpArgs false
set_option maxRecDepth 100000

def few16 (e : Ev) (n : Int) : Bool := !((decide ((e.moves.length : Int) > n) && decide (e.moves.length ≤ 200)) || (decide (e.purities.length > 20) && decide (e.purities.length ≤ 200))) &&
  decide (e.moves.length ≤ 220) && decide (e.purities.length ≤ 220) && decide (e.places.length ≤ 120) && decide (e.certs.length ≤ 120) && decide (e.recalls.length ≤ 40)
set_option maxHeartbeats 4000000 in
theorem a_Few16 (e : Ev) (n : Int) : ACall Tryz.prog 11 [evS e, intS .i64 n] [] (boolS (few16 e n)) [] := by
  have l1 : (e.places.map Place.row).length = e.places.length := by simp
  have l2 : (e.moves.map Move.row).length = e.moves.length := by simp
  have l3 : (e.certs.map Cert.row).length = e.certs.length := by simp
  have l4 : (e.recalls.map Recall.row).length = e.recalls.length := by simp
  have l5 : (e.purities.map Purity.row).length = e.purities.length := by simp
  (refine acall_of tab_ok Tryz.func11 rfl (by decide) ?_; (conv => whnf); repeat (first | (refine LitB.data ?_; conv => whnf) | (refine BoxB.data ?_; conv => whnf)))
  (repeat' (first | ((refine DecB.mk (fun h => ?_) (fun h => ?_)) <;> first | (exfalso; omega) | (conv => whnf)) | ((refine BoolB.mk (fun h => ?_) (fun h => ?_)) <;> first | (exact absurd h (by decide)) | (conv => whnf)) | ((first | refine zzW ?_ | refine zzI ?_ | refine zzR ?_ | refine zzB ?_ | refine late_ok rfl rfl ?_ | refine src_ok rfl ?_ | refine LitB.data ?_ | refine BoxB.own ?_); conv => whnf)))
  all_goals first
    | (exfalso; omega)
    | (refine fin_bool ?_; unfold few16; simp; omega)
def pointB (l : List Fr) (n : Nat) (m : Int) : Bool := (l.take (n + 1)).all (fewF m) && decide (l.length ≤ n)
set_option maxHeartbeats 4000000 in
theorem a_FewPoint (l : List Fr) (n : Nat) (m : Int) (hn : n ≤ 1000) : ACall Tryz.prog 13 [fracsS l, intS .i64 n, intS .i64 m] [] (boolS (pointB l n m)) [] := by
  have m1 : (l.map frRow).length = l.length := by simp
  (refine acall_of tab_ok Tryz.func13 rfl (by decide) ?_; (conv => whnf); repeat (first | (refine LitB.data ?_; conv => whnf) | (refine BoxB.own ?_; conv => whnf)))
  (repeat' (first | ((refine DecB.mk (fun h => ?_) (fun h => ?_)) <;> first | (exfalso; omega) | (conv => whnf)) | ((refine BoolB.mk (fun h => ?_) (fun h => ?_)) <;> first | (exact absurd h (by decide)) | (conv => whnf)) | ((first | refine zzW ?_ | refine zzI ?_ | refine zzR ?_ | refine zzB ?_ | refine late_ok rfl rfl ?_ | refine src_ok rfl ?_ | refine LitB.data ?_ | refine BoxB.own ?_); conv => whnf)))
  refine awp_for tab_ok (fun k => ([fracsS l, intS .i64 n, intS .i64 m, J, J, J, J, intS .i64 k, J, J, J, J, J, J, J, J, J, J, J, J, J, J, J, J, J, J, J, J, J, J], [])) (n + 1) (fun k => k ≤ l.length ∧ (l.take k).all (fewF m) = true) [] ⟨Nat.zero_le _, rfl⟩
    ⟨rfl, rfl, trivial, ⟨rfl, rfl, rfl, rfl, trivial⟩⟩ ?_
  rintro k hk ⟨hle, hI⟩
  by_cases hlt : k < l.length ∧ k < n + 1
  · obtain ⟨f, hf⟩ : ∃ f, l[k]? = some f := ⟨_, List.getElem?_eq_getElem hlt.1⟩
    have hf2 : (l.take (n + 1))[k]? = some f := by rw [List.getElem?_take, if_pos hlt.2]; exact hf
    have r := a_FewF f m
    cases hff : fewF m f with
    | true =>
      rw [hff] at r
      conv => whnf
      (repeat' (first | ((refine DecB.mk (fun h => ?_) (fun h => ?_)) <;> first | (exfalso; omega) | (conv => whnf)) | ((refine BoolB.mk (fun h => ?_) (fun h => ?_)) <;> first | (exact absurd h (by decide)) | (conv => whnf)) | ((first | refine zzW ?_ | refine zzI ?_ | refine zzR ?_ | refine zzB ?_ | refine late_ok rfl rfl ?_ | refine src_ok rfl ?_ | refine .inl ⟨_, _, qcall_pure (r) rfl rfl, ?_⟩ | refine ex_row hf ?_ | refine LitB.data ?_ | refine BoxB.own ?_); conv => whnf)))
      all_goals first
        | (exfalso; omega)
        | exact ⟨hlt.2, ⟨by omega, by rw [all_take_succ hf, hI, hff]; rfl⟩, [], rfl, rfl, trivial, ⟨rfl, rfl, rfl, rfl, trivial⟩⟩
    | false =>
      rw [hff] at r
      have e1 : pointB l n m = false := by unfold pointB; rw [all_of_get hf2 hff]; rfl
      rw [e1]
      conv => whnf
      (repeat' (first | ((refine DecB.mk (fun h => ?_) (fun h => ?_)) <;> first | (exfalso; omega) | (conv => whnf)) | ((refine BoolB.mk (fun h => ?_) (fun h => ?_)) <;> first | (exact absurd h (by decide)) | (conv => whnf)) | ((first | refine zzW ?_ | refine zzI ?_ | refine zzR ?_ | refine zzB ?_ | refine late_ok rfl rfl ?_ | refine src_ok rfl ?_ | refine .inl ⟨_, _, qcall_pure (r) rfl rfl, ?_⟩ | refine ex_row hf ?_ | refine LitB.data ?_ | refine BoxB.own ?_); conv => whnf)))
      all_goals first
        | (exfalso; omega)
        | exact fin_bool rfl
  · have hk2 : l.length = k ∨ k = n + 1 := by omega
    have hall : (l.take (n + 1)).all (fewF m) = true := by
      rcases hk2 with h | h
      · have e : l.take (n + 1) = l.take k := by rw [List.take_of_length_le (by omega), List.take_of_length_le (by omega)]
        rw [e]; exact hI
      · rw [← h]; exact hI
    conv => whnf
    (repeat' (first | ((refine DecB.mk (fun h => ?_) (fun h => ?_)) <;> first | (exfalso; omega) | (conv => whnf)) | ((refine BoolB.mk (fun h => ?_) (fun h => ?_)) <;> first | (exact absurd h (by decide)) | (conv => whnf)) | ((first | refine zzW ?_ | refine zzI ?_ | refine zzR ?_ | refine zzB ?_ | refine late_ok rfl rfl ?_ | refine src_ok rfl ?_ | refine LitB.data ?_ | refine BoxB.own ?_); conv => whnf)))
    all_goals first
      | (exfalso; omega)
      | (refine fin_bool ?_; unfold pointB; rw [hall]; simp; omega)
def massesB (l : List (List Fr)) (n : Nat) : Bool := (l.take (n + 1)).all (fun f => pointB f 10 3) && decide (l.length ≤ n)
set_option maxHeartbeats 4000000 in
theorem a_FewMasses (l : List (List Fr)) (n : Nat) (hn : n ≤ 1000) : ACall Tryz.prog 12 [histS l, intS .i64 n] [] (boolS (massesB l n)) [] := by
  have m1 : (l.map fracsRow).length = l.length := by simp
  (refine acall_of tab_ok Tryz.func12 rfl (by decide) ?_; (conv => whnf); repeat (first | (refine LitB.data ?_; conv => whnf) | (refine BoxB.own ?_; conv => whnf)))
  (repeat' (first | ((refine DecB.mk (fun h => ?_) (fun h => ?_)) <;> first | (exfalso; omega) | (conv => whnf)) | ((refine BoolB.mk (fun h => ?_) (fun h => ?_)) <;> first | (exact absurd h (by decide)) | (conv => whnf)) | ((first | refine zzW ?_ | refine zzI ?_ | refine zzR ?_ | refine zzB ?_ | refine late_ok rfl rfl ?_ | refine src_ok rfl ?_ | refine LitB.data ?_ | refine BoxB.own ?_); conv => whnf)))
  refine awp_for tab_ok (fun k => ([histS l, intS .i64 n, J, J, J, intS .i64 k, J, J, J, J, J, J, J, J, J, J, J, J, J, J, J, J, J, J, J, J, J], [])) (n + 1) (fun k => k ≤ l.length ∧ (l.take k).all (fun f => pointB f 10 3) = true) [] ⟨Nat.zero_le _, rfl⟩
    ⟨rfl, rfl, trivial, ⟨rfl, rfl, rfl, trivial⟩⟩ ?_
  rintro k hk ⟨hle, hI⟩
  by_cases hlt : k < l.length ∧ k < n + 1
  · obtain ⟨f, hf⟩ : ∃ f, l[k]? = some f := ⟨_, List.getElem?_eq_getElem hlt.1⟩
    have hf2 : (l.take (n + 1))[k]? = some f := by rw [List.getElem?_take, if_pos hlt.2]; exact hf
    have r := a_FewPoint f 10 3 (by decide)
    cases hff : pointB f 10 3 with
    | true =>
      rw [hff] at r
      conv => whnf
      (repeat' (first | ((refine DecB.mk (fun h => ?_) (fun h => ?_)) <;> first | (exfalso; omega) | (conv => whnf)) | ((refine BoolB.mk (fun h => ?_) (fun h => ?_)) <;> first | (exact absurd h (by decide)) | (conv => whnf)) | ((first | refine zzW ?_ | refine zzI ?_ | refine zzR ?_ | refine zzB ?_ | refine late_ok rfl rfl ?_ | refine src_ok rfl ?_ | refine .inl ⟨_, _, qcall_pure (r) rfl rfl, ?_⟩ | refine ex_row hf ?_ | refine LitB.data ?_ | refine BoxB.own ?_); conv => whnf)))
      all_goals first
        | (exfalso; omega)
        | exact ⟨hlt.2, ⟨by omega, by rw [all_take_succ hf, hI, hff]; rfl⟩, [], rfl, rfl, trivial, ⟨rfl, rfl, rfl, trivial⟩⟩
    | false =>
      rw [hff] at r
      have e1 : massesB l n = false := by unfold massesB; rw [all_of_get hf2 hff]; rfl
      rw [e1]
      conv => whnf
      (repeat' (first | ((refine DecB.mk (fun h => ?_) (fun h => ?_)) <;> first | (exfalso; omega) | (conv => whnf)) | ((refine BoolB.mk (fun h => ?_) (fun h => ?_)) <;> first | (exact absurd h (by decide)) | (conv => whnf)) | ((first | refine zzW ?_ | refine zzI ?_ | refine zzR ?_ | refine zzB ?_ | refine late_ok rfl rfl ?_ | refine src_ok rfl ?_ | refine .inl ⟨_, _, qcall_pure (r) rfl rfl, ?_⟩ | refine ex_row hf ?_ | refine LitB.data ?_ | refine BoxB.own ?_); conv => whnf)))
      all_goals first
        | (exfalso; omega)
        | exact fin_bool rfl
  · have hk2 : l.length = k ∨ k = n + 1 := by omega
    have hall : (l.take (n + 1)).all (fun f => pointB f 10 3) = true := by
      rcases hk2 with h | h
      · have e : l.take (n + 1) = l.take k := by rw [List.take_of_length_le (by omega), List.take_of_length_le (by omega)]
        rw [e]; exact hI
      · rw [← h]; exact hI
    conv => whnf
    (repeat' (first | ((refine DecB.mk (fun h => ?_) (fun h => ?_)) <;> first | (exfalso; omega) | (conv => whnf)) | ((refine BoolB.mk (fun h => ?_) (fun h => ?_)) <;> first | (exact absurd h (by decide)) | (conv => whnf)) | ((first | refine zzW ?_ | refine zzI ?_ | refine zzR ?_ | refine zzB ?_ | refine late_ok rfl rfl ?_ | refine src_ok rfl ?_ | refine LitB.data ?_ | refine BoxB.own ?_); conv => whnf)))
    all_goals first
      | (exfalso; omega)
      | (refine fin_bool ?_; unfold massesB; rw [hall]; simp; omega)
theorem points_small {l : List Fr} {n : Nat} {m : Int} (h : pointB l n m = true) : l.length ≤ n ∧ ∀ f ∈ l, fewF m f = true := by
  unfold pointB at h
  simp only [Bool.and_eq_true, decide_eq_true_eq] at h
  obtain ⟨h1, h2⟩ := h
  rw [List.take_of_length_le (by omega), List.all_eq_true] at h1
  exact ⟨h2, h1⟩
theorem masses_small {l : List (List Fr)} {n : Nat} (h : massesB l n = true) : l.length ≤ n ∧ ∀ r ∈ l, r.length ≤ 10 ∧ ∀ f ∈ r, fewF 3 f = true := by
  unfold massesB at h
  simp only [Bool.and_eq_true, decide_eq_true_eq] at h
  obtain ⟨h1, h2⟩ := h
  rw [List.take_of_length_le (by omega), List.all_eq_true] at h1
  exact ⟨h2, fun r hr => points_small (h1 r hr)⟩
theorem few16_sized {e : Ev} {n : Int} (h : few16 e n = true) : e.Sized := by
  unfold few16 at h
  simp only [Bool.and_eq_true, decide_eq_true_eq] at h
  exact ⟨by omega, by omega, by omega, by omega, by omega⟩
theorem few16_small {e : Ev} (h : few16 e 8 = true) (hc : check e = 0) : EvSm e := by
  have hz := few16_sized h
  obtain ⟨b1, b2, b3, b4⟩ := check_bounds16 hc
  have hf := (check_zero hc).1
  have hp : e.purities.length ≤ 200 := by unfold fullB at hf; simp at hf; omega
  have h1 : ((e.moves.length : Int) > 8 && decide (e.moves.length ≤ 200)) = false ∧ (decide (e.purities.length > 20) && decide (e.purities.length ≤ 200)) = false := by
    unfold few16 at h
    simp only [Bool.and_eq_true, Bool.not_eq_true', Bool.or_eq_false_iff] at h
    exact h.1.1.1.1.1
  obtain ⟨h1, h2⟩ := h1
  simp only [Bool.and_eq_false_iff, decide_eq_false_iff_not] at h1 h2
  refine ⟨hz, b1, b2, by omega, by omega, fun x hx => ?_, fun p hp => ?_⟩
  · have := check_move hc hx
    unfold moveOk idx at this
    simp only [Bool.and_eq_true, decide_eq_true_eq] at this
    omega
  · have hs := (check_zero hc).2.2.2.2.2.2
    unfold saidOk at hs
    simp only [Bool.and_eq_true] at hs
    have := List.all_eq_true.1 hs.2 p hp
    unfold purityOk idx at this
    simp only [Bool.and_eq_true, decide_eq_true_eq] at this
    omega
end Go.Proofs.YtfieodjihaodiaaGreat
/- reference 8: Same of terms; reference 16: SameRow, at equal arguments. -/
namespace Go.Proofs.YtfieodjihaodiaaGreat
open Go.RowKit
set_option linter.unusedVariables false
set_option linter.unusedSimpArgs false
set_option maxRecDepth 100000

theorem fz_len8 {x : Rat} (h : rl x ≤ 200) : (fz x).p.dl.length ≤ 1000000 ∧ (fz x).q.dl.length ≤ 1000000 := by
  have h4 := rl_num x
  have h5 := rl_den x
  exact ⟨show bl x.num ≤ 1000000 by omega, show bl x.den ≤ 1000000 by omega⟩
theorem a_SameT8 (l : List (Int × Rat)) (hl : l.length ≤ 100) (hd : ∀ t ∈ l, rl t.2 ≤ 200) : ACall Tryz.prog 41 [.c (.t (termsT l)), .c (.t (termsT l))] [] (boolS true) [] := by
  have m1 : (l.map termRow).length = l.length := by simp
  (refine acall_of tab_ok Tryz.func41 rfl (by decide) ?_; (conv => whnf); repeat (first | (refine LitB.data ?_; conv => whnf) | (refine BoxB.data ?_; conv => whnf)))
  (repeat' (first | ((refine DecB.mk (fun h => ?_) (fun h => ?_)) <;> first | (exfalso; omega) | (conv => whnf)) | ((refine BoolB.mk (fun h => ?_) (fun h => ?_)) <;> first | (exact absurd h (by decide)) | (conv => whnf)) | ((first | refine zzW ?_ | refine zzI ?_ | refine zzR ?_ | refine zzB ?_ | refine late_ok rfl rfl ?_ | refine src_ok rfl ?_ | refine LitB.data ?_ | refine BoxB.own ?_); conv => whnf)))
  all_goals try (exfalso; omega)
  refine awp_for tab_ok (fun k => ([S.c (C.t (termsT l)), S.c (C.t (termsT l)), J, J, J, intS .i64 k, J, J, J, J, J, J, J, J, J, J, J, J, J, J, J, J, J, J, J, J, J, J, J, J, J, J, J, J, J, J, J, J, J, J, J, J], [])) l.length (fun _ => True) [] trivial
    ⟨rfl, rfl, trivial, ⟨rfl, rfl, rfl, trivial⟩⟩ ?_
  intro k hk _
  by_cases hlt : k < l.length
  · obtain ⟨t, ht⟩ : ∃ t, l[k]? = some t := ⟨_, List.getElem?_eq_getElem hlt⟩
    have q := fz_len8 (hd t (List.mem_of_getElem? ht))
    have r := a_SameF (fz t.2) q.1 q.2
    conv => whnf
    (repeat' (first | ((refine DecB.mk (fun h => ?_) (fun h => ?_)) <;> first | (exfalso; omega) | (conv => whnf)) | ((refine BoolB.mk (fun h => ?_) (fun h => ?_)) <;> first | (exact absurd h (by decide)) | (conv => whnf)) | ((first | refine zzW ?_ | refine zzI ?_ | refine zzR ?_ | refine zzB ?_ | refine late_ok rfl rfl ?_ | refine src_ok rfl ?_ | refine .inl ⟨_, _, qcall_pure (r) rfl rfl, ?_⟩ | refine ex_row ht ?_ | refine LitB.data ?_ | refine BoxB.own ?_); conv => whnf)))
    all_goals first
      | (exfalso; omega)
      | exact ⟨hlt, trivial, [], rfl, rfl, trivial, ⟨rfl, rfl, rfl, trivial⟩⟩
  · conv => whnf
    (repeat' (first | ((refine DecB.mk (fun h => ?_) (fun h => ?_)) <;> first | (exfalso; omega) | (conv => whnf)) | ((refine BoolB.mk (fun h => ?_) (fun h => ?_)) <;> first | (exact absurd h (by decide)) | (conv => whnf)) | ((first | refine zzW ?_ | refine zzI ?_ | refine zzR ?_ | refine zzB ?_ | refine late_ok rfl rfl ?_ | refine src_ok rfl ?_ | refine LitB.data ?_ | refine BoxB.own ?_); conv => whnf)))
    all_goals first
      | (exfalso; omega)
      | exact fin_bool rfl
theorem a_SameRow16 (w : RowP) (h1 : w.terms.length ≤ 100) (h2 : ∀ t ∈ w.terms, rl t.2 ≤ 200) (h3 : rl w.value ≤ 200) :
    ACall Tryz.prog 30 [.agg ((rowRow w).map C.t), .agg ((rowRow w).map C.t)] [] (boolS true) [] := by
  have st := a_SameT8 w.terms h1 h2
  have q := fz_len8 h3
  have r := a_SameF (fz w.value) q.1 q.2
  (refine acall_of tab_ok Tryz.func30 rfl (by decide) ?_; (conv => whnf); repeat (first | (refine LitB.data ?_; conv => whnf) | (refine BoxB.data ?_; conv => whnf)))
  (repeat' (first | ((refine DecB.mk (fun h => ?_) (fun h => ?_)) <;> first | (exfalso; omega) | (conv => whnf)) | ((refine BoolB.mk (fun h => ?_) (fun h => ?_)) <;> first | (exact absurd h (by decide)) | (conv => whnf)) | ((first | refine zzW ?_ | refine zzI ?_ | refine zzR ?_ | refine zzB ?_ | refine late_ok rfl rfl ?_ | refine src_ok rfl ?_ | refine .inl ⟨_, _, qcall_pure (st) rfl rfl, ?_⟩ | refine .inl ⟨_, _, qcall_pure (r) rfl rfl, ?_⟩ | refine LitB.data ?_ | refine BoxB.own ?_); conv => whnf)))
  all_goals first
    | (exfalso; omega)
    | exact fin_bool rfl
end Go.Proofs.YtfieodjihaodiaaGreat
/- reference 8: SamePoint; reference 16: SameMasses, at equal arguments. -/
namespace Go.Proofs.YtfieodjihaodiaaGreat
open Go.RowKit
set_option linter.unusedVariables false
set_option linter.unusedSimpArgs false
set_option maxRecDepth 100000

theorem a_SamePoint8 (l : List Fr) (hl : l.length ≤ 1000000) (hd : ∀ f ∈ l, f.p.dl.length ≤ 1000000 ∧ f.q.dl.length ≤ 1000000) : ACall Tryz.prog 19 [fracsS l, fracsS l] [] (boolS true) [] := by
  have m1 : (l.map frRow).length = l.length := by simp
  (refine acall_of tab_ok Tryz.func19 rfl (by decide) ?_; (conv => whnf); repeat (first | (refine LitB.data ?_; conv => whnf) | (refine BoxB.own ?_; conv => whnf)))
  (repeat' (first | ((refine DecB.mk (fun h => ?_) (fun h => ?_)) <;> first | (exfalso; omega) | (conv => whnf)) | ((refine BoolB.mk (fun h => ?_) (fun h => ?_)) <;> first | (exact absurd h (by decide)) | (conv => whnf)) | ((first | refine zzW ?_ | refine zzI ?_ | refine zzR ?_ | refine zzB ?_ | refine late_ok rfl rfl ?_ | refine src_ok rfl ?_ | refine LitB.data ?_ | refine BoxB.own ?_); conv => whnf)))
  all_goals try (exfalso; omega)
  refine awp_for tab_ok (fun k => ([fracsS l, fracsS l, J, J, J, intS .i64 k, J, J, J, J, J, J, J, J, J, J, J, J, J, J, J, J, J, J, J, J, J], [])) l.length (fun _ => True) [] trivial
    ⟨rfl, rfl, trivial, ⟨rfl, rfl, rfl, trivial⟩⟩ ?_
  intro k hk _
  by_cases hlt : k < l.length
  · obtain ⟨f, hf⟩ : ∃ f, l[k]? = some f := ⟨_, List.getElem?_eq_getElem hlt⟩
    have q := hd f (List.mem_of_getElem? hf)
    have r := a_SameF f q.1 q.2
    conv => whnf
    (repeat' (first | ((refine DecB.mk (fun h => ?_) (fun h => ?_)) <;> first | (exfalso; omega) | (conv => whnf)) | ((refine BoolB.mk (fun h => ?_) (fun h => ?_)) <;> first | (exact absurd h (by decide)) | (conv => whnf)) | ((first | refine zzW ?_ | refine zzI ?_ | refine zzR ?_ | refine zzB ?_ | refine late_ok rfl rfl ?_ | refine src_ok rfl ?_ | refine .inl ⟨_, _, qcall_pure (r) rfl rfl, ?_⟩ | refine ex_row hf ?_ | refine LitB.data ?_ | refine BoxB.own ?_); conv => whnf)))
    all_goals first
      | (exfalso; omega)
      | exact ⟨hlt, trivial, [], rfl, rfl, trivial, ⟨rfl, rfl, rfl, trivial⟩⟩
  · conv => whnf
    (repeat' (first | ((refine DecB.mk (fun h => ?_) (fun h => ?_)) <;> first | (exfalso; omega) | (conv => whnf)) | ((refine BoolB.mk (fun h => ?_) (fun h => ?_)) <;> first | (exact absurd h (by decide)) | (conv => whnf)) | ((first | refine zzW ?_ | refine zzI ?_ | refine zzR ?_ | refine zzB ?_ | refine late_ok rfl rfl ?_ | refine src_ok rfl ?_ | refine LitB.data ?_ | refine BoxB.own ?_); conv => whnf)))
    all_goals first
      | (exfalso; omega)
      | exact fin_bool rfl
theorem a_SameMasses16 (l : List (List Fr)) (hl : l.length ≤ 1000000) (hd : ∀ r ∈ l, r.length ≤ 1000000 ∧ ∀ f ∈ r, f.p.dl.length ≤ 1000000 ∧ f.q.dl.length ≤ 1000000) : ACall Tryz.prog 22 [histS l, histS l] [] (boolS true) [] := by
  have m1 : (l.map fracsRow).length = l.length := by simp
  (refine acall_of tab_ok Tryz.func22 rfl (by decide) ?_; (conv => whnf); repeat (first | (refine LitB.data ?_; conv => whnf) | (refine BoxB.own ?_; conv => whnf)))
  (repeat' (first | ((refine DecB.mk (fun h => ?_) (fun h => ?_)) <;> first | (exfalso; omega) | (conv => whnf)) | ((refine BoolB.mk (fun h => ?_) (fun h => ?_)) <;> first | (exact absurd h (by decide)) | (conv => whnf)) | ((first | refine zzW ?_ | refine zzI ?_ | refine zzR ?_ | refine zzB ?_ | refine late_ok rfl rfl ?_ | refine src_ok rfl ?_ | refine LitB.data ?_ | refine BoxB.own ?_); conv => whnf)))
  all_goals try (exfalso; omega)
  refine awp_for tab_ok (fun k => ([histS l, histS l, J, J, J, intS .i64 k, J, J, J, J, J, J, J, J, J, J, J, J, J, J, J, J, J, J, J, J, J], [])) l.length (fun _ => True) [] trivial
    ⟨rfl, rfl, trivial, ⟨rfl, rfl, rfl, trivial⟩⟩ ?_
  intro k hk _
  by_cases hlt : k < l.length
  · obtain ⟨f, hf⟩ : ∃ f, l[k]? = some f := ⟨_, List.getElem?_eq_getElem hlt⟩
    have q := hd f (List.mem_of_getElem? hf)
    have r := a_SamePoint8 f q.1 q.2
    conv => whnf
    (repeat' (first | ((refine DecB.mk (fun h => ?_) (fun h => ?_)) <;> first | (exfalso; omega) | (conv => whnf)) | ((refine BoolB.mk (fun h => ?_) (fun h => ?_)) <;> first | (exact absurd h (by decide)) | (conv => whnf)) | ((first | refine zzW ?_ | refine zzI ?_ | refine zzR ?_ | refine zzB ?_ | refine late_ok rfl rfl ?_ | refine src_ok rfl ?_ | refine .inl ⟨_, _, qcall_pure (r) rfl rfl, ?_⟩ | refine ex_row hf ?_ | refine LitB.data ?_ | refine BoxB.own ?_); conv => whnf)))
    all_goals first
      | (exfalso; omega)
      | exact ⟨hlt, trivial, [], rfl, rfl, trivial, ⟨rfl, rfl, rfl, trivial⟩⟩
  · conv => whnf
    (repeat' (first | ((refine DecB.mk (fun h => ?_) (fun h => ?_)) <;> first | (exfalso; omega) | (conv => whnf)) | ((refine BoolB.mk (fun h => ?_) (fun h => ?_)) <;> first | (exact absurd h (by decide)) | (conv => whnf)) | ((first | refine zzW ?_ | refine zzI ?_ | refine zzR ?_ | refine zzB ?_ | refine late_ok rfl rfl ?_ | refine src_ok rfl ?_ | refine LitB.data ?_ | refine BoxB.own ?_); conv => whnf)))
    all_goals first
      | (exfalso; omega)
      | exact fin_bool rfl
end Go.Proofs.YtfieodjihaodiaaGreat
/- slices.Chunk: its closure's contract for a range over it (the kit's page on ranges over a function). -/
namespace Go.Proofs.YtfieodjihaodiaaGreat
open Go.RowKit Go.Shelf
set_option linter.unusedVariables false
set_option linter.unusedSimpArgs false
attribute [local go_sem] Oper.semAt_some

/-- what lies below n, but for the block B, lies as it lay -/
structure BelowX (B n : Nat) (w w' : World) : Prop where
  os : w'.os = w.os
  tape : w'.tape = w.tape
  output : w'.output = w.output
  size : w.heap.size ≤ w'.heap.size
  block : ∀ k, k < n → k ≠ B → w'.heap[k]? = w.heap[k]?
theorem BelowX.refl (B n : Nat) (w : World) : BelowX B n w w := ⟨rfl, rfl, rfl, Nat.le_refl _, fun _ _ _ => rfl⟩
theorem BelowX.trans {B n : Nat} {a b c : World} (h : BelowX B n a b) (k : BelowX B n b c) : BelowX B n a c :=
  ⟨k.os.trans h.os, k.tape.trans h.tape, k.output.trans h.output, Nat.le_trans h.size k.size, fun i hi hB => (k.block i hi hB).trans (h.block i hi hB)⟩
theorem BelowX.of {B n : Nat} {a b : World} (h : Below n a b) : BelowX B n a b := ⟨h.os, h.tape, h.output, h.size, fun k hk _ => h.block k hk⟩
theorem BelowX.drew {B n : Nat} {a w : World} (h : BelowX B n a w) : BelowX B n a w.drew := ⟨h.os, h.tape, h.output, h.size, h.block⟩
theorem BelowX.cell {B n : Nat} {w w' : World} (h : BelowX B n w w') {p : Addr} (hp : p.block < n) (hB : p.block ≠ B) : w'.cell? p = w.cell? p := World.cell?_of_block (w := w) (h.block p.block hp hB)
theorem BelowX.mono {B n : Nat} {w w' : World} (h : BelowX B n w w') {m : Nat} (hm : m ≤ n) : BelowX B m w w' := ⟨h.os, h.tape, h.output, h.size, fun k hk => h.block k (by omega)⟩
theorem BelowX.low {B n : Nat} {w w' : World} (h : BelowX B n w w') {m : Nat} (hm : m ≤ n) (hB : m ≤ B) : Below m w w' := ⟨h.os, h.tape, h.output, h.size, fun k hk => h.block k (by omega) (by omega)⟩
def ckV (b off c i : Nat) : Value := .slice (some ⟨b, off + i * c * 4, none⟩) c c
set_option maxRecDepth 100000 in
set_option maxHeartbeats 2000000 in
theorem ck1_in (F : Fence) (n : Nat) (hF : F.fn 87) (hro : F.round = none) (hn : 1 ≤ n) (l X Bs Bn n₀ b off c N cap : Nat) (hBs : Bs < n₀) (hBn : Bn < n₀) (xBs : Bs ≠ X) (xBn : Bn ≠ X) (hc : 1 ≤ c) (hc2 : c ≤ 1000) (hN : N ≤ 1000) (hcap : N * c ≤ cap) (len : Nat) (hl : len = N * c)
    (J Jx : List Nat → World → Prop) (hJd : ∀ pre W, J pre W → J pre W.drew)
    (hY : ∀ pre x W, J pre W → pre.length < N → YieldAt F (n - 1) Tryz.prog l #[ckV b off c x] W fun e W' =>
      (e = .returned (.bool true) ∧ J (pre ++ [x]) W' ∧ BelowX X n₀ W W') ∨ (e = .returned (.bool false) ∧ Jx (pre ++ [x]) W'))
    (W : World) (h1 : W.cell? ⟨Bs, 0, none⟩ = some (.slice (some ⟨b, off, none⟩) len cap)) (h2 : W.cell? ⟨Bn, 0, none⟩ = some (.int .i64 c)) (h0 : J [] W) :
    CallsIn F n Tryz.prog 87 #[.func (.yield l) #[] #[], .pointer (some ⟨Bs, 0, none⟩), .pointer (some ⟨Bn, 0, none⟩)] W fun e W' => (∃ v, e = .returned v) ∧
      ((∃ ys, ys = List.range N ∧ J ys W') ∨ (∃ pre, (∃ k, k ≤ N ∧ pre = List.range k) ∧ Jx pre W')) := by
  refine callsIn_of_wp Tryz.func87 rfl hF ?_ hro
  simp only [Tryz.ntmps87, List.size_toArray, List.length_cons, List.length_nil, Nat.reduceAdd, Nat.reduceSub, Array.replicate_succ, Array.replicate_zero, List.push_toArray, List.append_toArray, List.nil_append, List.cons_append]
  gi_wp2
  gi_loopw [4] (fun i wr => ∃ k s : Nat, k ≤ N ∧ s = k * c ∧ i = .int .i64 (s : Int) ∧ J (List.range k) wr ∧ BelowX X n₀ W wr)
    (fun i _ => len - (intOf i).toNat)
  case atStart => exact ⟨0, 0, Nat.zero_le _, by simp, rfl, h0, BelowX.refl _ _ _⟩
  case round =>
    obtain ⟨k, s, hk, hs, rfl, hJs, hnx⟩ := hrel
    have q1 := (hnx.cell (p := ⟨Bs, 0, none⟩) hBs xBs).trans h1
    have q2 := (hnx.cell (p := ⟨Bn, 0, none⟩) hBn xBn).trans h2
    by_cases hlt : k < N
    · obtain ⟨fn, tmps, assign, body, hy, hR⟩ := hY _ k wr.drew (hJd _ _ hJs) (by rw [List.length_range]; exact hlt)
      simp only [ckV] at hy
      have b1 : s + c ≤ len := by
        have : (k + 1) * c ≤ N * c := Nat.mul_le_mul_right _ hlt
        rw [Nat.succ_mul] at this; omega
      have b2 : len ≤ 1000000 := by rw [hl]; exact Nat.mul_le_mul hN hc2
      gi_wp2
      all_goals try (exfalso; omega)
      gi_region
      all_goals try (exfalso; omega)
      all_goals gi_wp2
      all_goals try (exfalso; omega)
      all_goals
        refine hR.mono ?_
        rintro e W3 (⟨rfl, hJ3, hk3⟩ | ⟨rfl, hJx3⟩)
        · have hnx3 : BelowX X n₀ W W3 := hnx.trans (((BelowX.refl X n₀ wr).drew).trans hk3)
          have q3 := (hnx3.cell (p := ⟨Bn, 0, none⟩) hBn xBn).trans h2
          gi_wp2
          go_roundw
          case rel => exact ⟨k + 1, (k + 1) * c, by omega, rfl, by simp [Nat.succ_mul], by rw [List.range_succ]; exact hJ3, hnx3⟩
          case measure => simp [intOf]; omega
        · gi_wp2
          refine bodyPost_ret (results_none rfl _ _ _) rfl ?_
          exact ⟨⟨_, rfl⟩, .inr ⟨_, ⟨k + 1, by omega, List.range_succ.symm⟩, hJx3⟩⟩
    · obtain rfl : k = N := by omega
      have b1 : s = len := by omega
      gi_wp2
      all_goals try (exfalso; omega)
      go_end0
      exact ⟨⟨_, rfl⟩, .inl ⟨_, rfl, hJs⟩⟩
set_option maxRecDepth 100000 in
set_option maxHeartbeats 1000000 in
theorem ck0_in (F : Fence) (n : Nat) (hF : F.fn 87) (hro : F.round = none) (l Bs Bn : Nat) (A : Option Addr) (cap : Nat)
    (J : List Nat → World → Prop) (W : World) (h1 : W.cell? ⟨Bs, 0, none⟩ = some (.slice A 0 cap)) (h0 : J [] W) :
    CallsIn F n Tryz.prog 87 #[.func (.yield l) #[] #[], .pointer (some ⟨Bs, 0, none⟩), .pointer (some ⟨Bn, 0, none⟩)] W fun e W' => (∃ v, e = .returned v) ∧ J [] W' := by
  refine callsIn_of_wp Tryz.func87 rfl hF ?_ hro
  simp only [Tryz.ntmps87, List.size_toArray, List.length_cons, List.length_nil, Nat.reduceAdd, Nat.reduceSub, Array.replicate_succ, Array.replicate_zero, List.push_toArray, List.append_toArray, List.nil_append, List.cons_append]
  gi_wp2
  gi_loopw [4] (fun i wr => i = .int .i64 0 ∧ J [] wr ∧ wr.cell? ⟨Bs, 0, none⟩ = some (.slice A 0 cap)) (fun _ _ => 0)
  case atStart => exact ⟨rfl, h0, h1⟩
  case round =>
    obtain ⟨rfl, hJs, q1⟩ := hrel
    gi_wp2
    go_end0
    exact ⟨⟨_, rfl⟩, hJs⟩
/-- what a slice of N chunks of c elements is -/
def CkOK (b off c N : Nat) (sv : Value) : Prop := (N = 0 ∧ ∃ A cap, sv = .slice A 0 cap) ∨ ∃ cap, sv = .slice (some ⟨b, off, none⟩) (N * c) cap ∧ N * c ≤ cap
theorem ck_stops (F : Fence) (n : Nat) (hF : F.fn 87) (hro : F.round = none) (hn : 1 ≤ n) (X Bs Bn n₀ b off c N : Nat) (sv : Value) (hBs : Bs < n₀) (hBn : Bn < n₀) (xBs : Bs ≠ X) (xBn : Bn ≠ X) (hc : 1 ≤ c) (hc2 : c ≤ 1000) (hN : N ≤ 1000) (hsv : CkOK b off c N sv)
    (w : World) (hn₀ : n₀ ≤ w.heap.size) (h1 : w.cell? ⟨Bs, 0, none⟩ = some sv) (h2 : w.cell? ⟨Bn, 0, none⟩ = some (.int .i64 c)) :
    SeqStopsK F n Tryz.prog 87 #[.pointer (some ⟨Bs, 0, none⟩), .pointer (some ⟨Bn, 0, none⟩)] (fun i : Nat => #[ckV b off c i]) (BelowX X n₀) (fun ys => ys = List.range N) (fun pre => pre <+: List.range N) N w := fun l J Jx W hW hJ _ hY h0 => by
  have q1 := (hW.cell (p := ⟨Bs, 0, none⟩) (by show Bs < w.heap.size; omega)).trans h1
  have q2 := (hW.cell (p := ⟨Bn, 0, none⟩) (by show Bn < w.heap.size; omega)).trans h2
  rcases hsv with ⟨rfl, A, cap, rfl⟩ | ⟨cap, rfl, hcap⟩
  · exact (ck0_in F n hF hro l Bs Bn A cap J W q1 h0).mono fun e W' ⟨he, hj⟩ => ⟨he, .inl ⟨_, rfl, hj⟩⟩
  · refine (ck1_in F n hF hro hn l X Bs Bn n₀ b off c N cap hBs hBn xBs xBn hc hc2 hN hcap (N * c) rfl J Jx (fun pre W1 h => ?_) hY W q1 q2 h0).mono ?_
    · exact hJ pre W1 W1.drew none h ⟨rfl, rfl, rfl, Nat.le_refl _, fun _ _ _ => rfl⟩ (fun r e => by cases e)
    · rintro e W' ⟨he, ⟨ys, rfl, hj⟩ | ⟨pre, ⟨k, hk, rfl⟩, hj⟩⟩
      · exact ⟨he, .inl ⟨_, rfl, hj⟩⟩
      · refine ⟨he, .inr ⟨_, ?_, hj⟩⟩
        rw [show List.range k = (List.range N).take k by rw [List.take_range, Nat.min_eq_left hk]]
        exact List.take_prefix _ _
set_option maxRecDepth 100000 in
set_option maxHeartbeats 1000000 in
/-- slices.Chunk itself: two boxes, and the closure -/
theorem ck_make (A : Option Addr) (len cap c : Nat) (hc : 1 ≤ c) (hc2 : c ≤ 1000) (w : World) :
    Calls Tryz.prog 45 #[.slice A len cap, .int .i64 c] w fun e w' => e = .returned (.func (.func 87) #[] #[.pointer (some ⟨w.heap.size, 0, none⟩), .pointer (some ⟨w.heap.size + 1, 0, none⟩)]) ∧
      w' = (w.alloc (.cells #[.slice A len cap] 30)).alloc (.cells #[.int .i64 c] 3) := by
  go_enter Tryz.func45, Tryz.ntmps45
  go_wp2
  all_goals try (exfalso; omega)
  go_ret
  exact ⟨rfl, rfl⟩
end Go.Proofs.YtfieodjihaodiaaGreat
/- slices.Clone of a list that is not empty. -/
namespace Go.Proofs.YtfieodjihaodiaaGreat
open Go.RowKit
set_option linter.unusedVariables false
set_option linter.unusedSimpArgs false
set_option maxRecDepth 100000

theorem a_CloneF (l : List Fr) (h0 : 0 < l.length) (h1 : l.length ≤ 100000) : ACall Tryz.prog 46 [fracsS l] [] (fracsS l) [] := by
  have m1 : (l.map frRow).length = l.length := by simp
  have hl : 0 < (l.map frRow).length := by omega
  (refine acall_of tab_ok Tryz.func46 rfl (by decide) ?_; (conv => whnf); repeat (first | (refine LitB.data ?_; conv => whnf) | (refine BoxB.own ?_; conv => whnf)))
  (repeat' (first | ((refine DecB.mk (fun h => ?_) (fun h => ?_)) <;> first | (exfalso; omega) | (conv => whnf)) | ((refine BoolB.mk (fun h => ?_) (fun h => ?_)) <;> first | (exact absurd h (by decide)) | (conv => whnf)) | ((first | refine zzW ?_ | refine zzI ?_ | refine zzR ?_ | refine zzB ?_ | refine late_ok rfl rfl ?_ | refine src_ok rfl ?_ | refine .inl ⟨_, _, qcall_pure (toC, List.length_map, List.length_nil) rfl rfl, ?_⟩ | refine .inl ⟨_, _, qcall_pure (toC, List.length_map) rfl rfl, ?_⟩ | refine ⟨hl, ?_⟩ | refine src_ok rfl ?_ | refine app_nil rfl (by simp only [toC, List.length_map, List.length_nil]; omega) ?_ | refine app_ok (Nat.zero_le _) (by simp only [toC, List.length_map]; omega) ?_ | refine LitB.data ?_ | refine BoxB.own ?_); conv => whnf)))
  all_goals first
    | (exfalso; omega)
    | exact fin_own rfl (by intro h; cases h) rfl rfl (by simp only [toC, List.length_map, List.length_nil, Nat.zero_add])
end Go.Proofs.YtfieodjihaodiaaGreat
/- evidence.History, where there is none. -/
namespace Go.Proofs.YtfieodjihaodiaaGreat
open Go.RowKit
set_option linter.unusedVariables false
set_option linter.unusedSimpArgs false
set_option maxRecDepth 100000

set_option maxHeartbeats 4000000 in
theorem a_EHist0 (e : Ev) (hs : e.Sized) (hE : check e = 0 → EvSm e) (x : List Fr) (hx : x.length ≤ 100000) (h : check e ≠ 0 ∨ (x.length : Int) ≠ (e.moves.length : Int) * e.mats) : ACall Tryz.prog 23 [evS e, fracsS x] [] (histS []) [] := by
  have ck := a_Check e hs
  have m0 : (e.moves.map Move.row).length = e.moves.length := by simp
  have m1 : (x.map frRow).length = x.length := by simp
  by_cases h0 : check e = 0
  · have hE := hE h0
    rw [h0] at ck
    have h1 := hE.m1
    have h6 := hE.m6
    have hmv := hE.mv
    have n0 : 0 ≤ (e.moves.length : Int) * e.mats := Int.mul_nonneg (by omega) (by omega)
    have n1 : (e.moves.length : Int) * e.mats ≤ 8 * 6 := Int.mul_le_mul (by omega) h6 (by omega) (by decide)
    have mm : ((e.moves.map Move.row).length : Int) * e.mats = (e.moves.length : Int) * e.mats := by rw [m0]
    (refine acall_of tab_ok Tryz.func23 rfl (by decide) ?_; (conv => whnf); repeat (first | (refine LitB.data ?_; conv => whnf) | (refine BoxB.data ?_; conv => whnf)))
    (repeat' (first | ((refine DecB.mk (fun h => ?_) (fun h => ?_)) <;> first | (exfalso; omega) | (conv => whnf)) | ((refine BoolB.mk (fun h => ?_) (fun h => ?_)) <;> first | (exact absurd h (by decide)) | (conv => whnf)) | ((first | refine zzW ?_ | refine zzI ?_ | refine zzR ?_ | refine zzB ?_ | refine late_ok rfl rfl ?_ | refine src_ok rfl ?_ | refine .inl ⟨_, _, qcall_pure (ck) rfl rfl, ?_⟩ | refine LitB.data ?_ | refine BoxB.own ?_); conv => whnf)))
    all_goals first
      | (exfalso; omega)
      | exact fin_t rfl
  · (refine acall_of tab_ok Tryz.func23 rfl (by decide) ?_; (conv => whnf); repeat (first | (refine LitB.data ?_; conv => whnf) | (refine BoxB.data ?_; conv => whnf)))
    (repeat' (first | ((refine DecB.mk (fun h => ?_) (fun h => ?_)) <;> first | (exfalso; omega) | (conv => whnf)) | ((refine BoolB.mk (fun h => ?_) (fun h => ?_)) <;> first | (exact absurd h (by decide)) | (conv => whnf)) | ((first | refine zzW ?_ | refine zzI ?_ | refine zzR ?_ | refine zzB ?_ | refine late_ok rfl rfl ?_ | refine src_ok rfl ?_ | refine .inl ⟨_, _, qcall_pure (ck) rfl rfl, ?_⟩ | refine LitB.data ?_ | refine BoxB.own ?_); conv => whnf)))
    all_goals first
      | (exfalso; omega)
      | exact fin_t rfl
end Go.Proofs.YtfieodjihaodiaaGreat
/- evidence.History: what its rows read as, once the loop is over (no walk yet). -/
namespace Go.Proofs.YtfieodjihaodiaaGreat
open Go.RowKit Go.Shelf
set_option linter.unusedVariables false
set_option linter.unusedSimpArgs false

theorem heapRel_nil (w : World) (ι : Io) (M : Ms) : HeapRel w ι M [] :=
  ⟨fun id k h => by simp at h, fun id k h => by simp at h, fun id k h => by simp at h, fun id id' k k' h => by simp at h, fun id id' k k' h => by simp at h⟩
theorem acall_belowM {P : Program} {g : FuncId} {args : List S} {r : S} (h : ACall P g args [] r []) {w : World} {ι : Io} {M : Ms} {vals : List Value} (hl : vals.length = args.length)
    (hv : ∀ j s, args[j]? = some s → RS w ι M s (vals.getD j undef)) (hMB : MB w M) (hF : Fresh ι 0) :
    Calls P g vals.toArray w fun e w' => ∃ v, e = .returned v ∧ (∃ ι' M', RS w' ι' M' r v ∧ (∀ b, M b → M' b)) ∧ Below w.heap.size w w' := by
  have := h.2 w ι M vals hl hv (heapRel_nil _ _ _) hMB hF
  refine Calls.mono this ?_
  rintro e w' ⟨v, rfl, ι', M', h1, h2, h3, h4, h5⟩
  have nl : ∀ b, ¬ Live ι [] b := by rintro b ⟨id, k, c, s, hk, _⟩; simp at hk
  refine ⟨v, rfl, ⟨ι', M', h1, fun b hb => ?_⟩, ⟨h5.os, h5.tape, h5.output, h5.size, fun b hb => h5.keep b hb (nl b)⟩⟩
  rcases h5.mold b hb with h | h
  · exact h
  · exact absurd h (nl b)
theorem gpost_below {w w' : World} {ι : Io} {M : Ms} {s : S} {v : Value} (h : RS w' ι M s v) (hb : Below w.heap.size w w') (hMB : MB w M) (hF : Fresh ι 0) : GPost w ι M [] s [] v w' :=
  ⟨ι, M, h, heapRel_nil _ _ _, fun b hm => Nat.lt_of_lt_of_le (hMB b hm) hb.size, hF,
    ⟨hb.os, hb.tape, hb.output, hb.size, fun b hb' _ => hb.block b hb', fun _ _ => rfl, fun b h => .inl h, fun b h => .inl h, fun b h => by obtain ⟨id, k, c, s, hk, _⟩ := h; simp at hk, Nat.le_refl _⟩⟩
theorem rs_belowB {w w' : World} {ι : Io} {M : Ms} (hb : Below w.heap.size w w') {s : S} {v : Value} (h : RS w ι M s v) : RS w' ι M s v :=
  h.keep (fun b hb' _ => hb.block b hb') (fun b h => .inl h) (fun _ _ h => h)

def chunks (c N : Nat) (x : List Fr) : List (List Fr) := (List.range N).map fun i => (x.drop (i * c)).take c
theorem chunks_len (c N : Nat) (x : List Fr) : (chunks c N x).length = N := by simp [chunks]
theorem chunk_len {c N : Nat} {x : List Fr} (hx : x.length = N * c) {i : Nat} (hi : i < N) : ((x.drop (i * c)).take c).length = c := by
  have : (i + 1) * c ≤ N * c := Nat.mul_le_mul_right _ hi
  rw [Nat.succ_mul] at this
  simp; omega
theorem at2_map {α β : Type} (l : List α) (f : α → List β) (i j : Nat) : at2 (l.map f) i j = (l[i]?).bind fun a => (f a)[j]? := by
  simp [at2]
  cases l[i]? <;> rfl

theorem hist_rows {w2 W : World} {M M2 : Ms} {x : List Fr} {A : Option Addr} {len cap b off : Nat} (hx : RT w2 M2 (fracsT x) (.slice A len cap)) {X : Nat} (hk : BelowX X w2.heap.size w2 W) (hX : M2 X) (hM : ∀ k, M k → M2 k)
    {N c : Nat} (hl : x.length = N * c) (hc : 1 ≤ c) {n₀ e : Nat} {v : Value} (hrow : W.ownsRow n₀ e 1 v N ((List.range N).map (ckV b off c))) (hn : ∀ k, M k → k < n₀) (hc2 : c ≤ 1000) (hN : N ≤ maxLen) (hm : 1000 ≤ maxLen) (hA : 0 < N → A = some ⟨b, off, none⟩) :
    RT W M (histT (chunks c N x)) v := by
  cases hx with
  | @sl _ _ _ b' off' cap A f hrow' hcap hmax hk1 hn1 hA' hcc hr hx1 =>
  have cl : ((chunks c N x).map fracsRow).length = N := by simp [chunks]
  have row : ∀ i, i < N → RT W M (fracsT ((x.drop (i * c)).take c)) (ckV b off c i) := by
    intro i hi
    have hlen := chunk_len hl hi
    have ml : (((x.drop (i * c)).take c).map frRow).length = c := by simp only [List.length_map]; exact hlen
    have e0 : ckV b off c i = .slice (some ⟨b, off + i * c * 4, none⟩) (((x.drop (i * c)).take c).map frRow).length c := by rw [ml]; rfl
    have ile : (i + 1) * c ≤ N * c := Nat.mul_le_mul_right _ hi
    rw [Nat.succ_mul] at ile
    have hAA := hA' (by intro h; have h9 := congrArg List.length h; rw [List.length_map, List.length_nil] at h9; omega)
    rw [hA (by omega)] at hAA
    injection hAA with hAA
    injection hAA with h1 h2
    subst h1; subst h2
    rw [e0]
    have key : ∀ r j t, at2 (((x.drop (i * c)).take c).map frRow) r j = some t → at2 (x.map frRow) (i * c + r) j = some t := by
      intro r j t h
      rw [at2_map] at h ⊢
      rw [List.getElem?_take] at h
      split at h
      · rw [List.getElem?_drop] at h; exact h
      · simp at h
    refine .sl (b := b) (off := off + i * c * 4) (fun r j => f (i * c + r) j) ?_ (by rw [ml]; exact Nat.le_refl _) (by omega) (fun h => by cases h) (fun h => by cases h) (fun _ => rfl) ?_ ?_
    · intro r hr'
      obtain ⟨q, hq, rfl⟩ := List.mem_map.1 hr'
      rfl
    · intro r j t ht
      have h3 := hcc _ _ _ (key r j t ht)
      have h4 : off + i * c * 4 + (r * 4 + j) = off + ((i * c + r) * 4 + j) := by rw [Nat.add_mul]; omega
      rw [h4]
      exact ⟨(World.cell?_of_block (hk.block _ (cell_lt h3.1) (fun e => h3.2 (by have e9 : b = X := e; rw [e9]; exact hX)))).trans h3.1, fun h => h3.2 (hM _ h)⟩
    · intro r j t ht
      exact (hr _ _ _ (key r j t ht)).keep (fun b hb hb2 => hk.block b hb (fun e => hb2 (by rw [e]; exact hX))) (fun b h => .inl (hM b h))
  have at1 : ∀ i j t, at2 ((chunks c N x).map fracsRow) i j = some t → i < N ∧ j = 0 ∧ t = fracsT ((x.drop (i * c)).take c) := by
    intro i j t h
    rw [at2_map, chunks, List.getElem?_map] at h
    by_cases hi : i < N
    · rw [List.getElem?_range hi] at h
      cases j with
      | zero => simp [fracsRow] at h; exact ⟨hi, rfl, h.symm⟩
      | succ j => simp [fracsRow] at h
    · rw [List.getElem?_eq_none (by simp; omega)] at h
      simp at h
  have size1 : ∀ r ∈ (chunks c N x).map fracsRow, r.length = 1 := by
    intro r hr'
    obtain ⟨q, hq, rfl⟩ := List.mem_map.1 hr'
    rfl
  rcases hrow.2 with ⟨rfl, h0⟩ | ⟨g, cap1, cur, rfl, hg, hcur, hcap1, hcm, hcs, htake⟩
  · have e1 : Value.slice none 0 0 = .slice none ((chunks c N x).map fracsRow).length 0 := by rw [cl, h0]
    rw [e1]
    refine .sl (b := 0) (off := 0) (fun _ _ => undef) size1 (by rw [cl]; omega) (Nat.zero_le _) (fun h => by cases h) (fun h => by cases h) (fun h => absurd (List.eq_nil_of_length_eq_zero (cl.trans h0)) h) (fun i j t h => ?_) (fun i j t h => ?_)
    · have := (at1 i j t h).1; omega
    · have := (at1 i j t h).1; omega
  · have e1 : Value.slice (some ⟨g, 0, none⟩) N cap1 = .slice (some ⟨g, 0, none⟩) ((chunks c N x).map fracsRow).length cap1 := by rw [cl]
    rw [e1]
    refine .sl (b := g) (off := 0) (fun i _ => ckV b off c i) size1 (by rw [cl]; exact hcap1) hcm (fun h => by cases h) (fun h => by cases h) (fun _ => rfl) (fun i j t h => ?_) (fun i j t h => ?_)
    · obtain ⟨hi, rfl, rfl⟩ := at1 i j t h
      refine ⟨?_, fun h => ?_⟩
      · have h5 : cur[i]? = some (ckV b off c i) := by
          have := congrArg (·[i]?) htake
          simp only [List.getElem?_take, List.getElem?_map, Nat.mul_one] at this
          rw [if_pos hi, List.getElem?_range hi] at this
          simpa using this
        simp [World.cell?, hcur, h5]
      · have := hn _ h; omega
    · obtain ⟨hi, rfl, rfl⟩ := at1 i j t h
      exact row i hi
end Go.Proofs.YtfieodjihaodiaaGreat
/- evidence.History: its walk, by the kit's page on ranges over a function. -/
namespace Go.Proofs.YtfieodjihaodiaaGreat
open Go.RowKit Go.Shelf
set_option linter.unusedVariables false
set_option linter.unusedSimpArgs false
attribute [local go_sem] Oper.semAt_some

theorem ev_vals {w : World} {ι : Io} {M : Ms} {e : Ev} {v : Value} (h : RS w ι M (evS e) v) : ∃ (a b : Int) (v3 : Value) (A4 : Option Addr) (c4 : Nat) (v5 v6 v7 : Value),
    v = .agg #[.int .i64 e.mats, .int .i64 a, .int .i64 b, v3, .slice A4 e.moves.length c4, v5, v6, v7] ∧ v3.oneCell' = true ∧ v5.oneCell' = true ∧ v6.oneCell' = true ∧ v7.oneCell' = true := by
  cases h with
  | agg vs hl hr =>
    match vs, hl, hr with
    | [u0, u1, u2, u3, u4, u5, u6, u7], _, hr =>
      have h0 := hr 0 _ rfl
      have h1 := hr 1 _ rfl
      have h2 := hr 2 _ rfl
      have h3 := hr 3 _ rfl
      have h4 := hr 4 _ rfl
      have h5 := hr 5 _ rfl
      have h6 := hr 6 _ rfl
      have h7 := hr 7 _ rfl
      simp only [List.getD_cons_zero, List.getD_cons_succ] at h0 h1 h2 h3 h4 h5 h6 h7
      have o3 := h3.one
      have o5 := h5.one
      have o6 := h6.one
      have o7 := h7.one
      cases h0 with | t h0 => cases h0 with | atm =>
      cases h1 with | t h1 => cases h1 with | atm =>
      cases h2 with | t h2 => cases h2 with | atm =>
      cases h4 with | t h4 =>
      cases h4 with | @sl _ _ _ b4 off4 cap4 A4 f4 hrow hcap hmax hk hn hA hc hr4 hx =>
      exact ⟨e.hhs, e.scs, u3, A4, cap4, u5, u6, u7, by rw [List.length_map], o3, o5, o6, o7⟩
theorem fr_vals {w : World} {ι : Io} {M : Ms} {x : List Fr} {v : Value} (h : RS w ι M (fracsS x) v) : ∃ (A : Option Addr) (cap : Nat), v = .slice A x.length cap ∧ x.length ≤ cap ∧ cap ≤ maxLen ∧ (x ≠ [] → ∃ b off, A = some ⟨b, off, none⟩) ∧ RT w M (fracsT x) v := by
  cases h with | c h => cases h with | t h =>
  have h' := h
  cases h with | @sl _ _ _ b4 off4 cap4 A4 f4 hrow hcap hmax hk hn hA hc hr4 hx =>
  exact ⟨A4, cap4, by rw [List.length_map], by simpa using hcap, hmax, fun hne => ⟨_, _, hA (by simpa using hne)⟩, h'⟩

theorem wpIn_calm {F : Fence} {n : Nat} {P : Program} {c : Code} {K : Act → World → Prop} {Q : Exit → Act → World → Prop} {a : Act} {w : World} (h : c.wpIn F n P (Exit.then K (fun _ _ _ => False)) a w) : c.wpIn F n P (Exit.then K Q) a w :=
  wpIn_mono h (fun e a w h => by cases e <;> first | exact h | exact h.elim)
theorem ownFrom_belowX {β : Type} {X n₀ B : Nat} {w₀ : World} (hn : n₀ ≤ w₀.heap.size) (hB : n₀ ≤ B) : OwnFrom B (fun (_ : β) W => BelowX X n₀ w₀ W) :=
  fun _ _ _ _ hs hg hr => hs.trans ⟨hg.os, hg.tape, hg.output, hg.size, fun k hk _ => hg.block k (by have := hs.size; omega) (fun e => by have := (hr k e.symm).1; omega)⟩
theorem rowBase {W : World} {base : Nat} {e : TypeId} {size : Nat} {v : Value} {k : Nat} {xs : List Value} (h : W.ownsRow base e size v k xs) : W.ownsRow 0 e size v k xs :=
  ⟨h.1, h.2.imp id fun ⟨g, cap, cur, h1, _, h2⟩ => ⟨g, cap, cur, h1, Nat.zero_le _, h2⟩⟩
theorem appendedX {W w1 : World} {n₀ B : Nat} {t e : TypeId} {size : Nat} {v v' : Value} {k m : Nat} {xs ys : List Value} {tmp : Obj}
    (hv : Boxed W B t v) (hte : t ≠ e) (hrow : W.ownsRow n₀ e size v k xs) (hn₀ : n₀ ≤ W.heap.size)
    (hown' : w1.ownsRow n₀ e size v' m ys) (hgrow : (W.alloc tmp).grownBy w1 v.ownBlock) :
    Boxed w1 B t v ∧ Boxed (w1.setCell ⟨B, 0, none⟩ v') B t v' ∧ (w1.setCell ⟨B, 0, none⟩ v').ownsRow n₀ e size v' m ys ∧ KeepsOthers W (w1.setCell ⟨B, 0, none⟩ v') ∧ BelowX B n₀ W (w1.setCell ⟨B, 0, none⟩ v') := by
  obtain ⟨h1, h2, _, h4, _⟩ := hv.appended (n₀ := 0) hte (rowBase hrow) (Nat.zero_le _) (Nat.zero_le _) (rowBase hown') hgrow
  refine ⟨h1, h2, hown'.kept (grownBy_setCell' w1 B v') (.inr (h1.not_row hte hown').symm), h4, ?_⟩
  refine (BelowX.of (((Below.refl n₀ W).alloc hn₀ tmp).grown hgrow (by simp; omega) fun j ej => ?_)).trans ⟨rfl, rfl, rfl, by simp [World.setCell], fun k _ hk => Below.heap_setCell _ _ _ _ hk⟩
  rcases hrow.2 with ⟨rfl, _⟩ | ⟨g, cap, cur, rfl, hb, _, _⟩
  · simp [Value.ownBlock] at ej
  · obtain rfl : g = j := by simpa [Value.ownBlock] using ej
    exact hb
theorem infoRow : (Tryz.prog.info? 30).map (fun i => (i.zero, i.size, i.bytes)) = some (some (.slice none 0 0), 1, 24) := by kernel_rfl
set_option maxRecDepth 100000 in
set_option maxHeartbeats 4000000 in
theorem hist_walk {w : World} {ι : Io} {M : Ms} (hMB : MB w M) (hF : Fresh ι 0) (e : Ev) (hE : EvSm e) (hck : check e = 0) (x : List Fr) (hx : x.length = e.moves.length * e.mats.toNat) {v0 v1 : Value} (h0 : RS w ι M (evS e) v0) (h1 : RS w ι M (fracsS x) v1)
    (hcl : ∀ W (M1 : Ms), Below w.heap.size w W → (∀ b, M1 b → M b ∨ w.heap.size ≤ b) → MB W M1 → Calls Tryz.prog 46 #[v1] W fun ee w' => ∃ v, ee = .returned v ∧ (∃ ι' M', RS w' ι' M' (fracsS x) v ∧ (∀ b, M1 b → M' b)) ∧ Below W.heap.size W w') :
    Calls Tryz.prog 23 #[v0, v1] w fun ee w' => ∃ v, ee = .returned v ∧ RT w' M (histT (chunks e.mats.toNat e.moves.length x)) v ∧ Below w.heap.size w w' := by
  obtain ⟨i0, hi, hz0, hz1, hz2⟩ := info_parts infoRow
  have hml : (1000 : Nat) ≤ maxLen := by decide
  have hchk : ∀ W, Below w.heap.size w W → Calls Tryz.prog 25 #[v0] W fun ee w' => ee = .returned (.int .i64 0) ∧ Below W.heap.size W w' := by
    intro W hW
    have := a_Check e hE.sz
    rw [hck] at this
    refine (acall_belowM (ι := ι) (M := M) this (vals := [v0]) rfl (fun j s hj => ?_) (fun b hb => Nat.lt_of_lt_of_le (hMB b hb) hW.size) hF).mono ?_
    · cases j with
      | zero => cases hj; exact rs_belowB hW h0
      | succ j => simp at hj
    · rintro ee w' ⟨v, rfl, ⟨ι', M', hr, _⟩, hb⟩
      cases hr with | c hr => cases hr with | t hr => cases hr with | atm =>
      exact ⟨rfl, hb⟩
  obtain ⟨a1, a2, v3, A4, c4, v5, v6, v7, rfl, o3, o5, o6, o7⟩ := ev_vals h0
  obtain ⟨A1, c1, rfl, q1, q2, q3, q4⟩ := fr_vals h1
  obtain ⟨mats, hm⟩ : ∃ n : Nat, e.mats = n := ⟨e.mats.toNat, by have := hE.m1; omega⟩
  rw [hm] at hx
  simp only [hm, Int.toNat_natCast] at hx hchk ⊢
  have m1 : 1 ≤ mats := by have := hE.m1; omega
  have m6 : mats ≤ 6 := by have := hE.m6; omega
  have mv := hE.mv
  have hlen : e.moves.length * mats ≤ 48 := Nat.mul_le_mul mv m6
  have hB0 : Below w.heap.size w (w.alloc (.cells #[.int .i64 (mats : Int), .int .i64 a1, .int .i64 a2, v3, .slice A4 e.moves.length c4, v5, v6, v7] 28)) := (Below.refl _ w).alloc (Nat.le_refl _) _
  refine (callsIn_wide (n := 5)).1 ?_
  refine callsIn_of_wp_marks Tryz.func23 rfl trivial ?_ rfl
  simp only [Tryz.ntmps23, List.size_toArray, List.length_cons, List.length_nil, Nat.reduceAdd, Nat.reduceSub, Array.replicate_succ, Array.replicate_zero, List.push_toArray, List.append_toArray, List.nil_append, List.cons_append]
  obtain ⟨W0, hW0⟩ : ∃ W0, w.alloc (.cells #[.int .i64 (mats : Int), .int .i64 a1, .int .i64 a2, v3, .slice A4 e.moves.length c4, v5, v6, v7] 28) = W0 := ⟨_, rfl⟩
  have b0 : W0.heap[w.heap.size]? = some (.cells #[.int .i64 (mats : Int), .int .i64 a1, .int .i64 a2, v3, .slice A4 e.moves.length c4, v5, v6, v7] 28 (0, 0)) := by rw [← hW0]; exact World.alloc_heap_new w _
  have s0 : W0.heap.size = w.heap.size + 1 := by rw [← hW0]; simp
  have c0 : W0.cell? ⟨w.heap.size, 0, none⟩ = some (.int .i64 (mats : Int)) := by simp [World.cell?, b0]
  have c4' : W0.cell? ⟨w.heap.size, 4, none⟩ = some (.slice A4 e.moves.length c4) := by simp [World.cell?, b0]
  have c1' : W0.cell? ⟨w.heap.size, 1, none⟩ = some (.int .i64 a1) := by simp [World.cell?, b0]
  have c2' : W0.cell? ⟨w.heap.size, 2, none⟩ = some (.int .i64 a2) := by simp [World.cell?, b0]
  have c3' : W0.cell? ⟨w.heap.size, 3, none⟩ = some v3 := by simp [World.cell?, b0]
  have c5' : W0.cell? ⟨w.heap.size, 5, none⟩ = some v5 := by simp [World.cell?, b0]
  have c6' : W0.cell? ⟨w.heap.size, 6, none⟩ = some v6 := by simp [World.cell?, b0]
  have c7' : W0.cell? ⟨w.heap.size, 7, none⟩ = some v7 := by simp [World.cell?, b0]
  rw [hW0] at hB0
  gi_wp2_with (refine ⟨trivial, ?_⟩; gi_at_call 25; (try rw [hW0]); refine (callsIn_wide.2 (hchk _ hB0)).mono ?_; rintro ee W1 ⟨rfl, hB1⟩; have d0 := (hB1.cell (p := ⟨w.heap.size, 0, none⟩) (by show w.heap.size < _; omega)).trans c0; have d4 := (hB1.cell (p := ⟨w.heap.size, 4, none⟩) (by show w.heap.size < _; omega)).trans c4')
  rw [hx] at hcl
  have bO1 := Boxed.new W1 29 (.slice none 0 0)
  have hB2 : Below W1.heap.size W1 (W1.alloc (.cells #[.slice none 0 0] 29)) := (Below.refl _ _).alloc (Nat.le_refl _) _
  have g2 := (hB2.cell (p := ⟨w.heap.size, 0, none⟩) (by show w.heap.size < _; have := hB1.size; omega)).trans d0
  have s2 : (W1.alloc (.cells #[.slice none 0 0] 29)).heap.size = W1.heap.size + 1 := by simp
  obtain ⟨W2, hW2⟩ : ∃ W2, W1.alloc (.cells #[.slice none 0 0] 29) = W2 := ⟨_, rfl⟩
  rw [hW2] at bO1 hB2 g2 s2 ⊢
  have hBw2 : Below w.heap.size w W2 := hB0.trans ((hB1.mono (by omega)).trans (hB2.mono (by have := hB1.size; omega)))
  have hBd : Below w.heap.size w W2.drew := hBw2.trans ((Below.refl _ _).drew)
  have g2d : W2.drew.cell? ⟨w.heap.size, 0, none⟩ = some (.int .i64 (mats : Int)) := g2
  have sd : W2.drew.heap.size = W2.heap.size := rfl
  have hmax : (if (1 : Int) < (mats : Int) then (mats : Int) else 1) = (mats : Int) := by split <;> omega
  have hs02 : w.heap.size < W2.heap.size := by have := hB1.size; omega
  have hMX : ∀ b, (M b ∨ b = W1.heap.size) → M b ∨ w.heap.size ≤ b := fun b h => h.imp id (fun e => by have := hB1.size; omega)
  have hMBX : MB W2.drew (fun b => M b ∨ b = W1.heap.size) := fun b h => by
    show b < W2.heap.size
    rcases h with h | h
    · have := hMB b h; have := hB1.size; omega
    · omega
  have hmx : Tryz.prog.follows .mixedOrders = true := by kernel_rfl
  refine wpIn_calm ?_
  gi_region_with_o (first
    | (refine ⟨trivial, ?_⟩; gi_at_call 46; refine (callsIn_wide.2 (hcl _ (fun b => M b ∨ b = W1.heap.size) hBd hMX hMBX)).mono ?_; rintro ee W3 ⟨vc, rfl, ⟨ι3, M3, hr3, hM3⟩, hB3⟩; have g3 := (hB3.cell (p := ⟨w.heap.size, 0, none⟩) (by show w.heap.size < _; omega)).trans g2d; obtain ⟨A3, c3, rfl, r1, r2, r3, r4⟩ := fr_vals hr3)
    | (refine ⟨trivial, ?_⟩; gi_at_call 45; (try rw [hmax]); refine (callsIn_wide.2 (ck_make _ _ _ mats m1 (by omega) _)).mono ?_; rintro ee W4 ⟨rfl, hW4⟩))
  all_goals
    have sB : W1.heap.size < W3.heap.size := by have := hB3.size; have e9 : W2.drew.heap.size = W2.heap.size := rfl; omega
    have o3' : Boxed W3 W1.heap.size 29 (.slice none 0 0) := (hB3.block _ (by show _ < W2.heap.size; omega)).trans bO1
    have bS := Boxed.new W3 30 (.slice A3 (e.moves.length * mats) c3)
    have bN := Boxed.new (W3.alloc (.cells #[.slice A3 (e.moves.length * mats) c3] 30)) 3 (.int .i64 (mats : Int))
    have bS2 := bS.alloc (.cells #[.int .i64 (mats : Int)] 3)
    have o5' := (o3'.alloc (.cells #[.slice A3 (e.moves.length * mats) c3] 30)).alloc (.cells #[.int .i64 (mats : Int)] 3)
    have hB5 : Below W3.heap.size W3 ((W3.alloc (.cells #[.slice A3 (e.moves.length * mats) c3] 30)).alloc (.cells #[.int .i64 (mats : Int)] 3)) := ((Below.refl _ W3).alloc (Nat.le_refl _) _).alloc (by simp) _
    have s5 : ((W3.alloc (.cells #[.slice A3 (e.moves.length * mats) c3] 30)).alloc (.cells #[.int .i64 (mats : Int)] 3)).heap.size = W3.heap.size + 1 + 1 := by simp
    rw [World.size_alloc] at bN
    obtain ⟨W5, hW5⟩ : ∃ W5, (W3.alloc (.cells #[.slice A3 (e.moves.length * mats) c3] 30)).alloc (.cells #[.int .i64 (mats : Int)] 3) = W5 := ⟨_, rfl⟩
    rw [hW5] at bN bS2 o5' hB5 s5 ⊢
    clear hW5
    gi_wp2
    obtain ⟨b, off, hCk, hA3⟩ : ∃ b off, CkOK b off mats e.moves.length (.slice A3 (e.moves.length * mats) c3) ∧ (0 < e.moves.length → A3 = some ⟨b, off, none⟩) := by
      by_cases hz : e.moves.length = 0
      · exact ⟨0, 0, .inl ⟨hz, A3, c3, by rw [hz, Nat.zero_mul]⟩, fun h => absurd hz (by omega)⟩
      · have hp : 1 * 1 ≤ e.moves.length * mats := Nat.mul_le_mul (by omega) m1
        obtain ⟨b, off, hb⟩ := r3 (by intro h; rw [h] at hx; simp only [List.length_nil] at hx; omega)
        exact ⟨b, off, .inr ⟨c3, by rw [hb], by omega⟩, fun _ => hb⟩
    refine wpIn_rangeFunc_ownG (n := 5) rfl (by omega) (gf := 87) (lb := #[.pointer (some ⟨W3.heap.size, 0, none⟩), .pointer (some ⟨W3.heap.size + 1, 0, none⟩)]) rfl trivial (enters_of Tryz.func87 (by kernel_rfl) rfl)
      (ck_stops Fence.wide _ trivial rfl (by omega) W1.heap.size W3.heap.size (W3.heap.size + 1) W5.heap.size b off mats e.moves.length _ (by omega) (by omega) (by omega) (by omega) m1 (by omega) (by omega) hCk W5 (Nat.le_refl _) bS2.cell bN.cell)
      BelowX.trans (fun W l o o' h1 h2 h3 h4 => BelowX.of (belowK_b (Nat.le_refl _) W l o o' h1 h2 h3 h4)) (Below.refl _ _) (fun _ => rfl)
      (fun pre W => (∃ v, Boxed W W1.heap.size 29 v ∧ W.ownsRow W5.heap.size 30 1 v pre.length (pre.map (ckV b off mats)) ∧ True) ∧ BelowX W1.heap.size W5.heap.size W5 W)
      (fun _ _ _ => False)
      (OwnFrom.and (Own.from (holdsRow_own W5.heap.size W1.heap.size 29 30 1 (fun pre : List Nat => pre.length) (fun pre : List Nat => pre.map (ckV b off mats)) (fun _ _ => True)) _) (ownFrom_belowX (Nat.le_refl _) (Nat.le_refl _)))
      (fun _ _ _ _ _ hs _ _ => hs)
      ⟨⟨_, o5', World.ownsRow_nil _ _ _ _, trivial⟩, BelowX.refl _ _ _⟩
      (fun i => { tmps := #[.agg #[.int .i64 (mats : Int), .int .i64 a1, .int .i64 a2, v3, .slice A4 e.moves.length c4, v5, v6, v7], .slice A1 (e.moves.length * mats) c1, .pointer (some ⟨w.heap.size, 0, none⟩), undef, .slice none 0 0, .pointer (some ⟨W1.heap.size, 0, none⟩), ckV b off mats i,
        .agg #[.int .i64 (mats : Int), .int .i64 a1, .int .i64 a2, v3, .slice A4 e.moves.length c4, v5, v6, v7], .int .i64 0, .bool false, .bool false, .slice A1 (e.moves.length * mats) c1, .int .i64 ((e.moves.length : Int) * mats), .pointer (some ⟨w.heap.size, 4, none⟩), .slice A4 e.moves.length c4, .int .i64 (e.moves.length : Int), .pointer (some ⟨w.heap.size, 0, none⟩), .int .i64 (mats : Int), .int .i64 ((e.moves.length : Int) * mats), .bool false, .bool false,
        .slice A1 (e.moves.length * mats) c1, .slice A3 (e.moves.length * mats) c3, .pointer (some ⟨w.heap.size, 0, none⟩), .int .i64 (mats : Int), .int .i64 (mats : Int), .func (.func 87) #[] #[.pointer (some ⟨W3.heap.size, 0, none⟩), .pointer (some ⟨W3.heap.size + 1, 0, none⟩)], ckV b off mats i, undef, undef, undef, undef, undef], defers := [] }) ?assign ?body ?done ?stop
    case assign =>
      intro l i W K hK
      gi_wp2
      exact hK
    case body =>
      rintro l pre i W ⟨⟨v, hv, hrow, -⟩, hB⟩ hlt
      have hc := hv.cell
      simp only [ckV]
      gi_wp2_with (gi_at_builtin; refine wpListIn_append_own _ rfl _ _ 29 rfl W5.heap.size 30 i0 (.slice none 0 0) 1 24 Tryz.underlying29 hi hz0 hz1 hz2 rfl (by decide) _ _ _ rfl (hrow.alloc _) ⟨W.heap.size, 0, none⟩ 1 1 [.slice (some ⟨b, off + i * mats * 4, none⟩) mats mats] rfl rfl (cell_one_new _ _ _) (by simp [Value.oneCell']) (by omega) (by omega) (by have := hB.size; simp; omega) ?_; intro v' w1 hown' hgrow _; obtain ⟨g', cap', rfl⟩ := ownsRow_succ hown'; obtain ⟨hv1, hv2, hr2, hk2, hb2⟩ := appendedX hv (by decide) hrow hB.size hown' hgrow; have hc1 := hv1.cell; have hf1 := hv1.frozen)
      exact ⟨hk2.from _, hb2, ⟨_, hv2, by rw [List.length_append, List.map_append]; exact hr2, trivial⟩, hB.trans hb2⟩
    case done =>
      rintro D ys W hD rfl ⟨⟨v, hv, hrow, -⟩, hB⟩ hK
      have hc := hv.cell
      gi_wp2
      refine ⟨by simp, .inl ⟨_, _, rfl, run_takeDeferred hK, ?_⟩⟩
      rw [List.length_range] at hrow
      have hfin : BelowX W1.heap.size W5.heap.size W5 (W.putObj D (.deferred none)) := hB.trans (BelowX.of (belowK_b (w := W5) (Nat.le_refl _) W D _ _ hD hK rfl rfl))
      have e9 : W2.drew.heap.size = W2.heap.size := rfl
      have h93 := hB3.size
      have h91 := hB1.size
      have h92 := hBd.size
      refine ⟨_, results_tmp rfl _ _ _, v, rfl, hist_rows (w2 := W3) (X := W1.heap.size) r4 ((BelowX.of hB5).trans (hfin.mono (by omega))) (hM3 _ (.inr rfl)) (fun k h => hM3 k (.inl h)) hx m1 (ownsRow_putObj hrow _ hK rfl) (fun k h => by have := hMB k h; omega) (by omega) (by omega) hml hA3, ?_⟩
      exact hBd.trans ((hB3.mono (by omega)).trans ((hB5.mono (by omega)).trans (hfin.low (by omega) (by omega))))
    case stop =>
      rintro D c pre W _ _ h _
      exact h.elim
end Go.Proofs.YtfieodjihaodiaaGreat
/- evidence.History: its contract. -/
namespace Go.Proofs.YtfieodjihaodiaaGreat
open Go.RowKit
set_option linter.unusedVariables false
set_option linter.unusedSimpArgs false
set_option maxRecDepth 100000

theorem a_CloneNul : ACall Tryz.prog 46 [.c (.t (.sl 4 .nul []))] [] (.c (.t (.sl 4 .any []))) [] := by
  (refine acall_of tab_ok Tryz.func46 rfl (by decide) ?_; (conv => whnf); repeat (first | (refine LitB.data ?_; conv => whnf) | (refine BoxB.own ?_; conv => whnf)))
  (repeat' (first | ((refine DecB.mk (fun h => ?_) (fun h => ?_)) <;> first | (exfalso; omega) | (conv => whnf)) | ((refine BoolB.mk (fun h => ?_) (fun h => ?_)) <;> first | (exact absurd h (by decide)) | (conv => whnf)) | ((first | refine zzW ?_ | refine zzI ?_ | refine zzR ?_ | refine zzB ?_ | refine late_ok rfl rfl ?_ | refine src_ok rfl ?_ | refine LitB.data ?_ | refine BoxB.own ?_); conv => whnf)))
  exact fin_t rfl
theorem a_CloneNon : ACall Tryz.prog 46 [.c (.t (.sl 4 .non []))] [] (.c (.t (.sl 4 .any []))) [] := by
  (refine acall_of tab_ok Tryz.func46 rfl (by decide) ?_; (conv => whnf); repeat (first | (refine LitB.data ?_; conv => whnf) | (refine BoxB.own ?_; conv => whnf)))
  (repeat' (first | ((refine DecB.mk (fun h => ?_) (fun h => ?_)) <;> first | (exfalso; omega) | (conv => whnf)) | ((refine BoolB.mk (fun h => ?_) (fun h => ?_)) <;> first | (exact absurd h (by decide)) | (conv => whnf)) | ((first | refine zzW ?_ | refine zzI ?_ | refine zzR ?_ | refine zzB ?_ | refine late_ok rfl rfl ?_ | refine src_ok rfl ?_ | refine app_nil rfl (by decide) ?_ | refine LitB.data ?_ | refine BoxB.own ?_); conv => whnf)))
  exact fin_own rfl (by intro h; cases h) rfl rfl rfl
theorem cl_empty {w : World} {M : Ms} {A : Option Addr} {cap : Nat} (h : RT w M (.sl 4 .any []) (.slice A 0 cap)) : RT w M (.sl 4 (if A = none then .nul else .non) []) (.slice A 0 cap) := by
  cases h with
  | @sl _ _ _ b off cap A f hrow hcap hmax hk1 hn hA hc hr hx =>
    refine .sl (rows := []) (b := 0) (off := 0) (fun _ _ => undef) (by simp) (Nat.zero_le _) hmax (fun h => by split at h <;> cases h) (fun h => by split at h <;> cases h) (fun h => absurd rfl h) (fun i j c h => by simp [at2] at h) (fun i j c h => by simp [at2] at h) ⟨fun h => ⟨rfl, ?_⟩, fun h => ?_⟩
    · split at h
      · assumption
      · cases h
    · split at h
      · cases h
      · assumption
set_option maxHeartbeats 4000000 in
theorem a_EHist1 (e : Ev) (hE : EvSm e) (hck : check e = 0) (x : List Fr) (hx : x.length = e.moves.length * e.mats.toNat) :
    ACall Tryz.prog 23 [evS e, fracsS x] [] (histS (chunks e.mats.toNat e.moves.length x)) [] := by
  refine ⟨⟨Tryz.f23, Tryz.func23, rfl, by decide⟩, fun w ι M vals hl hr hH hM hF => ?_⟩
  match vals, hl, hr with
  | [v0, v1], _, hr =>
  have h0 := hr 0 _ rfl
  have h1 := hr 1 _ rfl
  simp only [List.getD_cons_zero, List.getD_cons_succ] at h0 h1
  have one : ∀ {s : S} {v : Value} {W : World} {M1 : Ms}, RS W ι M1 s v → ∀ (j : Nat) (s' : S), [s][j]? = some s' → RS W ι M1 s' ([v].getD j undef) := by
    intro s v W M1 h j s' hj
    cases j with
    | zero => cases hj; exact h
    | succ j => simp at hj
  refine (hist_walk hM hF e hE hck x hx h0 h1 ?_).mono ?_
  · intro W M1 hW hm hMB1
    have h1' : RS W ι M1 (fracsS x) v1 := h1.keep (fun b hb _ => hW.block b hb) hm (fun _ _ h => h)
    by_cases hx0 : x = []
    · subst hx0
      obtain ⟨A, cap, rfl, _, _, _, rt⟩ := fr_vals h1'
      have rt2 := cl_empty rt
      by_cases hA : A = none
      · rw [if_pos hA] at rt2
        exact acall_belowM (vals := [_]) a_CloneNul rfl (one (.c (.t rt2))) hMB1 hF
      · rw [if_neg hA] at rt2
        exact acall_belowM (vals := [_]) a_CloneNon rfl (one (.c (.t rt2))) hMB1 hF
    · have hp : 0 < x.length := List.length_pos_iff.2 hx0
      have hb : x.length ≤ 8 * 6 := by rw [hx]; exact Nat.mul_le_mul hE.mv (by have := hE.m6; omega)
      exact acall_belowM (vals := [_]) (a_CloneF x hp (by omega)) rfl (one h1') hMB1 hF
  · rintro ee w' ⟨v, rfl, hrt, hb⟩
    exact ⟨v, rfl, gpost_below (.c (.t hrt)) hb hM hF⟩
/-- what History returns -/
def histR (e : Ev) (x : List Fr) : List (List Fr) := if check e ≠ 0 ∨ (x.length : Int) ≠ (e.moves.length : Int) * e.mats then [] else chunks e.mats.toNat e.moves.length x
theorem a_EHist (e : Ev) (hs : e.Sized) (hE : check e = 0 → EvSm e) (x : List Fr) (hx : x.length ≤ 100000) : ACall Tryz.prog 23 [evS e, fracsS x] [] (histS (histR e x)) [] := by
  unfold histR
  by_cases h : check e ≠ 0 ∨ (x.length : Int) ≠ (e.moves.length : Int) * e.mats
  · rw [if_pos h]; exact a_EHist0 e hs hE x hx h
  · rw [if_neg h]
    obtain ⟨h0, h1⟩ : check e = 0 ∧ (x.length : Int) = (e.moves.length : Int) * e.mats := by omega
    refine a_EHist1 e (hE h0) h0 x ?_
    have hm : e.mats = (e.mats.toNat : Int) := by have := (hE h0).m1; omega
    rw [hm] at h1
    exact_mod_cast h1
end Go.Proofs.YtfieodjihaodiaaGreat
/- the system of evidence: its size; its solutions are the histories, as the program sees them. -/
namespace Go.Proofs.YtfieodjihaodiaaGreat
open Go.RowKit
set_option linter.unusedVariables false
set_option linter.unusedSimpArgs false
set_option maxRecDepth 100000

theorem rl_mid {n : Int} (h1 : -10000 ≤ n) (h2 : n ≤ 10000) : rl ((n : Int) : Rat) ≤ 200 := by
  rw [rl_int]; have := bl_int (x := n) (by omega) (by omega); omega
theorem termsE_b {e : Ev} {p : Int} {m : Nat} : ∀ k, (termsE e p m k).length ≤ k ∧ ∀ t ∈ termsE e p m k, t.2 = ((1 : Int) : Rat) ∨ t.2 = ((-1 : Int) : Rat)
  | 0 => ⟨Nat.le_refl _, fun t ht => by cases ht⟩
  | k + 1 => by
    obtain ⟨h1, h2⟩ := termsE_b (e := e) (p := p) (m := m) k
    unfold termsE
    split
    · exact ⟨by omega, h2⟩
    · split
      · refine ⟨by simp; omega, fun t ht => ?_⟩
        rcases List.mem_append.1 ht with ht | ht
        · exact h2 t ht
        · simp at ht; subst ht; exact .inr rfl
      · split
        · refine ⟨by simp; omega, fun t ht => ?_⟩
          rcases List.mem_append.1 ht with ht | ht
          · exact h2 t ht
          · simp at ht; subst ht; exact .inl rfl
        · exact ⟨by omega, h2⟩
theorem sumT_b {e : Ev} {i : Nat} {b own more : Int} : ∀ n, ∀ t ∈ sumT e i b own more n, t.2 = ((b : Int) : Rat) ∨ t.2 = ((b + more : Int) : Rat)
  | 0, t, ht => by cases ht
  | n + 1, t, ht => by
    have ih := sumT_b (e := e) (i := i) (b := b) (own := own) (more := more) n
    unfold sumT at ht
    split at ht
    · rcases List.mem_append.1 ht with ht | ht
      · exact ih t ht
      · simp at ht; subst ht
        unfold coefS
        split
        · exact .inr rfl
        · exact .inl rfl
    · exact ih t ht
theorem row_sm {e : Ev} (hE : EvSm e) {w : RowP × OrP} (h : w ∈ evRows e) : w.1.terms.length ≤ 100 ∧ (∀ t ∈ w.1.terms, rl t.2 ≤ 200) ∧ rl w.1.value ≤ 200 := by
  have h6 := hE.m6
  have hmv := hE.mv
  have m1 := rl_mid (n := 1) (by decide) (by decide)
  have m2 := rl_mid (n := -1) (by decide) (by decide)
  have m0 := rl_mid (n := 0) (by decide) (by decide)
  obtain ⟨i, x, hi, hx, hw⟩ := evTo_mem h
  have sum : ∀ (b own more : Int), -2000 ≤ b → b ≤ 2000 → -2000 ≤ more → more ≤ 2000 → (sumA e i b own more).length ≤ 100 ∧ ∀ t ∈ sumA e i b own more, rl t.2 ≤ 200 := by
    intro b own more b1 b2 b3 b4
    have hl := sumT_le (e := e) (i := i) (b := b) (own := own) (more := more) e.mats.toNat
    refine ⟨by unfold sumA; omega, fun t ht => ?_⟩
    rcases sumT_b _ t ht with h | h
    · rw [h]; exact rl_mid (by omega) (by omega)
    · rw [h]; exact rl_mid (by omega) (by omega)
  rcases moveP_mem hw with ⟨_, m, hm, rfl⟩ | ⟨lo, hi', hiv, hw⟩ | ⟨k, p, hk, hpm, hw⟩
  · obtain ⟨h1, h2⟩ := termsE_b (e := e) (p := x.src) (m := m) (i + 1)
    refine ⟨by show (termsE e x.src m (i + 1)).length ≤ 100; omega, fun t ht => ?_, m0⟩
    rcases h2 t ht with h | h <;> rw [h] <;> assumption
  · have hb : rl lo ≤ 200 ∧ rl hi' ≤ 200 := by
      unfold ivOf at hiv
      by_cases hs : x.scale = -1
      · rw [if_pos hs] at hiv; cases hiv
      · rw [if_neg hs] at hiv
        have := rl_interval hiv
        omega
    have s := sum 1 (-1) 0 (by decide) (by decide) (by decide) (by decide)
    rcases hw with rfl | rfl
    · exact ⟨s.1, s.2, hb.1⟩
    · exact ⟨s.1, s.2, hb.2⟩
  · have q := hE.pq p (List.mem_of_getElem? hk)
    have s1 := sum (-p.least) p.mat 1000 (by omega) (by omega) (by decide) (by decide)
    have s2 := sum p.most p.mat (-1000) (by omega) (by omega) (by decide) (by decide)
    simp only [pur2, List.mem_cons, List.not_mem_nil, or_false] at hw
    rcases hw with rfl | rfl
    · exact ⟨s1.1, s1.2, m0⟩
    · exact ⟨s2.1, s2.2, m0⟩
theorem ev_sb {e : Ev} (hE : EvSm e) : SysB (evSys e) := by
  refine ⟨?_, fun w hw => ?_⟩
  · have := evTo_small hE (Nat.le_refl _)
    show ((evRows e).map Prod.fst).length ≤ _
    rw [List.length_map]
    show (evTo e e.moves.length).length ≤ _
    omega
  · obtain ⟨p, hp, rfl⟩ := List.mem_map.1 (show w ∈ (evRows e).map Prod.fst from hw)
    exact row_sm hE hp
end Go.Proofs.YtfieodjihaodiaaGreat
/- law 16: the example, row. -/
namespace Go.Proofs.YtfieodjihaodiaaGreat
open Go.RowKit
set_option linter.unusedVariables false
set_option linter.unusedSimpArgs false
set_option maxRecDepth 100000

def rowTo (l : List Int) : Nat → List (Int × Rat)
  | 0 => []
  | k + 1 => match l[k]? with
    | none => rowTo l k
    | some c => if c ≠ 0 then rowTo l k ++ [((k : Int), (c : Rat))] else rowTo l k
def rowW (l : List Int) (kind v : Int) : RowP := ⟨rowTo l l.length, kind, (v : Rat)⟩
theorem rowTo_le {l : List Int} : ∀ k, (rowTo l k).length ≤ k
  | 0 => by simp [rowTo]
  | k + 1 => by
    have ih := rowTo_le (l := l) k
    unfold rowTo
    split
    · omega
    · split
      · simp; omega
      · omega
abbrev rwB (r n : Nat) (kind : Int) (v : Rat) : Blk := { mode := .live, elem := 65, size := 6, rows := [.own r 0 n true :: .t (ti kind) :: frC (fz v)], box := true }
abbrev rwZ : Blk := { mode := .live, elem := 65, size := 6, rows := [[.t (termsT []), .t (ti 0), .t (ti 0), .t (intsT []), .t (ti 0), .t (intsT [])]], box := true }
set_option maxHeartbeats 4000000 in
theorem a_row16 (l : List Int) (kind v : Int) (hl : l.length ≤ 1000) (hs : ∀ c ∈ l, -1000000 ≤ c ∧ c ≤ 1000000) (hv : -1000000 ≤ v ∧ v ≤ 1000000) :
    ACall Tryz.prog 34 [intsS l, intS .i64 kind, intS .i64 v] [] (rowS (rowW l kind v)) [] := by
  have i0 := r5Int v (by omega) (by omega)
  have m1 : (l.map intRow).length = l.length := by simp
  (refine acall_of tab_ok Tryz.func34 rfl (by decide) ?_; (conv => whnf); repeat (first | (refine LitB.data ?_; conv => whnf) | (refine BoxB.own ?_; conv => whnf)))
  (repeat' (first | ((refine DecB.mk (fun h => ?_) (fun h => ?_)) <;> first | (exfalso; omega) | (conv => whnf)) | ((refine BoolB.mk (fun h => ?_) (fun h => ?_)) <;> first | (exact absurd h (by decide)) | (conv => whnf)) | ((first | refine zzW ?_ | refine zzI ?_ | refine zzR ?_ | refine zzB ?_ | refine late_ok rfl rfl ?_ | refine src_ok rfl ?_ | refine .inl ⟨_, _, qcall_pure (i0) rfl rfl, ?_⟩ | refine LitB.data ?_ | refine BoxB.own ?_); conv => whnf)))
  refine awp_for tab_ok (fun k => ([intsS l, J, J, J, J, J, S.c (C.ptr 0 0 0), S.c (C.ptr 1 0 0), intS .i64 k, J, J, J, J, J, J, J, J, J, J, J, J, J, J, J, J, J, J, J, J, J, J, J, J, J, J, J, J], [rwZ, rwB 2 (rowTo l k).length kind (v : Rat), termsB (rowTo l k)])) l.length (fun _ => True) [some 0, some 1, none] trivial
    ⟨rfl, rfl, ⟨⟨rfl, rfl, rfl, .inr ⟨⟨rfl, rfl, rfl, rfl, rfl, rfl, trivial⟩, trivial⟩⟩, ⟨rfl, rfl, rfl, .inr ⟨⟨⟨rfl, rfl, rfl⟩, rfl, rfl, rfl, rfl, rfl, trivial⟩, trivial⟩⟩, ⟨rfl, rfl⟩, trivial⟩, ⟨rfl, ⟨rfl, rfl, rfl⟩, ⟨rfl, rfl, rfl⟩, rfl, trivial⟩⟩ ?_
  intro k hk _
  have lk := rowTo_le (l := l) k
  by_cases hlt : k < l.length
  · obtain ⟨c, hc⟩ : ∃ c, l[k]? = some c := ⟨_, List.getElem?_eq_getElem hlt⟩
    have hcb := hs c (List.mem_of_getElem? hc)
    have ic := r5Int c (by omega) (by omega)
    have lA : (rowTo l k).length ≤ (termsB (rowTo l k)).rows.length := by show _ ≤ (toC _).length; simp [toC]
    have lC : ((rowTo l k).length + 1) * 73 ≤ 140737488355328 := by omega
    have eT : rowTo l (k + 1) = if c ≠ 0 then rowTo l k ++ [((k : Int), (c : Rat))] else rowTo l k := by rw [rowTo, hc]
    by_cases h0 : c ≠ 0
    · rw [if_pos h0] at eT
      conv => whnf
      (repeat' (first | ((refine DecB.mk (fun h => ?_) (fun h => ?_)) <;> first | (exfalso; omega) | (conv => whnf)) | ((refine BoolB.mk (fun h => ?_) (fun h => ?_)) <;> first | (exact absurd h (by decide)) | (conv => whnf)) | ((first | refine zzW ?_ | refine zzI ?_ | refine zzR ?_ | refine zzB ?_ | refine late_ok rfl rfl ?_ | refine src_ok rfl ?_ | refine .inl ⟨_, _, qcall_pure (ic) rfl rfl, ?_⟩ | refine ex_row hc ?_ | refine app_ok lA lC ?_ | refine LitB.data ?_ | refine BoxB.own ?_); conv => whnf)))
      all_goals try (exfalso; omega)
      refine ⟨hlt, trivial, [some 0, some 1, some 3], rfl, rfl, ⟨⟨rfl, rfl, rfl, .inr ⟨⟨rfl, rfl, rfl, rfl, rfl, rfl, trivial⟩, trivial⟩⟩, ⟨rfl, rfl, rfl, .inr ⟨⟨⟨rfl, rfl, ?_, fun h => h⟩, rfl, rfl, rfl, rfl, rfl, trivial⟩, trivial⟩⟩, entB_rows rfl rfl rfl ?_ rfl, trivial⟩, ⟨rfl, ⟨rfl, rfl, rfl⟩, ⟨rfl, rfl, rfl⟩, rfl, trivial⟩⟩
      · rw [eT]; simp [toC]
      · rw [eT]; exact ext_termsE (w := ((k : Int), (c : Rat))) rfl
    · rw [if_neg h0] at eT
      conv => whnf
      (repeat' (first | ((refine DecB.mk (fun h => ?_) (fun h => ?_)) <;> first | (exfalso; omega) | (conv => whnf)) | ((refine BoolB.mk (fun h => ?_) (fun h => ?_)) <;> first | (exact absurd h (by decide)) | (conv => whnf)) | ((first | refine zzW ?_ | refine zzI ?_ | refine zzR ?_ | refine zzB ?_ | refine late_ok rfl rfl ?_ | refine src_ok rfl ?_ | refine ex_row hc ?_ | refine LitB.data ?_ | refine BoxB.own ?_); conv => whnf)))
      all_goals try (exfalso; omega)
      refine ⟨hlt, trivial, [some 0, some 1, some 2], rfl, rfl, ⟨⟨rfl, rfl, rfl, .inr ⟨⟨rfl, rfl, rfl, rfl, rfl, rfl, trivial⟩, trivial⟩⟩, ⟨rfl, rfl, rfl, .inr ⟨⟨⟨rfl, rfl, ?_, fun h => h⟩, rfl, rfl, rfl, rfl, rfl, trivial⟩, trivial⟩⟩, entB_rows rfl rfl rfl ?_ rfl, trivial⟩, ⟨rfl, ⟨rfl, rfl, rfl⟩, ⟨rfl, rfl, rfl⟩, rfl, trivial⟩⟩
      · rw [eT]
      · rw [eT]
  · have hke : k = l.length := by omega
    subst hke
    conv => whnf
    (repeat' (first | ((refine DecB.mk (fun h => ?_) (fun h => ?_)) <;> first | (exfalso; omega) | (conv => whnf)) | ((refine BoolB.mk (fun h => ?_) (fun h => ?_)) <;> first | (exact absurd h (by decide)) | (conv => whnf)) | ((first | refine zzW ?_ | refine zzI ?_ | refine zzR ?_ | refine zzB ?_ | refine late_ok rfl rfl ?_ | refine src_ok rfl ?_ | refine LitB.data ?_ | refine BoxB.own ?_); conv => whnf)))
    all_goals try (exfalso; omega)
    exact fin_t ⟨show VC _ (fun id => notIn [] id = true) _ _ from vc_all rfl rfl (by intro h; cases h) rfl rfl (by simp [rowW]), rfl, rfl, rfl, rfl, rfl, trivial⟩
def exE16 : Ev := ⟨2, 1, 1, [⟨0, 0, 0⟩, ⟨2, -1, -1⟩, ⟨5, -1, -1⟩], [⟨1, 0, 1, 0, 100, false⟩, ⟨2, 1, 2, -1, 0, true⟩], [⟨0, 0, 9, 5, 0, 0⟩], [], [⟨0, 0, 900, 1000⟩]⟩
theorem a_Example16 : ACall Tryz.prog 33 [] [] (evS exE16) [] := by
  (refine acall_of tab_ok Tryz.func33 rfl (by decide) ?_; (conv => whnf); repeat (first | (refine LitB.data ?_; conv => whnf) | (refine BoxB.own ?_; conv => whnf)))
  (repeat' (first | ((refine DecB.mk (fun h => ?_) (fun h => ?_)) <;> first | (exfalso; omega) | (conv => whnf)) | ((refine BoolB.mk (fun h => ?_) (fun h => ?_)) <;> first | (exact absurd h (by decide)) | (conv => whnf)) | ((first | refine zzW ?_ | refine zzI ?_ | refine zzR ?_ | refine zzB ?_ | refine late_ok rfl rfl ?_ | refine src_ok rfl ?_ | refine LitB.weak ?_ | refine LitB.data ?_ | refine BoxB.own ?_); conv => whnf)))
  exact fin_t ⟨rfl, rfl, rfl, rfl, rfl, rfl, rfl, rfl, trivial⟩
end Go.Proofs.YtfieodjihaodiaaGreat
/- law 16: sane. -/
namespace Go.Proofs.YtfieodjihaodiaaGreat
open Go.RowKit
set_option linter.unusedVariables false
set_option linter.unusedSimpArgs false
set_option maxRecDepth 100000

instance : DecidableEq RowP := fun a b => decidable_of_iff (a.terms = b.terms ∧ a.kind = b.kind ∧ a.value = b.value) ⟨fun ⟨h1, h2, h3⟩ => by cases a; cases b; simp_all, fun h => by subst h; exact ⟨rfl, rfl, rfl⟩⟩
instance : DecidableEq SysP := fun a b => decidable_of_iff (a.n = b.n ∧ a.rows = b.rows) ⟨fun ⟨h1, h2⟩ => by cases a; cases b; simp_all, fun h => by subst h; exact ⟨rfl, rfl⟩⟩
instance : DecidableEq OrP := fun a b => decidable_of_iff (a.kind = b.kind ∧ a.mv = b.mv ∧ a.mat = b.mat ∧ a.idx = b.idx) ⟨fun ⟨h1, h2, h3, h4⟩ => by cases a; cases b; simp_all, fun h => by subst h; exact ⟨rfl, rfl, rfl, rfl⟩⟩
def exS16 : SysP := ⟨4, [rowW [1, 1] 0 95, rowW [1, 1] 1 105, rowW [100, -900] 0 0, rowW [0, 1000] 0 0, rowW [1, 0, -1] 2 0, rowW [0, 1, 0, -1] 2 0]⟩
theorem ex16_sys : evSysR exE16 = exS16 := by decide +kernel
theorem ex16_check : check exE16 = 0 := by decide +kernel
theorem ex16_o4 : orAt exE16 4 = some ⟨0, 1, 0, -1⟩ := by decide +kernel
theorem ex16_o3 : orAt exE16 3 = some ⟨4, 0, -1, 0⟩ := by decide +kernel
theorem ex16_o6 : orAt exE16 6 = none := by decide +kernel
theorem ex16_sm : EvSm exE16 := ⟨⟨by simp [exE16], by simp [exE16], by simp [exE16], by simp [exE16], by simp [exE16]⟩, by decide, by decide, by decide, by decide, by decide, by decide⟩
def exX16 : List Fr := [fz ((99 : Int) : Rat), fz ((1 : Int) : Rat), fz ((99 : Int) : Rat), fz ((1 : Int) : Rat)]
def exH16 : List (List Fr) := [[fz ((99 : Int) : Rat), fz ((1 : Int) : Rat)], [fz ((99 : Int) : Rat), fz ((1 : Int) : Rat)]]
theorem ex16_hist : histR exE16 exX16 = exH16 := by
  unfold histR
  rw [if_neg (by rw [ex16_check]; decide)]
  rfl
theorem ex16_holds : solB exS16 exX16 = true := by decide +kernel
theorem ex16_hc : histCheck exE16 exH16 = 0 := by decide +kernel
theorem ex16_pt : pointR exE16 exH16 = exX16 := by
  unfold pointR
  rw [if_neg (by rw [ex16_check]; decide)]
  rfl
theorem ex16_right : rightSys exS16 = true := by decide +kernel
def rowSm16 (w : RowP) : Bool := decide (w.terms.length ≤ 100) && w.terms.all (fun t => decide (rl t.2 ≤ 200)) && decide (rl w.value ≤ 200)
theorem ex16_rows : exS16.rows.all rowSm16 = true := by decide +kernel
theorem sm16_get {w : RowP} (h : rowSm16 w = true) : w.terms.length ≤ 100 ∧ (∀ t ∈ w.terms, rl t.2 ≤ 200) ∧ rl w.value ≤ 200 := by
  unfold rowSm16 at h
  simp only [Bool.and_eq_true, decide_eq_true_eq, List.all_eq_true] at h
  exact ⟨h.1.1, h.1.2, h.2⟩
theorem eqs_or : EqS Tryz.prog 42 4 := by
  refine ⟨by kernel_rfl, fun us vs w h1 h2 => ?_⟩
  match us, vs, h1, h2 with
  | [a, b, c, d], [a', b', c', d'], _, _ =>
    have u3 := Tryz.underlying3
    have a3 := Tryz.isAgg3
    have z3 := Tryz.sizeOf3
    have hS : Tryz.prog.underlying 42 = some (.struct (Tryz.prog.fieldsOf 42)) := by kernel_rfl
    have hp : Tryz.prog.stoodInHeld 42 = false := by kernel_rfl
    show (Op.equalIn 10000 42 (.agg #[.int .i64 a, .int .i64 b, .int .i64 c, .int .i64 d]) (.agg #[.int .i64 a', .int .i64 b', .int .i64 c', .int .i64 d'])).run Tryz.prog w = _
    rw [show (10000 : Nat) = 9999 + 1 from rfl, run_equalIn_agg w 9999 42 _ _ hS hp]
    simp only [Program.fieldsOf, Tryz.underlying42]
    go_simp
    by_cases h1 : a = a' <;> by_cases h2 : b = b' <;> by_cases h3 : c = c' <;> by_cases h4 : d = d' <;> simp [h1, h2, h3, h4]
theorem eqs_ok {P : Program} {t : TypeId} {n m : Nat} {K : Prop} (h : EqS P t n) (hl : m = n) (k : K) : (EqS P t n ∧ m = n) ∧ K := ⟨⟨h, hl⟩, k⟩
theorem ex16_sb : SysB exS16 := ⟨by decide, fun w hw => sm16_get (List.all_eq_true.1 ex16_rows w hw)⟩
abbrev sysXB (s : SysP) : Blk := { mode := .live, elem := 37, size := 2, rows := [[.t (ti s.n), .t (rowsTT s.rows)]], box := true }
theorem fz_dl3 {f : Fr} (h : fewF 3 f = true) : f.p.dl.length ≤ 3 ∧ f.q.dl.length ≤ 3 := by unfold fewF at h; simp only [Bool.and_eq_true, decide_eq_true_eq] at h; omega
theorem exX16_few : exX16.all (fewF 3) = true := by decide +kernel
set_option maxHeartbeats 8000000 in
theorem a_sane16 : ACall Tryz.prog 10 [] [] (boolS true) [] := by
  have ex := a_Example16
  have sy := a_ESystem exE16 ex16_sm.sz (fun _ => ex16_sm)
  rw [ex16_sys, ex16_check] at sy
  have r1 := a_row16 [1, 1] 0 95 (by decide) (by decide) (by decide)
  have r2 := a_row16 [1, 1] 1 105 (by decide) (by decide) (by decide)
  have r3 := a_row16 [100, -900] 0 0 (by decide) (by decide) (by decide)
  have r4 := a_row16 [0, 1000] 0 0 (by decide) (by decide) (by decide)
  have r5 := a_row16 [1, 0, -1] 2 0 (by decide) (by decide) (by decide)
  have r6 := a_row16 [0, 1, 0, -1] 2 0 (by decide) (by decide) (by decide)
  have o1 := a_EOrigin exE16 ex16_sm.sz (fun _ => ex16_sm) 4
  have o2 := a_EOrigin exE16 ex16_sm.sz (fun _ => ex16_sm) 3
  have o3 := a_EOrigin exE16 ex16_sm.sz (fun _ => ex16_sm) 6
  rw [ex16_o4] at o1
  rw [ex16_o3] at o2
  rw [ex16_o6] at o3
  have i99 := r5Int 99 (by decide) (by decide)
  have i1 := r5Int 1 (by decide) (by decide)
  have hi := a_EHist exE16 ex16_sm.sz (fun _ => ex16_sm) exX16 (by decide)
  rw [ex16_hist] at hi
  have f3 : ∀ f ∈ exX16, f.p.dl.length ≤ 3 ∧ f.q.dl.length ≤ 3 := fun f hf => fz_dl3 (List.all_eq_true.1 exX16_few f hf)
  have ho := a_Holds exS16 ex16_sb ex16_right exX16 (by decide) (fun f hf => by have := f3 f hf; omega)
  rw [ex16_holds] at ho
  have hc := a_hCheck exE16 exH16 ex16_sm.sz ⟨by decide, by decide, fun l hl f hf => by
    have hf' : f ∈ exX16 := by
      simp only [exH16, List.mem_cons, List.not_mem_nil, or_false] at hl
      rcases hl with rfl | rfl <;> simp only [List.mem_cons, List.not_mem_nil, or_false, exX16] at hf ⊢ <;> rcases hf with rfl | rfl <;> simp
    have := f3 f hf'; omega⟩
  rw [ex16_hc] at hc
  have pt := a_EPoint exE16 ex16_sm.sz exH16 (by decide) (by decide)
  rw [ex16_pt] at pt
  have m6 : (exS16.rows.map rowRow).length = 6 := rfl
  (refine acall_of tab_ok Tryz.func10 rfl (by decide) ?_; (conv => whnf); repeat (first | (refine LitB.data ?_; conv => whnf) | (refine BoxB.own ?_; conv => whnf)))
  (repeat' (first | ((refine DecB.mk (fun h => ?_) (fun h => ?_)) <;> first | (exfalso; omega) | (conv => whnf)) | ((refine BoolB.mk (fun h => ?_) (fun h => ?_)) <;> first | (exact absurd h (by decide)) | (conv => whnf)) | ((first | refine zzW ?_ | refine zzI ?_ | refine zzR ?_ | refine zzB ?_ | refine late_ok rfl rfl ?_ | refine src_ok rfl ?_ | refine .inl ⟨_, _, qcall_pure (ex) rfl rfl, ?_⟩ | refine .inl ⟨_, _, qcall_pure (sy) rfl rfl, ?_⟩ | refine .inl ⟨_, _, qcall_pure (r1) rfl rfl, ?_⟩ | refine .inl ⟨_, _, qcall_pure (r2) rfl rfl, ?_⟩ | refine .inl ⟨_, _, qcall_pure (r3) rfl rfl, ?_⟩ | refine .inl ⟨_, _, qcall_pure (r4) rfl rfl, ?_⟩ | refine .inl ⟨_, _, qcall_pure (r5) rfl rfl, ?_⟩ | refine .inl ⟨_, _, qcall_pure (r6) rfl rfl, ?_⟩ | refine .inl ⟨_, _, qcall_pure (4) rfl rfl, ?_⟩ | refine bar_late [4] (by decide +kernel) (by decide +kernel) ?_ | refine LitB.weak ?_ | refine LitB.data ?_ | refine BoxB.own ?_); conv => whnf)))
  all_goals try (exfalso; exact h rfl)
  all_goals try (exfalso; exact absurd h (by decide))
  refine awp_for tab_ok (fun k => ([J, S.c (C.ptr 0 0 0), J, S.c (C.t (rowsTT exS16.rows)), intS .i64 k, J, J, J, J, J, J, J, J, J, J, J, J, J, J, J, J, J, J, J, J, J, J, J, J, J, J, J, J, J, J, J, J, J, J, J, J, J, J, J, J, J, J, J, J, J, J, J, J, J, J, J, J, J, J, J, J, J, J, J, J, J, J, J, J, J, J, J, J, J, J, J, J, J, J, J, J, J, J, J, J, J, J, J, J, J, J, J, J, J, J, J, J, J, J, J, J, J, J, J, J, J, J, J, J, J, J, J, J, J, J, J, J, J, J, J, J, J, J, J, J, J], [sysXB exS16])) 6 (fun _ => True) [some 0] trivial
    ⟨rfl, rfl, ⟨⟨rfl, rfl, rfl, .inr ⟨⟨rfl, rfl, trivial⟩, trivial⟩⟩, trivial⟩, ⟨⟨rfl, rfl, rfl⟩, rfl, rfl, trivial⟩⟩ ?_
  intro k hk _
  by_cases hlt : k < 6
  · obtain ⟨w, hw⟩ : ∃ w, exS16.rows[k]? = some w := ⟨_, List.getElem?_eq_getElem hlt⟩
    obtain ⟨b1, b2, b3⟩ := sm16_get (List.all_eq_true.1 ex16_rows w (List.mem_of_getElem? hw))
    have sr := a_SameRow16 w b1 b2 b3
    conv => whnf
    (repeat' (first | ((refine DecB.mk (fun h => ?_) (fun h => ?_)) <;> first | (exfalso; omega) | (conv => whnf)) | ((refine BoolB.mk (fun h => ?_) (fun h => ?_)) <;> first | (exact absurd h (by decide)) | (conv => whnf)) | ((first | refine zzW ?_ | refine zzI ?_ | refine zzR ?_ | refine zzB ?_ | refine late_ok rfl rfl ?_ | refine src_ok rfl ?_ | refine .inl ⟨_, _, qcall_pure (sr) rfl rfl, ?_⟩ | refine ex_row hw ?_ | refine LitB.data ?_ | refine BoxB.own ?_); conv => whnf)))
    all_goals first
      | (exfalso; omega)
      | exact ⟨hlt, trivial, [some 0], rfl, rfl, ⟨⟨rfl, rfl, rfl, .inr ⟨⟨rfl, rfl, trivial⟩, trivial⟩⟩, trivial⟩, ⟨⟨rfl, rfl, rfl⟩, rfl, rfl, trivial⟩⟩
      | skip
  · have hke : k = 6 := by omega
    subst hke
    conv => whnf
    (repeat' (first | ((refine DecB.mk (fun h => ?_) (fun h => ?_)) <;> first | (exfalso; omega) | (conv => whnf)) | ((refine BoolB.mk (fun h => ?_) (fun h => ?_)) <;> first | (exact absurd h (by decide)) | (conv => whnf)) | ((first | refine zzW ?_ | refine zzI ?_ | refine zzR ?_ | refine zzB ?_ | refine late_ok rfl rfl ?_ | refine src_ok rfl ?_ | refine .inl ⟨_, _, qcall_pure (ex) rfl rfl, ?_⟩ | refine .inl ⟨_, _, qcall_pure (o1) rfl rfl, ?_⟩ | refine .inl ⟨_, _, qcall_pure (o2) rfl rfl, ?_⟩ | refine .inl ⟨_, _, qcall_pure (o3) rfl rfl, ?_⟩ | refine .inl ⟨_, _, qcall_pure (i99) rfl rfl, ?_⟩ | refine .inl ⟨_, _, qcall_pure (i1) rfl rfl, ?_⟩ | refine .inl ⟨_, _, qcall_pure (hi) rfl rfl, ?_⟩ | refine .inl ⟨_, _, qcall_pure (ho) rfl rfl, ?_⟩ | refine .inl ⟨_, _, qcall_pure (hc) rfl rfl, ?_⟩ | refine .inl ⟨_, _, qcall_pure (pt) rfl rfl, ?_⟩ | refine .inl ⟨_, _, qcall_pure (4) rfl rfl, ?_⟩ | refine bar_late [4] (by decide +kernel) (by decide +kernel) ?_ | refine LitB.weak ?_ | refine eqs_ok eqs_or rfl ?_ | refine LitB.data ?_ | refine BoxB.own ?_); conv => whnf)))
    all_goals try (exfalso; omega)
    all_goals first
      | exact fin_bool rfl
      | (exfalso; exact h rfl)
      | (exfalso; exact absurd h (by decide))
end Go.Proofs.YtfieodjihaodiaaGreat
/- EvidenceSolves: its walk. -/
namespace Go.Proofs.YtfieodjihaodiaaGreat
open Go.RowKit
set_option linter.unusedVariables false
set_option linter.unusedSimpArgs false
set_option maxRecDepth 100000

theorem flat_small {hh : List (List Fr)} (h : massesB hh 10 = true) : hh.length ≤ 10 ∧ hh.flatten.length ≤ 100 ∧ (∀ f ∈ hh.flatten, f.p.dl.length ≤ 3 ∧ f.q.dl.length ≤ 3) ∧ ∀ l ∈ hh, ∀ f ∈ l, f.p.dl.length ≤ 3 ∧ f.q.dl.length ≤ 3 := by
  obtain ⟨h1, h2⟩ := masses_small h
  have key : ∀ (L : List (List Fr)), (∀ r ∈ L, r.length ≤ 10) → L.flatten.length ≤ L.length * 10 := by
    intro L
    induction L with
    | nil => intro _; simp
    | cons r R ih =>
      intro hr
      have h3 := ih fun x hx => hr x (List.mem_cons_of_mem _ hx)
      have h4 := hr r (List.mem_cons_self)
      rw [List.flatten_cons, List.length_append, List.length_cons, Nat.succ_mul]; omega
  have hl := key hh fun r hr => (h2 r hr).1
  have hd : ∀ l ∈ hh, ∀ f ∈ l, f.p.dl.length ≤ 3 ∧ f.q.dl.length ≤ 3 := fun l hl f hf => fz_dl3 ((h2 l hl).2 f hf)
  refine ⟨h1, by omega, fun f hf => ?_, hd⟩
  obtain ⟨l, hl, hf⟩ := List.mem_flatten.1 hf
  exact hd l hl f hf
end Go.Proofs.YtfieodjihaodiaaGreat
/- EvidenceWeights: its walk. -/
namespace Go.Proofs.YtfieodjihaodiaaGreat
open Go.RowKit
set_option linter.unusedVariables false
set_option linter.unusedSimpArgs false
set_option maxRecDepth 100000

/-- the origins, as the laws ask for them -/
theorem or_get {e : Ev} (hc : check e = 0) {k : Nat} {w : RowP × OrP} (h : (evRows e)[k]? = some w) : orAt e k = some w.2 := by
  unfold orAt
  rw [if_neg (by omega), if_neg (by omega)]
  show ((evRows e)[(k : Int).toNat]?).map Prod.snd = _
  rw [Int.toNat_natCast, h]; rfl
theorem or_none {e : Ev} {i : Int} (h : i < 0 ∨ (evRows e).length ≤ i) : orAt e i = none := by
  unfold orAt
  split
  · rfl
  · split
    · rfl
    · rw [List.getElem?_eq_none (by omega)]; rfl
theorem take_snocE {α : Type} {l : List α} {k : Nat} {x : α} (h : l[k]? = some x) : l.take (k + 1) = l.take k ++ [x] := by rw [List.take_add_one, h]; rfl
abbrev one16 (f : Fr) : Blk := { mode := .live, elem := 63, size := 4, rows := [frC f], box := true }
theorem rowsT_one16 (f : Fr) : rowsT [frC f] := by simp [rowsT, frC, frRow, C.isT]
end Go.Proofs.YtfieodjihaodiaaGreat
/- Digits, for the reference of big: plus. No program is in sight. -/
namespace Go.Proofs.YtfieodjihaodiaaGreat
set_option linter.unusedVariables false
set_option linter.unusedSimpArgs false

/-- the sum, digit by digit, appended -/
structure PluI (a b : List Int) (i : Nat) (out : List Int) (c : Int) : Prop where
  len : out.length = i
  ok : Okd out
  le : i ≤ max a.length b.length + 1
  top : i = max a.length b.length + 1 → c = 0
  c0 : 0 ≤ c
  c1 : c ≤ 1
  eq : val out + pw i * c = val (a.take i) + val (b.take i)
theorem PluI.init (a b : List Int) : PluI a b 0 [] 0 := ⟨rfl, .nil, Nat.zero_le _, fun _ => rfl, by decide, by decide, by simp [val]⟩
theorem PluI.step {a b out : List Int} {i : Nat} {c : Int} (h : PluI a b i out c) (ha : Okd a) (hb : Okd b) (hi : i < a.length ∨ i < b.length ∨ 0 < c) :
    PluI a b (i + 1) (out ++ [(dat a i + dat b i + c) % 1048576]) ((dat a i + dat b i + c) / 1048576) := by
  have h1 := ha.dat i
  have h2 := hb.dat i
  have h3 := h.c0
  have h4 := h.c1
  have hl := h.le
  have ht := h.top
  have hi2 : i ≤ max a.length b.length := by
    rcases Nat.lt_or_ge (max a.length b.length) i with h5 | h5
    · have := ht (by omega); omega
    · exact h5
  refine ⟨by simp [h.len], h.ok.append (Okd.cons (mod_rng _) .nil), by omega, fun e => ?_, by omega, by omega, ?_⟩
  · have e1 : dat a i = 0 := dat_none (by omega)
    have e2 : dat b i = 0 := dat_none (by omega)
    rw [e1, e2]; omega
  · rw [val_append, h.len, val_take_dat, val_take_dat, pw_succ]
    have h5 := h.eq
    have h6 : (dat a i + dat b i + c) % 1048576 = dat a i + dat b i + c - 1048576 * ((dat a i + dat b i + c) / 1048576) := by omega
    simp only [val]
    rw [h6]
    grind
theorem PluI.fin {a b out : List Int} {i : Nat} {c : Int} (h : PluI a b i out c) (la : a.length ≤ i) (lb : b.length ≤ i) (hc : c ≤ 0) : trimL out = dg (val a + val b).toNat := by
  have h1 := h.eq
  have h2 := h.c0
  obtain rfl : c = 0 := by omega
  rw [List.take_of_length_le la, List.take_of_length_le lb] at h1
  rw [trimL_dg h.ok]
  congr 2
  grind
end Go.Proofs.YtfieodjihaodiaaGreat
/- Reference of big: plus, Neg, Add, Sub, Mul, Compare. -/
namespace Go.Proofs.YtfieodjihaodiaaGreat
open Go.RowKit
set_option linter.unusedVariables false
set_option linter.unusedSimpArgs false
set_option maxRecDepth 100000

theorem r_plus (a b : List Int) (ha : Okd a) (hb : Okd b) (la : a.length ≤ 400000) (lb : b.length ≤ 400000) :
    ACall Tryz.prog 156 [intsS a, intsS b] [] (intsS (dg (val a + val b).toNat)) [] := by
  have l1 : (a.map intRow).length = a.length := by simp
  have l2 : (b.map intRow).length = b.length := by simp
  (refine acall_of tab_ok Tryz.func156 rfl (by decide) ?_; (conv => whnf); repeat (first | (refine LitB.data ?_; conv => whnf) | (refine BoxB.own ?_; conv => whnf)))
  (repeat' (first | ((refine DecB.mk (fun h => ?_) (fun h => ?_)) <;> first | (exfalso; omega) | (conv => whnf)) | ((refine BoolB.mk (fun h => ?_) (fun h => ?_)) <;> first | (exact absurd h (by decide)) | (conv => whnf)) | ((first | refine zzW ?_ | refine zzI ?_ | refine zzR ?_ | refine zzB ?_ | refine late_ok rfl rfl ?_ | refine src_ok rfl ?_ | refine LitB.data ?_ | refine BoxB.own ?_); conv => whnf)))
  refine awp_while tab_ok (σ := Nat × List Int × Int) (fun | (k, out, c) => ([intsS a, intsS b, J, J, J, ownI 0 out, intS .i64 c, intS .i64 k, J, J, J, J, J, J, J, J, J, J, J, J, J, J, J, J, J, J, J, J, J, J, J, J, J, J, J, J, J, J, J, J, J, J, J], [intsB out])) (fun x => PluI a b x.1 x.2.1 x.2.2) (fun x => max a.length b.length + 1 - x.1) (0, [], 0) [none]
    (PluI.init a b) ⟨rfl, rfl, ⟨⟨rfl, rfl⟩, trivial⟩, ⟨ent_t rfl, ent_t rfl, ⟨rfl, rfl, rfl⟩, rfl, rfl, trivial⟩⟩ ?_
  rintro ⟨k, out, c⟩ hI
  have hI : PluI a b k out c := hI
  have hlen := hI.len
  have hle := hI.le
  have hc0 := hI.c0
  have hc1 := hI.c1
  have hda := ha.dat k
  have hdb := hb.dat k
  have d1 := r_digit a k (by omega)
  have d2 := r_digit b k (by omega)
  have hm : (dat a k + dat b k + c).tmod 1048576 = (dat a k + dat b k + c) % 1048576 := Int.tmod_eq_emod_of_nonneg (by omega)
  have hd : (dat a k + dat b k + c).tdiv 1048576 = (dat a k + dat b k + c) / 1048576 := Int.tdiv_eq_ediv_of_nonneg (by omega)
  by_cases hgo : k < a.length ∨ k < b.length ∨ 0 < c
  · have hst := hI.step ha hb hgo
    have hk2 := hst.le
    conv => whnf
    (repeat' (first | ((refine DecB.mk (fun h => ?_) (fun h => ?_)) <;> first | (exfalso; omega) | (conv => whnf)) | ((refine BoolB.mk (fun h => ?_) (fun h => ?_)) <;> first | (exact absurd h (by decide)) | (conv => whnf)) | ((first | refine zzW ?_ | refine zzI ?_ | refine zzR ?_ | refine zzB ?_ | refine late_ok rfl rfl ?_ | refine src_ok rfl ?_ | refine .inl ⟨_, _, qcall_pure (d1) rfl rfl, ?_⟩ | refine .inl ⟨_, _, qcall_pure (d2) rfl rfl, ?_⟩ | refine .inl ⟨_, _, qcall_pure (toC) rfl rfl, ?_⟩ | refine .inl ⟨_, _, qcall_pure (toC) rfl rfl, ?_⟩ | refine app_ok (by simp [toC]) (by simp [toC]; omega) ?_ | refine ⟨by decide, _, wrap_eq hd (by omega) (by omega), ?_⟩ | refine ne_ok (by decide) ?_ | refine LitB.data ?_ | refine BoxB.own ?_); conv => whnf)))
    all_goals try (exfalso; omega)
    all_goals
      refine ⟨[some 1], (k + 1, out ++ [(dat a k + dat b k + c) % 1048576], (dat a k + dat b k + c) / 1048576), ⟨rfl, rfl, ⟨entB_rows rfl rfl rfl ?_ rfl, trivial⟩, ⟨rfl, rfl, ent_own rfl (by simp [toC]), rfl, ent_i (by omega), trivial⟩⟩, hst, ?_⟩
      · have e : ∀ y : Int, y = (dat a k + dat b k + c) % 1048576 → (toC (out.map intRow)).take out.length ++ toC [[ti y]] = toC ((out ++ [(dat a k + dat b k + c) % 1048576]).map intRow) := fun y hy => by rw [hy]; exact toC_app1
        exact e _ (by omega)
      · show max a.length b.length + 1 - (k + 1) < max a.length b.length + 1 - k
        omega
  · have hf := hI.fin (by omega) (by omega) (by omega)
    have t := r_trim out (by omega)
    rw [hf] at t
    conv => whnf
    (repeat' (first | ((refine DecB.mk (fun h => ?_) (fun h => ?_)) <;> first | (exfalso; omega) | (conv => whnf)) | ((refine BoolB.mk (fun h => ?_) (fun h => ?_)) <;> first | (exact absurd h (by decide)) | (conv => whnf)) | ((first | refine zzW ?_ | refine zzI ?_ | refine zzR ?_ | refine zzB ?_ | refine late_ok rfl rfl ?_ | refine src_ok rfl ?_ | refine .inl ⟨_, _, qcall_pure (0) rfl rfl, ?_⟩ | refine .inr ⟨_, _, acall_freeze [0] t ⟨vs_c (vc_all (by simp) rfl (by intro h; cases h) rfl rfl (by simp)), trivial⟩ rfl, ?_⟩ | refine LitB.data ?_ | refine BoxB.own ?_); conv => whnf)))
    all_goals first
      | (exfalso; omega)
      | exact fin_d rfl
theorem r_plusD (m n : Nat) (lm : (dg m).length ≤ 300000) (ln : (dg n).length ≤ 300000) : ACall Tryz.prog 156 [intsS (dg m), intsS (dg n)] [] (intsS (dg (m + n))) [] := by
  have h := r_plus (dg m) (dg n) (okd_dg m) (okd_dg n) (by omega) (by omega)
  rw [val_dg, val_dg, show ((m : Int) + n).toNat = m + n by omega] at h
  exact h
theorem r_minusD (m n : Nat) (lm : (dg m).length ≤ 300000) (h : n ≤ m) : ACall Tryz.prog 154 [intsS (dg m), intsS (dg n)] [] (intsS (dg (m - n))) [] := by
  have h := r_minus (dg m) (dg n) (okd_dg m) (okd_dg n) (by omega) (dg_len_mono h) (by rw [val_dg, val_dg]; omega)
  rw [val_dg, val_dg, show ((m : Int) - n).toNat = m - n by omega] at h
  exact h
theorem r_lessD (m n : Nat) (lm : (dg m).length ≤ 300000) (ln : (dg n).length ≤ 300000) : ACall Tryz.prog 131 [intsS (dg m), intsS (dg n)] [] (boolS (decide (m < n))) [] := by
  have h := r_less (dg m) (dg n) (okd_dg m) (okd_dg n) (by omega) (by omega)
  rw [val_dg, val_dg, show decide ((m : Int) < n) = decide (m < n) by simp] at h
  exact h
theorem r4Rt (s : Int) (m : Nat) (h : Sg s m) (lm : (dg m).length ≤ 300000) : ACall Tryz.prog 98 [bgS ⟨s, dg m⟩] [] (boolS true) [] := by
  have := r_bigRight ⟨s, dg m⟩ (show (dg m).length ≤ 1000000 by omega)
  rw [← bz_of_sg h, bz_right, bz_of_sg h] at this
  exact this
theorem r4Neg (x : Int) (lx : bl x ≤ 300000) : ACall Tryz.prog 139 [bgS (bz x)] [] (bgS (bz (-x))) [] := by
  have r := r4Right x lx
  have hs := sign_cases x
  have hsg : (bz x).sg = x.sign := rfl
  have sg := r_madeD (0 - (bz x).sg) x.natAbs (by omega) (by unfold bl at lx; omega)
  rw [show (0 - (bz x).sg) * (x.natAbs : Int) = -x by rw [hsg]; have := sgm x; grind] at sg
  (refine acall_of tab_ok Tryz.func139 rfl (by decide) ?_; (conv => whnf); repeat (first | (refine LitB.data ?_; conv => whnf) | (refine BoxB.data ?_; conv => whnf)))
  (repeat' (first | ((refine DecB.mk (fun h => ?_) (fun h => ?_)) <;> first | (exfalso; omega) | (conv => whnf)) | ((refine BoolB.mk (fun h => ?_) (fun h => ?_)) <;> first | (exact absurd h (by decide)) | (conv => whnf)) | ((first | refine zzW ?_ | refine zzI ?_ | refine zzR ?_ | refine zzB ?_ | refine late_ok rfl rfl ?_ | refine src_ok rfl ?_ | refine .inl ⟨_, _, qcall_pure (r) rfl rfl, ?_⟩ | refine .inl ⟨_, _, qcall_pure (sg) rfl rfl, ?_⟩ | refine LitB.data ?_ | refine BoxB.own ?_); conv => whnf)))
  all_goals first
    | (exfalso; simp_all; done)
    | exact fin_t ⟨rfl, rfl, trivial⟩
end Go.Proofs.YtfieodjihaodiaaGreat
/- Reference of big: Same, Add, Sub, Mul, Compare. -/
namespace Go.Proofs.YtfieodjihaodiaaGreat
open Go.RowKit
set_option linter.unusedVariables false
set_option linter.unusedSimpArgs false
set_option maxRecDepth 100000

theorem take_snocR {α : Type} {l : List α} {k : Nat} {x : α} (h : l[k]? = some x) : l.take (k + 1) = l.take k ++ [x] := by
  rw [List.take_add_one, h]; rfl
theorem r4Same (a b : Bg) (ha : a.dl.length ≤ 1000000) (hb : b.dl.length ≤ 1000000) : ACall Tryz.prog 130 [bgS a, bgS b] [] (boolS (decide (a.sg = b.sg ∧ a.dl = b.dl))) [] := by
  have l1 : (a.dl.map intRow).length = a.dl.length := by simp
  have l2 : (b.dl.map intRow).length = b.dl.length := by simp
  by_cases h0 : ¬ (a.sg = b.sg ∧ a.dl.length = b.dl.length)
  · (refine acall_of tab_ok Tryz.func130 rfl (by decide) ?_; (conv => whnf); repeat (first | (refine LitB.data ?_; conv => whnf) | (refine BoxB.data ?_; conv => whnf)))
    (repeat' (first | ((refine DecB.mk (fun h => ?_) (fun h => ?_)) <;> first | (exfalso; omega) | (conv => whnf)) | ((refine BoolB.mk (fun h => ?_) (fun h => ?_)) <;> first | (exact absurd h (by decide)) | (conv => whnf)) | ((first | refine zzW ?_ | refine zzI ?_ | refine zzR ?_ | refine zzB ?_ | refine late_ok rfl rfl ?_ | refine src_ok rfl ?_ | refine LitB.data ?_ | refine BoxB.own ?_); conv => whnf)))
    all_goals first
      | (exfalso; omega)
      | (refine fin_bool (decide_eq_false ?_).symm; rintro ⟨h1, h2⟩; rw [h2] at h0; exact h0 ⟨h1, rfl⟩)
  have h0 : a.sg = b.sg ∧ a.dl.length = b.dl.length := Decidable.not_not.1 h0
  (refine acall_of tab_ok Tryz.func130 rfl (by decide) ?_; (conv => whnf); repeat (first | (refine LitB.data ?_; conv => whnf) | (refine BoxB.data ?_; conv => whnf)))
  (repeat' (first | ((refine DecB.mk (fun h => ?_) (fun h => ?_)) <;> first | (exfalso; omega) | (conv => whnf)) | ((refine BoolB.mk (fun h => ?_) (fun h => ?_)) <;> first | (exact absurd h (by decide)) | (conv => whnf)) | ((first | refine zzW ?_ | refine zzI ?_ | refine zzR ?_ | refine zzB ?_ | refine late_ok rfl rfl ?_ | refine src_ok rfl ?_ | refine LitB.data ?_ | refine BoxB.own ?_); conv => whnf)))
  all_goals try (exfalso; omega)
  refine awp_for tab_ok (fun k => ([J, J, S.c (C.t (T.ptr [ti a.sg, intsT a.dl])), S.c (C.t (T.ptr [ti b.sg, intsT b.dl])), J, intS .i64 k, J, J, J, J, J, J, J, J, J, J, J, J, J, J, J, J, J, J, J, J, J, J, J, J, J, J, J, J, J, J, J, J], [])) a.dl.length (fun k => a.dl.take k = b.dl.take k) [] rfl
    ⟨rfl, rfl, trivial, ⟨rfl, rfl, rfl, trivial⟩⟩ ?_
  intro k hk hI
  by_cases hlt : k < a.dl.length
  · obtain ⟨x, hx⟩ : ∃ x, a.dl[k]? = some x := ⟨_, List.getElem?_eq_getElem hlt⟩
    obtain ⟨y, hy⟩ : ∃ y, b.dl[k]? = some y := ⟨_, List.getElem?_eq_getElem (by omega)⟩
    conv => whnf
    (repeat' (first | ((refine DecB.mk (fun h => ?_) (fun h => ?_)) <;> first | (exfalso; omega) | (conv => whnf)) | ((refine BoolB.mk (fun h => ?_) (fun h => ?_)) <;> first | (exact absurd h (by decide)) | (conv => whnf)) | ((first | refine zzW ?_ | refine zzI ?_ | refine zzR ?_ | refine zzB ?_ | refine late_ok rfl rfl ?_ | refine src_ok rfl ?_ | refine ex_row hx ?_ | refine ex_row hy ?_ | refine LitB.data ?_ | refine BoxB.own ?_); conv => whnf)))
    · have hne : x ≠ y := ‹x ≠ y›
      refine fin_bool (decide_eq_false ?_).symm
      rintro ⟨_, hq⟩; rw [hq, hy] at hx; injection hx with hx; exact hne hx.symm
    · have hxy : x = y := by omega
      refine ⟨hlt, ?_, [], rfl, rfl, trivial, ⟨rfl, rfl, rfl, trivial⟩⟩
      rw [take_snocR hx, take_snocR hy, hI, hxy]
    all_goals (exfalso; omega)
  · rw [List.take_of_length_le (by omega), List.take_of_length_le (by omega)] at hI
    conv => whnf
    (repeat' (first | ((refine DecB.mk (fun h => ?_) (fun h => ?_)) <;> first | (exfalso; omega) | (conv => whnf)) | ((refine BoolB.mk (fun h => ?_) (fun h => ?_)) <;> first | (exact absurd h (by decide)) | (conv => whnf)) | ((first | refine zzW ?_ | refine zzI ?_ | refine zzR ?_ | refine zzB ?_ | refine late_ok rfl rfl ?_ | refine src_ok rfl ?_ | refine LitB.data ?_ | refine BoxB.own ?_); conv => whnf)))
    all_goals first
      | (exfalso; omega)
      | exact fin_bool (decide_eq_true ⟨h0.1, hI⟩).symm
theorem orS00 : IsBits .or .i64 0 0 0 := by show (0 : Int) = _; decide +kernel
theorem orS01 : IsBits .or .i64 0 1 1 := by show (1 : Int) = _; decide +kernel
theorem orS10 : IsBits .or .i64 1 0 1 := by show (1 : Int) = _; decide +kernel
theorem orS11 : IsBits .or .i64 1 1 1 := by show (1 : Int) = _; decide +kernel
theorem orS0m : IsBits .or .i64 0 (-1) (-1) := by show (-1 : Int) = _; decide +kernel
theorem orSm0 : IsBits .or .i64 (-1) 0 (-1) := by show (-1 : Int) = _; decide +kernel
theorem orSmm : IsBits .or .i64 (-1) (-1) (-1) := by show (-1 : Int) = _; decide +kernel
set_option maxHeartbeats 4000000 in
theorem r4AddS (s t : Int) (m n : Nat) (hs : Sg s m) (ht : Sg t n) (lm : (dg m).length ≤ 200000) (ln : (dg n).length ≤ 200000) :
    ACall Tryz.prog 160 [bgS ⟨s, dg m⟩, bgS ⟨t, dg n⟩] [] (.tup [bgS (bz (s * m + t * n)), intS .i64 0]) [] := by
  have r1 := r4Rt s m hs (by omega)
  have r2 := r4Rt t n ht (by omega)
  have ad := r_plusD m n (by omega) (by omega)
  have c := r_lessD m n (by omega) (by omega)
  have ls := dg_add_len m n
  have fin : ∀ (z : Int) (H1 : Hp), z = s * m + t * n → Fin 0 (.tup [bgS (bz z), intS .i64 0]) H1 (.tup [bgS (bz (s * m + t * n)), intS .i64 0]) [] := fun z H1 h => fin_be (by rw [h])
  rcases hs with ⟨rfl, rfl⟩ | ⟨rfl, h1⟩ | ⟨rfl, h1⟩ <;> rcases ht with ⟨rfl, rfl⟩ | ⟨rfl, h2⟩ | ⟨rfl, h2⟩
  case inl.inl =>
    have sg := r_madeD (0) _ (by omega) (le_of_len ls (by omega))
    (refine acall_of tab_ok Tryz.func160 rfl (by decide) ?_; (conv => whnf); repeat (first | (refine LitB.data ?_; conv => whnf) | (refine BoxB.data ?_; conv => whnf)))
    (repeat' (first | ((refine DecB.mk (fun h => ?_) (fun h => ?_)) <;> first | (exfalso; omega) | (conv => whnf)) | ((refine BoolB.mk (fun h => ?_) (fun h => ?_)) <;> first | (exact absurd h (by decide)) | (conv => whnf)) | ((first | refine zzW ?_ | refine zzI ?_ | refine zzR ?_ | refine zzB ?_ | refine late_ok rfl rfl ?_ | refine src_ok rfl ?_ | refine .inl ⟨_, _, qcall_pure (r1) rfl rfl, ?_⟩ | refine .inl ⟨_, _, qcall_pure (r2) rfl rfl, ?_⟩ | refine .inl ⟨_, _, qcall_pure (ad) rfl rfl, ?_⟩ | refine .inl ⟨_, _, qcall_pure (sg) rfl rfl, ?_⟩ | refine ⟨_, orS00, ?_⟩ | refine LitB.data ?_ | refine BoxB.own ?_); conv => whnf)))
    all_goals first | (exfalso; omega) | (exfalso; simp_all; done) | exact fin _ _ (by omega)
  case inl.inr.inl =>
    have sg := r_madeD (1) _ (by omega) (le_of_len ls (by omega))
    (refine acall_of tab_ok Tryz.func160 rfl (by decide) ?_; (conv => whnf); repeat (first | (refine LitB.data ?_; conv => whnf) | (refine BoxB.data ?_; conv => whnf)))
    (repeat' (first | ((refine DecB.mk (fun h => ?_) (fun h => ?_)) <;> first | (exfalso; omega) | (conv => whnf)) | ((refine BoolB.mk (fun h => ?_) (fun h => ?_)) <;> first | (exact absurd h (by decide)) | (conv => whnf)) | ((first | refine zzW ?_ | refine zzI ?_ | refine zzR ?_ | refine zzB ?_ | refine late_ok rfl rfl ?_ | refine src_ok rfl ?_ | refine .inl ⟨_, _, qcall_pure (r1) rfl rfl, ?_⟩ | refine .inl ⟨_, _, qcall_pure (r2) rfl rfl, ?_⟩ | refine .inl ⟨_, _, qcall_pure (ad) rfl rfl, ?_⟩ | refine .inl ⟨_, _, qcall_pure (sg) rfl rfl, ?_⟩ | refine ⟨_, orS01, ?_⟩ | refine LitB.data ?_ | refine BoxB.own ?_); conv => whnf)))
    all_goals first | (exfalso; omega) | (exfalso; simp_all; done) | exact fin _ _ (by omega)
  case inl.inr.inr =>
    have sg := r_madeD (-1) _ (by omega) (le_of_len ls (by omega))
    (refine acall_of tab_ok Tryz.func160 rfl (by decide) ?_; (conv => whnf); repeat (first | (refine LitB.data ?_; conv => whnf) | (refine BoxB.data ?_; conv => whnf)))
    (repeat' (first | ((refine DecB.mk (fun h => ?_) (fun h => ?_)) <;> first | (exfalso; omega) | (conv => whnf)) | ((refine BoolB.mk (fun h => ?_) (fun h => ?_)) <;> first | (exact absurd h (by decide)) | (conv => whnf)) | ((first | refine zzW ?_ | refine zzI ?_ | refine zzR ?_ | refine zzB ?_ | refine late_ok rfl rfl ?_ | refine src_ok rfl ?_ | refine .inl ⟨_, _, qcall_pure (r1) rfl rfl, ?_⟩ | refine .inl ⟨_, _, qcall_pure (r2) rfl rfl, ?_⟩ | refine .inl ⟨_, _, qcall_pure (ad) rfl rfl, ?_⟩ | refine .inl ⟨_, _, qcall_pure (sg) rfl rfl, ?_⟩ | refine ⟨_, orS0m, ?_⟩ | refine LitB.data ?_ | refine BoxB.own ?_); conv => whnf)))
    all_goals first | (exfalso; omega) | (exfalso; simp_all; done) | exact fin _ _ (by omega)
  case inr.inl.inl =>
    have sg := r_madeD (1) _ (by omega) (le_of_len ls (by omega))
    (refine acall_of tab_ok Tryz.func160 rfl (by decide) ?_; (conv => whnf); repeat (first | (refine LitB.data ?_; conv => whnf) | (refine BoxB.data ?_; conv => whnf)))
    (repeat' (first | ((refine DecB.mk (fun h => ?_) (fun h => ?_)) <;> first | (exfalso; omega) | (conv => whnf)) | ((refine BoolB.mk (fun h => ?_) (fun h => ?_)) <;> first | (exact absurd h (by decide)) | (conv => whnf)) | ((first | refine zzW ?_ | refine zzI ?_ | refine zzR ?_ | refine zzB ?_ | refine late_ok rfl rfl ?_ | refine src_ok rfl ?_ | refine .inl ⟨_, _, qcall_pure (r1) rfl rfl, ?_⟩ | refine .inl ⟨_, _, qcall_pure (r2) rfl rfl, ?_⟩ | refine .inl ⟨_, _, qcall_pure (ad) rfl rfl, ?_⟩ | refine .inl ⟨_, _, qcall_pure (sg) rfl rfl, ?_⟩ | refine ⟨_, orS10, ?_⟩ | refine LitB.data ?_ | refine BoxB.own ?_); conv => whnf)))
    all_goals first | (exfalso; omega) | (exfalso; simp_all; done) | exact fin _ _ (by omega)
  case inr.inr.inl =>
    have sg := r_madeD (-1) _ (by omega) (le_of_len ls (by omega))
    (refine acall_of tab_ok Tryz.func160 rfl (by decide) ?_; (conv => whnf); repeat (first | (refine LitB.data ?_; conv => whnf) | (refine BoxB.data ?_; conv => whnf)))
    (repeat' (first | ((refine DecB.mk (fun h => ?_) (fun h => ?_)) <;> first | (exfalso; omega) | (conv => whnf)) | ((refine BoolB.mk (fun h => ?_) (fun h => ?_)) <;> first | (exact absurd h (by decide)) | (conv => whnf)) | ((first | refine zzW ?_ | refine zzI ?_ | refine zzR ?_ | refine zzB ?_ | refine late_ok rfl rfl ?_ | refine src_ok rfl ?_ | refine .inl ⟨_, _, qcall_pure (r1) rfl rfl, ?_⟩ | refine .inl ⟨_, _, qcall_pure (r2) rfl rfl, ?_⟩ | refine .inl ⟨_, _, qcall_pure (ad) rfl rfl, ?_⟩ | refine .inl ⟨_, _, qcall_pure (sg) rfl rfl, ?_⟩ | refine ⟨_, orSm0, ?_⟩ | refine LitB.data ?_ | refine BoxB.own ?_); conv => whnf)))
    all_goals first | (exfalso; omega) | (exfalso; simp_all; done) | exact fin _ _ (by omega)
  case inr.inl.inr.inl =>
    have sg := r_madeD (1) _ (by omega) (le_of_len ls (by omega))
    (refine acall_of tab_ok Tryz.func160 rfl (by decide) ?_; (conv => whnf); repeat (first | (refine LitB.data ?_; conv => whnf) | (refine BoxB.data ?_; conv => whnf)))
    (repeat' (first | ((refine DecB.mk (fun h => ?_) (fun h => ?_)) <;> first | (exfalso; omega) | (conv => whnf)) | ((refine BoolB.mk (fun h => ?_) (fun h => ?_)) <;> first | (exact absurd h (by decide)) | (conv => whnf)) | ((first | refine zzW ?_ | refine zzI ?_ | refine zzR ?_ | refine zzB ?_ | refine late_ok rfl rfl ?_ | refine src_ok rfl ?_ | refine .inl ⟨_, _, qcall_pure (r1) rfl rfl, ?_⟩ | refine .inl ⟨_, _, qcall_pure (r2) rfl rfl, ?_⟩ | refine .inl ⟨_, _, qcall_pure (ad) rfl rfl, ?_⟩ | refine .inl ⟨_, _, qcall_pure (sg) rfl rfl, ?_⟩ | refine ⟨_, orS11, ?_⟩ | refine LitB.data ?_ | refine BoxB.own ?_); conv => whnf)))
    all_goals first | (exfalso; omega) | (exfalso; simp_all; done) | exact fin _ _ (by omega)
  case inr.inr.inr.inr =>
    have sg := r_madeD (-1) _ (by omega) (le_of_len ls (by omega))
    (refine acall_of tab_ok Tryz.func160 rfl (by decide) ?_; (conv => whnf); repeat (first | (refine LitB.data ?_; conv => whnf) | (refine BoxB.data ?_; conv => whnf)))
    (repeat' (first | ((refine DecB.mk (fun h => ?_) (fun h => ?_)) <;> first | (exfalso; omega) | (conv => whnf)) | ((refine BoolB.mk (fun h => ?_) (fun h => ?_)) <;> first | (exact absurd h (by decide)) | (conv => whnf)) | ((first | refine zzW ?_ | refine zzI ?_ | refine zzR ?_ | refine zzB ?_ | refine late_ok rfl rfl ?_ | refine src_ok rfl ?_ | refine .inl ⟨_, _, qcall_pure (r1) rfl rfl, ?_⟩ | refine .inl ⟨_, _, qcall_pure (r2) rfl rfl, ?_⟩ | refine .inl ⟨_, _, qcall_pure (ad) rfl rfl, ?_⟩ | refine .inl ⟨_, _, qcall_pure (sg) rfl rfl, ?_⟩ | refine ⟨_, orSmm, ?_⟩ | refine LitB.data ?_ | refine BoxB.own ?_); conv => whnf)))
    all_goals first | (exfalso; omega) | (exfalso; simp_all; done) | exact fin _ _ (by omega)
  case inr.inl.inr.inr =>
    rcases Nat.lt_or_ge m n with hmn | hmn
    · rw [decide_eq_true hmn] at c
      have l3 := dg_len_mono (Nat.sub_le n m)
      (refine acall_of tab_ok Tryz.func160 rfl (by decide) ?_; (conv => whnf); repeat (first | (refine LitB.data ?_; conv => whnf) | (refine BoxB.data ?_; conv => whnf)))
      (repeat' (first | ((refine DecB.mk (fun h => ?_) (fun h => ?_)) <;> first | (exfalso; omega) | (conv => whnf)) | ((refine BoolB.mk (fun h => ?_) (fun h => ?_)) <;> first | (exact absurd h (by decide)) | (conv => whnf)) | ((first | refine zzW ?_ | refine zzI ?_ | refine zzR ?_ | refine zzB ?_ | refine late_ok rfl rfl ?_ | refine src_ok rfl ?_ | refine .inl ⟨_, _, qcall_pure (r1) rfl rfl, ?_⟩ | refine .inl ⟨_, _, qcall_pure (r2) rfl rfl, ?_⟩ | refine .inl ⟨_, _, qcall_pure (c) rfl rfl, ?_⟩ | refine .inl ⟨_, _, qcall_pure (r_minusD n m (by omega) (by omega)) rfl rfl, ?_⟩ | refine .inl ⟨_, _, qcall_pure (r_madeD (-1) (n - m) (by omega) (by omega)) rfl rfl, ?_⟩ | refine LitB.data ?_ | refine BoxB.own ?_); conv => whnf)))
      all_goals first | (exfalso; omega) | (exfalso; simp_all; done) | exact fin _ _ (by omega)
    · rw [decide_eq_false (Nat.not_lt.2 hmn)] at c
      have l3 := dg_len_mono (Nat.sub_le m n)
      (refine acall_of tab_ok Tryz.func160 rfl (by decide) ?_; (conv => whnf); repeat (first | (refine LitB.data ?_; conv => whnf) | (refine BoxB.data ?_; conv => whnf)))
      (repeat' (first | ((refine DecB.mk (fun h => ?_) (fun h => ?_)) <;> first | (exfalso; omega) | (conv => whnf)) | ((refine BoolB.mk (fun h => ?_) (fun h => ?_)) <;> first | (exact absurd h (by decide)) | (conv => whnf)) | ((first | refine zzW ?_ | refine zzI ?_ | refine zzR ?_ | refine zzB ?_ | refine late_ok rfl rfl ?_ | refine src_ok rfl ?_ | refine .inl ⟨_, _, qcall_pure (r1) rfl rfl, ?_⟩ | refine .inl ⟨_, _, qcall_pure (r2) rfl rfl, ?_⟩ | refine .inl ⟨_, _, qcall_pure (c) rfl rfl, ?_⟩ | refine .inl ⟨_, _, qcall_pure (r_minusD m n (by omega) (by omega)) rfl rfl, ?_⟩ | refine .inl ⟨_, _, qcall_pure (r_madeD (1) (m - n) (by omega) (by omega)) rfl rfl, ?_⟩ | refine LitB.data ?_ | refine BoxB.own ?_); conv => whnf)))
      all_goals first | (exfalso; omega) | (exfalso; simp_all; done) | exact fin _ _ (by omega)
  case inr.inr.inr.inl =>
    rcases Nat.lt_or_ge m n with hmn | hmn
    · rw [decide_eq_true hmn] at c
      have l3 := dg_len_mono (Nat.sub_le n m)
      (refine acall_of tab_ok Tryz.func160 rfl (by decide) ?_; (conv => whnf); repeat (first | (refine LitB.data ?_; conv => whnf) | (refine BoxB.data ?_; conv => whnf)))
      (repeat' (first | ((refine DecB.mk (fun h => ?_) (fun h => ?_)) <;> first | (exfalso; omega) | (conv => whnf)) | ((refine BoolB.mk (fun h => ?_) (fun h => ?_)) <;> first | (exact absurd h (by decide)) | (conv => whnf)) | ((first | refine zzW ?_ | refine zzI ?_ | refine zzR ?_ | refine zzB ?_ | refine late_ok rfl rfl ?_ | refine src_ok rfl ?_ | refine .inl ⟨_, _, qcall_pure (r1) rfl rfl, ?_⟩ | refine .inl ⟨_, _, qcall_pure (r2) rfl rfl, ?_⟩ | refine .inl ⟨_, _, qcall_pure (c) rfl rfl, ?_⟩ | refine .inl ⟨_, _, qcall_pure (r_minusD n m (by omega) (by omega)) rfl rfl, ?_⟩ | refine .inl ⟨_, _, qcall_pure (r_madeD (1) (n - m) (by omega) (by omega)) rfl rfl, ?_⟩ | refine LitB.data ?_ | refine BoxB.own ?_); conv => whnf)))
      all_goals first | (exfalso; omega) | (exfalso; simp_all; done) | exact fin _ _ (by omega)
    · rw [decide_eq_false (Nat.not_lt.2 hmn)] at c
      have l3 := dg_len_mono (Nat.sub_le m n)
      (refine acall_of tab_ok Tryz.func160 rfl (by decide) ?_; (conv => whnf); repeat (first | (refine LitB.data ?_; conv => whnf) | (refine BoxB.data ?_; conv => whnf)))
      (repeat' (first | ((refine DecB.mk (fun h => ?_) (fun h => ?_)) <;> first | (exfalso; omega) | (conv => whnf)) | ((refine BoolB.mk (fun h => ?_) (fun h => ?_)) <;> first | (exact absurd h (by decide)) | (conv => whnf)) | ((first | refine zzW ?_ | refine zzI ?_ | refine zzR ?_ | refine zzB ?_ | refine late_ok rfl rfl ?_ | refine src_ok rfl ?_ | refine .inl ⟨_, _, qcall_pure (r1) rfl rfl, ?_⟩ | refine .inl ⟨_, _, qcall_pure (r2) rfl rfl, ?_⟩ | refine .inl ⟨_, _, qcall_pure (c) rfl rfl, ?_⟩ | refine .inl ⟨_, _, qcall_pure (r_minusD m n (by omega) (by omega)) rfl rfl, ?_⟩ | refine .inl ⟨_, _, qcall_pure (r_madeD (-1) (m - n) (by omega) (by omega)) rfl rfl, ?_⟩ | refine LitB.data ?_ | refine BoxB.own ?_); conv => whnf)))
      all_goals first | (exfalso; omega) | (exfalso; simp_all; done) | exact fin _ _ (by omega)
theorem r4Add (x y : Int) (lx : bl x ≤ 200000) (ly : bl y ≤ 200000) : ACall Tryz.prog 160 [bgS (bz x), bgS (bz y)] [] (.tup [bgS (bz (x + y)), intS .i64 0]) [] := by
  have h := r4AddS _ _ _ _ (sg_bz x) (sg_bz y) lx ly
  rw [sgm, sgm] at h
  exact h
set_option maxHeartbeats 2000000 in
theorem r4Sub (x y : Int) (lx : bl x ≤ 200000) (ly : bl y ≤ 200000) : ACall Tryz.prog 159 [bgS (bz x), bgS (bz y)] [] (.tup [bgS (bz (x - y)), intS .i64 0]) [] := by
  have r := r4Right y (by omega)
  have n := r4Neg y (by omega)
  have a := r4Add x (-y) lx (by rw [bl_neg]; exact ly)
  rw [← Int.sub_eq_add_neg] at a
  (refine acall_of tab_ok Tryz.func159 rfl (by decide) ?_; (conv => whnf); repeat (first | (refine LitB.data ?_; conv => whnf) | (refine BoxB.data ?_; conv => whnf)))
  (repeat' (first | ((refine DecB.mk (fun h => ?_) (fun h => ?_)) <;> first | (exfalso; omega) | (conv => whnf)) | ((refine BoolB.mk (fun h => ?_) (fun h => ?_)) <;> first | (exact absurd h (by decide)) | (conv => whnf)) | ((first | refine zzW ?_ | refine zzI ?_ | refine zzR ?_ | refine zzB ?_ | refine late_ok rfl rfl ?_ | refine src_ok rfl ?_ | refine .inl ⟨_, _, qcall_pure (r) rfl rfl, ?_⟩ | refine .inl ⟨_, _, qcall_pure (n) rfl rfl, ?_⟩ | refine .inl ⟨_, _, qcall_pure (a) rfl rfl, ?_⟩ | refine .inl ⟨_, _, qcall_pure (6) rfl rfl, ?_⟩ | refine .inl ⟨_, _, qcall_pure (1) rfl rfl, ?_⟩ | refine bar_late [6] (by decide +kernel) (by decide +kernel) ?_ | refine bar_late [1] (by decide +kernel) (by decide +kernel) ?_ | refine LitB.data ?_ | refine BoxB.own ?_); conv => whnf)))
  all_goals first
    | (exfalso; simp_all; done)
    | exact fin_be rfl
theorem r4MulS (s t : Int) (m n : Nat) (hs : Sg s m) (ht : Sg t n) (lm : (dg m).length ≤ 200000) (ln : (dg n).length ≤ 200000) :
    ACall Tryz.prog 158 [bgS ⟨s, dg m⟩, bgS ⟨t, dg n⟩] [] (.tup [bgS (bz ((s * t) * (m * n : Nat))), intS .i64 0]) [] := by
  have r1 := r4Rt s m hs (by omega)
  have r2 := r4Rt t n ht (by omega)
  have mu := r_timesD m n (by omega) (by omega)
  have ls := dg_mul_len m n
  have hst : -1 ≤ s * t ∧ s * t ≤ 1 ∧ (s * t = 1 ∨ s * t = -1 ∨ m * n = 0) := by
    rcases hs with ⟨rfl, rfl⟩ | ⟨rfl, h1⟩ | ⟨rfl, h1⟩ <;> rcases ht with ⟨rfl, rfl⟩ | ⟨rfl, h2⟩ | ⟨rfl, h2⟩ <;> simp
  obtain ⟨q1, q2, q3⟩ := hst
  have sg := r_madeD (s * t) (m * n) q3 (by omega)
  (refine acall_of tab_ok Tryz.func158 rfl (by decide) ?_; (conv => whnf); repeat (first | (refine LitB.data ?_; conv => whnf) | (refine BoxB.data ?_; conv => whnf)))
  (repeat' (first | ((refine DecB.mk (fun h => ?_) (fun h => ?_)) <;> first | (exfalso; omega) | (conv => whnf)) | ((refine BoolB.mk (fun h => ?_) (fun h => ?_)) <;> first | (exact absurd h (by decide)) | (conv => whnf)) | ((first | refine zzW ?_ | refine zzI ?_ | refine zzR ?_ | refine zzB ?_ | refine late_ok rfl rfl ?_ | refine src_ok rfl ?_ | refine .inl ⟨_, _, qcall_pure (r1) rfl rfl, ?_⟩ | refine .inl ⟨_, _, qcall_pure (r2) rfl rfl, ?_⟩ | refine .inl ⟨_, _, qcall_pure (mu) rfl rfl, ?_⟩ | refine .inl ⟨_, _, qcall_pure (sg) rfl rfl, ?_⟩ | refine ⟨_, wrap_eq (y := s * t) rfl (by omega) (by omega), ?_⟩ | refine LitB.data ?_ | refine BoxB.own ?_); conv => whnf)))
  all_goals first | (exfalso; simp_all; done) | exact fin_be rfl
theorem r4Mul (x y : Int) (lx : bl x ≤ 200000) (ly : bl y ≤ 200000) : ACall Tryz.prog 158 [bgS (bz x), bgS (bz y)] [] (.tup [bgS (bz (x * y)), intS .i64 0]) [] := by
  have h := r4MulS _ _ _ _ (sg_bz x) (sg_bz y) lx ly
  have e : (x.sign * y.sign) * ((x.natAbs * y.natAbs : Nat) : Int) = x * y := by
    rw [Int.natCast_mul]
    have h1 := sgm x
    have h2 := sgm y
    grind
  rw [e] at h
  exact h
theorem bz_inj2 {x y : Int} (h : (bz x).sg = (bz y).sg ∧ (bz x).dl = (bz y).dl) : x = y := by
  have : bz x = bz y := by
    obtain ⟨h1, h2⟩ := h
    cases hx : bz x with
    | mk a b =>
      cases hy : bz y with
      | mk c d => rw [hx, hy] at h1 h2; simp only at h1 h2; rw [h1, h2]
  rw [← bv_bz x, ← bv_bz y, this]
set_option maxHeartbeats 4000000 in
theorem r4Compare (x y : Int) (lx : bl x ≤ 300000) (ly : bl y ≤ 300000) : ACall Tryz.prog 100 [bgS (bz x), bgS (bz y)] [] (intS .i64 (cmpI x y)) [] := by
  have r1 := r4Right x lx
  have r2 := r4Right y ly
  have hsx : (bz x).sg = x.sign := rfl
  have hsy : (bz y).sg = y.sign := rfl
  have sx := sign_cases x
  have sy := sign_cases y
  have sm := r4Same (bz x) (bz y) (show bl x ≤ 1000000 by omega) (show bl y ≤ 1000000 by omega)
  by_cases he : x = y
  · subst he
    have sm : ACall Tryz.prog 130 [bgS (bz x), bgS (bz x)] [] (boolS true) [] := by rw [show decide ((bz x).sg = (bz x).sg ∧ (bz x).dl = (bz x).dl) = true from decide_eq_true ⟨rfl, rfl⟩] at sm; exact sm
    have e0 : cmpI x x = 0 := by unfold cmpI; rw [if_neg (by omega), if_neg (by omega)]
    rw [e0]
    (refine acall_of tab_ok Tryz.func100 rfl (by decide) ?_; (conv => whnf); repeat (first | (refine LitB.data ?_; conv => whnf) | (refine BoxB.data ?_; conv => whnf)))
    (repeat' (first | ((refine DecB.mk (fun h => ?_) (fun h => ?_)) <;> first | (exfalso; omega) | (conv => whnf)) | ((refine BoolB.mk (fun h => ?_) (fun h => ?_)) <;> first | (exact absurd h (by decide)) | (conv => whnf)) | ((first | refine zzW ?_ | refine zzI ?_ | refine zzR ?_ | refine zzB ?_ | refine late_ok rfl rfl ?_ | refine src_ok rfl ?_ | refine .inl ⟨_, _, qcall_pure (r1) rfl rfl, ?_⟩ | refine .inl ⟨_, _, qcall_pure (r2) rfl rfl, ?_⟩ | refine .inl ⟨_, _, qcall_pure (sm) rfl rfl, ?_⟩ | refine LitB.data ?_ | refine BoxB.own ?_); conv => whnf)))
    all_goals first
      | (exfalso; simp_all; done)
      | exact fin_int rfl
  rw [decide_eq_false (fun h => he (bz_inj2 h))] at sm
  have ls := r_lessD x.natAbs y.natAbs lx ly
  rcases Int.lt_or_gt_of_ne he with hlt | hgt
  · have e1 : cmpI x y = -1 := by unfold cmpI; rw [if_pos hlt]
    rw [e1]
    by_cases hl : x.natAbs < y.natAbs
    · rw [decide_eq_true hl] at ls
      (refine acall_of tab_ok Tryz.func100 rfl (by decide) ?_; (conv => whnf); repeat (first | (refine LitB.data ?_; conv => whnf) | (refine BoxB.data ?_; conv => whnf)))
      (repeat' (first | ((refine DecB.mk (fun h => ?_) (fun h => ?_)) <;> first | (exfalso; omega) | (conv => whnf)) | ((refine BoolB.mk (fun h => ?_) (fun h => ?_)) <;> first | (exact absurd h (by decide)) | (conv => whnf)) | ((first | refine zzW ?_ | refine zzI ?_ | refine zzR ?_ | refine zzB ?_ | refine late_ok rfl rfl ?_ | refine src_ok rfl ?_ | refine .inl ⟨_, _, qcall_pure (r1) rfl rfl, ?_⟩ | refine .inl ⟨_, _, qcall_pure (r2) rfl rfl, ?_⟩ | refine .inl ⟨_, _, qcall_pure (sm) rfl rfl, ?_⟩ | refine .inl ⟨_, _, qcall_pure (ls) rfl rfl, ?_⟩ | refine LitB.data ?_ | refine BoxB.own ?_); conv => whnf)))
      all_goals first
        | (exfalso; omega)
        | (exfalso; simp_all; done)
        | exact fin_int rfl
    · rw [decide_eq_false hl] at ls
      (refine acall_of tab_ok Tryz.func100 rfl (by decide) ?_; (conv => whnf); repeat (first | (refine LitB.data ?_; conv => whnf) | (refine BoxB.data ?_; conv => whnf)))
      (repeat' (first | ((refine DecB.mk (fun h => ?_) (fun h => ?_)) <;> first | (exfalso; omega) | (conv => whnf)) | ((refine BoolB.mk (fun h => ?_) (fun h => ?_)) <;> first | (exact absurd h (by decide)) | (conv => whnf)) | ((first | refine zzW ?_ | refine zzI ?_ | refine zzR ?_ | refine zzB ?_ | refine late_ok rfl rfl ?_ | refine src_ok rfl ?_ | refine .inl ⟨_, _, qcall_pure (r1) rfl rfl, ?_⟩ | refine .inl ⟨_, _, qcall_pure (r2) rfl rfl, ?_⟩ | refine .inl ⟨_, _, qcall_pure (sm) rfl rfl, ?_⟩ | refine .inl ⟨_, _, qcall_pure (ls) rfl rfl, ?_⟩ | refine LitB.data ?_ | refine BoxB.own ?_); conv => whnf)))
      all_goals first
        | (exfalso; omega)
        | (exfalso; simp_all; done)
        | exact fin_int rfl
  · have e1 : cmpI x y = 1 := by unfold cmpI; rw [if_neg (by omega), if_pos (by omega)]
    rw [e1]
    by_cases hl : x.natAbs < y.natAbs
    · rw [decide_eq_true hl] at ls
      (refine acall_of tab_ok Tryz.func100 rfl (by decide) ?_; (conv => whnf); repeat (first | (refine LitB.data ?_; conv => whnf) | (refine BoxB.data ?_; conv => whnf)))
      (repeat' (first | ((refine DecB.mk (fun h => ?_) (fun h => ?_)) <;> first | (exfalso; omega) | (conv => whnf)) | ((refine BoolB.mk (fun h => ?_) (fun h => ?_)) <;> first | (exact absurd h (by decide)) | (conv => whnf)) | ((first | refine zzW ?_ | refine zzI ?_ | refine zzR ?_ | refine zzB ?_ | refine late_ok rfl rfl ?_ | refine src_ok rfl ?_ | refine .inl ⟨_, _, qcall_pure (r1) rfl rfl, ?_⟩ | refine .inl ⟨_, _, qcall_pure (r2) rfl rfl, ?_⟩ | refine .inl ⟨_, _, qcall_pure (sm) rfl rfl, ?_⟩ | refine .inl ⟨_, _, qcall_pure (ls) rfl rfl, ?_⟩ | refine LitB.data ?_ | refine BoxB.own ?_); conv => whnf)))
      all_goals first
        | (exfalso; omega)
        | (exfalso; simp_all; done)
        | exact fin_int rfl
    · rw [decide_eq_false hl] at ls
      (refine acall_of tab_ok Tryz.func100 rfl (by decide) ?_; (conv => whnf); repeat (first | (refine LitB.data ?_; conv => whnf) | (refine BoxB.data ?_; conv => whnf)))
      (repeat' (first | ((refine DecB.mk (fun h => ?_) (fun h => ?_)) <;> first | (exfalso; omega) | (conv => whnf)) | ((refine BoolB.mk (fun h => ?_) (fun h => ?_)) <;> first | (exact absurd h (by decide)) | (conv => whnf)) | ((first | refine zzW ?_ | refine zzI ?_ | refine zzR ?_ | refine zzB ?_ | refine late_ok rfl rfl ?_ | refine src_ok rfl ?_ | refine .inl ⟨_, _, qcall_pure (r1) rfl rfl, ?_⟩ | refine .inl ⟨_, _, qcall_pure (r2) rfl rfl, ?_⟩ | refine .inl ⟨_, _, qcall_pure (sm) rfl rfl, ?_⟩ | refine .inl ⟨_, _, qcall_pure (ls) rfl rfl, ?_⟩ | refine LitB.data ?_ | refine BoxB.own ?_); conv => whnf)))
      all_goals first
        | (exfalso; omega)
        | (exfalso; simp_all; done)
        | exact fin_int rfl
end Go.Proofs.YtfieodjihaodiaaGreat
/- Reference of frac: Right, Add, Sub, Mul, Sign, Compare. -/
namespace Go.Proofs.YtfieodjihaodiaaGreat
open Go.RowKit
set_option linter.unusedVariables false
set_option linter.unusedSimpArgs false
set_option maxRecDepth 100000

theorem cmpI_zero {x y : Int} : cmpI x y = 0 ↔ x = y := by unfold cmpI; split <;> (try split) <;> omega
theorem r5Right (f : Fr) (lp : f.p.dl.length ≤ 200000) (lq : f.q.dl.length ≤ 200000) : ACall Tryz.prog 65 [frS f] [] (boolS (rightF f)) [] := by
  obtain ⟨p, q⟩ := f
  simp only at lp lq
  have r1 := r_bigRight p (by omega)
  have r2 := r_bigRight q (by omega)
  cases hp : rightB p with
  | false =>
    rw [hp] at r1
    (refine acall_of tab_ok Tryz.func65 rfl (by decide) ?_; (conv => whnf); repeat (first | (refine LitB.data ?_; conv => whnf) | (refine BoxB.data ?_; conv => whnf)))
    (repeat' (first | ((refine DecB.mk (fun h => ?_) (fun h => ?_)) <;> first | (exfalso; omega) | (conv => whnf)) | ((refine BoolB.mk (fun h => ?_) (fun h => ?_)) <;> first | (exact absurd h (by decide)) | (conv => whnf)) | ((first | refine zzW ?_ | refine zzI ?_ | refine zzR ?_ | refine zzB ?_ | refine late_ok rfl rfl ?_ | refine src_ok rfl ?_ | refine .inl ⟨_, _, qcall_pure (r1) rfl rfl, ?_⟩ | refine .inl ⟨_, _, qcall_pure (r2) rfl rfl, ?_⟩ | refine LitB.data ?_ | refine BoxB.own ?_); conv => whnf)))
    all_goals (first | (exfalso; simp_all; done) | (refine fin_bool ?_; unfold rightF; simp [hp]))
  | true =>
    rw [hp] at r1
    cases hq : rightB q with
    | false =>
      rw [hq] at r2
      (refine acall_of tab_ok Tryz.func65 rfl (by decide) ?_; (conv => whnf); repeat (first | (refine LitB.data ?_; conv => whnf) | (refine BoxB.data ?_; conv => whnf)))
      (repeat' (first | ((refine DecB.mk (fun h => ?_) (fun h => ?_)) <;> first | (exfalso; omega) | (conv => whnf)) | ((refine BoolB.mk (fun h => ?_) (fun h => ?_)) <;> first | (exact absurd h (by decide)) | (conv => whnf)) | ((first | refine zzW ?_ | refine zzI ?_ | refine zzR ?_ | refine zzB ?_ | refine late_ok rfl rfl ?_ | refine src_ok rfl ?_ | refine .inl ⟨_, _, qcall_pure (r1) rfl rfl, ?_⟩ | refine .inl ⟨_, _, qcall_pure (r2) rfl rfl, ?_⟩ | refine LitB.data ?_ | refine BoxB.own ?_); conv => whnf)))
      all_goals (first | (exfalso; simp_all; done) | (refine fin_bool ?_; unfold rightF; simp [hq]))
    | true =>
      rw [hq] at r2
      obtain ⟨x, rfl⟩ := bz_of hp
      obtain ⟨y, rfl⟩ := bz_of hq
      have hsg : (bz y).sg = y.sign := rfl
      have hsg2 : (Fr.mk (bz x) (bz y)).q.sg = y.sign := rfl
      have sy := sign_cases y
      have lg := bl_gcd x y lp lq
      have g := r4Gcd x y lp lq
      have o := r4Of 1 (by decide) (by decide)
      have c := r4Compare (Int.gcd x y) 1 (by omega) (by have := bl_small (x := 1) (by decide) (by decide); omega)
      have hc := cmpI_zero (x := Int.gcd x y) (y := 1)
      (refine acall_of tab_ok Tryz.func65 rfl (by decide) ?_; (conv => whnf); repeat (first | (refine LitB.data ?_; conv => whnf) | (refine BoxB.data ?_; conv => whnf)))
      (repeat' (first | ((refine DecB.mk (fun h => ?_) (fun h => ?_)) <;> first | (exfalso; omega) | (conv => whnf)) | ((refine BoolB.mk (fun h => ?_) (fun h => ?_)) <;> first | (exact absurd h (by decide)) | (conv => whnf)) | ((first | refine zzW ?_ | refine zzI ?_ | refine zzR ?_ | refine zzB ?_ | refine late_ok rfl rfl ?_ | refine src_ok rfl ?_ | refine .inl ⟨_, _, qcall_pure (r1) rfl rfl, ?_⟩ | refine .inl ⟨_, _, qcall_pure (r2) rfl rfl, ?_⟩ | refine .inl ⟨_, _, qcall_pure (g) rfl rfl, ?_⟩ | refine .inl ⟨_, _, qcall_pure (o) rfl rfl, ?_⟩ | refine .inl ⟨_, _, qcall_pure (c) rfl rfl, ?_⟩ | refine .inl ⟨_, _, qcall_pure (5) rfl rfl, ?_⟩ | refine bar_late [5] (by decide +kernel) (by decide +kernel) ?_ | refine LitB.data ?_ | refine BoxB.own ?_); conv => whnf)))
      all_goals first
        | (exfalso; simp_all; done)
        | (refine fin_bool ?_; unfold rightF; simp only [bz_right, bv_bz, Bool.true_and]; simp; omega)
theorem r5Rz (x : Rat) (lx : rl x ≤ 200000) : ACall Tryz.prog 65 [frS (fz x)] [] (boolS true) [] := by
  have h := r5Right (fz x) (Nat.le_trans (rl_num x) lx) (Nat.le_trans (rl_den x) lx)
  rw [fz_right] at h
  exact h
theorem den2_pos (x y : Rat) : 0 < (x.den : Int) * y.den := Int.mul_pos (by have := x.den_pos; omega) (by have := y.den_pos; omega)
theorem r5Add (x y : Rat) (lx : rl x ≤ 60000) (ly : rl y ≤ 60000) : ACall Tryz.prog 146 [frS (fz x), frS (fz y)] [] (.tup [frS (fz (x + y)), intS .i64 0]) [] := by
  have r1 := r5Rz x (by omega)
  have r2 := r5Rz y (by omega)
  have x1 := rl_num x
  have x2 := rl_den x
  have y1 := rl_num y
  have y2 := rl_den y
  have l1 := bl_mul x.num y.den
  have l2 := bl_mul y.num x.den
  have l3 := bl_mul x.den y.den
  have l4 := bl_add (x.num * y.den) (y.num * x.den)
  have t1 := r4Mul x.num y.den (by omega) (by omega)
  have t2 := r4Mul y.num x.den (by omega) (by omega)
  have t3 := r4Mul x.den y.den (by omega) (by omega)
  have a := r4Add (x.num * y.den) (y.num * x.den) (by omega) (by omega)
  have n := r5New (x.num * y.den + y.num * x.den) (x.den * y.den) (den2_pos x y) (by omega) (by omega)
  rw [← rat_add] at n
  (refine acall_of tab_ok Tryz.func146 rfl (by decide) ?_; (conv => whnf); repeat (first | (refine LitB.data ?_; conv => whnf) | (refine BoxB.data ?_; conv => whnf)))
  (repeat' (first | ((refine DecB.mk (fun h => ?_) (fun h => ?_)) <;> first | (exfalso; omega) | (conv => whnf)) | ((refine BoolB.mk (fun h => ?_) (fun h => ?_)) <;> first | (exact absurd h (by decide)) | (conv => whnf)) | ((first | refine zzW ?_ | refine zzI ?_ | refine zzR ?_ | refine zzB ?_ | refine late_ok rfl rfl ?_ | refine src_ok rfl ?_ | refine .inl ⟨_, _, qcall_pure (r1) rfl rfl, ?_⟩ | refine .inl ⟨_, _, qcall_pure (r2) rfl rfl, ?_⟩ | refine .inl ⟨_, _, qcall_pure (t1) rfl rfl, ?_⟩ | refine .inl ⟨_, _, qcall_pure (t2) rfl rfl, ?_⟩ | refine .inl ⟨_, _, qcall_pure (t3) rfl rfl, ?_⟩ | refine .inl ⟨_, _, qcall_pure (a) rfl rfl, ?_⟩ | refine .inl ⟨_, _, qcall_pure (n) rfl rfl, ?_⟩ | refine .inl ⟨_, _, qcall_pure (7) rfl rfl, ?_⟩ | refine .inl ⟨_, _, qcall_pure (5) rfl rfl, ?_⟩ | refine bar_late [7] (by decide +kernel) (by decide +kernel) ?_ | refine bar_late [5] (by decide +kernel) (by decide +kernel) ?_ | refine LitB.data ?_ | refine BoxB.own ?_); conv => whnf)))
  all_goals first
    | (exfalso; simp_all; done)
    | exact fin_fe rfl
theorem r5Sub (x y : Rat) (lx : rl x ≤ 60000) (ly : rl y ≤ 60000) : ACall Tryz.prog 145 [frS (fz x), frS (fz y)] [] (.tup [frS (fz (x - y)), intS .i64 0]) [] := by
  have r1 := r5Rz x (by omega)
  have r2 := r5Rz y (by omega)
  have x1 := rl_num x
  have x2 := rl_den x
  have y1 := rl_num y
  have y2 := rl_den y
  have l1 := bl_mul x.num y.den
  have l2 := bl_mul y.num x.den
  have l3 := bl_mul x.den y.den
  have l4 := bl_add (x.num * y.den) (-(y.num * x.den))
  rw [bl_neg, ← Int.sub_eq_add_neg] at l4
  have t1 := r4Mul x.num y.den (by omega) (by omega)
  have t2 := r4Mul y.num x.den (by omega) (by omega)
  have t3 := r4Mul x.den y.den (by omega) (by omega)
  have a := r4Sub (x.num * y.den) (y.num * x.den) (by omega) (by omega)
  have n := r5New (x.num * y.den - y.num * x.den) (x.den * y.den) (den2_pos x y) (by omega) (by omega)
  have e : Rat.divInt (x.num * y.den - y.num * x.den) (x.den * y.den) = x - y := by
    have := rat_add x (-y)
    rw [Rat.neg_num, Rat.neg_den, Int.neg_mul, ← Int.sub_eq_add_neg, ← Rat.sub_eq_add_neg] at this
    exact this.symm
  rw [e] at n
  (refine acall_of tab_ok Tryz.func145 rfl (by decide) ?_; (conv => whnf); repeat (first | (refine LitB.data ?_; conv => whnf) | (refine BoxB.data ?_; conv => whnf)))
  (repeat' (first | ((refine DecB.mk (fun h => ?_) (fun h => ?_)) <;> first | (exfalso; omega) | (conv => whnf)) | ((refine BoolB.mk (fun h => ?_) (fun h => ?_)) <;> first | (exact absurd h (by decide)) | (conv => whnf)) | ((first | refine zzW ?_ | refine zzI ?_ | refine zzR ?_ | refine zzB ?_ | refine late_ok rfl rfl ?_ | refine src_ok rfl ?_ | refine .inl ⟨_, _, qcall_pure (r1) rfl rfl, ?_⟩ | refine .inl ⟨_, _, qcall_pure (r2) rfl rfl, ?_⟩ | refine .inl ⟨_, _, qcall_pure (t1) rfl rfl, ?_⟩ | refine .inl ⟨_, _, qcall_pure (t2) rfl rfl, ?_⟩ | refine .inl ⟨_, _, qcall_pure (t3) rfl rfl, ?_⟩ | refine .inl ⟨_, _, qcall_pure (a) rfl rfl, ?_⟩ | refine .inl ⟨_, _, qcall_pure (n) rfl rfl, ?_⟩ | refine .inl ⟨_, _, qcall_pure (7) rfl rfl, ?_⟩ | refine .inl ⟨_, _, qcall_pure (5) rfl rfl, ?_⟩ | refine bar_late [7] (by decide +kernel) (by decide +kernel) ?_ | refine bar_late [5] (by decide +kernel) (by decide +kernel) ?_ | refine LitB.data ?_ | refine BoxB.own ?_); conv => whnf)))
  all_goals first
    | (exfalso; simp_all; done)
    | exact fin_fe rfl
theorem r5Sign (x : Rat) (lx : rl x ≤ 60000) : ACall Tryz.prog 29 [frS (fz x)] [] (intS .i64 (sgR x)) [] := by
  have r1 := r5Rz x (by omega)
  (refine acall_of tab_ok Tryz.func29 rfl (by decide) ?_; (conv => whnf); repeat (first | (refine LitB.data ?_; conv => whnf) | (refine BoxB.data ?_; conv => whnf)))
  (repeat' (first | ((refine DecB.mk (fun h => ?_) (fun h => ?_)) <;> first | (exfalso; omega) | (conv => whnf)) | ((refine BoolB.mk (fun h => ?_) (fun h => ?_)) <;> first | (exact absurd h (by decide)) | (conv => whnf)) | ((first | refine zzW ?_ | refine zzI ?_ | refine zzR ?_ | refine zzB ?_ | refine late_ok rfl rfl ?_ | refine src_ok rfl ?_ | refine .inl ⟨_, _, qcall_pure (r1) rfl rfl, ?_⟩ | refine LitB.data ?_ | refine BoxB.own ?_); conv => whnf)))
  all_goals first
    | (exfalso; simp_all; done)
    | exact fin_int (sign_num x)
end Go.Proofs.YtfieodjihaodiaaGreat
/- reference 16: add. -/
namespace Go.Proofs.YtfieodjihaodiaaGreat
open Go.RowKit
set_option linter.unusedVariables false
set_option linter.unusedSimpArgs false
set_option maxRecDepth 100000

abbrev lsB (r o n : Nat) : Blk := { mode := .live, elem := 91, size := 2, rows := [[.own r 0 n true, .own o 0 n true]], box := true }
abbrev cB (l : List Int) : Blk := { mode := .live, elem := 3, size := 1, rows := toC (l.map intRow), box := false }
abbrev hl0 (L : List (RowP × OrP)) : Hp := [lsB 1 2 L.length, rB L, oB L]
abbrev hlC (L : List (RowP × OrP)) (l : List Int) : Hp := [lsB 1 2 L.length, rB L, oB L, cB l]
abbrev hlD (L : List (RowP × OrP)) (l : List Int) : Hp := [lsB 4 5 L.length, deadR, deadO, cB l, rB L, oB L]
theorem ex_ownI {l : List Int} {k : Nat} {c : Int} {K : List C → Prop} (h : l[k]? = some c) (hK : K [C.t (ti c)]) : ∃ row, (cB l).rows[0 + (k : Int).toNat]? = some row ∧ K row := ⟨_, by simp [toC, h, intRow], hK⟩
theorem entc_own16 {ρ : List (Option Nat)} {H : Hp} {id len : Nat} {app : Bool} {size : Nat} {k : Blk} {rows : List (List T)} (hn : notIn ρ id = true) (hk : H[id]? = some k) (hd : ¬ k.mode.gone) (hs : k.size = size) (hc : k.rows = toC rows) (hl : len = rows.length) :
    EntC ρ H (.own id 0 len app) (.t (.sl size .any rows)) := show VC H _ _ _ from vc_all hn hk hd hs hc hl
set_option maxHeartbeats 4000000 in
theorem a_Ladd (L : List (RowP × OrP)) (hL : L.length ≤ 1000000) (l : List Int) (hl : l.length ≤ 1000) (hs : ∀ c ∈ l, -1000000 ≤ c ∧ c ≤ 1000000) (kind : Int) (v : Rat) (o : OrP) :
    ACall Tryz.prog 117 [.c (.ptr 0 0 0), .c (.own 3 0 l.length true), intS .i64 kind, frS (fz v), orS o] (hlC L l) (.tup []) (hlD (L ++ [(⟨rowTo l l.length, kind, v⟩, o)]) l) := by
  have lA : L.length ≤ (rB L).rows.length := by show _ ≤ (toC _).length; simp [toC]
  have lB : L.length ≤ (oB L).rows.length := by show _ ≤ (toC _).length; simp [toC]
  have lC : (L.length + 1) * 97 ≤ 140737488355328 := by omega
  have lD : (L.length + 1) * 33 ≤ 140737488355328 := by omega
  (refine acall_of tab_ok Tryz.func117 rfl (by decide) ?_; (conv => whnf); repeat (first | (refine LitB.data ?_; conv => whnf) | (refine BoxB.data ?_; conv => whnf)))
  (repeat' (first | ((refine DecB.mk (fun h => ?_) (fun h => ?_)) <;> first | (exfalso; omega) | (conv => whnf)) | ((refine BoolB.mk (fun h => ?_) (fun h => ?_)) <;> first | (exact absurd h (by decide)) | (conv => whnf)) | ((first | refine zzW ?_ | refine zzI ?_ | refine zzR ?_ | refine zzB ?_ | refine late_ok rfl rfl ?_ | refine src_ok rfl ?_ | refine LitB.data ?_ | refine BoxB.own ?_); conv => whnf)))
  refine awp_weak ?_
  refine awp_for tab_ok (fun k => ([S.c (C.ptr 0 0 0), S.c (C.own 3 0 l.length true), intS .i64 kind, J, J, J, J, J, S.c (C.t (T.ptr (frRow (fz v)))), S.c (C.t (T.ptr (orRow o))), S.c (C.own 4 0 (rowTo l k).length true), intS .i64 k, J, J, J, J, J, J, J, J, J, J, J, J, J, J, J, J, J, J, J, J, J, J, J, J, J, J, J, J, J, J, J, J, J, J, J, J, J, J, J, J, J, J, J, J], hlC L l ++ [termsB (rowTo l k)])) l.length (fun _ => True) [some 0, some 1, some 2, some 3, none] trivial
    ⟨rfl, rfl, ⟨⟨rfl, rfl, rfl, .inr ⟨⟨⟨rfl, rfl, rfl, fun h => h⟩, ⟨rfl, rfl, rfl, fun h => h⟩, trivial⟩, trivial⟩⟩, rows_ent rfl, rows_ent rfl, rows_ent rfl, ⟨rfl, rfl⟩, trivial⟩, ⟨⟨rfl, rfl, rfl⟩, ⟨rfl, rfl, rfl, fun h => h⟩, rfl, rfl, rfl, ⟨rfl, rfl, rfl⟩, rfl, trivial⟩⟩ ?_
  intro k hk _
  have lk := rowTo_le (l := l) k
  by_cases hlt : k < l.length
  · obtain ⟨c, hc⟩ : ∃ c, l[k]? = some c := ⟨_, List.getElem?_eq_getElem hlt⟩
    have hcb := hs c (List.mem_of_getElem? hc)
    have ic := r5Int c (by omega) (by omega)
    have tA : (rowTo l k).length ≤ (termsB (rowTo l k)).rows.length := by show _ ≤ (toC _).length; simp [toC]
    have tC : ((rowTo l k).length + 1) * 73 ≤ 140737488355328 := by omega
    have eT : rowTo l (k + 1) = if c ≠ 0 then rowTo l k ++ [((k : Int), (c : Rat))] else rowTo l k := by rw [rowTo, hc]
    by_cases h0 : c ≠ 0
    · rw [if_pos h0] at eT
      conv => whnf
      (repeat' (first | ((refine DecB.mk (fun h => ?_) (fun h => ?_)) <;> first | (exfalso; omega) | (conv => whnf)) | ((refine BoolB.mk (fun h => ?_) (fun h => ?_)) <;> first | (exact absurd h (by decide)) | (conv => whnf)) | ((first | refine zzW ?_ | refine zzI ?_ | refine zzR ?_ | refine zzB ?_ | refine late_ok rfl rfl ?_ | refine src_ok rfl ?_ | refine .inl ⟨_, _, qcall_pure (ic) rfl rfl, ?_⟩ | refine ex_ownI hc ?_ | refine app_ok tA tC ?_ | refine LitB.data ?_ | refine BoxB.own ?_); conv => whnf)))
      all_goals try (exfalso; omega)
      refine ⟨hlt, trivial, [some 0, some 1, some 2, some 3, some 5], rfl, rfl, ⟨⟨rfl, rfl, rfl, .inr ⟨⟨⟨rfl, rfl, rfl, fun h => h⟩, ⟨rfl, rfl, rfl, fun h => h⟩, trivial⟩, trivial⟩⟩, rows_ent rfl, rows_ent rfl, rows_ent rfl, entB_rows rfl rfl rfl ?_ rfl, trivial⟩, ⟨⟨rfl, rfl, rfl⟩, ⟨rfl, rfl, rfl, fun h => h⟩, rfl, rfl, rfl, ⟨rfl, rfl, ?_, fun h => h⟩, rfl, trivial⟩⟩
      · rw [eT]; exact ext_termsE (w := ((k : Int), (c : Rat))) rfl
      · rw [eT]; simp [toC]
    · rw [if_neg h0] at eT
      conv => whnf
      (repeat' (first | ((refine DecB.mk (fun h => ?_) (fun h => ?_)) <;> first | (exfalso; omega) | (conv => whnf)) | ((refine BoolB.mk (fun h => ?_) (fun h => ?_)) <;> first | (exact absurd h (by decide)) | (conv => whnf)) | ((first | refine zzW ?_ | refine zzI ?_ | refine zzR ?_ | refine zzB ?_ | refine late_ok rfl rfl ?_ | refine src_ok rfl ?_ | refine ex_ownI hc ?_ | refine LitB.data ?_ | refine BoxB.own ?_); conv => whnf)))
      all_goals try (exfalso; omega)
      refine ⟨hlt, trivial, [some 0, some 1, some 2, some 3, some 4], rfl, rfl, ⟨⟨rfl, rfl, rfl, .inr ⟨⟨⟨rfl, rfl, rfl, fun h => h⟩, ⟨rfl, rfl, rfl, fun h => h⟩, trivial⟩, trivial⟩⟩, rows_ent rfl, rows_ent rfl, rows_ent rfl, entB_rows rfl rfl rfl ?_ rfl, trivial⟩, ⟨⟨rfl, rfl, rfl⟩, ⟨rfl, rfl, rfl, fun h => h⟩, rfl, rfl, rfl, ⟨rfl, rfl, ?_, fun h => h⟩, rfl, trivial⟩⟩
      · rw [eT]
      · rw [eT]
  · have hke : k = l.length := by omega
    subst hke
    conv => whnf
    (repeat' (first | ((refine DecB.mk (fun h => ?_) (fun h => ?_)) <;> first | (exfalso; omega) | (conv => whnf)) | ((refine BoolB.mk (fun h => ?_) (fun h => ?_)) <;> first | (exact absurd h (by decide)) | (conv => whnf)) | ((first | refine zzW ?_ | refine zzI ?_ | refine zzR ?_ | refine zzB ?_ | refine late_ok rfl rfl ?_ | refine src_ok rfl ?_ | refine LitB.data ?_ | refine BoxB.own ?_); conv => whnf)))
    all_goals try (exfalso; omega)
    refine .inr ⟨[some 0, some 1, some 2, some 3], [S.c (C.ptr 0 0 0), S.c (C.own 3 0 l.length true), intS .i64 kind, J, J, J, J, J, S.c (C.t (T.ptr (frRow (fz v)))), S.c (C.t (T.ptr (orRow o))), S.c (C.t (termsT (rowTo l l.length))), J, J, J, J, J, J, J, J, J, J, J, J, J, J, J, J, J, J, J, J, J, J, J, J, J, J, J, J, J, J, J, J, J, J, J, J, J, J, J, J, J, J, J, J, J], hlC L l,
      ⟨rfl, rfl, ⟨⟨rfl, rfl, rfl, .inr ⟨⟨⟨rfl, rfl, rfl, fun h => h⟩, ⟨rfl, rfl, rfl, fun h => h⟩, trivial⟩, trivial⟩⟩, rows_ent rfl, rows_ent rfl, rows_ent rfl, trivial⟩, ⟨⟨rfl, rfl, rfl⟩, ⟨rfl, rfl, rfl, fun h => h⟩, rfl, rfl, rfl, entc_own16 (app := true) (k := termsB (rowTo l l.length)) rfl rfl (by intro h; cases h) rfl rfl (by simp), trivial⟩⟩, ?_⟩
    conv => whnf
    (repeat' (first | ((refine DecB.mk (fun h => ?_) (fun h => ?_)) <;> first | (exfalso; omega) | (conv => whnf)) | ((refine BoolB.mk (fun h => ?_) (fun h => ?_)) <;> first | (exact absurd h (by decide)) | (conv => whnf)) | ((first | refine zzW ?_ | refine zzI ?_ | refine zzR ?_ | refine zzB ?_ | refine late_ok rfl rfl ?_ | refine src_ok rfl ?_ | refine .inl ⟨_, _, qcall_pure (0) rfl rfl, ?_⟩ | refine app_ok lA lC ?_ | refine app_ok lB lD ?_ | refine bar_late [0] (by decide +kernel) (by decide +kernel) ?_ | refine LitB.data ?_ | refine BoxB.own ?_); conv => whnf)))
    refine ⟨⟨[some 0, some 1, some 2, some 3, some 4, some 5], rfl, rfl, ⟨⟨rfl, rfl, rfl, .inr ⟨⟨⟨rfl, rfl, ?_, fun h => h⟩, ⟨rfl, rfl, ?_, fun h => h⟩, trivial⟩, trivial⟩⟩, ⟨rfl, rfl, rfl, .inl ⟨rfl, by simp [rowsT]⟩⟩, ⟨rfl, rfl, rfl, .inl ⟨rfl, by simp [rowsT]⟩⟩, rows_ent rfl, entB_rows rfl rfl rfl ?_ rfl, entB_rows rfl rfl rfl ?_ rfl, trivial⟩, trivial⟩⟩
    · simp [toC]
    · simp [toC]
    · exact ext_pair (f := fun w : RowP × OrP => rowRow w.1) (x := (⟨rowTo l l.length, kind, v⟩, o)) rfl
    · exact ext_pair (f := fun w : RowP × OrP => orRow w.2) (x := (⟨rowTo l l.length, kind, v⟩, o)) rfl
end Go.Proofs.YtfieodjihaodiaaGreat
/- reference 16: the terms of a list of coefficients. Plain. -/
namespace Go.Proofs.YtfieodjihaodiaaGreat
open Go.RowKit
set_option linter.unusedVariables false
set_option linter.unusedSimpArgs false

def cfL (N : Nat) (f : Nat → Int) : List Int := (List.range N).map f
theorem cfL_len (N : Nat) (f : Nat → Int) : (cfL N f).length = N := by simp [cfL]
theorem cfL_zero (N : Nat) : List.replicate N (0 : Int) = cfL N (fun _ => 0) := by
  refine List.ext_getElem (by simp [cfL]) fun i h1 h2 => by simp [cfL]
theorem cfL_get {N : Nat} {f : Nat → Int} {v : Nat} (h : v < N) : (cfL N f)[v]? = some (f v) := by
  unfold cfL; rw [List.getElem?_map, List.getElem?_range h]; rfl
theorem cfL_set (N : Nat) (f : Nat → Int) (j : Nat) (a : Int) : (cfL N f).set j a = cfL N (fun v => if v = j then a else f v) := by
  refine List.ext_getElem (by simp [cfL]) fun i h1 h2 => ?_
  rw [List.getElem_set]
  simp only [cfL, List.getElem_map, List.getElem_range]
  by_cases h : j = i
  · rw [if_pos h, if_pos h.symm]
  · rw [if_neg h, if_neg (fun e => h e.symm)]
theorem cfL_congr {N : Nat} {f g : Nat → Int} (h : ∀ v, f v = g v) : cfL N f = cfL N g := by unfold cfL; exact List.map_congr_left fun v _ => h v
def trm (f : Nat → Int) : Nat → List (Int × Rat)
  | 0 => []
  | v + 1 => if f v ≠ 0 then trm f v ++ [((v : Int), ((f v : Int) : Rat))] else trm f v
theorem rowTo_cf {N : Nat} {f : Nat → Int} : ∀ k, k ≤ N → rowTo (cfL N f) k = trm f k
  | 0, _ => rfl
  | k + 1, h => by
    have ih := rowTo_cf (N := N) (f := f) k (by omega)
    unfold rowTo trm
    rw [cfL_get (by omega)]
    simp only
    rw [ih]
theorem trm_zero {f : Nat → Int} {a : Nat} : ∀ n, (∀ j, j < n → f (a + j) = 0) → trm f (a + n) = trm f a
  | 0, _ => rfl
  | n + 1, h => by
    have ih := trm_zero (f := f) (a := a) n fun j hj => h j (by omega)
    show trm f (a + n + 1) = _
    have e1 : trm f (a + n + 1) = if f (a + n) ≠ 0 then trm f (a + n) ++ [(((a + n : Nat) : Int), ((f (a + n) : Int) : Rat))] else trm f (a + n) := rfl
    rw [e1, if_neg (by rw [h n (by omega)]; simp), ih]
theorem trm_one {f : Nat → Int} {a m c : Nat} (hm : m < c) (h : ∀ j, j < c → j ≠ m → f (a + j) = 0) : trm f (a + c) = if f (a + m) ≠ 0 then trm f a ++ [(((a + m : Nat) : Int), ((f (a + m) : Int) : Rat))] else trm f a := by
  have h1 := trm_zero (f := f) (a := a) m fun j hj => h j (by omega) (by omega)
  have h2 := trm_zero (f := f) (a := a + m + 1) (c - (m + 1)) fun j hj => by
    have := h (m + 1 + j) (by omega) (by omega)
    rw [show a + m + 1 + j = a + (m + 1 + j) by omega]; exact this
  rw [show a + m + 1 + (c - (m + 1)) = a + c by omega] at h2
  rw [h2]
  have e1 : trm f (a + m + 1) = if f (a + m) ≠ 0 then trm f (a + m) ++ [(((a + m : Nat) : Int), ((f (a + m) : Int) : Rat))] else trm f (a + m) := rfl
  rw [e1, h1]
/-- a move's sign at a place -/
def sgnE (e : Ev) (p : Int) (i : Nat) : Int := match e.moves[i]? with
  | none => 0
  | some y => if y.src = p then -1 else if y.dst = p then 1 else 0
def GE (e : Ev) (p : Int) (c m : Nat) : Nat → Nat → Int
  | 0 => fun _ => 0
  | i + 1 => fun v => if v = i * c + m then sgnE e p i else GE e p c m i v
theorem GE_hi {e : Ev} {p : Int} {c m : Nat} (hm : m < c) : ∀ (i v : Nat), i * c ≤ v → GE e p c m i v = 0
  | 0, v, _ => rfl
  | i + 1, v, h => by
    rw [Nat.succ_mul] at h
    unfold GE
    rw [if_neg (by omega)]
    exact GE_hi hm i v (by omega)
theorem GE_at {e : Ev} {p : Int} {c m : Nat} (hm : m < c) : ∀ (n i j : Nat), i < n → j < c → GE e p c m n (i * c + j) = if j = m then sgnE e p i else 0
  | 0, i, j, h, _ => by omega
  | n + 1, i, j, h, hj => by
    unfold GE
    by_cases hi : i = n
    · subst hi
      by_cases hjm : j = m
      · rw [if_pos (by omega), if_pos hjm]
      · rw [if_neg (by omega), if_neg hjm]
        exact GE_hi hm i _ (by omega)
    · have h1 : (i + 1) * c ≤ n * c := Nat.mul_le_mul_right _ (by omega)
      rw [Nat.succ_mul] at h1
      rw [if_neg (by omega)]
      exact GE_at hm n i j (by omega) hj
theorem trm_stock {e : Ev} {p : Int} {m c : Nat} (hc : e.mats = c) (hm : m < c) {K : Nat} (hK : K ≤ e.moves.length) : ∀ i, i ≤ K → trm (GE e p c m K) (i * c) = termsE e p m i
  | 0, _ => by rw [Nat.zero_mul]; rfl
  | i + 1, h => by
    have ih := trm_stock (p := p) hc hm hK i (by omega)
    obtain ⟨y, hy⟩ : ∃ y, e.moves[i]? = some y := ⟨_, List.getElem?_eq_getElem (by omega)⟩
    rw [Nat.succ_mul, trm_one hm (fun j hj hjm => by rw [GE_at hm K i j (by omega) hj, if_neg hjm]), GE_at hm K i m (by omega) hm, if_pos rfl, ih]
    rw [termsE_succ hy]
    have hv : ((i * c + m : Nat) : Int) = varE e i m := by unfold varE; rw [hc]; push_cast; rfl
    rw [hv]
    unfold sgnE
    rw [hy]
    simp only
    by_cases h1 : y.src = p
    · rw [if_pos h1, if_pos h1, if_pos (by decide)]
    · rw [if_neg h1, if_neg h1]
      by_cases h2 : y.dst = p
      · rw [if_pos h2, if_pos h2, if_pos (by decide)]
      · rw [if_neg h2, if_neg h2, if_neg (by decide)]
theorem stock_terms {e : Ev} {p : Int} {m c N : Nat} (hc : e.mats = c) (hm : m < c) {K : Nat} (hK : K ≤ e.moves.length) (hN : N = e.moves.length * c) : rowTo (cfL N (GE e p c m K)) N = termsE e p m K := by
  have hle : K * c ≤ N := by rw [hN]; exact Nat.mul_le_mul_right _ hK
  rw [rowTo_cf N (Nat.le_refl _), show N = K * c + (N - K * c) by omega, trm_zero _ (fun j _ => GE_hi hm K _ (by omega)), trm_stock hc hm hK K (Nat.le_refl _)]
/-- a move's block -/
def FE (i c : Nat) (b : Int) : Nat → Nat → Int
  | 0 => fun _ => 0
  | m + 1 => fun v => if v = i * c + m then b else FE i c b m v
theorem FE_at {i c : Nat} {b : Int} : ∀ (n v : Nat), FE i c b n v = if i * c ≤ v ∧ v < i * c + n then b else 0
  | 0, v => by rw [if_neg (by omega)]; rfl
  | n + 1, v => by
    unfold FE
    rw [FE_at n v]
    by_cases h : v = i * c + n
    · rw [if_pos h, if_pos (by omega)]
    · rw [if_neg h]
      by_cases h2 : i * c ≤ v ∧ v < i * c + n
      · rw [if_pos h2, if_pos (by omega)]
      · rw [if_neg h2, if_neg (by omega)]
theorem trm_block {e : Ev} {i c : Nat} {b own more : Int} {f : Nat → Int} (hc : e.mats = c) (h0 : ∀ v, v < i * c → f v = 0) (h1 : ∀ m, m < c → f (i * c + m) = coefS b own more m) : ∀ m, m ≤ c → trm f (i * c + m) = sumT e i b own more m
  | 0, _ => by
    have := trm_zero (f := f) (a := 0) (i * c) fun j hj => h0 _ (by omega)
    rw [Nat.zero_add] at this
    rw [Nat.add_zero, this]; rfl
  | m + 1, h => by
    have ih := trm_block hc h0 h1 m (by omega)
    have e1 : trm f (i * c + (m + 1)) = if f (i * c + m) ≠ 0 then trm f (i * c + m) ++ [(((i * c + m : Nat) : Int), ((f (i * c + m) : Int) : Rat))] else trm f (i * c + m) := rfl
    rw [e1]
    unfold sumT
    have hv : ((i * c + m : Nat) : Int) = varE e i m := by unfold varE; rw [hc]; push_cast; rfl
    rw [h1 m (by omega), ih, hv]
theorem block_terms {e : Ev} {i c N : Nat} {b own more : Int} {f : Nat → Int} (hc : e.mats = c) (hi : i < e.moves.length) (hN : N = e.moves.length * c) (h0 : ∀ v, v < i * c → f v = 0) (h1 : ∀ m, m < c → f (i * c + m) = coefS b own more m) (h2 : ∀ v, i * c + c ≤ v → f v = 0) :
    rowTo (cfL N f) N = sumA e i b own more := by
  have hle : (i + 1) * c ≤ N := by rw [hN]; exact Nat.mul_le_mul_right _ hi
  rw [Nat.succ_mul] at hle
  rw [rowTo_cf N (Nat.le_refl _), show N = i * c + c + (N - (i * c + c)) by omega, trm_zero _ (fun j _ => h2 _ (by omega)), trm_block hc h0 h1 c (Nat.le_refl _)]
  unfold sumA
  rw [hc, Int.toNat_natCast]
theorem weight_terms {e : Ev} {i c N : Nat} (hc : e.mats = c) (hi : i < e.moves.length) (hN : N = e.moves.length * c) : rowTo (cfL N (FE i c 1 c)) N = sumA e i 1 (-1) 0 := by
  refine block_terms hc hi hN (fun v hv => by rw [FE_at, if_neg (by omega)]) (fun m hm => ?_) (fun v hv => by rw [FE_at, if_neg (by omega)])
  rw [FE_at, if_pos (by omega)]
  unfold coefS
  rw [if_neg (by omega)]
theorem pure_terms {e : Ev} {i c N q : Nat} {b more : Int} (hc : e.mats = c) (hi : i < e.moves.length) (hN : N = e.moves.length * c) (hq : q < c) : rowTo (cfL N (fun v => if v = i * c + q then b + more else FE i c b c v)) N = sumA e i b q more := by
  refine block_terms hc hi hN (fun v hv => by rw [if_neg (by omega), FE_at, if_neg (by omega)]) (fun m hm => ?_) (fun v hv => by rw [if_neg (by omega), FE_at, if_neg (by omega)])
  unfold coefS
  by_cases h : m = q
  · rw [if_pos (by omega), if_pos (by omega)]
  · rw [if_neg (by omega), if_neg (by omega), FE_at, if_pos (by omega)]
end Go.Proofs.YtfieodjihaodiaaGreat
/- The reference's scale: Right, Find, Recalled, Error, Interval. -/
namespace Go.Proofs.YtfieodjihaodiaaGreat
open Go.RowKit
set_option linter.unusedVariables false
set_option linter.unusedSimpArgs false
set_option maxRecDepth 100000

theorem sgR_neg' (x : Rat) : sgR x < 0 ↔ x < ((0 : Int) : Rat) := by unfold sgR; split <;> (try split) <;> simp_all
theorem ent_fz {x y : Rat} {ρ : List (Option Nat)} {H : Hp} (h : x = y) : EntS ρ H (frS (fz x)) (frS (fz y)) := by subst h; exact ⟨rfl, rfl, rfl, rfl, trivial⟩
theorem r13in (n lo hi : Int) : ACall Tryz.prog 143 [intS .i64 n, intS .i64 lo, intS .i64 hi] [] (boolS (btw n lo hi)) [] := by
  (refine acall_of tab_ok Tryz.func143 rfl (by decide) ?_; (conv => whnf); repeat (first | (refine LitB.data ?_; conv => whnf) | (refine BoxB.own ?_; conv => whnf)))
  (repeat' (first | ((refine DecB.mk (fun h => ?_) (fun h => ?_)) <;> first | (exfalso; omega) | (conv => whnf)) | ((refine BoolB.mk (fun h => ?_) (fun h => ?_)) <;> first | (exact absurd h (by decide)) | (conv => whnf)) | ((first | refine zzW ?_ | refine zzI ?_ | refine zzR ?_ | refine zzB ?_ | refine late_ok rfl rfl ?_ | refine src_ok rfl ?_ | refine LitB.data ?_ | refine BoxB.own ?_); conv => whnf)))
  all_goals (refine fin_bool ?_; simp only [btw]; simp; omega)
theorem r13Right (c : Cert) : ACall Tryz.prog 157 [certS c] [] (boolS (certRight c)) [] := by
  have w1 := r13in c.scale 0 29
  have w2 := r13in c.grams 0 1099511627776
  have w3 := r13in c.permille 0 1000
  have w4 := r13in c.drift 0 10000000
  rw [btw_idx30] at w1
  unfold certRight
  cases h1 : idx c.scale 30 <;> cases h2 : btw c.grams 0 1099511627776 <;> cases h3 : btw c.permille 0 1000 <;> cases h4 : btw c.drift 0 10000000 <;> rw [h1] at w1 <;> rw [h2] at w2 <;> rw [h3] at w3 <;> rw [h4] at w4 <;>
  · (refine acall_of tab_ok Tryz.func157 rfl (by decide) ?_; (conv => whnf); repeat (first | (refine LitB.data ?_; conv => whnf) | (refine BoxB.own ?_; conv => whnf)))
    (repeat' (first | ((refine DecB.mk (fun h => ?_) (fun h => ?_)) <;> first | (exfalso; omega) | (conv => whnf)) | ((refine BoolB.mk (fun h => ?_) (fun h => ?_)) <;> first | (exact absurd h (by decide)) | (conv => whnf)) | ((first | refine zzW ?_ | refine zzI ?_ | refine zzR ?_ | refine zzB ?_ | refine late_ok rfl rfl ?_ | refine src_ok rfl ?_ | refine .inl ⟨_, _, qcall_pure (w1) rfl rfl, ?_⟩ | refine .inl ⟨_, _, qcall_pure (w2) rfl rfl, ?_⟩ | refine .inl ⟨_, _, qcall_pure (w3) rfl rfl, ?_⟩ | refine .inl ⟨_, _, qcall_pure (w4) rfl rfl, ?_⟩ | refine LitB.data ?_ | refine BoxB.own ?_); conv => whnf)))
    all_goals (refine fin_bool ?_; simp; try omega)
def bestI (o : Option Nat) : Int := match o with
  | none => -1
  | some b => b
set_option maxHeartbeats 2000000 in
theorem r13Find (cs : List Cert) (scale day : Int) (hl : cs.length ≤ 1000000) :
    ACall Tryz.prog 141 [.c (.t (certsT cs)), intS .i64 scale, intS .i64 day] [] (.tup [intS .i64 (bestOf (findTo cs scale day cs.length)), boolS (findTo cs scale day cs.length).isSome]) [] := by
  have l1 : (cs.map Cert.row).length = cs.length := by simp
  (refine acall_of tab_ok Tryz.func141 rfl (by decide) ?_; (conv => whnf); repeat (first | (refine LitB.data ?_; conv => whnf) | (refine BoxB.data ?_; conv => whnf)))
  (repeat' (first | ((refine DecB.mk (fun h => ?_) (fun h => ?_)) <;> first | (exfalso; omega) | (conv => whnf)) | ((refine BoolB.mk (fun h => ?_) (fun h => ?_)) <;> first | (exact absurd h (by decide)) | (conv => whnf)) | ((first | refine zzW ?_ | refine zzI ?_ | refine zzR ?_ | refine zzB ?_ | refine late_ok rfl rfl ?_ | refine src_ok rfl ?_ | refine LitB.data ?_ | refine BoxB.own ?_); conv => whnf)))
  refine awp_for tab_ok (fun k => ([S.c (C.t (certsT cs)), intS .i64 scale, intS .i64 day, J, J, J, J, J, intS .i64 (bestI (findTo cs scale day k)), intS .i64 k, J, J, J, J, J, J, J, J, J, J, J, J, J, J, J, J, J, J, J, J, J, J, J, J, J, J, J, J, J, J, J, J, J, J, J, J, J, J, J, J, J, J, J, J, J, J, J], [])) cs.length (fun _ => True) [] trivial
    ⟨rfl, rfl, trivial, ⟨rfl, rfl, rfl, rfl, rfl, trivial⟩⟩ ?_
  intro k hk _
  by_cases hlt : k < cs.length
  · obtain ⟨c, hc⟩ : ∃ c, cs[k]? = some c := ⟨_, List.getElem?_eq_getElem hlt⟩
    have cr := r13Right c
    have ci := r13in day c.since c.till
    have hst : findTo cs scale day (k + 1) = if decide (c.scale = scale) && covers c day && later cs (findTo cs scale day k) c then some k else findTo cs scale day k := by
      conv => lhs; unfold findTo
      rw [hc]
    have nxt : ∀ z : Int, bestI (findTo cs scale day (k + 1)) = z → z = bestI (findTo cs scale day (k + 1)) := fun z h => h.symm
    cases hr : certRight c with
    | false =>
      have hcv : covers c day = false := by unfold covers; rw [hr]; rfl
      rw [hcv] at hst
      simp only [Bool.and_false, Bool.false_and, Bool.false_eq_true, if_false] at hst
      rw [hr] at cr
      rw [← hst]
      conv => whnf
      (repeat' (first | ((refine DecB.mk (fun h => ?_) (fun h => ?_)) <;> first | (exfalso; omega) | (conv => whnf)) | ((refine BoolB.mk (fun h => ?_) (fun h => ?_)) <;> first | (exact absurd h (by decide)) | (conv => whnf)) | ((first | refine zzW ?_ | refine zzI ?_ | refine zzR ?_ | refine zzB ?_ | refine late_ok rfl rfl ?_ | refine src_ok rfl ?_ | refine .inl ⟨_, _, qcall_pure (cr) rfl rfl, ?_⟩ | refine ex_row hc ?_ | refine LitB.data ?_ | refine BoxB.own ?_); conv => whnf)))
      all_goals first
        | (exfalso; omega)
        | (exfalso; simp_all; done)
        | exact ⟨hlt, trivial, [], rfl, rfl, trivial, ⟨rfl, rfl, rfl, rfl, rfl, trivial⟩⟩
    | true =>
    rw [hr] at cr
    cases hb : btw day c.since c.till with
    | false =>
      have hcv : covers c day = false := by unfold covers; rw [hr, hb]; rfl
      rw [hcv] at hst
      simp only [Bool.and_false, Bool.false_and, Bool.false_eq_true, if_false] at hst
      rw [hb] at ci
      rw [← hst]
      conv => whnf
      (repeat' (first | ((refine DecB.mk (fun h => ?_) (fun h => ?_)) <;> first | (exfalso; omega) | (conv => whnf)) | ((refine BoolB.mk (fun h => ?_) (fun h => ?_)) <;> first | (exact absurd h (by decide)) | (conv => whnf)) | ((first | refine zzW ?_ | refine zzI ?_ | refine zzR ?_ | refine zzB ?_ | refine late_ok rfl rfl ?_ | refine src_ok rfl ?_ | refine .inl ⟨_, _, qcall_pure (cr) rfl rfl, ?_⟩ | refine .inl ⟨_, _, qcall_pure (ci) rfl rfl, ?_⟩ | refine ex_row hc ?_ | refine LitB.data ?_ | refine BoxB.own ?_); conv => whnf)))
      all_goals first
        | (exfalso; omega)
        | (exfalso; simp_all; done)
        | exact ⟨hlt, trivial, [], rfl, rfl, trivial, ⟨rfl, rfl, rfl, rfl, rfl, trivial⟩⟩
    | true =>
      have hcv : covers c day = true := by unfold covers; rw [hr, hb]; rfl
      rw [hcv] at hst
      rw [hb] at ci
      cases hf : findTo cs scale day k with
      | none =>
        rw [hf] at hst
        have e0 : bestI none = -1 := rfl
        rw [e0]
        by_cases hsc : c.scale = scale
        · have hst2 : (k : Int) = bestI (findTo cs scale day (k + 1)) := by rw [hst, if_pos (by simp [hsc, later])]; rfl
          clear hst hcv hr hb nxt
          conv => whnf
          (repeat' (first | ((refine DecB.mk (fun h => ?_) (fun h => ?_)) <;> first | (exfalso; omega) | (conv => whnf)) | ((refine BoolB.mk (fun h => ?_) (fun h => ?_)) <;> first | (exact absurd h (by decide)) | (conv => whnf)) | ((first | refine zzW ?_ | refine zzI ?_ | refine zzR ?_ | refine zzB ?_ | refine late_ok rfl rfl ?_ | refine src_ok rfl ?_ | refine .inl ⟨_, _, qcall_pure (cr) rfl rfl, ?_⟩ | refine .inl ⟨_, _, qcall_pure (ci) rfl rfl, ?_⟩ | refine ex_row hc ?_ | refine LitB.data ?_ | refine BoxB.own ?_); conv => whnf)))
          all_goals first
            | (exfalso; omega)
            | exact ⟨hlt, trivial, [], rfl, rfl, trivial, ⟨rfl, rfl, rfl, ent_i hst2, rfl, trivial⟩⟩
        · have hst2 : (-1 : Int) = bestI (findTo cs scale day (k + 1)) := by rw [hst, if_neg (by simp [hsc])]; rfl
          clear hst hcv hr hb nxt
          conv => whnf
          (repeat' (first | ((refine DecB.mk (fun h => ?_) (fun h => ?_)) <;> first | (exfalso; omega) | (conv => whnf)) | ((refine BoolB.mk (fun h => ?_) (fun h => ?_)) <;> first | (exact absurd h (by decide)) | (conv => whnf)) | ((first | refine zzW ?_ | refine zzI ?_ | refine zzR ?_ | refine zzB ?_ | refine late_ok rfl rfl ?_ | refine src_ok rfl ?_ | refine .inl ⟨_, _, qcall_pure (cr) rfl rfl, ?_⟩ | refine .inl ⟨_, _, qcall_pure (ci) rfl rfl, ?_⟩ | refine ex_row hc ?_ | refine LitB.data ?_ | refine BoxB.own ?_); conv => whnf)))
          all_goals first
            | (exfalso; omega)
            | exact ⟨hlt, trivial, [], rfl, rfl, trivial, ⟨rfl, rfl, rfl, ent_i hst2, rfl, trivial⟩⟩
      | some b =>
        rw [hf] at hst
        obtain ⟨hb', cb, hcb, _⟩ := findTo_some hf
        have hsb := cert_get hcb
        have e0 : bestI (some b) = (b : Int) := rfl
        have em : (if (0 : Int) > (b : Int) then 0 else (b : Int)) = (b : Int) := if_neg (by omega)
        rw [e0]
        by_cases hsc : c.scale = scale ∧ cb.since ≤ c.since
        · have hst2 : (k : Int) = bestI (findTo cs scale day (k + 1)) := by rw [hst, if_pos (by simp [hsc.1, later, hsb, hsc.2])]; rfl
          clear hst hcv hr hb nxt
          conv => whnf
          (repeat' (first | ((refine DecB.mk (fun h => ?_) (fun h => ?_)) <;> first | (exfalso; omega) | (conv => whnf)) | ((refine BoolB.mk (fun h => ?_) (fun h => ?_)) <;> first | (exact absurd h (by decide)) | (conv => whnf)) | ((first | refine zzW ?_ | refine zzI ?_ | refine zzR ?_ | refine zzB ?_ | refine late_ok rfl rfl ?_ | refine src_ok rfl ?_ | refine .inl ⟨_, _, qcall_pure (cr) rfl rfl, ?_⟩ | refine .inl ⟨_, _, qcall_pure (ci) rfl rfl, ?_⟩ | refine ex_row hc ?_ | refine ex_rowE em hcb ?_ | refine LitB.data ?_ | refine BoxB.own ?_); conv => whnf)))
          all_goals first
            | (exfalso; omega)
            | exact ⟨hlt, trivial, [], rfl, rfl, trivial, ⟨rfl, rfl, rfl, ent_i hst2, rfl, trivial⟩⟩
        · have hst2 : (b : Int) = bestI (findTo cs scale day (k + 1)) := by
            rw [hst, if_neg (by simp only [Bool.and_eq_true, decide_eq_true_eq, later, hsb]; intro h; exact hsc ⟨h.1.1, h.2⟩)]; rfl
          clear hst hcv hr hb nxt
          conv => whnf
          (repeat' (first | ((refine DecB.mk (fun h => ?_) (fun h => ?_)) <;> first | (exfalso; omega) | (conv => whnf)) | ((refine BoolB.mk (fun h => ?_) (fun h => ?_)) <;> first | (exact absurd h (by decide)) | (conv => whnf)) | ((first | refine zzW ?_ | refine zzI ?_ | refine zzR ?_ | refine zzB ?_ | refine late_ok rfl rfl ?_ | refine src_ok rfl ?_ | refine .inl ⟨_, _, qcall_pure (cr) rfl rfl, ?_⟩ | refine .inl ⟨_, _, qcall_pure (ci) rfl rfl, ?_⟩ | refine ex_row hc ?_ | refine ex_rowE em hcb ?_ | refine LitB.data ?_ | refine BoxB.own ?_); conv => whnf)))
          all_goals first
            | (exfalso; omega)
            | exact ⟨hlt, trivial, [], rfl, rfl, trivial, ⟨rfl, rfl, rfl, ent_i hst2, rfl, trivial⟩⟩
  · have hke : k = cs.length := by omega
    subst hke
    cases hf : findTo cs scale day cs.length with
    | none =>
      have e0 : bestI none = -1 := rfl
      rw [e0]
      conv => whnf
      (repeat' (first | ((refine DecB.mk (fun h => ?_) (fun h => ?_)) <;> first | (exfalso; omega) | (conv => whnf)) | ((refine BoolB.mk (fun h => ?_) (fun h => ?_)) <;> first | (exact absurd h (by decide)) | (conv => whnf)) | ((first | refine zzW ?_ | refine zzI ?_ | refine zzR ?_ | refine zzB ?_ | refine late_ok rfl rfl ?_ | refine src_ok rfl ?_ | refine LitB.data ?_ | refine BoxB.own ?_); conv => whnf)))
      all_goals first
        | (exfalso; omega)
        | exact fin_t ⟨rfl, rfl, trivial⟩
    | some b =>
      have e0 : bestI (some b) = (b : Int) := rfl
      have em : (if (0 : Int) > (b : Int) then 0 else (b : Int)) = (b : Int) := if_neg (by omega)
      rw [e0]
      conv => whnf
      (repeat' (first | ((refine DecB.mk (fun h => ?_) (fun h => ?_)) <;> first | (exfalso; omega) | (conv => whnf)) | ((refine BoolB.mk (fun h => ?_) (fun h => ?_)) <;> first | (exact absurd h (by decide)) | (conv => whnf)) | ((first | refine zzW ?_ | refine zzI ?_ | refine zzR ?_ | refine zzB ?_ | refine late_ok rfl rfl ?_ | refine src_ok rfl ?_ | refine LitB.data ?_ | refine BoxB.own ?_); conv => whnf)))
      all_goals first
        | (exfalso; omega)
        | exact fin_t ⟨ent_i em, rfl, trivial⟩
theorem r13Recalled (rs : List Recall) (hl : rs.length ≤ 1000000) (scale day : Int) : ACall Tryz.prog 142 [.c (.t (recallsT rs)), intS .i64 scale, intS .i64 day] [] (boolS (recalled rs scale day)) [] := by
  have l1 : (rs.map Recall.row).length = rs.length := by simp
  (refine acall_of tab_ok Tryz.func142 rfl (by decide) ?_; (conv => whnf); repeat (first | (refine LitB.data ?_; conv => whnf) | (refine BoxB.data ?_; conv => whnf)))
  (repeat' (first | ((refine DecB.mk (fun h => ?_) (fun h => ?_)) <;> first | (exfalso; omega) | (conv => whnf)) | ((refine BoolB.mk (fun h => ?_) (fun h => ?_)) <;> first | (exact absurd h (by decide)) | (conv => whnf)) | ((first | refine zzW ?_ | refine zzI ?_ | refine zzR ?_ | refine zzB ?_ | refine late_ok rfl rfl ?_ | refine src_ok rfl ?_ | refine LitB.data ?_ | refine BoxB.own ?_); conv => whnf)))
  refine awp_for tab_ok (fun k => ([S.c (C.t (recallsT rs)), intS .i64 scale, intS .i64 day, J, J, J, J, intS .i64 k, J, J, J, J, J, J, J, J, J, J, J, J, J, J, J, J, J, J, J, J, J, J], [])) rs.length (fun k => (rs.take k).any (fun r => decide (r.scale = scale) && decide (r.since ≤ day)) = false) [] rfl
    ⟨rfl, rfl, trivial, ⟨rfl, rfl, rfl, rfl, trivial⟩⟩ ?_
  intro k hk hI
  by_cases hlt : k < rs.length
  · obtain ⟨r, hr⟩ : ∃ r, rs[k]? = some r := ⟨_, List.getElem?_eq_getElem hlt⟩
    conv => whnf
    (repeat' (first | ((refine DecB.mk (fun h => ?_) (fun h => ?_)) <;> first | (exfalso; omega) | (conv => whnf)) | ((refine BoolB.mk (fun h => ?_) (fun h => ?_)) <;> first | (exact absurd h (by decide)) | (conv => whnf)) | ((first | refine zzW ?_ | refine zzI ?_ | refine zzR ?_ | refine zzB ?_ | refine late_ok rfl rfl ?_ | refine src_ok rfl ?_ | refine ex_row hr ?_ | refine LitB.data ?_ | refine BoxB.own ?_); conv => whnf)))
    all_goals first
      | (exfalso; omega)
      | (refine ⟨hlt, ?_, [], rfl, rfl, trivial, ⟨rfl, rfl, rfl, rfl, trivial⟩⟩; rw [any_take_succ hr, hI]; simp [*]; done)
      | (refine ⟨hlt, ?_, [], rfl, rfl, trivial, ⟨rfl, rfl, rfl, rfl, trivial⟩⟩; rw [any_take_succ hr, hI]; simp; omega)
      | (refine fin_bool ?_; unfold recalled; rw [any_of_get hr]; simp [*]; done)
      | (refine fin_bool ?_; unfold recalled; rw [any_of_get hr]; simp; omega)
  · rw [List.take_of_length_le (by omega)] at hI
    conv => whnf
    (repeat' (first | ((refine DecB.mk (fun h => ?_) (fun h => ?_)) <;> first | (exfalso; omega) | (conv => whnf)) | ((refine BoolB.mk (fun h => ?_) (fun h => ?_)) <;> first | (exact absurd h (by decide)) | (conv => whnf)) | ((first | refine zzW ?_ | refine zzI ?_ | refine zzR ?_ | refine zzB ?_ | refine late_ok rfl rfl ?_ | refine src_ok rfl ?_ | refine LitB.data ?_ | refine BoxB.own ?_); conv => whnf)))
    all_goals first
      | (exfalso; omega)
      | exact fin_bool hI.symm
theorem r13Error (c : Cert) (reading day : Int) (h : covers c day = true) (hr : btw reading 0 1099511627776 = true) : ACall Tryz.prog 144 [certS c, intS .i64 reading, intS .i64 day] []
    (.tup [frS (fz (errR c reading day)), boolS true]) [] := by
  have cr := r13Right c
  have ci := r13in day c.since c.till
  have wi := r13in reading 0 1099511627776
  have hcr : certRight c = true := by unfold covers at h; simp only [Bool.and_eq_true] at h; exact h.1
  have hci : btw day c.since c.till = true := by unfold covers at h; simp only [Bool.and_eq_true] at h; exact h.2
  rw [hcr] at cr
  rw [hci] at ci
  rw [hr] at wi
  have hc := covers_iff h
  obtain ⟨p0, p1, d0, d1⟩ := ErrI.of h hr
  rw [btw_iff] at hr
  have fo := r5Of (c.permille * reading) 1000 (by decide) (by omega) (by omega) (by decide)
  have fi := r5Int (c.grams + c.drift * (day - c.since)) (by omega) (by omega)
  have h2 : rl (Rat.divInt (c.permille * reading) 1000) ≤ 4 := Nat.le_trans (rl_divInt (by decide)) (by have := bl_int (x := c.permille * reading) (by omega) (by omega); have := bl_int (x := 1000) (by decide) (by decide); omega)
  have h3 : rl ((c.grams + c.drift * (day - c.since) : Int) : Rat) ≤ 4 := by rw [rl_int]; have := bl_int (x := c.grams + c.drift * (day - c.since)) (by omega) (by omega); omega
  have ad := r5Add ((c.grams + c.drift * (day - c.since) : Int) : Rat) (Rat.divInt (c.permille * reading) 1000) (by omega) (by omega)
  (refine acall_of tab_ok Tryz.func144 rfl (by decide) ?_; (conv => whnf); repeat (first | (refine LitB.data ?_; conv => whnf) | (refine BoxB.own ?_; conv => whnf)))
  (repeat' (first | ((refine DecB.mk (fun h => ?_) (fun h => ?_)) <;> first | (exfalso; omega) | (conv => whnf)) | ((refine BoolB.mk (fun h => ?_) (fun h => ?_)) <;> first | (exact absurd h (by decide)) | (conv => whnf)) | ((first | refine zzW ?_ | refine zzI ?_ | refine zzR ?_ | refine zzB ?_ | refine late_ok rfl rfl ?_ | refine src_ok rfl ?_ | refine .inl ⟨_, _, qcall_pure (cr) rfl rfl, ?_⟩ | refine .inl ⟨_, _, qcall_pure (ci) rfl rfl, ?_⟩ | refine .inl ⟨_, _, qcall_pure (wi) rfl rfl, ?_⟩ | refine .inl ⟨_, _, qcall_pure (fo) rfl rfl, ?_⟩ | refine .inl ⟨_, _, qcall_pure (fi) rfl rfl, ?_⟩ | refine .inl ⟨_, _, qcall_pure (ad) rfl rfl, ?_⟩ | refine .inl ⟨_, _, qcall_pure (7) rfl rfl, ?_⟩ | refine .inl ⟨_, _, qcall_pure (15) rfl rfl, ?_⟩ | refine bar_late [7] (by decide +kernel) (by decide +kernel) ?_ | refine bar_late [15] (by decide +kernel) (by decide +kernel) ?_ | refine LitB.data ?_ | refine BoxB.own ?_); conv => whnf)))
  all_goals first
    | (exfalso; simp_all; done)
    | exact fin_fb (by rw [Rat.add_comm]; rfl) rfl
theorem r13Interval (cs : List Cert) (rs : List Recall) (hl : cs.length ≤ 1000000) (hl2 : rs.length ≤ 1000000) (scale reading day : Int) :
    ACall Tryz.prog 118 [.c (.t (certsT cs)), .c (.t (recallsT rs)), intS .i64 scale, intS .i64 reading, intS .i64 day] [] (.tup (ivL (interval cs rs scale reading day))) [] := by
  have f := r13Find cs scale day hl
  have r := r13Recalled rs hl2 scale day
  have wi := r13in reading 0 1099511627776
  unfold interval
  cases hf : findTo cs scale day cs.length with
  | none =>
    rw [hf] at f
    (refine acall_of tab_ok Tryz.func118 rfl (by decide) ?_; (conv => whnf); repeat (first | (refine LitB.data ?_; conv => whnf) | (refine BoxB.own ?_; conv => whnf)))
    (repeat' (first | ((refine DecB.mk (fun h => ?_) (fun h => ?_)) <;> first | (exfalso; omega) | (conv => whnf)) | ((refine BoolB.mk (fun h => ?_) (fun h => ?_)) <;> first | (exact absurd h (by decide)) | (conv => whnf)) | ((first | refine zzW ?_ | refine zzI ?_ | refine zzR ?_ | refine zzB ?_ | refine late_ok rfl rfl ?_ | refine src_ok rfl ?_ | refine .inl ⟨_, _, qcall_pure (f) rfl rfl, ?_⟩ | refine .inl ⟨_, _, qcall_pure (r) rfl rfl, ?_⟩ | refine .inl ⟨_, _, qcall_pure (wi) rfl rfl, ?_⟩ | refine .inl ⟨_, _, qcall_pure (1) rfl rfl, ?_⟩ | refine bar_late [1] (by decide +kernel) (by decide +kernel) ?_ | refine LitB.data ?_ | refine BoxB.own ?_); conv => whnf)))
    all_goals first
      | (exfalso; simp_all; done)
      | exact fin_t ⟨⟨rfl, rfl, rfl, rfl, trivial⟩, ⟨rfl, rfl, rfl, rfl, trivial⟩, rfl, trivial⟩
  | some i =>
    rw [hf] at f
    obtain ⟨hb, c, hc, _, hcv⟩ := findTo_some hf
    have e : certAt cs i = c := by unfold certAt; rw [hc]; rfl
    simp only [e]
    cases hrec : recalled rs scale day with
    | true =>
      rw [hrec] at r
      (refine acall_of tab_ok Tryz.func118 rfl (by decide) ?_; (conv => whnf); repeat (first | (refine LitB.data ?_; conv => whnf) | (refine BoxB.own ?_; conv => whnf)))
      (repeat' (first | ((refine DecB.mk (fun h => ?_) (fun h => ?_)) <;> first | (exfalso; omega) | (conv => whnf)) | ((refine BoolB.mk (fun h => ?_) (fun h => ?_)) <;> first | (exact absurd h (by decide)) | (conv => whnf)) | ((first | refine zzW ?_ | refine zzI ?_ | refine zzR ?_ | refine zzB ?_ | refine late_ok rfl rfl ?_ | refine src_ok rfl ?_ | refine .inl ⟨_, _, qcall_pure (f) rfl rfl, ?_⟩ | refine .inl ⟨_, _, qcall_pure (r) rfl rfl, ?_⟩ | refine .inl ⟨_, _, qcall_pure (wi) rfl rfl, ?_⟩ | refine .inl ⟨_, _, qcall_pure (1) rfl rfl, ?_⟩ | refine bar_late [1] (by decide +kernel) (by decide +kernel) ?_ | refine LitB.data ?_ | refine BoxB.own ?_); conv => whnf)))
      all_goals first
        | (exfalso; simp_all; done)
        | exact fin_t ⟨⟨rfl, rfl, rfl, rfl, trivial⟩, ⟨rfl, rfl, rfl, rfl, trivial⟩, rfl, trivial⟩
    | false =>
      rw [hrec] at r
      cases hr : btw reading 0 1099511627776 with
      | false =>
        rw [hr] at wi
        (refine acall_of tab_ok Tryz.func118 rfl (by decide) ?_; (conv => whnf); repeat (first | (refine LitB.data ?_; conv => whnf) | (refine BoxB.own ?_; conv => whnf)))
        (repeat' (first | ((refine DecB.mk (fun h => ?_) (fun h => ?_)) <;> first | (exfalso; omega) | (conv => whnf)) | ((refine BoolB.mk (fun h => ?_) (fun h => ?_)) <;> first | (exact absurd h (by decide)) | (conv => whnf)) | ((first | refine zzW ?_ | refine zzI ?_ | refine zzR ?_ | refine zzB ?_ | refine late_ok rfl rfl ?_ | refine src_ok rfl ?_ | refine .inl ⟨_, _, qcall_pure (f) rfl rfl, ?_⟩ | refine .inl ⟨_, _, qcall_pure (r) rfl rfl, ?_⟩ | refine .inl ⟨_, _, qcall_pure (wi) rfl rfl, ?_⟩ | refine .inl ⟨_, _, qcall_pure (1) rfl rfl, ?_⟩ | refine bar_late [1] (by decide +kernel) (by decide +kernel) ?_ | refine LitB.data ?_ | refine BoxB.own ?_); conv => whnf)))
        all_goals first
          | exact fin_t ⟨⟨rfl, rfl, rfl, rfl, trivial⟩, ⟨rfl, rfl, rfl, rfl, trivial⟩, rfl, trivial⟩
          | (exfalso; simp_all; done)
      | true =>
        have er := r13Error c reading day hcv hr
        have l1 := rl_err hcv hr
        rw [hr] at wi
        rw [btw_iff] at hr
        have l2 : rl (reading : Rat) ≤ 4 := by rw [rl_int]; have := bl_int (x := reading) (by omega) (by omega); omega
        have fi := r5Int reading (by omega) (by omega)
        have f0 := r5Int 0 (by omega) (by omega)
        have sb := r5Sub (reading : Rat) (errR c reading day) (by omega) (by omega)
        have ad := r5Add (reading : Rat) (errR c reading day) (by omega) (by omega)
        have l4 := rl_sub (reading : Rat) (errR c reading day)
        have sg := r5Sign ((reading : Rat) - errR c reading day) (by omega)
        have hs := sgR_neg' ((reading : Rat) - errR c reading day)
        (refine acall_of tab_ok Tryz.func118 rfl (by decide) ?_; (conv => whnf); repeat (first | (refine LitB.data ?_; conv => whnf) | (refine BoxB.own ?_; conv => whnf)))
        (repeat' (first | ((refine DecB.mk (fun h => ?_) (fun h => ?_)) <;> first | (exfalso; omega) | (conv => whnf)) | ((refine BoolB.mk (fun h => ?_) (fun h => ?_)) <;> first | (exact absurd h (by decide)) | (conv => whnf)) | ((first | refine zzW ?_ | refine zzI ?_ | refine zzR ?_ | refine zzB ?_ | refine late_ok rfl rfl ?_ | refine src_ok rfl ?_ | refine .inl ⟨_, _, qcall_pure (f) rfl rfl, ?_⟩ | refine .inl ⟨_, _, qcall_pure (r) rfl rfl, ?_⟩ | refine .inl ⟨_, _, qcall_pure (wi) rfl rfl, ?_⟩ | refine .inl ⟨_, _, qcall_pure (er) rfl rfl, ?_⟩ | refine .inl ⟨_, _, qcall_pure (fi) rfl rfl, ?_⟩ | refine .inl ⟨_, _, qcall_pure (f0) rfl rfl, ?_⟩ | refine .inl ⟨_, _, qcall_pure (sb) rfl rfl, ?_⟩ | refine .inl ⟨_, _, qcall_pure (ad) rfl rfl, ?_⟩ | refine .inl ⟨_, _, qcall_pure (sg) rfl rfl, ?_⟩ | refine .inl ⟨_, _, qcall_pure (1) rfl rfl, ?_⟩ | refine .inl ⟨_, _, qcall_pure (9) rfl rfl, ?_⟩ | refine .inl ⟨_, _, qcall_pure (6) rfl rfl, ?_⟩ | refine ex_row hc ?_ | refine bar_late [1] (by decide +kernel) (by decide +kernel) ?_ | refine bar_late [9] (by decide +kernel) (by decide +kernel) ?_ | refine bar_late [6] (by decide +kernel) (by decide +kernel) ?_ | refine LitB.data ?_ | refine BoxB.own ?_); conv => whnf)))
        · have hn : (reading : Rat) - errR c reading day < ((0 : Int) : Rat) := hs.1 (by omega)
          refine fin_t ⟨ent_fz ?_, ⟨rfl, rfl, rfl, rfl, trivial⟩, rfl, trivial⟩
          unfold maxR; rw [if_pos hn]
        · have hn : ¬ (reading : Rat) - errR c reading day < ((0 : Int) : Rat) := fun h => absurd (hs.2 h) (by omega)
          refine fin_t ⟨ent_fz ?_, ⟨rfl, rfl, rfl, rfl, trivial⟩, rfl, trivial⟩
          unfold maxR; rw [if_neg hn]
        · have hq : (some i).isSome = false := by assumption
          cases hq
end Go.Proofs.YtfieodjihaodiaaGreat
