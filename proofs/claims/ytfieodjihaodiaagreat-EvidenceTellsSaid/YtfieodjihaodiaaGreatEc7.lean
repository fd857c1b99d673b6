/- Tells. -/
import Derived.Deep.DeepMust
import Derived.BigQuiet
import Derived.Deep.Light
import Derived.ProofKit
import Derived.OpenShut
import Derived.Deep.Slices
import Derived.Deep.Fields
import Derived.Test.YtfieodjihaodiaaGreatRows
import Derived.Test.YtfieodjihaodiaaGreatEc6
/- reference 16: stock, weight, purity. -/
namespace Go.Proofs.YtfieodjihaodiaaGreat
open Go.RowKit
set_option linter.unusedVariables false
set_option linter.unusedSimpArgs false
set_option maxRecDepth 100000

/-- add in a greater heap -/
theorem a_LaddG {H : Hp} {L : List (RowP × OrP)} {r o cc n ln : Nat} {rs os cs : List (List C)} {l : List Int} (hs : H[0]? = some (lsB r o n)) (h1 : H[r]? = some { mode := .live, elem := 65, size := 6, rows := rs, box := false })
    (h2 : H[o]? = some { mode := .live, elem := 42, size := 4, rows := os, box := false }) (h3 : H[cc]? = some { mode := .live, elem := 3, size := 1, rows := cs, box := false }) (hn : n = L.length) (hrs : rs = toC (L.map fun w => rowRow w.1)) (hos : os = toC (L.map fun w => orRow w.2)) (hcs : cs = toC (l.map intRow)) (hln : ln = l.length) (hc0 : cc ≠ 0) (hcr : cc ≠ r) (hco : cc ≠ o) (hl : l.length ≤ 1000) (hb : ∀ c ∈ l, -1000000 ≤ c ∧ c ≤ 1000000) (hr0 : r ≠ 0) (ho0 : o ≠ 0) (hro : r ≠ o) (hL : L.length ≤ 1000000)
    (kind : Int) (v : Rat) (p : OrP) :
    ACall Tryz.prog 117 [.c (.ptr 0 0 0), .c (.own cc 0 ln true), intS .i64 kind, frS (fz v), orS p] H (.tup [])
      ((((H.set 0 (lsB H.length (H.length + 1) (L ++ [((⟨rowTo l l.length, kind, v⟩ : RowP), p)]).length)).set r deadR).set o deadO) ++ [rB (L ++ [((⟨rowTo l l.length, kind, v⟩ : RowP), p)]), oB (L ++ [((⟨rowTo l l.length, kind, v⟩ : RowP), p)])]) := by
  subst hn hrs hos hcs hln
  have g0 : 0 < H.length := (List.getElem?_eq_some_iff.1 hs).1
  have g1 : r < H.length := (List.getElem?_eq_some_iff.1 h1).1
  have g2 : o < H.length := (List.getElem?_eq_some_iff.1 h2).1
  have g3 : cc < H.length := (List.getElem?_eq_some_iff.1 h3).1
  have ex : extR [0, r, o, cc] H.length 2 = [0, r, o, cc, H.length, H.length + 1] := by simp [extR, List.range_succ]
  refine acall_frame [0, r, o, cc] (a_Ladd L hL l hl hb kind v p) rfl rfl rfl (by simp; omega) ?_ ?_ (by simp) rfl rfl (by simp) ?_ ?_
  · intro i k hk
    match i, hk with
    | 0, hk =>
      injection hk with hk
      subst hk
      exact ⟨rfl, rfl, by intro r hr; simp at hr; subst hr; rfl, _, hs, ⟨rfl, rfl, rfl, rfl, rfl⟩⟩
    | 1, hk =>
      injection hk with hk
      subst hk
      exact ⟨rfl, rfl, okRows_toC _, _, h1, renB_data rfl⟩
    | 2, hk =>
      injection hk with hk
      subst hk
      exact ⟨rfl, rfl, okRows_toC _, _, h2, renB_data rfl⟩
    | 3, hk =>
      injection hk with hk
      subst hk
      exact ⟨rfl, rfl, okRows_toC _, _, h3, renB_data rfl⟩
  · intro k hk
    simp at hk
    rcases hk with rfl | rfl | rfl | rfl | rfl | rfl <;> (intro h; cases h)
  · intro i k hk
    show ∃ k', _[(extR [0, r, o, cc] H.length 2).getD i 0]? = some k' ∧ RenB (extR [0, r, o, cc] H.length 2) k k'
    rw [ex]
    match i, hk with
    | 0, hk =>
      injection hk with hk
      subst hk
      refine ⟨lsB H.length (H.length + 1) (L ++ [((⟨rowTo l l.length, kind, v⟩ : RowP), p)]).length, ?_, ⟨rfl, rfl, rfl, rfl, rfl⟩⟩
      show (_ ++ _)[0]? = _
      rw [List.getElem?_append_left (by simp; omega), List.getElem?_set, if_neg (by omega), List.getElem?_set, if_neg (by omega), List.getElem?_set, if_pos rfl, if_pos g0]
    | 1, hk =>
      injection hk with hk
      subst hk
      refine ⟨deadR, ?_, ⟨rfl, rfl, rfl, rfl, rfl⟩⟩
      show (_ ++ _)[r]? = _
      rw [List.getElem?_append_left (by simp; omega), List.getElem?_set, if_neg (by omega), List.getElem?_set, if_pos rfl, if_pos (by simp; omega)]
    | 2, hk =>
      injection hk with hk
      subst hk
      refine ⟨deadO, ?_, ⟨rfl, rfl, rfl, rfl, rfl⟩⟩
      show (_ ++ _)[o]? = _
      rw [List.getElem?_append_left (by simp; omega), List.getElem?_set, if_pos rfl, if_pos (by simp; omega)]
    | 3, hk =>
      injection hk with hk
      subst hk
      refine ⟨cB l, ?_, renB_data rfl⟩
      show (_ ++ _)[cc]? = _
      rw [List.getElem?_append_left (by simp; omega), List.getElem?_set, if_neg (by omega), List.getElem?_set, if_neg (by omega), List.getElem?_set, if_neg (by omega)]
      exact h3
    | 4, hk =>
      injection hk with hk
      subst hk
      refine ⟨rB (L ++ [((⟨rowTo l l.length, kind, v⟩ : RowP), p)]), ?_, renB_data rfl⟩
      show (_ ++ _)[H.length]? = _
      rw [List.getElem?_append_right (by simp)]
      simp
    | 5, hk =>
      injection hk with hk
      subst hk
      refine ⟨oB (L ++ [((⟨rowTo l l.length, kind, v⟩ : RowP), p)]), ?_, renB_data rfl⟩
      show (_ ++ _)[H.length + 1]? = _
      rw [List.getElem?_append_right (by simp)]
      simp
  · intro j hj hjn
    simp at hjn
    rw [List.getElem?_append_left (by simp; omega), List.getElem?_set, if_neg (by omega), List.getElem?_set, if_neg (by omega), List.getElem?_set, if_neg (by omega)]
abbrev hl1 (L : List (RowP × OrP)) : Hp := [lsB 3 4 L.length, deadR, deadO, rB L, oB L]
theorem ls_ent {ρ : List (Option Nat)} {H : Hp} {r o r' o' n n' : Nat} (h1 : ρ[r']? = some (some r)) (h2 : ρ[o']? = some (some o)) (hn : n = n') : EntB ρ H (lsB r o n) (lsB r' o' n') :=
  ⟨rfl, rfl, rfl, .inr ⟨⟨⟨h1, rfl, hn, fun h => h⟩, ⟨h2, rfl, hn, fun h => h⟩, trivial⟩, trivial⟩⟩
theorem set_cB {l : List Int} {j : Nat} {a : Int} : (toC (l.map intRow)).set j [C.t (ti a)] = toC ((l.set j a).map intRow) := by simp [toC, List.map_set, intRow]
theorem zero_cB {N : Nat} {ρ : List (Option Nat)} {H : Hp} : EntB ρ H (newBlk 3 1 (List.replicate N [C.t (ti 0)]) false) (cB (cfL N fun _ => 0)) := by
  refine entB_rows rfl rfl rfl (rows := (cfL N fun _ => 0).map intRow) ?_ rfl
  rw [← cfL_zero]; simp [toC, newBlk, intRow]
theorem a_Vars16 (e : Ev) (h0 : 0 ≤ (e.moves.length : Int) * e.mats) (h1 : (e.moves.length : Int) * e.mats ≤ 1000000) : ACall Tryz.prog 39 [evS e] [] (intS .i64 ((e.moves.length : Int) * e.mats)) [] := by
  have m0 : (e.moves.map Move.row).length = e.moves.length := by simp
  have mm : ((e.moves.map Move.row).length : Int) * e.mats = (e.moves.length : Int) * e.mats := by rw [m0]
  (refine acall_of tab_ok Tryz.func39 rfl (by decide) ?_; (conv => whnf); repeat (first | (refine LitB.data ?_; conv => whnf) | (refine BoxB.data ?_; conv => whnf)))
  (repeat' (first | ((refine DecB.mk (fun h => ?_) (fun h => ?_)) <;> first | (exfalso; omega) | (conv => whnf)) | ((refine BoolB.mk (fun h => ?_) (fun h => ?_)) <;> first | (exact absurd h (by decide)) | (conv => whnf)) | ((first | refine zzW ?_ | refine zzI ?_ | refine zzR ?_ | refine zzB ?_ | refine late_ok rfl rfl ?_ | refine src_ok rfl ?_ | refine LitB.data ?_ | refine BoxB.own ?_); conv => whnf)))
  exact fin_int mm
theorem cf_small {N : Nat} {f : Nat → Int} (hN : N ≤ 1000) (h : ∀ v, -1000000 ≤ f v ∧ f v ≤ 1000000) : (cfL N f).length ≤ 1000 ∧ ∀ c ∈ cfL N f, -1000000 ≤ c ∧ c ≤ 1000000 := by
  refine ⟨by rw [cfL_len]; exact hN, fun c hc => ?_⟩
  obtain ⟨v, _, rfl⟩ := List.mem_map.1 hc
  exact h v
set_option maxHeartbeats 4000000 in
theorem a_LweightN (e : Ev) (hE : EvSm e) {i : Nat} {x : Move} (hx : e.moves[i]? = some x) (L : List (RowP × OrP)) (hiv : ivOf e x = none) :
    ACall Tryz.prog 83 [.c (.ptr 0 0 0), evS e, intS .i64 i] (hl0 L) (.tup []) (hl0 L) := by
  have m0 : (e.moves.map Move.row).length = e.moves.length := by simp
  have hi := (List.getElem?_eq_some_iff.1 hx).1
  have iv := r13Interval e.certs e.recalls hE.sz.s3 hE.sz.s4 x.scale x.reading x.day
  have fin0 : ∀ R : Hp, Fin 3 (.tup []) (hl0 L ++ R) (.tup []) (hl0 L) := fun R => ⟨[some 0, some 1, some 2], rfl, rfl, ⟨ls_ent rfl rfl rfl, rows_ent rfl, rows_ent rfl, trivial⟩, trivial⟩
  cases hiv2 : interval e.certs e.recalls x.scale x.reading x.day with
  | none =>
    rw [hiv2] at iv
    (refine acall_of tab_ok Tryz.func83 rfl (by decide) ?_; (conv => whnf); repeat (first | (refine LitB.data ?_; conv => whnf) | (refine BoxB.data ?_; conv => whnf)))
    (repeat' (first | ((refine DecB.mk (fun h => ?_) (fun h => ?_)) <;> first | (exfalso; omega) | (conv => whnf)) | ((refine BoolB.mk (fun h => ?_) (fun h => ?_)) <;> first | (exact absurd h (by decide)) | (conv => whnf)) | ((first | refine zzW ?_ | refine zzI ?_ | refine zzR ?_ | refine zzB ?_ | refine late_ok rfl rfl ?_ | refine src_ok rfl ?_ | refine .inl ⟨_, _, qcall_pure (iv) rfl rfl, ?_⟩ | refine .inl ⟨_, _, qcall_pure (13, 14) rfl rfl, ?_⟩ | refine .inl ⟨_, _, qcall_pure (14) rfl rfl, ?_⟩ | refine ex_row hx ?_ | refine bar_late [13, 14] (by decide +kernel) (by decide +kernel) ?_ | refine bar_late [14] (by decide +kernel) (by decide +kernel) ?_ | refine LitB.data ?_ | refine BoxB.own ?_); conv => whnf)))
    all_goals first
      | (exfalso; omega)
      | exact fin0 [_, _, _]
      | skip
  | some lh =>
    obtain ⟨lo, hi'⟩ := lh
    rw [hiv2] at iv
    have hsc : x.scale = -1 := by
      unfold ivOf at hiv
      by_cases h : x.scale = -1
      · exact h
      · rw [if_neg h, hiv2] at hiv; cases hiv
    (refine acall_of tab_ok Tryz.func83 rfl (by decide) ?_; (conv => whnf); repeat (first | (refine LitB.data ?_; conv => whnf) | (refine BoxB.data ?_; conv => whnf)))
    (repeat' (first | ((refine DecB.mk (fun h => ?_) (fun h => ?_)) <;> first | (exfalso; omega) | (conv => whnf)) | ((refine BoolB.mk (fun h => ?_) (fun h => ?_)) <;> first | (exact absurd h (by decide)) | (conv => whnf)) | ((first | refine zzW ?_ | refine zzI ?_ | refine zzR ?_ | refine zzB ?_ | refine late_ok rfl rfl ?_ | refine src_ok rfl ?_ | refine .inl ⟨_, _, qcall_pure (iv) rfl rfl, ?_⟩ | refine .inl ⟨_, _, qcall_pure (13, 14) rfl rfl, ?_⟩ | refine .inl ⟨_, _, qcall_pure (14) rfl rfl, ?_⟩ | refine ex_row hx ?_ | refine bar_late [13, 14] (by decide +kernel) (by decide +kernel) ?_ | refine bar_late [14] (by decide +kernel) (by decide +kernel) ?_ | refine LitB.data ?_ | refine BoxB.own ?_); conv => whnf)))
    all_goals first
      | (exfalso; omega)
      | exact fin0 [_, _, _]
      | skip
theorem ex_cf {N : Nat} {f : Nat → Int} {n : Int} {j : Nat} {K : List C → Prop} (h : n = (j : Int)) (hj : j < N) (hK : K [C.t (ti (f j))]) : ∃ row, (cB (cfL N f)).rows[0 + n.toNat]? = some row ∧ K row := by
  subst h
  exact ⟨_, by simp [toC, cfL_get hj, intRow], hK⟩
theorem set_cf {N : Nat} {f : Nat → Int} {n : Int} {j : Nat} {a : Int} (h : n = (j : Int)) : (cB (cfL N f)).rows.set (0 + n.toNat) [C.t (ti a)] = toC ((cfL N (fun v => if v = j then a else f v)).map intRow) := by
  subst h
  show (toC ((cfL N f).map intRow)).set _ _ = _
  rw [Int.toNat_natCast, Nat.zero_add, set_cB, cfL_set]
set_option maxHeartbeats 8000000 in
theorem a_LweightS (e : Ev) (hE : EvSm e) {i : Nat} {x : Move} (hx : e.moves[i]? = some x) (L : List (RowP × OrP)) (hL : L.length ≤ 100000) {lo hi : Rat} (hiv : ivOf e x = some (lo, hi)) :
    ACall Tryz.prog 83 [.c (.ptr 0 0 0), evS e, intS .i64 i] (hl0 L) (.tup []) (hl1 (L ++ weightP e i x)) := by
  have m0 : (e.moves.map Move.row).length = e.moves.length := by simp
  have hi' := (List.getElem?_eq_some_iff.1 hx).1
  have iv := r13Interval e.certs e.recalls hE.sz.s3 hE.sz.s4 x.scale x.reading x.day
  have hsc : x.scale ≠ -1 := fun h => by unfold ivOf at hiv; rw [if_pos h] at hiv; cases hiv
  have hiv2 : interval e.certs e.recalls x.scale x.reading x.day = some (lo, hi) := by unfold ivOf at hiv; rwa [if_neg hsc] at hiv
  rw [hiv2] at iv
  obtain ⟨c, hc⟩ : ∃ c : Nat, e.mats = c := Int.eq_ofNat_of_zero_le (by have := hE.m1; omega)
  have hm1 := hE.m1
  have hm6 := hE.m6
  have hmv := hE.mv
  obtain ⟨N, hN⟩ : ∃ N, N = e.moves.length * c := ⟨_, rfl⟩
  have hN2 : N ≤ 8 * 6 := by rw [hN]; exact Nat.mul_le_mul hmv (by omega)
  have hNi : (e.moves.length : Int) * e.mats = N := by rw [hc, hN]; push_cast; rfl
  have vr := a_Vars16 e (by omega) (by omega)
  rw [hNi] at vr
  have hic : i * c + c ≤ N := by
    have : (i + 1) * c ≤ N := by rw [hN]; exact Nat.mul_le_mul_right _ hi'
    rw [Nat.succ_mul] at this; exact this
  have hici : (i : Int) * e.mats = ((i * c : Nat) : Int) := by rw [hc]; push_cast; rfl
  have mk0 : (0 : Int) ≤ N ∧ (N : Int) ≤ N ∧ (N : Int) * (((8 : Nat) : Int) + 1) ≤ 140737488355328 := by omega
  obtain ⟨L1, hL1⟩ : ∃ L1 : List (RowP × OrP), L1 = L ++ [((⟨sumA e i 1 (-1) 0, 0, lo⟩ : RowP), (⟨1, i, -1, -1⟩ : OrP))] := ⟨_, rfl⟩
  obtain ⟨L2, hL2⟩ : ∃ L2 : List (RowP × OrP), L2 = L1 ++ [((⟨sumA e i 1 (-1) 0, 1, hi⟩ : RowP), (⟨2, i, -1, -1⟩ : OrP))] := ⟨_, rfl⟩
  have hW : L ++ weightP e i x = L2 := by rw [hL2, hL1]; unfold weightP; rw [hiv]; simp
  have l1 : L1.length ≤ 100001 := by rw [hL1]; simp; omega
  rw [hW]
  have sm := cf_small (N := N) (f := FE i c 1 c) (by omega) (fun v => by rw [FE_at]; split <;> omega)
  have a1 := a_LaddG (H := [lsB 1 2 L.length, rB L, oB L, mvB x, one16 (fz lo), one16 (fz hi), cB (cfL N (FE i c 1 c))]) (r := 1) (o := 2) (cc := 6) (l := cfL N (FE i c 1 c)) (ln := N) rfl rfl rfl rfl rfl rfl rfl rfl (cfL_len _ _).symm (by decide) (by decide) (by decide) sm.1 sm.2 (by decide) (by decide) (by decide) (by omega) 0 lo ⟨1, i, -1, -1⟩
  rw [cfL_len, weight_terms hc hi' hN, ← hL1] at a1
  have a2 := fun (k1 k2 : Blk) => a_LaddG (H := [lsB 7 8 L1.length, k1, k2, mvB x, one16 (fz lo), one16 (fz hi), cB (cfL N (FE i c 1 c)), rB L1, oB L1]) (r := 7) (o := 8) (cc := 6) (l := cfL N (FE i c 1 c)) (ln := N) rfl rfl rfl rfl rfl rfl rfl rfl (cfL_len _ _).symm (by decide) (by decide) (by decide) sm.1 sm.2 (by decide) (by decide) (by decide) (by omega) 1 hi ⟨2, i, -1, -1⟩
  rw [cfL_len, weight_terms hc hi' hN, ← hL2] at a2
  (refine acall_of tab_ok Tryz.func83 rfl (by decide) ?_; (conv => whnf); repeat (first | (refine LitB.data ?_; conv => whnf) | (refine BoxB.data ?_; conv => whnf)))
  (repeat' (first | ((refine DecB.mk (fun h => ?_) (fun h => ?_)) <;> first | (exfalso; omega) | (conv => whnf)) | ((refine BoolB.mk (fun h => ?_) (fun h => ?_)) <;> first | (exact absurd h (by decide)) | (conv => whnf)) | ((first | refine zzW ?_ | refine zzI ?_ | refine zzR ?_ | refine zzB ?_ | refine late_ok rfl rfl ?_ | refine src_ok rfl ?_ | refine .inl ⟨_, _, qcall_pure (iv) rfl rfl, ?_⟩ | refine .inl ⟨_, _, qcall_pure (vr) rfl rfl, ?_⟩ | refine .inl ⟨_, _, qcall_pure (13, 14) rfl rfl, ?_⟩ | refine .inl ⟨_, _, qcall_pure (14) rfl rfl, ?_⟩ | refine ex_row hx ?_ | refine bar_late [13, 14] (by decide +kernel) (by decide +kernel) ?_ | refine bar_late [14] (by decide +kernel) (by decide +kernel) ?_ | refine And.intro mk0 ?_ | refine LitB.data ?_ | refine BoxB.own ?_); conv => whnf)))
  all_goals try (exfalso; omega)
  refine awp_for tab_ok (fun m => ([S.c (C.ptr 0 0 0), J, intS .i64 i, J, S.c (C.t (T.ptr (evT e))), J, J, S.c (C.ptr 4 0 0), S.c (C.ptr 5 0 0), J, S.c (C.own 6 0 N true), intS .i64 m, J, J, J, J, J, J, J, J, J, J, J, J, J, J, J, J, J, J, J, J, J, J, J, J, J, J, J, J, J, J, J, J, J, J, J, J, J, J, J, J, J, J, J, J, J, J, J, J, J, J, J, J, J, J, J, J], [lsB 1 2 L.length, rB L, oB L, mvB x, one16 (fz lo), one16 (fz hi), cB (cfL N (FE i c 1 m))])) c (fun _ => True) [some 0, some 1, some 2, some 3, some 4, some 5, some 6] trivial
    ⟨rfl, rfl, ⟨ls_ent rfl rfl rfl, rows_ent rfl, rows_ent rfl, ⟨rfl, rfl, rfl, .inl ⟨rfl, rowsT_mvB x⟩⟩, ⟨rfl, rfl, rfl, .inl ⟨rfl, rowsT_one16 _⟩⟩, ⟨rfl, rfl, rfl, .inl ⟨rfl, rowsT_one16 _⟩⟩, zero_cB, trivial⟩, ⟨⟨rfl, rfl, rfl⟩, rfl, rfl, ⟨rfl, rfl, rfl⟩, ⟨rfl, rfl, rfl⟩, ⟨rfl, rfl, by simp, fun h => h⟩, rfl, trivial⟩⟩ ?_
  intro m hm _
  by_cases hmt : m < c
  · conv => whnf
    have hj : (i : Int) * e.mats + (m : Int) = ((i * c + m : Nat) : Int) := by rw [hici]; push_cast; rfl
    (repeat' (first | ((refine DecB.mk (fun h => ?_) (fun h => ?_)) <;> first | (exfalso; omega) | (conv => whnf)) | ((refine BoolB.mk (fun h => ?_) (fun h => ?_)) <;> first | (exact absurd h (by decide)) | (conv => whnf)) | ((first | refine zzW ?_ | refine zzI ?_ | refine zzR ?_ | refine zzB ?_ | refine late_ok rfl rfl ?_ | refine src_ok rfl ?_ | refine ex_cf hj (by omega) ?_ | refine LitB.data ?_ | refine BoxB.own ?_); conv => whnf)))
    all_goals try (exfalso; omega)
    exact ⟨hmt, trivial, [some 0, some 1, some 2, some 3, some 4, some 5, some 6], rfl, rfl, ⟨ls_ent rfl rfl rfl, rows_ent rfl, rows_ent rfl, ⟨rfl, rfl, rfl, .inl ⟨rfl, rowsT_mvB x⟩⟩, ⟨rfl, rfl, rfl, .inl ⟨rfl, rowsT_one16 _⟩⟩, ⟨rfl, rfl, rfl, .inl ⟨rfl, rowsT_one16 _⟩⟩, entB_rows rfl rfl rfl (set_cf hj) rfl, trivial⟩, ⟨⟨rfl, rfl, rfl⟩, rfl, rfl, ⟨rfl, rfl, rfl⟩, ⟨rfl, rfl, rfl⟩, ⟨rfl, rfl, rfl, fun h => h⟩, rfl, trivial⟩⟩
  · have hme : m = c := by omega
    subst hme
    conv => whnf
    (repeat' (first | ((refine DecB.mk (fun h => ?_) (fun h => ?_)) <;> first | (exfalso; omega) | (conv => whnf)) | ((refine BoolB.mk (fun h => ?_) (fun h => ?_)) <;> first | (exact absurd h (by decide)) | (conv => whnf)) | ((first | refine zzW ?_ | refine zzI ?_ | refine zzR ?_ | refine zzB ?_ | refine late_ok rfl rfl ?_ | refine src_ok rfl ?_ | refine .inr ⟨_, _, a1, ?_⟩ | refine .inr ⟨_, _, a2 _ _, ?_⟩ | refine LitB.data ?_ | refine BoxB.own ?_); conv => whnf)))
    all_goals first
      | (exfalso; omega)
      | exact ⟨⟨[some 0, some 1, some 2, some 9, some 10], rfl, rfl, ⟨ls_ent rfl rfl rfl, deadB_ent, deadB_ent, rows_ent rfl, rows_ent rfl, trivial⟩, trivial⟩⟩
      | skip
end Go.Proofs.YtfieodjihaodiaaGreat
/- reference 16: stock. -/
namespace Go.Proofs.YtfieodjihaodiaaGreat
open Go.RowKit
set_option linter.unusedVariables false
set_option linter.unusedSimpArgs false
set_option maxRecDepth 100000

def hlM (L : List (RowP × OrP)) : Nat → Hp
  | 0 => hl0 L
  | _ + 1 => hl1 L
theorem ex_cf2 {N : Nat} {f : Nat → Int} {n : Int} {j : Nat} {a : Int} {K : List C → Prop} (h : n = (j : Int)) (hj : j < N) (hK : K [C.t (ti a)]) : ∃ row, ((cB (cfL N f)).rows.set (0 + n.toNat) [C.t (ti a)])[0 + n.toNat]? = some row ∧ K row := by
  subst h
  refine ⟨_, ?_, hK⟩
  rw [List.getElem?_set_self]
  simp [toC, cfL_len]; exact hj
theorem set_cf2 {N : Nat} {f : Nat → Int} {n : Int} {j : Nat} {a b : Int} (h : n = (j : Int)) : ((cB (cfL N f)).rows.set (0 + n.toNat) [C.t (ti b)]).set (0 + n.toNat) [C.t (ti a)] = toC ((cfL N (fun v => if v = j then a else f v)).map intRow) := by
  rw [List.set_set]; exact set_cf h
theorem GE_skip {e : Ev} {p : Int} {c m i : Nat} (hm : m < c) (h : sgnE e p i = 0) : ∀ v, GE e p c m i v = GE e p c m (i + 1) v := fun v => by
  show _ = if v = i * c + m then sgnE e p i else GE e p c m i v
  by_cases hv : v = i * c + m
  · rw [if_pos hv, h, hv]; exact GE_hi hm i _ (by omega)
  · rw [if_neg hv]
theorem GE_rng {e : Ev} {p : Int} {c m : Nat} : ∀ (i v : Nat), -1000000 ≤ GE e p c m i v ∧ GE e p c m i v ≤ 1000000
  | 0, v => by show -1000000 ≤ (0 : Int) ∧ (0 : Int) ≤ 1000000; decide
  | i + 1, v => by
    unfold GE
    split
    · unfold sgnE
      split
      · decide
      · split
        · decide
        · split <;> decide
    · exact GE_rng i v
set_option maxHeartbeats 16000000 in
theorem a_Lstock (e : Ev) (hE : EvSm e) {i : Nat} {x : Move} (hx : e.moves[i]? = some x) (L : List (RowP × OrP)) (hL : L.length ≤ 100000) :
    ACall Tryz.prog 82 [.c (.ptr 0 0 0), evS e, intS .i64 i] (hl0 L) (.tup []) (hl1 (L ++ stocksP e i x e.mats.toNat)) := by
  have m0 : (e.moves.map Move.row).length = e.moves.length := by simp
  have hi' := (List.getElem?_eq_some_iff.1 hx).1
  obtain ⟨c, hc⟩ : ∃ c : Nat, e.mats = c := Int.eq_ofNat_of_zero_le (by have := hE.m1; omega)
  have hm1 := hE.m1
  have hm6 := hE.m6
  have hmv := hE.mv
  obtain ⟨N, hN⟩ : ∃ N, N = e.moves.length * c := ⟨_, rfl⟩
  have hN2 : N ≤ 8 * 6 := by rw [hN]; exact Nat.mul_le_mul hmv (by omega)
  have hNi : (e.moves.length : Int) * e.mats = N := by rw [hc, hN]; push_cast; rfl
  have vr := a_Vars16 e (by omega) (by omega)
  rw [hNi] at vr
  have ib : ∀ k, k < e.moves.length → k * c + c ≤ N := fun k hk => by
    have : (k + 1) * c ≤ N := by rw [hN]; exact Nat.mul_le_mul_right _ hk
    rw [Nat.succ_mul] at this; exact this
  have kci : ∀ k : Nat, (k : Int) * e.mats = ((k * c : Nat) : Int) := fun k => by rw [hc]; push_cast; rfl
  have mk0 : (0 : Int) ≤ N ∧ (N : Int) ≤ N ∧ (N : Int) * (((8 : Nat) : Int) + 1) ≤ 140737488355328 := by omega
  have hsg : sgnE e x.src i = -1 := by unfold sgnE; rw [hx]; simp
  have i0 := r5Int 0 (by decide) (by decide)
  let K : Int := if x.all then 2 else 0
  cases hal : x.all
  case' false => have hK : K = 0 := by show (if x.all then (2 : Int) else 0) = 0; rw [hal]; rfl
  case' true => have hK : K = 2 := by show (if x.all then (2 : Int) else 0) = 2; rw [hal]; rfl
  all_goals
    rw [hc, Int.toNat_natCast]
    (refine acall_of tab_ok Tryz.func82 rfl (by decide) ?_; (conv => whnf); repeat (first | (refine LitB.data ?_; conv => whnf) | (refine BoxB.data ?_; conv => whnf)))
    (repeat' (first | ((refine DecB.mk (fun h => ?_) (fun h => ?_)) <;> first | (exfalso; omega) | (conv => whnf)) | ((refine BoolB.mk (fun h => ?_) (fun h => ?_)) <;> first | (exact absurd h (by decide)) | (conv => whnf)) | ((first | refine zzW ?_ | refine zzI ?_ | refine zzR ?_ | refine zzB ?_ | refine late_ok rfl rfl ?_ | refine src_ok rfl ?_ | refine ex_row hx ?_ | refine LitB.data ?_ | refine BoxB.own ?_); conv => whnf)))
    all_goals first
      | (exfalso; omega)
      | (exfalso; simp_all; done)
      | skip
    refine awp_for tab_ok (fun m => ([S.c (C.ptr 0 0 0), J, intS .i64 i, J, S.c (C.t (T.ptr (evT e))), J, intS .i64 x.src, intS .i64 K, intS .i64 m, J, J, J, J, J, J, J, J, J, J, J, J, J, J, J, J, J, J, J, J, J, J, J, J, J, J, J, J, J, J, J, J, J, J, J, J, J, J, J, J, J, J, J, J, J, J, J, J, J, J, J, J, J, J, J, J, J, J, J, J, J, J, J, J, J, J, J, J, J, J, J, J, J, J, J, J], hlM (L ++ stocksP e i x m) m)) c (fun _ => True) [some 0, some 1, some 2] trivial ?_ ?_
    · have e0 : L ++ stocksP e i x 0 = L := by simp [stocksP]
      show Ent _ _ _ _ _ (hlM (L ++ stocksP e i x 0) 0)
      rw [e0, hK]
      exact ⟨rfl, rfl, ⟨ls_ent rfl rfl rfl, rows_ent rfl, rows_ent rfl, trivial⟩, ⟨⟨rfl, rfl, rfl⟩, rfl, rfl, rfl, rfl, rfl, trivial⟩⟩
    intro m hm _
    have sl : (L ++ stocksP e i x m).length ≤ 100006 := by simp [stocksP]; omega
    by_cases hlt : m < c
    · have hst : L ++ stocksP e i x (m + 1) = (L ++ stocksP e i x m) ++ [stockP e i x m] := by simp [stocksP, List.range_succ]
      obtain ⟨M, hM⟩ : ∃ M, M = L ++ stocksP e i x m := ⟨_, rfl⟩
      rw [← hM] at hst sl ⊢
      have smf := cf_small (N := N) (f := GE e x.src c m (i + 1)) (by omega) (fun v => GE_rng _ v)
      have gE : (fun v => if v = i * c + m then (-1 : Int) else GE e x.src c m i v) = GE e x.src c m (i + 1) := by
        show _ = fun v => if v = i * c + m then sgnE e x.src i else GE e x.src c m i v
        rw [hsg]
      have hjm : (i : Int) * e.mats + (m : Int) = ((i * c + m : Nat) : Int) := by rw [kci]; push_cast; rfl
      have hset := set_cf (N := N) (f := GE e x.src c m i) (a := -1) hjm
      rw [gE] at hset
      have hrow : ((⟨termsE e x.src m (i + 1), K, ((0 : Int) : Rat)⟩ : RowP), (⟨0, i, m, -1⟩ : OrP)) = stockP e i x m := rfl
      cases m with
      | zero =>
        have a1 := fun (cs : List (List C)) (hcs : cs = toC ((cfL N (GE e x.src c 0 (i + 1))).map intRow)) => a_LaddG (H := [lsB 1 2 M.length, rB M, oB M, { mode := .live, elem := 3, size := 1, rows := cs, box := false }]) (r := 1) (o := 2) (cc := 3) (l := cfL N (GE e x.src c 0 (i + 1))) (ln := N) rfl rfl rfl rfl rfl rfl rfl hcs (cfL_len _ _).symm (by decide) (by decide) (by decide) smf.1 smf.2 (by decide) (by decide) (by decide) (by omega) K ((0 : Int) : Rat) ⟨0, i, ((0 : Nat) : Int), -1⟩
        rw [cfL_len, stock_terms hc hlt (by omega) hN] at a1
        rw [hst]
        conv => whnf
        (repeat' (first | ((refine DecB.mk (fun h => ?_) (fun h => ?_)) <;> first | (exfalso; omega) | (conv => whnf)) | ((refine BoolB.mk (fun h => ?_) (fun h => ?_)) <;> first | (exact absurd h (by decide)) | (conv => whnf)) | ((first | refine zzW ?_ | refine zzI ?_ | refine zzR ?_ | refine zzB ?_ | refine late_ok rfl rfl ?_ | refine src_ok rfl ?_ | refine .inl ⟨_, _, qcall_pure (vr) rfl rfl, ?_⟩ | refine And.intro mk0 ?_ | refine LitB.data ?_ | refine BoxB.own ?_); conv => whnf)))
        all_goals try (exfalso; omega)
        refine awp_for tab_ok (fun k => ([S.c (C.ptr 0 0 0), J, intS .i64 i, J, S.c (C.t (T.ptr (evT e))), J, intS .i64 x.src, intS .i64 K, intS .i64 ((0 : Nat) : Int), S.c (C.own 3 0 N true), intS .i64 k, J, J, J, J, J, J, J, J, J, J, J, J, J, J, J, J, J, J, J, J, J, J, J, J, J, J, J, J, J, J, J, J, J, J, J, J, J, J, J, J, J, J, J, J, J, J, J, J, J, J, J, J, J, J, J, J, J, J, J, J, J, J, J, J, J, J, J, J, J, J, J, J, J, J], [lsB 1 2 M.length, rB M, oB M, cB (cfL N (GE e x.src c 0 k))])) i (fun _ => True) [some 0, some 1, some 2, some 3] trivial
          ⟨rfl, rfl, ⟨ls_ent rfl rfl rfl, rows_ent rfl, rows_ent rfl, zero_cB, trivial⟩, ⟨⟨rfl, rfl, rfl⟩, rfl, rfl, rfl, rfl, rfl, ⟨rfl, rfl, by simp, fun h => h⟩, rfl, trivial⟩⟩ ?_
        intro k hk _
        by_cases hkt : k < i
        · obtain ⟨y, hy⟩ : ∃ y, e.moves[k]? = some y := ⟨_, List.getElem?_eq_getElem (by omega)⟩
          have hb := ib k (by omega)
          have hjk : (k : Int) * e.mats + ((0 : Nat) : Int) = ((k * c + 0 : Nat) : Int) := by rw [kci]; push_cast; rfl
          have n0 : 0 ≤ (k : Int) * e.mats := Int.mul_nonneg (by omega) (by omega)
          by_cases c1 : y.src = x.src
          · have sk : sgnE e x.src k = -1 := by unfold sgnE; rw [hy]; simp only; rw [if_pos c1]
            have gk : (fun v => if v = k * c + 0 then (-1 : Int) else GE e x.src c 0 k v) = GE e x.src c 0 (k + 1) := by
              show _ = fun v => if v = k * c + 0 then sgnE e x.src k else GE e x.src c 0 k v
              rw [sk]
            by_cases c2 : y.dst = x.src
            · have hs2 := set_cf2 (N := N) (f := GE e x.src c 0 k) (a := -1) (b := 1) hjk
              rw [gk] at hs2
              conv => whnf
              (repeat' (first | ((refine DecB.mk (fun h => ?_) (fun h => ?_)) <;> first | (exfalso; omega) | (conv => whnf)) | ((refine BoolB.mk (fun h => ?_) (fun h => ?_)) <;> first | (exact absurd h (by decide)) | (conv => whnf)) | ((first | refine zzW ?_ | refine zzI ?_ | refine zzR ?_ | refine zzB ?_ | refine late_ok rfl rfl ?_ | refine src_ok rfl ?_ | refine ex_row hy ?_ | refine ex_cf hjk (by omega) ?_ | refine ex_cf2 hjk (by omega) ?_ | refine LitB.data ?_ | refine BoxB.own ?_); conv => whnf)))
              all_goals first
                | (exfalso; omega)
                | exact ⟨hkt, trivial, [some 0, some 1, some 2, some 3], rfl, rfl, ⟨ls_ent rfl rfl rfl, rows_ent rfl, rows_ent rfl, entB_rows rfl rfl rfl (hs2) rfl, trivial⟩, ⟨⟨rfl, rfl, rfl⟩, rfl, rfl, rfl, rfl, rfl, ⟨rfl, rfl, rfl, fun h => h⟩, rfl, trivial⟩⟩
                | skip
            · have hs1 := set_cf (N := N) (f := GE e x.src c 0 k) (a := -1) hjk
              rw [gk] at hs1
              conv => whnf
              (repeat' (first | ((refine DecB.mk (fun h => ?_) (fun h => ?_)) <;> first | (exfalso; omega) | (conv => whnf)) | ((refine BoolB.mk (fun h => ?_) (fun h => ?_)) <;> first | (exact absurd h (by decide)) | (conv => whnf)) | ((first | refine zzW ?_ | refine zzI ?_ | refine zzR ?_ | refine zzB ?_ | refine late_ok rfl rfl ?_ | refine src_ok rfl ?_ | refine ex_row hy ?_ | refine ex_cf hjk (by omega) ?_ | refine LitB.data ?_ | refine BoxB.own ?_); conv => whnf)))
              all_goals first
                | (exfalso; omega)
                | exact ⟨hkt, trivial, [some 0, some 1, some 2, some 3], rfl, rfl, ⟨ls_ent rfl rfl rfl, rows_ent rfl, rows_ent rfl, entB_rows rfl rfl rfl (hs1) rfl, trivial⟩, ⟨⟨rfl, rfl, rfl⟩, rfl, rfl, rfl, rfl, rfl, ⟨rfl, rfl, rfl, fun h => h⟩, rfl, trivial⟩⟩
                | skip
          · by_cases c2 : y.dst = x.src
            · have sk : sgnE e x.src k = 1 := by unfold sgnE; rw [hy]; simp only; rw [if_neg c1, if_pos c2]
              have gk : (fun v => if v = k * c + 0 then (1 : Int) else GE e x.src c 0 k v) = GE e x.src c 0 (k + 1) := by
                show _ = fun v => if v = k * c + 0 then sgnE e x.src k else GE e x.src c 0 k v
                rw [sk]
              have hs1 := set_cf (N := N) (f := GE e x.src c 0 k) (a := 1) hjk
              rw [gk] at hs1
              conv => whnf
              (repeat' (first | ((refine DecB.mk (fun h => ?_) (fun h => ?_)) <;> first | (exfalso; omega) | (conv => whnf)) | ((refine BoolB.mk (fun h => ?_) (fun h => ?_)) <;> first | (exact absurd h (by decide)) | (conv => whnf)) | ((first | refine zzW ?_ | refine zzI ?_ | refine zzR ?_ | refine zzB ?_ | refine late_ok rfl rfl ?_ | refine src_ok rfl ?_ | refine ex_row hy ?_ | refine ex_cf hjk (by omega) ?_ | refine LitB.data ?_ | refine BoxB.own ?_); conv => whnf)))
              all_goals first
                | (exfalso; omega)
                | exact ⟨hkt, trivial, [some 0, some 1, some 2, some 3], rfl, rfl, ⟨ls_ent rfl rfl rfl, rows_ent rfl, rows_ent rfl, entB_rows rfl rfl rfl (hs1) rfl, trivial⟩, ⟨⟨rfl, rfl, rfl⟩, rfl, rfl, rfl, rfl, rfl, ⟨rfl, rfl, rfl, fun h => h⟩, rfl, trivial⟩⟩
                | skip
            · have sk : sgnE e x.src k = 0 := by unfold sgnE; rw [hy]; simp only; rw [if_neg c1, if_neg c2]
              have hs0 : toC ((cfL N (GE e x.src c 0 k)).map intRow) = toC ((cfL N (GE e x.src c 0 (k + 1))).map intRow) := by rw [cfL_congr (GE_skip hlt sk)]
              conv => whnf
              (repeat' (first | ((refine DecB.mk (fun h => ?_) (fun h => ?_)) <;> first | (exfalso; omega) | (conv => whnf)) | ((refine BoolB.mk (fun h => ?_) (fun h => ?_)) <;> first | (exact absurd h (by decide)) | (conv => whnf)) | ((first | refine zzW ?_ | refine zzI ?_ | refine zzR ?_ | refine zzB ?_ | refine late_ok rfl rfl ?_ | refine src_ok rfl ?_ | refine ex_row hy ?_ | refine LitB.data ?_ | refine BoxB.own ?_); conv => whnf)))
              all_goals first
                | (exfalso; omega)
                | exact ⟨hkt, trivial, [some 0, some 1, some 2, some 3], rfl, rfl, ⟨ls_ent rfl rfl rfl, rows_ent rfl, rows_ent rfl, entB_rows rfl rfl rfl (hs0) rfl, trivial⟩, ⟨⟨rfl, rfl, rfl⟩, rfl, rfl, rfl, rfl, rfl, ⟨rfl, rfl, rfl, fun h => h⟩, rfl, trivial⟩⟩
                | skip
        · have hke : k = i := by omega
          subst hke
          have hb := ib k (by omega)
          have n0 : 0 ≤ (k : Int) * e.mats := Int.mul_nonneg (by omega) (by omega)
          rw [hrow] at a1
          conv => whnf
          (repeat' (first | ((refine DecB.mk (fun h => ?_) (fun h => ?_)) <;> first | (exfalso; omega) | (conv => whnf)) | ((refine BoolB.mk (fun h => ?_) (fun h => ?_)) <;> first | (exact absurd h (by decide)) | (conv => whnf)) | ((first | refine zzW ?_ | refine zzI ?_ | refine zzR ?_ | refine zzB ?_ | refine late_ok rfl rfl ?_ | refine src_ok rfl ?_ | refine .inl ⟨_, _, qcall_pure (i0) rfl rfl, ?_⟩ | refine ex_cf hjm (by omega) ?_ | refine .inr ⟨_, _, a1 _ hset, ?_⟩ | refine LitB.data ?_ | refine BoxB.own ?_); conv => whnf)))
          all_goals first
            | (exfalso; omega)
            | exact ⟨hlt, trivial, [some 0, some 1, some 2, some 4, some 5], rfl, rfl, ⟨ls_ent rfl rfl rfl, deadB_ent, deadB_ent, rows_ent rfl, rows_ent rfl, trivial⟩, ⟨⟨rfl, rfl, rfl⟩, rfl, rfl, rfl, rfl, rfl, trivial⟩⟩
            | skip
      | succ m =>
        have a1 := fun (cs : List (List C)) (hcs : cs = toC ((cfL N (GE e x.src c (m + 1) (i + 1))).map intRow)) => a_LaddG (H := [lsB 3 4 M.length, deadR, deadO, rB M, oB M, { mode := .live, elem := 3, size := 1, rows := cs, box := false }]) (r := 3) (o := 4) (cc := 5) (l := cfL N (GE e x.src c (m + 1) (i + 1))) (ln := N) rfl rfl rfl rfl rfl rfl rfl hcs (cfL_len _ _).symm (by decide) (by decide) (by decide) smf.1 smf.2 (by decide) (by decide) (by decide) (by omega) K ((0 : Int) : Rat) ⟨0, i, ((m + 1 : Nat) : Int), -1⟩
        rw [cfL_len, stock_terms hc hlt (by omega) hN] at a1
        rw [hst]
        conv => whnf
        (repeat' (first | ((refine DecB.mk (fun h => ?_) (fun h => ?_)) <;> first | (exfalso; omega) | (conv => whnf)) | ((refine BoolB.mk (fun h => ?_) (fun h => ?_)) <;> first | (exact absurd h (by decide)) | (conv => whnf)) | ((first | refine zzW ?_ | refine zzI ?_ | refine zzR ?_ | refine zzB ?_ | refine late_ok rfl rfl ?_ | refine src_ok rfl ?_ | refine .inl ⟨_, _, qcall_pure (vr) rfl rfl, ?_⟩ | refine And.intro mk0 ?_ | refine LitB.data ?_ | refine BoxB.own ?_); conv => whnf)))
        all_goals try (exfalso; omega)
        refine awp_for tab_ok (fun k => ([S.c (C.ptr 0 0 0), J, intS .i64 i, J, S.c (C.t (T.ptr (evT e))), J, intS .i64 x.src, intS .i64 K, intS .i64 ((m + 1 : Nat) : Int), S.c (C.own 5 0 N true), intS .i64 k, J, J, J, J, J, J, J, J, J, J, J, J, J, J, J, J, J, J, J, J, J, J, J, J, J, J, J, J, J, J, J, J, J, J, J, J, J, J, J, J, J, J, J, J, J, J, J, J, J, J, J, J, J, J, J, J, J, J, J, J, J, J, J, J, J, J, J, J, J, J, J, J, J, J], [lsB 3 4 M.length, deadR, deadO, rB M, oB M, cB (cfL N (GE e x.src c (m + 1) k))])) i (fun _ => True) [some 0, some 1, some 2, some 3, some 4, some 5] trivial
          ⟨rfl, rfl, ⟨ls_ent rfl rfl rfl, deadB_ent, deadB_ent, rows_ent rfl, rows_ent rfl, zero_cB, trivial⟩, ⟨⟨rfl, rfl, rfl⟩, rfl, rfl, rfl, rfl, rfl, ⟨rfl, rfl, by simp, fun h => h⟩, rfl, trivial⟩⟩ ?_
        intro k hk _
        by_cases hkt : k < i
        · obtain ⟨y, hy⟩ : ∃ y, e.moves[k]? = some y := ⟨_, List.getElem?_eq_getElem (by omega)⟩
          have hb := ib k (by omega)
          have hjk : (k : Int) * e.mats + ((m + 1 : Nat) : Int) = ((k * c + (m + 1) : Nat) : Int) := by rw [kci]; push_cast; rfl
          have n0 : 0 ≤ (k : Int) * e.mats := Int.mul_nonneg (by omega) (by omega)
          by_cases c1 : y.src = x.src
          · have sk : sgnE e x.src k = -1 := by unfold sgnE; rw [hy]; simp only; rw [if_pos c1]
            have gk : (fun v => if v = k * c + (m + 1) then (-1 : Int) else GE e x.src c (m + 1) k v) = GE e x.src c (m + 1) (k + 1) := by
              show _ = fun v => if v = k * c + (m + 1) then sgnE e x.src k else GE e x.src c (m + 1) k v
              rw [sk]
            by_cases c2 : y.dst = x.src
            · have hs2 := set_cf2 (N := N) (f := GE e x.src c (m + 1) k) (a := -1) (b := 1) hjk
              rw [gk] at hs2
              conv => whnf
              (repeat' (first | ((refine DecB.mk (fun h => ?_) (fun h => ?_)) <;> first | (exfalso; omega) | (conv => whnf)) | ((refine BoolB.mk (fun h => ?_) (fun h => ?_)) <;> first | (exact absurd h (by decide)) | (conv => whnf)) | ((first | refine zzW ?_ | refine zzI ?_ | refine zzR ?_ | refine zzB ?_ | refine late_ok rfl rfl ?_ | refine src_ok rfl ?_ | refine ex_row hy ?_ | refine ex_cf hjk (by omega) ?_ | refine ex_cf2 hjk (by omega) ?_ | refine LitB.data ?_ | refine BoxB.own ?_); conv => whnf)))
              all_goals first
                | (exfalso; omega)
                | exact ⟨hkt, trivial, [some 0, some 1, some 2, some 3, some 4, some 5], rfl, rfl, ⟨ls_ent rfl rfl rfl, deadB_ent, deadB_ent, rows_ent rfl, rows_ent rfl, entB_rows rfl rfl rfl (hs2) rfl, trivial⟩, ⟨⟨rfl, rfl, rfl⟩, rfl, rfl, rfl, rfl, rfl, ⟨rfl, rfl, rfl, fun h => h⟩, rfl, trivial⟩⟩
                | skip
            · have hs1 := set_cf (N := N) (f := GE e x.src c (m + 1) k) (a := -1) hjk
              rw [gk] at hs1
              conv => whnf
              (repeat' (first | ((refine DecB.mk (fun h => ?_) (fun h => ?_)) <;> first | (exfalso; omega) | (conv => whnf)) | ((refine BoolB.mk (fun h => ?_) (fun h => ?_)) <;> first | (exact absurd h (by decide)) | (conv => whnf)) | ((first | refine zzW ?_ | refine zzI ?_ | refine zzR ?_ | refine zzB ?_ | refine late_ok rfl rfl ?_ | refine src_ok rfl ?_ | refine ex_row hy ?_ | refine ex_cf hjk (by omega) ?_ | refine LitB.data ?_ | refine BoxB.own ?_); conv => whnf)))
              all_goals first
                | (exfalso; omega)
                | exact ⟨hkt, trivial, [some 0, some 1, some 2, some 3, some 4, some 5], rfl, rfl, ⟨ls_ent rfl rfl rfl, deadB_ent, deadB_ent, rows_ent rfl, rows_ent rfl, entB_rows rfl rfl rfl (hs1) rfl, trivial⟩, ⟨⟨rfl, rfl, rfl⟩, rfl, rfl, rfl, rfl, rfl, ⟨rfl, rfl, rfl, fun h => h⟩, rfl, trivial⟩⟩
                | skip
          · by_cases c2 : y.dst = x.src
            · have sk : sgnE e x.src k = 1 := by unfold sgnE; rw [hy]; simp only; rw [if_neg c1, if_pos c2]
              have gk : (fun v => if v = k * c + (m + 1) then (1 : Int) else GE e x.src c (m + 1) k v) = GE e x.src c (m + 1) (k + 1) := by
                show _ = fun v => if v = k * c + (m + 1) then sgnE e x.src k else GE e x.src c (m + 1) k v
                rw [sk]
              have hs1 := set_cf (N := N) (f := GE e x.src c (m + 1) k) (a := 1) hjk
              rw [gk] at hs1
              conv => whnf
              (repeat' (first | ((refine DecB.mk (fun h => ?_) (fun h => ?_)) <;> first | (exfalso; omega) | (conv => whnf)) | ((refine BoolB.mk (fun h => ?_) (fun h => ?_)) <;> first | (exact absurd h (by decide)) | (conv => whnf)) | ((first | refine zzW ?_ | refine zzI ?_ | refine zzR ?_ | refine zzB ?_ | refine late_ok rfl rfl ?_ | refine src_ok rfl ?_ | refine ex_row hy ?_ | refine ex_cf hjk (by omega) ?_ | refine LitB.data ?_ | refine BoxB.own ?_); conv => whnf)))
              all_goals first
                | (exfalso; omega)
                | exact ⟨hkt, trivial, [some 0, some 1, some 2, some 3, some 4, some 5], rfl, rfl, ⟨ls_ent rfl rfl rfl, deadB_ent, deadB_ent, rows_ent rfl, rows_ent rfl, entB_rows rfl rfl rfl (hs1) rfl, trivial⟩, ⟨⟨rfl, rfl, rfl⟩, rfl, rfl, rfl, rfl, rfl, ⟨rfl, rfl, rfl, fun h => h⟩, rfl, trivial⟩⟩
                | skip
            · have sk : sgnE e x.src k = 0 := by unfold sgnE; rw [hy]; simp only; rw [if_neg c1, if_neg c2]
              have hs0 : toC ((cfL N (GE e x.src c (m + 1) k)).map intRow) = toC ((cfL N (GE e x.src c (m + 1) (k + 1))).map intRow) := by rw [cfL_congr (GE_skip hlt sk)]
              conv => whnf
              (repeat' (first | ((refine DecB.mk (fun h => ?_) (fun h => ?_)) <;> first | (exfalso; omega) | (conv => whnf)) | ((refine BoolB.mk (fun h => ?_) (fun h => ?_)) <;> first | (exact absurd h (by decide)) | (conv => whnf)) | ((first | refine zzW ?_ | refine zzI ?_ | refine zzR ?_ | refine zzB ?_ | refine late_ok rfl rfl ?_ | refine src_ok rfl ?_ | refine ex_row hy ?_ | refine LitB.data ?_ | refine BoxB.own ?_); conv => whnf)))
              all_goals first
                | (exfalso; omega)
                | exact ⟨hkt, trivial, [some 0, some 1, some 2, some 3, some 4, some 5], rfl, rfl, ⟨ls_ent rfl rfl rfl, deadB_ent, deadB_ent, rows_ent rfl, rows_ent rfl, entB_rows rfl rfl rfl (hs0) rfl, trivial⟩, ⟨⟨rfl, rfl, rfl⟩, rfl, rfl, rfl, rfl, rfl, ⟨rfl, rfl, rfl, fun h => h⟩, rfl, trivial⟩⟩
                | skip
        · have hke : k = i := by omega
          subst hke
          have hb := ib k (by omega)
          have n0 : 0 ≤ (k : Int) * e.mats := Int.mul_nonneg (by omega) (by omega)
          rw [hrow] at a1
          conv => whnf
          (repeat' (first | ((refine DecB.mk (fun h => ?_) (fun h => ?_)) <;> first | (exfalso; omega) | (conv => whnf)) | ((refine BoolB.mk (fun h => ?_) (fun h => ?_)) <;> first | (exact absurd h (by decide)) | (conv => whnf)) | ((first | refine zzW ?_ | refine zzI ?_ | refine zzR ?_ | refine zzB ?_ | refine late_ok rfl rfl ?_ | refine src_ok rfl ?_ | refine .inl ⟨_, _, qcall_pure (i0) rfl rfl, ?_⟩ | refine ex_cf hjm (by omega) ?_ | refine .inr ⟨_, _, a1 _ hset, ?_⟩ | refine LitB.data ?_ | refine BoxB.own ?_); conv => whnf)))
          all_goals first
            | (exfalso; omega)
            | exact ⟨hlt, trivial, [some 0, some 1, some 2, some 6, some 7], rfl, rfl, ⟨ls_ent rfl rfl rfl, deadB_ent, deadB_ent, rows_ent rfl, rows_ent rfl, trivial⟩, ⟨⟨rfl, rfl, rfl⟩, rfl, rfl, rfl, rfl, rfl, trivial⟩⟩
            | skip
    · have hme : m = c := by omega
      subst hme
      have h1m : ∃ m', m = m' + 1 := ⟨m - 1, by omega⟩
      obtain ⟨m', rfl⟩ := h1m
      conv => whnf
      (repeat' (first | ((refine DecB.mk (fun h => ?_) (fun h => ?_)) <;> first | (exfalso; omega) | (conv => whnf)) | ((refine BoolB.mk (fun h => ?_) (fun h => ?_)) <;> first | (exact absurd h (by decide)) | (conv => whnf)) | ((first | refine zzW ?_ | refine zzI ?_ | refine zzR ?_ | refine zzB ?_ | refine late_ok rfl rfl ?_ | refine src_ok rfl ?_ | refine LitB.data ?_ | refine BoxB.own ?_); conv => whnf)))
      all_goals first
        | (exfalso; omega)
        | exact ⟨⟨[some 0, some 1, some 2, some 3, some 4], rfl, rfl, ⟨ls_ent rfl rfl rfl, deadB_ent, deadB_ent, rows_ent rfl, rows_ent rfl, trivial⟩, trivial⟩⟩
        | skip
end Go.Proofs.YtfieodjihaodiaaGreat
/- reference 16: purity. -/
namespace Go.Proofs.YtfieodjihaodiaaGreat
open Go.RowKit
set_option linter.unusedVariables false
set_option linter.unusedSimpArgs false
set_option maxRecDepth 100000

abbrev puX (p : Purity) : Blk := { mode := .live, elem := 69, size := 4, rows := [p.row.map .t], box := true }
theorem rowsT_puX (p : Purity) : rowsT [p.row.map C.t] := by simp [rowsT, Purity.row, C.isT]
theorem ex_cfv {N : Nat} {f : Nat → Int} {n a : Int} {j : Nat} {K : List C → Prop} (h : n = (j : Int)) (hj : j < N) (hv : f j = a) (hK : K [C.t (ti a)]) : ∃ row, (cB (cfL N f)).rows[0 + n.toNat]? = some row ∧ K row := by
  subst hv; exact ex_cf h hj hK
set_option maxHeartbeats 16000000 in
theorem a_Lpurity (e : Ev) (hE : EvSm e) {k i : Nat} {p : Purity} (hp : e.purities[k]? = some p) (hpm : p.move = (i : Int)) (hi' : i < e.moves.length) (hpq : 0 ≤ p.mat ∧ p.mat < e.mats) (L : List (RowP × OrP)) (hL : L.length ≤ 100000) :
    ACall Tryz.prog 84 [.c (.ptr 0 0 0), evS e, intS .i64 k] (hl0 L) (.tup []) (hl1 (L ++ pur2 e i k p)) := by
  have m0 : (e.moves.map Move.row).length = e.moves.length := by simp
  obtain ⟨q1, q2, q3, q4⟩ := hE.pq p (List.mem_of_getElem? hp)
  have hkp := (List.getElem?_eq_some_iff.1 hp).1
  have hpl := hE.pu
  obtain ⟨c, hc⟩ : ∃ c : Nat, e.mats = c := Int.eq_ofNat_of_zero_le (by have := hE.m1; omega)
  obtain ⟨q, hq⟩ : ∃ q : Nat, p.mat = q := Int.eq_ofNat_of_zero_le hpq.1
  have hm1 := hE.m1
  have hm6 := hE.m6
  have hmv := hE.mv
  have hqc : q < c := by omega
  obtain ⟨N, hN⟩ : ∃ N, N = e.moves.length * c := ⟨_, rfl⟩
  have hN2 : N ≤ 8 * 6 := by rw [hN]; exact Nat.mul_le_mul hmv (by omega)
  have hNi : (e.moves.length : Int) * e.mats = N := by rw [hc, hN]; push_cast; rfl
  have vr := a_Vars16 e (by omega) (by omega)
  rw [hNi] at vr
  have hic : i * c + c ≤ N := by
    have : (i + 1) * c ≤ N := by rw [hN]; exact Nat.mul_le_mul_right _ hi'
    rw [Nat.succ_mul] at this; exact this
  have hici : p.move * e.mats = ((i * c : Nat) : Int) := by rw [hpm, hc]; push_cast; rfl
  have mk0 : (0 : Int) ≤ N ∧ (N : Int) ≤ N ∧ (N : Int) * (((8 : Nat) : Int) + 1) ≤ 140737488355328 := by omega
  have i0 := r5Int 0 (by decide) (by decide)
  have hjq : p.move * e.mats + p.mat = ((i * c + q : Nat) : Int) := by rw [hici, hq]; push_cast; rfl
  obtain ⟨L1, hL1⟩ : ∃ L1 : List (RowP × OrP), L1 = L ++ [((⟨sumA e i (0 - p.least) q 1000, 0, ((0 : Int) : Rat)⟩ : RowP), (⟨3, p.move, -1, k⟩ : OrP))] := ⟨_, rfl⟩
  obtain ⟨L2, hL2⟩ : ∃ L2 : List (RowP × OrP), L2 = L1 ++ [((⟨sumA e i p.most q (-1000), 0, ((0 : Int) : Rat)⟩ : RowP), (⟨4, p.move, -1, k⟩ : OrP))] := ⟨_, rfl⟩
  have hW : L ++ pur2 e i k p = L2 := by rw [hL2, hL1, pur2_eq, hpm, hq, Int.zero_sub]; simp
  have l1 : L1.length ≤ 100001 := by rw [hL1]; simp; omega
  rw [hW]
  have s1 := cf_small (N := N) (f := fun v => if v = i * c + q then (0 - p.least) + 1000 else FE i c (0 - p.least) c v) (by omega) (fun v => by
    split
    · omega
    · rw [FE_at]; split <;> omega)
  have s2 := cf_small (N := N) (f := fun v => if v = i * c + q then p.most + (-1000) else FE i c p.most c v) (by omega) (fun v => by
    split
    · omega
    · rw [FE_at]; split <;> omega)
  have h1 := set_cf (N := N) (f := FE i c (0 - p.least) c) (a := (0 - p.least) + 1000) hjq
  have h2 := set_cf (N := N) (f := FE i c p.most c) (a := p.most + (-1000)) hjq
  have v1 : FE i c (0 - p.least) c (i * c + q) = 0 - p.least := by rw [FE_at, if_pos (by omega)]
  have v2 : FE i c p.most c (i * c + q) = p.most := by rw [FE_at, if_pos (by omega)]
  have a1 := fun (cs1 cs2 : List (List C)) (hcs : cs1 = toC ((cfL N (fun v => if v = i * c + q then (0 - p.least) + 1000 else FE i c (0 - p.least) c v)).map intRow)) =>
    a_LaddG (H := [lsB 1 2 L.length, rB L, oB L, puX p, { mode := .live, elem := 3, size := 1, rows := cs1, box := false }, { mode := .live, elem := 3, size := 1, rows := cs2, box := false }]) (r := 1) (o := 2) (cc := 4) (l := cfL N (fun v => if v = i * c + q then (0 - p.least) + 1000 else FE i c (0 - p.least) c v)) (ln := N) rfl rfl rfl rfl rfl rfl rfl hcs (cfL_len _ _).symm (by decide) (by decide) (by decide) s1.1 s1.2 (by decide) (by decide) (by decide) (by omega) 0 ((0 : Int) : Rat) ⟨3, p.move, -1, k⟩
  rw [cfL_len, pure_terms hc hi' hN hqc, ← hL1] at a1
  have a2 := fun (k1 k2 k3 : Blk) (cs2 : List (List C)) (hcs : cs2 = toC ((cfL N (fun v => if v = i * c + q then p.most + (-1000) else FE i c p.most c v)).map intRow)) =>
    a_LaddG (H := [lsB 6 7 L1.length, k1, k2, puX p, k3, { mode := .live, elem := 3, size := 1, rows := cs2, box := false }, rB L1, oB L1]) (r := 6) (o := 7) (cc := 5) (l := cfL N (fun v => if v = i * c + q then p.most + (-1000) else FE i c p.most c v)) (ln := N) rfl rfl rfl rfl rfl rfl rfl hcs (cfL_len _ _).symm (by decide) (by decide) (by decide) s2.1 s2.2 (by decide) (by decide) (by decide) (by omega) 0 ((0 : Int) : Rat) ⟨4, p.move, -1, k⟩
  rw [cfL_len, pure_terms hc hi' hN hqc, ← hL2] at a2
  (refine acall_of tab_ok Tryz.func84 rfl (by decide) ?_; (conv => whnf); repeat (first | (refine LitB.data ?_; conv => whnf) | (refine BoxB.data ?_; conv => whnf)))
  (repeat' (first | ((refine DecB.mk (fun h => ?_) (fun h => ?_)) <;> first | (exfalso; omega) | (conv => whnf)) | ((refine BoolB.mk (fun h => ?_) (fun h => ?_)) <;> first | (exact absurd h (by decide)) | (conv => whnf)) | ((first | refine zzW ?_ | refine zzI ?_ | refine zzR ?_ | refine zzB ?_ | refine late_ok rfl rfl ?_ | refine src_ok rfl ?_ | refine .inl ⟨_, _, qcall_pure (vr) rfl rfl, ?_⟩ | refine ex_row hp ?_ | refine And.intro mk0 ?_ | refine LitB.data ?_ | refine BoxB.own ?_); conv => whnf)))
  all_goals try (exfalso; omega)
  refine awp_for tab_ok (fun m => ([S.c (C.ptr 0 0 0), J, intS .i64 k, J, S.c (C.t (T.ptr (evT e))), J, S.c (C.ptr 3 0 0), S.c (C.own 4 0 N true), S.c (C.own 5 0 N true), intS .i64 m, J, J, J, J, J, J, J, J, J, J, J, J, J, J, J, J, J, J, J, J, J, J, J, J, J, J, J, J, J, J, J, J, J, J, J, J, J, J, J, J, J, J, J, J, J, J, J, J, J, J, J, J, J, J, J, J, J, J, J, J, J, J, J, J, J, J, J, J, J, J, J, J, J, J, J, J, J, J, J, J, J], [lsB 1 2 L.length, rB L, oB L, puX p, cB (cfL N (FE i c (0 - p.least) m)), cB (cfL N (FE i c p.most m))])) c (fun _ => True) [some 0, some 1, some 2, some 3, some 4, some 5] trivial
    ⟨rfl, rfl, ⟨ls_ent rfl rfl rfl, rows_ent rfl, rows_ent rfl, ⟨rfl, rfl, rfl, .inl ⟨rfl, rowsT_puX p⟩⟩, zero_cB, zero_cB, trivial⟩, ⟨⟨rfl, rfl, rfl⟩, rfl, rfl, ⟨rfl, rfl, rfl⟩, ⟨rfl, rfl, by simp, fun h => h⟩, ⟨rfl, rfl, by simp, fun h => h⟩, rfl, trivial⟩⟩ ?_
  intro m hm _
  by_cases hmt : m < c
  · have hj : p.move * e.mats + (m : Int) = ((i * c + m : Nat) : Int) := by rw [hici]; push_cast; rfl
    conv => whnf
    (repeat' (first | ((refine DecB.mk (fun h => ?_) (fun h => ?_)) <;> first | (exfalso; omega) | (conv => whnf)) | ((refine BoolB.mk (fun h => ?_) (fun h => ?_)) <;> first | (exact absurd h (by decide)) | (conv => whnf)) | ((first | refine zzW ?_ | refine zzI ?_ | refine zzR ?_ | refine zzB ?_ | refine late_ok rfl rfl ?_ | refine src_ok rfl ?_ | refine ex_cf hj (by omega) ?_ | refine LitB.data ?_ | refine BoxB.own ?_); conv => whnf)))
    all_goals first
      | (exfalso; omega)
      | exact ⟨hmt, trivial, [some 0, some 1, some 2, some 3, some 4, some 5], rfl, rfl, ⟨ls_ent rfl rfl rfl, rows_ent rfl, rows_ent rfl, ⟨rfl, rfl, rfl, .inl ⟨rfl, rowsT_puX p⟩⟩, entB_rows rfl rfl rfl (set_cf hj) rfl, entB_rows rfl rfl rfl (set_cf hj) rfl, trivial⟩, ⟨⟨rfl, rfl, rfl⟩, rfl, rfl, ⟨rfl, rfl, rfl⟩, ⟨rfl, rfl, rfl, fun h => h⟩, ⟨rfl, rfl, rfl, fun h => h⟩, rfl, trivial⟩⟩
      | skip
  · have hme : m = c := by omega
    subst hme
    conv => whnf
    (repeat' (first | ((refine DecB.mk (fun h => ?_) (fun h => ?_)) <;> first | (exfalso; omega) | (conv => whnf)) | ((refine BoolB.mk (fun h => ?_) (fun h => ?_)) <;> first | (exact absurd h (by decide)) | (conv => whnf)) | ((first | refine zzW ?_ | refine zzI ?_ | refine zzR ?_ | refine zzB ?_ | refine late_ok rfl rfl ?_ | refine src_ok rfl ?_ | refine .inl ⟨_, _, qcall_pure (i0) rfl rfl, ?_⟩ | refine ex_cfv hjq (by omega) v1 ?_ | refine ex_cfv hjq (by omega) v2 ?_ | refine .inr ⟨_, _, a1 _ _ h1, ?_⟩ | refine .inr ⟨_, _, a2 _ _ _ _ h2, ?_⟩ | refine LitB.data ?_ | refine BoxB.own ?_); conv => whnf)))
    all_goals first
      | (exfalso; omega)
      | exact ⟨⟨[some 0, some 1, some 2, some 8, some 9], rfl, rfl, ⟨ls_ent rfl rfl rfl, deadB_ent, deadB_ent, rows_ent rfl, rows_ent rfl, trivial⟩, trivial⟩⟩
      | skip
end Go.Proofs.YtfieodjihaodiaaGreat
/- The reference's flow: Check. -/
namespace Go.Proofs.YtfieodjihaodiaaGreat
open Go.RowKit
set_option linter.unusedVariables false
set_option linter.unusedSimpArgs false
set_option maxRecDepth 100000

theorem r14in (n lo hi : Int) : ACall Tryz.prog 116 [intS .i64 n, intS .i64 lo, intS .i64 hi] [] (boolS (btw n lo hi)) [] := by
  (refine acall_of tab_ok Tryz.func116 rfl (by decide) ?_; (conv => whnf); repeat (first | (refine LitB.data ?_; conv => whnf) | (refine BoxB.own ?_; conv => whnf)))
  (repeat' (first | ((refine DecB.mk (fun h => ?_) (fun h => ?_)) <;> first | (exfalso; omega) | (conv => whnf)) | ((refine BoolB.mk (fun h => ?_) (fun h => ?_)) <;> first | (exact absurd h (by decide)) | (conv => whnf)) | ((first | refine zzW ?_ | refine zzI ?_ | refine zzR ?_ | refine zzB ?_ | refine late_ok rfl rfl ?_ | refine src_ok rfl ?_ | refine LitB.data ?_ | refine BoxB.own ?_); conv => whnf)))
  all_goals (refine fin_bool ?_; simp only [btw]; simp; omega)
theorem r14idx (n m : Int) : ACall Tryz.prog 116 [intS .i64 n, intS .i64 0, intS .i64 (m - 1)] [] (boolS (idx n m)) [] := by
  rw [← btw_idx]; exact r14in n 0 (m - 1)
theorem r14full (e : Ev) (hs : e.Sized) : ACall Tryz.prog 78 [evS e] [] (boolS (fullB e)) [] := by
  have l1 : (e.places.map Place.row).length = e.places.length := by simp
  have l2 : (e.moves.map Move.row).length = e.moves.length := by simp
  have l3 : (e.certs.map Cert.row).length = e.certs.length := by simp
  have l4 : (e.recalls.map Recall.row).length = e.recalls.length := by simp
  have l5 : (e.purities.map Purity.row).length = e.purities.length := by simp
  (refine acall_of tab_ok Tryz.func78 rfl (by decide) ?_; (conv => whnf); repeat (first | (refine LitB.data ?_; conv => whnf) | (refine BoxB.data ?_; conv => whnf)))
  (repeat' (first | ((refine DecB.mk (fun h => ?_) (fun h => ?_)) <;> first | (exfalso; omega) | (conv => whnf)) | ((refine BoolB.mk (fun h => ?_) (fun h => ?_)) <;> first | (exact absurd h (by decide)) | (conv => whnf)) | ((first | refine zzW ?_ | refine zzI ?_ | refine zzR ?_ | refine zzB ?_ | refine late_ok rfl rfl ?_ | refine src_ok rfl ?_ | refine LitB.data ?_ | refine BoxB.own ?_); conv => whnf)))
  all_goals (refine fin_bool ?_; unfold fullB; simp; omega)
theorem r14place (e : Ev) (p : Place) (h1 : 1 ≤ e.mats) (h2 : e.mats ≤ 6) (h3 : 0 ≤ e.hhs) (h4 : e.hhs ≤ 100) : ACall Tryz.prog 79 [evS e, .agg (p.row.map .t)] [] (boolS (placeOk e p)) [] := by
  have i3 := r14idx p.kind 7
  (refine acall_of tab_ok Tryz.func79 rfl (by decide) ?_; (conv => whnf); repeat (first | (refine LitB.data ?_; conv => whnf) | (refine BoxB.data ?_; conv => whnf)))
  (repeat' (first | ((refine DecB.mk (fun h => ?_) (fun h => ?_)) <;> first | (exfalso; omega) | (conv => whnf)) | ((refine BoolB.mk (fun h => ?_) (fun h => ?_)) <;> first | (exact absurd h (by decide)) | (conv => whnf)) | ((first | refine zzW ?_ | refine zzI ?_ | refine zzR ?_ | refine zzB ?_ | refine late_ok rfl rfl ?_ | refine src_ok rfl ?_ | refine .inl ⟨_, _, qcall_pure (r14idx p.hh e.hhs) rfl rfl, ?_⟩ | refine .inl ⟨_, _, qcall_pure (r14idx p.mat e.mats) rfl rfl, ?_⟩ | refine .inl ⟨_, _, qcall_pure (i3) rfl rfl, ?_⟩ | refine LitB.data ?_ | refine BoxB.own ?_); conv => whnf)))
  all_goals first
    | (exfalso; omega)
    | (refine fin_bool ?_; simp_all [placeOk] <;> decide)
/-- the error of a move by the reference -/
def moveE (e : Ev) (k : Nat) (x : Move) : Int := if x.day < 0 ∨ 100000 < x.day ∨ (0 < k ∧ x.day < lastD e k) then 17 else if moveOk e x then 0 else 1
set_option maxHeartbeats 4000000 in
theorem r14move (e : Ev) (k : Nat) (x : Move) (hx : e.moves[k]? = some x) (hf : fullB e = false) (h1 : 1 ≤ e.mats) (h3 : 0 ≤ e.hhs) (h5 : 0 ≤ e.scs) : ACall Tryz.prog 80 [evS e, intS .i64 k] [] (intS .i64 (moveE e k x)) [] := by
  have l1 : (e.places.map Place.row).length = e.places.length := by simp
  have l2 : (e.moves.map Move.row).length = e.moves.length := by simp
  have hk : k < e.moves.length := (List.getElem?_eq_some_iff.1 hx).1
  unfold fullB at hf
  simp only [Bool.or_eq_false_iff, decide_eq_false_iff_not] at hf
  obtain ⟨y, hy⟩ : ∃ y, e.moves[k - 1]? = some y := ⟨_, List.getElem?_eq_getElem (by omega)⟩
  have hl : 0 < k → lastD e k = y.day := fun h => by
    obtain ⟨j, rfl⟩ : ∃ j, k = j + 1 := ⟨k - 1, by omega⟩
    exact lastD_succ hy
  have d := r14in x.day 0 100000
  have is := r14idx x.src (e.places.map Place.row).length
  have id := r14idx x.dst (e.places.map Place.row).length
  have ic := r14idx x.scale e.scs
  have ir := r14in x.reading 0 1099511627776
  have hdd : (x.day < 0 ∨ 100000 < x.day ∨ (0 < k ∧ x.day < lastD e k)) ↔ (x.day < 0 ∨ 100000 < x.day ∨ (0 < k ∧ x.day < y.day)) := by
    rcases Nat.eq_zero_or_pos k with h | h
    · simp [h]
    · rw [hl h]
  clear hl
  have em : (if (0 : Int) > (k : Int) - 1 then 0 else (k : Int) - 1) = ((k - 1 : Nat) : Int) := by split <;> omega
  by_cases hd : x.day < 0 ∨ 100000 < x.day ∨ (0 < k ∧ x.day < y.day)
  · have e1 : moveE e k x = 17 := by unfold moveE; rw [if_pos (hdd.2 hd)]
    clear hdd
    rw [e1]
    have hb := btw_iff (a := x.day) (b := 0) (c := 100000)
    (refine acall_of tab_ok Tryz.func80 rfl (by decide) ?_; (conv => whnf); repeat (first | (refine LitB.data ?_; conv => whnf) | (refine BoxB.data ?_; conv => whnf)))
    (repeat' (first | ((refine DecB.mk (fun h => ?_) (fun h => ?_)) <;> first | (exfalso; omega) | (conv => whnf)) | ((refine BoolB.mk (fun h => ?_) (fun h => ?_)) <;> first | (exact absurd h (by decide)) | (conv => whnf)) | ((first | refine zzW ?_ | refine zzI ?_ | refine zzR ?_ | refine zzB ?_ | refine late_ok rfl rfl ?_ | refine src_ok rfl ?_ | refine .inl ⟨_, _, qcall_pure (d) rfl rfl, ?_⟩ | refine ex_row hx ?_ | refine ex_rowE em hy ?_ | refine LitB.data ?_ | refine BoxB.own ?_); conv => whnf)))
    all_goals first
      | exact fin_int rfl
      | (exfalso; have := hb.1 (by assumption); omega)
      | (exfalso; omega)
  have e1 : moveE e k x = if moveOk e x then 0 else 1 := by unfold moveE; rw [if_neg (fun h => hd (hdd.1 h))]
  clear hdd
  rw [e1]
  have hd' : btw x.day 0 100000 = true := by rw [btw_iff]; omega
  rw [hd'] at d
  cases h1 : idx x.src e.places.length with
  | false =>
    rw [← l1] at h1
    rw [h1] at is
    rw [l1] at h1
    (refine acall_of tab_ok Tryz.func80 rfl (by decide) ?_; (conv => whnf); repeat (first | (refine LitB.data ?_; conv => whnf) | (refine BoxB.data ?_; conv => whnf)))
    (repeat' (first | ((refine DecB.mk (fun h => ?_) (fun h => ?_)) <;> first | (exfalso; omega) | (conv => whnf)) | ((refine BoolB.mk (fun h => ?_) (fun h => ?_)) <;> first | (exact absurd h (by decide)) | (conv => whnf)) | ((first | refine zzW ?_ | refine zzI ?_ | refine zzR ?_ | refine zzB ?_ | refine late_ok rfl rfl ?_ | refine src_ok rfl ?_ | refine .inl ⟨_, _, qcall_pure (d) rfl rfl, ?_⟩ | refine .inl ⟨_, _, qcall_pure (is) rfl rfl, ?_⟩ | refine ex_row hx ?_ | refine ex_rowE em hy ?_ | refine LitB.data ?_ | refine BoxB.own ?_); conv => whnf)))
    all_goals first
      | (refine fin_int ?_; simp [moveOk, h1]; done)
      | (exfalso; simp_all; done)
      | (exfalso; omega)
  | true =>
    obtain ⟨hs0, p, hp, kp⟩ := place_get h1
    rw [← l1] at h1
    rw [h1] at is
    rw [l1] at h1
    cases h2 : idx x.dst e.places.length with
    | false =>
      rw [← l1] at h2
      rw [h2] at id
      rw [l1] at h2
      (refine acall_of tab_ok Tryz.func80 rfl (by decide) ?_; (conv => whnf); repeat (first | (refine LitB.data ?_; conv => whnf) | (refine BoxB.data ?_; conv => whnf)))
      (repeat' (first | ((refine DecB.mk (fun h => ?_) (fun h => ?_)) <;> first | (exfalso; omega) | (conv => whnf)) | ((refine BoolB.mk (fun h => ?_) (fun h => ?_)) <;> first | (exact absurd h (by decide)) | (conv => whnf)) | ((first | refine zzW ?_ | refine zzI ?_ | refine zzR ?_ | refine zzB ?_ | refine late_ok rfl rfl ?_ | refine src_ok rfl ?_ | refine .inl ⟨_, _, qcall_pure (d) rfl rfl, ?_⟩ | refine .inl ⟨_, _, qcall_pure (is) rfl rfl, ?_⟩ | refine .inl ⟨_, _, qcall_pure (id) rfl rfl, ?_⟩ | refine ex_row hx ?_ | refine ex_rowE em hy ?_ | refine LitB.data ?_ | refine BoxB.own ?_); conv => whnf)))
      all_goals first
        | (refine fin_int ?_; simp [moveOk, h1, h2]; done)
        | (exfalso; simp_all; done)
        | (exfalso; omega)
    | true =>
      obtain ⟨hd0, q, hq, kq⟩ := place_get h2
      rw [← l1] at h2
      rw [h2] at id
      rw [l1] at h2
      (refine acall_of tab_ok Tryz.func80 rfl (by decide) ?_; (conv => whnf); repeat (first | (refine LitB.data ?_; conv => whnf) | (refine BoxB.data ?_; conv => whnf)))
      (repeat' (first | ((refine DecB.mk (fun h => ?_) (fun h => ?_)) <;> first | (exfalso; omega) | (conv => whnf)) | ((refine BoolB.mk (fun h => ?_) (fun h => ?_)) <;> first | (exact absurd h (by decide)) | (conv => whnf)) | ((first | refine zzW ?_ | refine zzI ?_ | refine zzR ?_ | refine zzB ?_ | refine late_ok rfl rfl ?_ | refine src_ok rfl ?_ | refine .inl ⟨_, _, qcall_pure (d) rfl rfl, ?_⟩ | refine .inl ⟨_, _, qcall_pure (is) rfl rfl, ?_⟩ | refine .inl ⟨_, _, qcall_pure (id) rfl rfl, ?_⟩ | refine .inl ⟨_, _, qcall_pure (ic) rfl rfl, ?_⟩ | refine .inl ⟨_, _, qcall_pure (ir) rfl rfl, ?_⟩ | refine ex_row hx ?_ | refine ex_rowI hs0 hp ?_ | refine ex_rowI hd0 hq ?_ | refine ex_rowE em hy ?_ | refine LitB.data ?_ | refine BoxB.own ?_); conv => whnf)))
      all_goals first
        | (refine fin_int ?_; simp_all [moveOk]; done)
        | (exfalso; simp_all; done)
        | (exfalso; omega)
theorem r14said (e : Ev) (hs : e.Sized) (hf : fullB e = false) (h1 : 1 ≤ e.mats) (h5 : 0 ≤ e.scs) : ACall Tryz.prog 81 [evS e] [] (boolS (saidOk e)) [] := by
  have l2 : (e.certs.map Cert.row).length = e.certs.length := by simp
  have l4 : (e.recalls.map Recall.row).length = e.recalls.length := by simp
  have l6 : (e.purities.map Purity.row).length = e.purities.length := by simp
  have l8 : (e.moves.map Move.row).length = e.moves.length := by simp
  unfold fullB at hf
  simp only [Bool.or_eq_false_iff, decide_eq_false_iff_not] at hf
  (refine acall_of tab_ok Tryz.func81 rfl (by decide) ?_; (conv => whnf); repeat (first | (refine LitB.data ?_; conv => whnf) | (refine BoxB.data ?_; conv => whnf)))
  (repeat' (first | ((refine DecB.mk (fun h => ?_) (fun h => ?_)) <;> first | (exfalso; omega) | (conv => whnf)) | ((refine BoolB.mk (fun h => ?_) (fun h => ?_)) <;> first | (exact absurd h (by decide)) | (conv => whnf)) | ((first | refine zzW ?_ | refine zzI ?_ | refine zzR ?_ | refine zzB ?_ | refine late_ok rfl rfl ?_ | refine src_ok rfl ?_ | refine LitB.data ?_ | refine BoxB.own ?_); conv => whnf)))
  refine awp_for tab_ok (fun k => ([J, S.c (C.t (T.ptr (evT e))), J, intS .i64 k, J, J, J, J, J, J, J, J, J, J, J, J, J, J, J, J, J, J, J, J, J, J, J, J, J, J, J, J, J, J, J, J, J, J, J, J, J, J, J, J, J, J, J, J, J, J, J, J, J, J, J, J, J, J, J, J, J, J, J, J, J, J, J, J, J, J, J, J, J, J, J, J, J, J, J, J, J, J, J, J, J, J, J, J, J, J, J, J, J, J, J, J, J, J, J, J, J, J, J, J, J, J, J, J, J, J, J, J, J, J, J, J, J, J, J, J, J, J, J, J, J, J, J, J], [])) e.certs.length (fun k => (e.certs.take k).all (certOk e) = true) [] rfl
    ⟨rfl, rfl, trivial, ⟨rfl, rfl, trivial⟩⟩ ?_
  intro k hk hI
  by_cases hlt : k < e.certs.length
  · obtain ⟨x, hx⟩ : ∃ x, e.certs[k]? = some x := ⟨_, List.getElem?_eq_getElem hlt⟩
    conv => whnf
    (repeat' (first | ((refine DecB.mk (fun h => ?_) (fun h => ?_)) <;> first | (exfalso; omega) | (conv => whnf)) | ((refine BoolB.mk (fun h => ?_) (fun h => ?_)) <;> first | (exact absurd h (by decide)) | (conv => whnf)) | ((first | refine zzW ?_ | refine zzI ?_ | refine zzR ?_ | refine zzB ?_ | refine late_ok rfl rfl ?_ | refine src_ok rfl ?_ | refine .inl ⟨_, _, qcall_pure (r14idx x.scale e.scs) rfl rfl, ?_⟩ | refine .inl ⟨_, _, qcall_pure (r14in x.till x.since 100000) rfl rfl, ?_⟩ | refine .inl ⟨_, _, qcall_pure (r14in x.grams 0 1099511627776) rfl rfl, ?_⟩ | refine .inl ⟨_, _, qcall_pure (r14in x.permille 0 1000) rfl rfl, ?_⟩ | refine .inl ⟨_, _, qcall_pure (r14in x.drift 0 10000000) rfl rfl, ?_⟩ | refine ex_row hx ?_ | refine LitB.data ?_ | refine BoxB.own ?_); conv => whnf)))
    all_goals first
      | (exfalso; omega)
      | (refine ⟨hlt, ?_, [], rfl, rfl, trivial, ⟨rfl, rfl, trivial⟩⟩; rw [all_take_succ hx, hI]; simp_all [certOk, btw]; done)
      | (refine fin_bool ?_; rw [saidOk, all_of_get hx]; rfl; simp_all [certOk, btw]; (try omega); done)
  · have hc : e.certs.all (certOk e) = true := by rw [← hI, List.take_of_length_le (by omega)]
    conv => whnf
    (repeat' (first | ((refine DecB.mk (fun h => ?_) (fun h => ?_)) <;> first | (exfalso; omega) | (conv => whnf)) | ((refine BoolB.mk (fun h => ?_) (fun h => ?_)) <;> first | (exact absurd h (by decide)) | (conv => whnf)) | ((first | refine zzW ?_ | refine zzI ?_ | refine zzR ?_ | refine zzB ?_ | refine late_ok rfl rfl ?_ | refine src_ok rfl ?_ | refine LitB.data ?_ | refine BoxB.own ?_); conv => whnf)))
    all_goals try (exfalso; omega)
    clear hI hlt hk
    refine awp_for tab_ok (fun k => ([J, S.c (C.t (T.ptr (evT e))), J, J, J, intS .i64 k, J, J, J, J, J, J, J, J, J, J, J, J, J, J, J, J, J, J, J, J, J, J, J, J, J, J, J, J, J, J, J, J, J, J, J, J, J, J, J, J, J, J, J, J, J, J, J, J, J, J, J, J, J, J, J, J, J, J, J, J, J, J, J, J, J, J, J, J, J, J, J, J, J, J, J, J, J, J, J, J, J, J, J, J, J, J, J, J, J, J, J, J, J, J, J, J, J, J, J, J, J, J, J, J, J, J, J, J, J, J, J, J, J, J, J, J, J, J, J, J, J, J], [])) e.recalls.length (fun k => (e.recalls.take k).all (recallOk e) = true) [] rfl
      ⟨rfl, rfl, trivial, ⟨rfl, rfl, trivial⟩⟩ ?_
    intro k hk hI
    by_cases hlt : k < e.recalls.length
    · obtain ⟨x, hx⟩ : ∃ x, e.recalls[k]? = some x := ⟨_, List.getElem?_eq_getElem hlt⟩
      conv => whnf
      (repeat' (first | ((refine DecB.mk (fun h => ?_) (fun h => ?_)) <;> first | (exfalso; omega) | (conv => whnf)) | ((refine BoolB.mk (fun h => ?_) (fun h => ?_)) <;> first | (exact absurd h (by decide)) | (conv => whnf)) | ((first | refine zzW ?_ | refine zzI ?_ | refine zzR ?_ | refine zzB ?_ | refine late_ok rfl rfl ?_ | refine src_ok rfl ?_ | refine .inl ⟨_, _, qcall_pure (r14idx x.scale e.scs) rfl rfl, ?_⟩ | refine .inl ⟨_, _, qcall_pure (r14in x.since 0 100000) rfl rfl, ?_⟩ | refine ex_row hx ?_ | refine LitB.data ?_ | refine BoxB.own ?_); conv => whnf)))
      all_goals first
        | (exfalso; omega)
        | (refine ⟨hlt, ?_, [], rfl, rfl, trivial, ⟨rfl, rfl, trivial⟩⟩; rw [all_take_succ hx, hI]; simp_all [recallOk]; done)
        | (refine fin_bool ?_; rw [saidOk, hc, all_of_get hx]; rfl; simp_all [recallOk]; done)
    · have hr : e.recalls.all (recallOk e) = true := by rw [← hI, List.take_of_length_le (by omega)]
      conv => whnf
      (repeat' (first | ((refine DecB.mk (fun h => ?_) (fun h => ?_)) <;> first | (exfalso; omega) | (conv => whnf)) | ((refine BoolB.mk (fun h => ?_) (fun h => ?_)) <;> first | (exact absurd h (by decide)) | (conv => whnf)) | ((first | refine zzW ?_ | refine zzI ?_ | refine zzR ?_ | refine zzB ?_ | refine late_ok rfl rfl ?_ | refine src_ok rfl ?_ | refine LitB.data ?_ | refine BoxB.own ?_); conv => whnf)))
      all_goals try (exfalso; omega)
      clear hI hlt hk
      refine awp_for tab_ok (fun k => ([J, S.c (C.t (T.ptr (evT e))), J, J, J, J, intS .i64 k, J, J, J, J, J, J, J, J, J, J, J, J, J, J, J, J, J, J, J, J, J, J, J, J, J, J, J, J, J, J, J, J, J, J, J, J, J, J, J, J, J, J, J, J, J, J, J, J, J, J, J, J, J, J, J, J, J, J, J, J, J, J, J, J, J, J, J, J, J, J, J, J, J, J, J, J, J, J, J, J, J, J, J, J, J, J, J, J, J, J, J, J, J, J, J, J, J, J, J, J, J, J, J, J, J, J, J, J, J, J, J, J, J, J, J, J, J, J, J, J, J], [])) e.purities.length (fun k => (e.purities.take k).all (purityOk e) = true) [] rfl
        ⟨rfl, rfl, trivial, ⟨rfl, rfl, trivial⟩⟩ ?_
      intro k hk hI
      by_cases hlt : k < e.purities.length
      · obtain ⟨x, hx⟩ : ∃ x, e.purities[k]? = some x := ⟨_, List.getElem?_eq_getElem hlt⟩
        conv => whnf
        (repeat' (first | ((refine DecB.mk (fun h => ?_) (fun h => ?_)) <;> first | (exfalso; omega) | (conv => whnf)) | ((refine BoolB.mk (fun h => ?_) (fun h => ?_)) <;> first | (exact absurd h (by decide)) | (conv => whnf)) | ((first | refine zzW ?_ | refine zzI ?_ | refine zzR ?_ | refine zzB ?_ | refine late_ok rfl rfl ?_ | refine src_ok rfl ?_ | refine .inl ⟨_, _, qcall_pure (r14idx x.move (e.moves.map Move.row).length) rfl rfl, ?_⟩ | refine .inl ⟨_, _, qcall_pure (r14idx x.mat e.mats) rfl rfl, ?_⟩ | refine .inl ⟨_, _, qcall_pure (r14in x.most x.least 1000) rfl rfl, ?_⟩ | refine ex_row hx ?_ | refine LitB.data ?_ | refine BoxB.own ?_); conv => whnf)))
        all_goals first
          | (exfalso; omega)
          | (refine ⟨hlt, ?_, [], rfl, rfl, trivial, ⟨rfl, rfl, trivial⟩⟩; rw [all_take_succ hx, hI]; simp_all [purityOk, btw]; done)
          | (refine fin_bool ?_; rw [saidOk, hc, hr, all_of_get hx]; rfl; simp_all [purityOk, btw]; (try omega); done)
      · have hp : e.purities.all (purityOk e) = true := by rw [← hI, List.take_of_length_le (by omega)]
        conv => whnf
        (repeat' (first | ((refine DecB.mk (fun h => ?_) (fun h => ?_)) <;> first | (exfalso; omega) | (conv => whnf)) | ((refine BoolB.mk (fun h => ?_) (fun h => ?_)) <;> first | (exact absurd h (by decide)) | (conv => whnf)) | ((first | refine zzW ?_ | refine zzI ?_ | refine zzR ?_ | refine zzB ?_ | refine late_ok rfl rfl ?_ | refine src_ok rfl ?_ | refine LitB.data ?_ | refine BoxB.own ?_); conv => whnf)))
        all_goals first
          | (exfalso; omega)
          | (refine fin_bool ?_; rw [saidOk, hc, hr, hp]; rfl)
theorem r14Check (e : Ev) (hs : e.Sized) : ACall Tryz.prog 38 [evS e] [] (intS .i64 (check e)) [] := by
  have l1 : (e.places.map Place.row).length = e.places.length := by simp
  have l8 : (e.moves.map Move.row).length = e.moves.length := by simp
  have fu := r14full e hs
  cases hf : fullB e with
  | true =>
    rw [hf] at fu
    (refine acall_of tab_ok Tryz.func38 rfl (by decide) ?_; (conv => whnf); repeat (first | (refine LitB.data ?_; conv => whnf) | (refine BoxB.data ?_; conv => whnf)))
    (repeat' (first | ((refine DecB.mk (fun h => ?_) (fun h => ?_)) <;> first | (exfalso; omega) | (conv => whnf)) | ((refine BoolB.mk (fun h => ?_) (fun h => ?_)) <;> first | (exact absurd h (by decide)) | (conv => whnf)) | ((first | refine zzW ?_ | refine zzI ?_ | refine zzR ?_ | refine zzB ?_ | refine late_ok rfl rfl ?_ | refine src_ok rfl ?_ | refine .inl ⟨_, _, qcall_pure (fu) rfl rfl, ?_⟩ | refine LitB.data ?_ | refine BoxB.own ?_); conv => whnf)))
    all_goals first
      | (exfalso; simp_all; done)
      | (refine fin_int ?_; unfold check; rw [if_pos hf])
  | false =>
    rw [hf] at fu
    by_cases hb : e.mats < 1 ∨ e.hhs < 0 ∨ e.scs < 0
    · have e1 : check e = 1 := by
        unfold check; rw [if_neg (by simp [hf]), if_pos (by rcases hb with h | h | h <;> simp [h])]
      rw [e1]
      (refine acall_of tab_ok Tryz.func38 rfl (by decide) ?_; (conv => whnf); repeat (first | (refine LitB.data ?_; conv => whnf) | (refine BoxB.data ?_; conv => whnf)))
      (repeat' (first | ((refine DecB.mk (fun h => ?_) (fun h => ?_)) <;> first | (exfalso; omega) | (conv => whnf)) | ((refine BoolB.mk (fun h => ?_) (fun h => ?_)) <;> first | (exact absurd h (by decide)) | (conv => whnf)) | ((first | refine zzW ?_ | refine zzI ?_ | refine zzR ?_ | refine zzB ?_ | refine late_ok rfl rfl ?_ | refine src_ok rfl ?_ | refine .inl ⟨_, _, qcall_pure (fu) rfl rfl, ?_⟩ | refine LitB.data ?_ | refine BoxB.own ?_); conv => whnf)))
      all_goals first
        | (exfalso; simp_all; done)
        | (exfalso; omega)
        | exact fin_int rfl
    have hfb := hf
    unfold fullB at hfb
    simp only [Bool.or_eq_false_iff, decide_eq_false_iff_not] at hfb
    (refine acall_of tab_ok Tryz.func38 rfl (by decide) ?_; (conv => whnf); repeat (first | (refine LitB.data ?_; conv => whnf) | (refine BoxB.data ?_; conv => whnf)))
    (repeat' (first | ((refine DecB.mk (fun h => ?_) (fun h => ?_)) <;> first | (exfalso; omega) | (conv => whnf)) | ((refine BoolB.mk (fun h => ?_) (fun h => ?_)) <;> first | (exact absurd h (by decide)) | (conv => whnf)) | ((first | refine zzW ?_ | refine zzI ?_ | refine zzR ?_ | refine zzB ?_ | refine late_ok rfl rfl ?_ | refine src_ok rfl ?_ | refine .inl ⟨_, _, qcall_pure (fu) rfl rfl, ?_⟩ | refine LitB.data ?_ | refine BoxB.own ?_); conv => whnf)))
    all_goals try (exfalso; omega)
    refine awp_for tab_ok (fun k => ([J, S.c (C.t (T.ptr (evT e))), J, intS .i64 k, J, J, J, J, J, J, J, J, J, J, J, J, J, J, J, J, J, J, J, J, J, J, J, J, J, J, J, J, J, J, J, J, J, J, J, J, J, J, J, J, J, J, J, J, J, J, J, J], [])) e.places.length (fun k => (e.places.take k).all (placeOk e) = true) [] rfl
      ⟨rfl, rfl, trivial, ⟨rfl, rfl, trivial⟩⟩ ?_
    intro k hk hI
    by_cases hlt : k < e.places.length
    · obtain ⟨x, hx⟩ : ∃ x, e.places[k]? = some x := ⟨_, List.getElem?_eq_getElem hlt⟩
      have pl := r14place e x (by omega) (by omega) (by omega) (by omega)
      conv => whnf
      (repeat' (first | ((refine DecB.mk (fun h => ?_) (fun h => ?_)) <;> first | (exfalso; omega) | (conv => whnf)) | ((refine BoolB.mk (fun h => ?_) (fun h => ?_)) <;> first | (exact absurd h (by decide)) | (conv => whnf)) | ((first | refine zzW ?_ | refine zzI ?_ | refine zzR ?_ | refine zzB ?_ | refine late_ok rfl rfl ?_ | refine src_ok rfl ?_ | refine .inl ⟨_, _, qcall_pure (pl) rfl rfl, ?_⟩ | refine ex_row hx ?_ | refine LitB.data ?_ | refine BoxB.own ?_); conv => whnf)))
      all_goals first
        | (exfalso; omega)
        | (refine ⟨hlt, ?_, [], rfl, rfl, trivial, ⟨rfl, rfl, trivial⟩⟩; rw [all_take_succ hx, hI]; simp_all; done)
        | (refine fin_int ?_; unfold check; rw [if_neg (by simp [hf]), if_pos (.inr (.inr (.inr (all_of_get hx (by assumption)))))])
    have hp : e.places.all (placeOk e) = true := by rw [← hI, List.take_of_length_le (by omega)]
    have hck : check e = if movesErr e 0 e.moves ≠ 0 then movesErr e 0 e.moves else if saidOk e then 0 else 1 := by
      unfold check; rw [if_neg (by simp [hf]), if_neg (by rw [hp]; simp; omega)]
    conv => whnf
    (repeat' (first | ((refine DecB.mk (fun h => ?_) (fun h => ?_)) <;> first | (exfalso; omega) | (conv => whnf)) | ((refine BoolB.mk (fun h => ?_) (fun h => ?_)) <;> first | (exact absurd h (by decide)) | (conv => whnf)) | ((first | refine zzW ?_ | refine zzI ?_ | refine zzR ?_ | refine zzB ?_ | refine late_ok rfl rfl ?_ | refine src_ok rfl ?_ | refine LitB.data ?_ | refine BoxB.own ?_); conv => whnf)))
    all_goals try (exfalso; omega)
    clear hI hlt hk
    refine awp_for tab_ok (fun k => ([J, S.c (C.t (T.ptr (evT e))), J, J, intS .i64 k, J, J, J, J, J, J, J, J, J, J, J, J, J, J, J, J, J, J, J, J, J, J, J, J, J, J, J, J, J, J, J, J, J, J, J, J, J, J, J, J, J, J, J, J, J, J, J], [])) e.moves.length (fun k => movesErr e 0 e.moves = movesErr e (lastD e k) (e.moves.drop k) ∧ 0 ≤ lastD e k) [] ⟨rfl, Int.le_refl 0⟩
      ⟨rfl, rfl, trivial, ⟨rfl, rfl, trivial⟩⟩ ?_
    rintro k hk ⟨hI, hI2⟩
    by_cases hlt : k < e.moves.length
    · obtain ⟨x, hx⟩ : ∃ x, e.moves[k]? = some x := ⟨_, List.getElem?_eq_getElem hlt⟩
      have mv := r14move e k x hx hf (by omega) (by omega) (by omega)
      rw [drop_get hx, movesErr] at hI
      have hm : movesErr e 0 e.moves = if moveE e k x = 0 then movesErr e x.day (e.moves.drop (k + 1)) else moveE e k x := by
        rw [hI]
        unfold moveE
        have hk0 : k = 0 → lastD e k = 0 := fun h => by subst h; rfl
        by_cases h1 : x.day < lastD e k ∨ 100000 < x.day
        · rw [if_pos h1, if_pos (c := x.day < 0 ∨ 100000 < x.day ∨ (0 < k ∧ x.day < lastD e k)) (by omega)]; simp
        · rw [if_neg h1, if_neg (c := x.day < 0 ∨ 100000 < x.day ∨ (0 < k ∧ x.day < lastD e k)) (by omega)]
          cases moveOk e x <;> simp
      have hv : moveE e k x = 0 → 0 ≤ x.day := fun h => by unfold moveE at h; split at h <;> omega
      have hm0 : moveE e k x = 0 → movesErr e 0 e.moves = movesErr e x.day (e.moves.drop (k + 1)) := fun h => by rw [hm, if_pos h]
      have hm1 : moveE e k x ≠ 0 → movesErr e 0 e.moves = moveE e k x := fun h => by rw [hm, if_neg h]
      clear hm hI
      conv => whnf
      (repeat' (first | ((refine DecB.mk (fun h => ?_) (fun h => ?_)) <;> first | (exfalso; omega) | (conv => whnf)) | ((refine BoolB.mk (fun h => ?_) (fun h => ?_)) <;> first | (exact absurd h (by decide)) | (conv => whnf)) | ((first | refine zzW ?_ | refine zzI ?_ | refine zzR ?_ | refine zzB ?_ | refine late_ok rfl rfl ?_ | refine src_ok rfl ?_ | refine .inl ⟨_, _, qcall_pure (mv) rfl rfl, ?_⟩ | refine LitB.data ?_ | refine BoxB.own ?_); conv => whnf)))
      all_goals first
        | (exfalso; omega)
        | (refine ⟨hlt, ⟨?_, ?_⟩, [], rfl, rfl, trivial, ⟨rfl, rfl, trivial⟩⟩
           · rw [lastD_succ hx]; exact hm0 (by omega)
           · rw [lastD_succ hx]; exact hv (by omega))
        | (refine fin_int ?_
           have hne : moveE e k x ≠ 0 := by omega
           rw [hck, hm1 hne, if_pos hne])
    · rw [List.drop_eq_nil_of_le (by omega), movesErr] at hI
      have sd := r14said e hs hf (by omega) (by omega)
      conv => whnf
      (repeat' (first | ((refine DecB.mk (fun h => ?_) (fun h => ?_)) <;> first | (exfalso; omega) | (conv => whnf)) | ((refine BoolB.mk (fun h => ?_) (fun h => ?_)) <;> first | (exact absurd h (by decide)) | (conv => whnf)) | ((first | refine zzW ?_ | refine zzI ?_ | refine zzR ?_ | refine zzB ?_ | refine late_ok rfl rfl ?_ | refine src_ok rfl ?_ | refine .inl ⟨_, _, qcall_pure (sd) rfl rfl, ?_⟩ | refine LitB.data ?_ | refine BoxB.own ?_); conv => whnf)))
      all_goals first
        | (exfalso; omega)
        | (refine fin_int ?_; rw [hck, hI]; simp_all; done)
end Go.Proofs.YtfieodjihaodiaaGreat
/- reference 16: Made, System, Origin. -/
namespace Go.Proofs.YtfieodjihaodiaaGreat
open Go.RowKit
set_option linter.unusedVariables false
set_option linter.unusedSimpArgs false
set_option maxRecDepth 100000

theorem hl0_ent {H : Hp} {r o : Nat} {L : List (RowP × OrP)} (h1 : H[0]? = some (lsB r o L.length)) (h2 : H[r]? = some (rB L)) (h3 : H[o]? = some (oB L)) : EntH [some 0, some r, some o] H [some 0, some r, some o] (hl0 L) := by
  refine ⟨?_, ?_, ?_, trivial⟩
  · simp only [h1]; exact ls_ent rfl rfl rfl
  · simp only [h2]; exact rows_ent rfl
  · simp only [h3]; exact rows_ent rfl
theorem pur_in {e : Ev} (h : check e = 0) {p : Purity} (hp : p ∈ e.purities) : 0 ≤ p.move ∧ p.move < e.moves.length ∧ 0 ≤ p.mat ∧ p.mat < e.mats := by
  have := (check_zero h).2.2.2.2.2.2
  simp only [saidOk, Bool.and_eq_true, List.all_eq_true] at this
  have := this.2 p hp
  simp only [purityOk, Bool.and_eq_true, decide_eq_true_eq, idx_iff] at this
  omega
set_option maxHeartbeats 8000000 in
theorem a_LMade (e : Ev) (hE : EvSm e) (h0 : check e = 0) : ACall Tryz.prog 40 [evS e] [] (.c (.ptr 0 0 0)) (hl0 (evRows e)) := by
  have m0 : (e.moves.map Move.row).length = e.moves.length := by simp
  have m9 : (e.purities.map Purity.row).length = e.purities.length := by simp
  have hm1 := hE.m1
  have hm6 := hE.m6
  have hmv := hE.mv
  have hpu := hE.pu
  (refine acall_of tab_ok Tryz.func40 rfl (by decide) ?_; conv => whnf)
  refine BoxB.data ?_
  conv => whnf
  (repeat' (first | ((refine DecB.mk (fun h => ?_) (fun h => ?_)) <;> first | (exfalso; omega) | (conv => whnf)) | ((refine BoolB.mk (fun h => ?_) (fun h => ?_)) <;> first | (exact absurd h (by decide)) | (conv => whnf)) | ((first | refine zzW ?_ | refine zzI ?_ | refine zzR ?_ | refine zzB ?_ | refine late_ok rfl rfl ?_ | refine src_ok rfl ?_ | refine LitB.data ?_ | refine BoxB.own ?_); conv => whnf)))
  refine awp_forW (fun k => ([J, S.c (C.t (T.ptr (evT e))), J, S.c (C.ptr 0 0 0), intS .i64 k, J, J, J, J, J, J, J, J, J, J, J, J, J, J, J, J, J, J, J, J, J, J, J, J, J, J, J, J, J, J, J, J, J, J, J, J, J, J, J, J, J, J, J, J, J, J, J, J, J, J], hl0 (evTo e k))) e.moves.length (fun _ => True) [some 0, none, none] trivial
    ⟨rfl, rfl, ⟨⟨rfl, rfl, rfl, .inr ⟨⟨⟨rfl, rfl, rfl⟩, ⟨rfl, rfl, rfl⟩, trivial⟩, trivial⟩⟩, ⟨rfl, rfl⟩, ⟨rfl, rfl⟩, trivial⟩, ⟨rfl, ⟨rfl, rfl, rfl⟩, rfl, trivial⟩⟩ ?_
  intro k hk _
  refine awp_seq tab_ok ?_
  conv => whnf
  (repeat' (first | ((refine DecB.mk (fun h => ?_) (fun h => ?_)) <;> first | (exfalso; omega) | (conv => whnf)) | ((refine BoolB.mk (fun h => ?_) (fun h => ?_)) <;> first | (exact absurd h (by decide)) | (conv => whnf)) | ((first | refine zzW ?_ | refine zzI ?_ | refine zzR ?_ | refine zzB ?_ | refine late_ok rfl rfl ?_ | refine src_ok rfl ?_ | refine LitB.data ?_ | refine BoxB.own ?_); conv => whnf)))
  · obtain ⟨x, hx⟩ : ∃ x, e.moves[k]? = some x := ⟨_, List.getElem?_eq_getElem (by omega)⟩
    have hlt : k < e.moves.length := by omega
    have ms := hE.src x (List.mem_of_getElem? hx)
    obtain ⟨s, hsn⟩ : ∃ s : Nat, x.src = s := ⟨x.src.toNat, by omega⟩
    obtain ⟨pl, hpl⟩ : ∃ pl, e.places[s]? = some pl := ⟨_, List.getElem?_eq_getElem (by omega)⟩
    have hkd : kindAt e x.src = pl.kind := by rw [hsn]; exact kindAt_of hpl
    have l0 := evTo_small hE (k := k) (by omega)
    obtain ⟨M1, hM1⟩ : ∃ M1 : List (RowP × OrP), M1 = evTo e k ++ (if pl.kind = 0 then [] else stocksP e k x e.mats.toNat) := ⟨_, rfl⟩
    have l1 : M1.length ≤ 500 := by rw [hM1]; split <;> simp [stocksP] <;> omega
    obtain ⟨M2, hM2⟩ : ∃ M2 : List (RowP × OrP), M2 = M1 ++ weightP e k x := ⟨_, rfl⟩
    have l2 : M2.length ≤ 502 := by rw [hM2, List.length_append, weightP_len]; split <;> omega
    have hM3 : evTo e (k + 1) = M2 ++ purTo e k e.purities.length := by rw [evTo_succ hx, hM2, hM1]; unfold moveP; rw [hkd]; simp only [List.append_assoc]
    have st := a_Lstock e hE hx (evTo e k) (by omega)
    refine awp_seqW (awp_blockW ?_)
    refine awp_cut tab_ok ([J, S.c (C.t (T.ptr (evT e))), J, S.c (C.ptr 0 0 0), intS .i64 k, J, J, J, J, J, J, J, J, J, J, J, J, J, J, J, J, J, J, J, J, J, J, J, J, J, J, J, J, J, J, J, J, J, J, J, J, J, J, J, J, J, J, J, J, J, J, J, J, J, J]) (hl0 M1) ?_ ?_
    · by_cases hk0 : pl.kind = 0
      · have eM : M1 = evTo e k := by rw [hM1, if_pos hk0, List.append_nil]
        rw [eM]
        conv => whnf
        (repeat' (first | ((refine DecB.mk (fun h => ?_) (fun h => ?_)) <;> first | (exfalso; omega) | (conv => whnf)) | ((refine BoolB.mk (fun h => ?_) (fun h => ?_)) <;> first | (exact absurd h (by decide)) | (conv => whnf)) | ((first | refine zzW ?_ | refine zzI ?_ | refine zzR ?_ | refine zzB ?_ | refine late_ok rfl rfl ?_ | refine src_ok rfl ?_ | refine ex_row hx ?_ | refine ex_rowE hsn hpl ?_ | refine LitB.data ?_ | refine BoxB.own ?_); conv => whnf)))
        all_goals first
          | (exfalso; omega)
          | exact ⟨[some 0, some 1, some 2], rfl, rfl, hl0_ent rfl rfl rfl, ⟨rfl, ⟨rfl, rfl, rfl⟩, rfl, trivial⟩⟩
          | skip
      · have eM : M1 = evTo e k ++ stocksP e k x e.mats.toNat := by rw [hM1, if_neg hk0]
        rw [← eM] at st
        conv => whnf
        (repeat' (first | ((refine DecB.mk (fun h => ?_) (fun h => ?_)) <;> first | (exfalso; omega) | (conv => whnf)) | ((refine BoolB.mk (fun h => ?_) (fun h => ?_)) <;> first | (exact absurd h (by decide)) | (conv => whnf)) | ((first | refine zzW ?_ | refine zzI ?_ | refine zzR ?_ | refine zzB ?_ | refine late_ok rfl rfl ?_ | refine src_ok rfl ?_ | refine ex_row hx ?_ | refine ex_rowE hsn hpl ?_ | refine .inr ⟨_, _, st, ?_⟩ | refine LitB.data ?_ | refine BoxB.own ?_); conv => whnf)))
        all_goals first
          | (exfalso; omega)
          | exact ⟨[some 0, some 3, some 4], rfl, rfl, hl0_ent rfl rfl rfl, ⟨rfl, ⟨rfl, rfl, rfl⟩, rfl, trivial⟩⟩
          | skip
    refine awp_cut tab_ok ([J, S.c (C.t (T.ptr (evT e))), J, S.c (C.ptr 0 0 0), intS .i64 k, J, J, J, J, J, J, J, J, J, J, J, J, J, J, J, J, J, J, J, J, J, J, J, J, J, J, J, J, J, J, J, J, J, J, J, J, J, J, J, J, J, J, J, J, J, J, J, J, J, J]) (hl0 M2) ?_ ?_
    · cases hiv : ivOf e x with
      | none =>
        have eM : M2 = M1 := by rw [hM2]; unfold weightP; rw [hiv]; simp
        have we := a_LweightN e hE hx M1 hiv
        rw [eM]
        conv => whnf
        (repeat' (first | ((refine DecB.mk (fun h => ?_) (fun h => ?_)) <;> first | (exfalso; omega) | (conv => whnf)) | ((refine BoolB.mk (fun h => ?_) (fun h => ?_)) <;> first | (exact absurd h (by decide)) | (conv => whnf)) | ((first | refine zzW ?_ | refine zzI ?_ | refine zzR ?_ | refine zzB ?_ | refine late_ok rfl rfl ?_ | refine src_ok rfl ?_ | refine .inr ⟨_, _, we, ?_⟩ | refine LitB.data ?_ | refine BoxB.own ?_); conv => whnf)))
        exact ⟨[some 0, some 1, some 2], rfl, rfl, hl0_ent rfl rfl rfl, ⟨rfl, ⟨rfl, rfl, rfl⟩, rfl, trivial⟩⟩
      | some pr =>
        obtain ⟨lo, hi⟩ := pr
        have we := a_LweightS e hE hx M1 (by omega) hiv
        rw [← hM2] at we
        conv => whnf
        (repeat' (first | ((refine DecB.mk (fun h => ?_) (fun h => ?_)) <;> first | (exfalso; omega) | (conv => whnf)) | ((refine BoolB.mk (fun h => ?_) (fun h => ?_)) <;> first | (exact absurd h (by decide)) | (conv => whnf)) | ((first | refine zzW ?_ | refine zzI ?_ | refine zzR ?_ | refine zzB ?_ | refine late_ok rfl rfl ?_ | refine src_ok rfl ?_ | refine .inr ⟨_, _, we, ?_⟩ | refine LitB.data ?_ | refine BoxB.own ?_); conv => whnf)))
        exact ⟨[some 0, some 3, some 4], rfl, rfl, hl0_ent rfl rfl rfl, ⟨rfl, ⟨rfl, rfl, rfl⟩, rfl, trivial⟩⟩
    refine acode_sound tab_ok _ ?_
    conv => whnf
    (repeat' (first | ((refine DecB.mk (fun h => ?_) (fun h => ?_)) <;> first | (exfalso; omega) | (conv => whnf)) | ((refine BoolB.mk (fun h => ?_) (fun h => ?_)) <;> first | (exact absurd h (by decide)) | (conv => whnf)) | ((first | refine zzW ?_ | refine zzI ?_ | refine zzR ?_ | refine zzB ?_ | refine late_ok rfl rfl ?_ | refine src_ok rfl ?_ | refine LitB.data ?_ | refine BoxB.own ?_); conv => whnf)))
    refine awp_for tab_ok (fun j => ([J, S.c (C.t (T.ptr (evT e))), J, S.c (C.ptr 0 0 0), intS .i64 k, intS .i64 j, J, J, J, J, J, J, J, J, J, J, J, J, J, J, J, J, J, J, J, J, J, J, J, J, J, J, J, J, J, J, J, J, J, J, J, J, J, J, J, J, J, J, J, J, J, J, J, J, J], hl0 (M2 ++ purTo e k j))) e.purities.length (fun _ => True) [some 0, some 1, some 2] trivial
      ⟨rfl, rfl, by rw [show purTo e k 0 = [] from rfl, List.append_nil]; exact hl0_ent rfl rfl rfl, ⟨rfl, ⟨rfl, rfl, rfl⟩, rfl, rfl, trivial⟩⟩ ?_
    intro j hj _
    have pl2 := purTo_len (e := e) (i := k) j
    by_cases hjt : j < e.purities.length
    · obtain ⟨p, hp⟩ : ∃ p, e.purities[j]? = some p := ⟨_, List.getElem?_eq_getElem hjt⟩
      have pin := pur_in h0 (List.mem_of_getElem? hp)
      by_cases hpm : p.move = (k : Int)
      · have hsu : purTo e k (j + 1) = purTo e k j ++ pur2 e k j p := by rw [purTo, hp]; simp only; rw [if_pos hpm]
        have pu := a_Lpurity e hE hp hpm hlt pin.2.2 (M2 ++ purTo e k j) (by rw [List.length_append]; omega)
        rw [List.append_assoc, ← hsu] at pu
        conv => whnf
        (repeat' (first | ((refine DecB.mk (fun h => ?_) (fun h => ?_)) <;> first | (exfalso; omega) | (conv => whnf)) | ((refine BoolB.mk (fun h => ?_) (fun h => ?_)) <;> first | (exact absurd h (by decide)) | (conv => whnf)) | ((first | refine zzW ?_ | refine zzI ?_ | refine zzR ?_ | refine zzB ?_ | refine late_ok rfl rfl ?_ | refine src_ok rfl ?_ | refine ex_row hp ?_ | refine .inr ⟨_, _, pu, ?_⟩ | refine LitB.data ?_ | refine BoxB.own ?_); conv => whnf)))
        all_goals first
          | (exfalso; omega)
          | exact ⟨hjt, trivial, [some 0, some 3, some 4], rfl, rfl, hl0_ent rfl rfl rfl, ⟨rfl, ⟨rfl, rfl, rfl⟩, rfl, rfl, trivial⟩⟩
          | skip
      · have hsu : purTo e k (j + 1) = purTo e k j := by rw [purTo, hp]; simp only; rw [if_neg hpm]
        conv => whnf
        (repeat' (first | ((refine DecB.mk (fun h => ?_) (fun h => ?_)) <;> first | (exfalso; omega) | (conv => whnf)) | ((refine BoolB.mk (fun h => ?_) (fun h => ?_)) <;> first | (exact absurd h (by decide)) | (conv => whnf)) | ((first | refine zzW ?_ | refine zzI ?_ | refine zzR ?_ | refine zzB ?_ | refine late_ok rfl rfl ?_ | refine src_ok rfl ?_ | refine ex_row hp ?_ | refine LitB.data ?_ | refine BoxB.own ?_); conv => whnf)))
        all_goals first
          | (exfalso; omega)
          | exact ⟨hjt, trivial, [some 0, some 1, some 2], rfl, rfl, by rw [hsu]; exact hl0_ent rfl rfl rfl, ⟨rfl, ⟨rfl, rfl, rfl⟩, rfl, rfl, trivial⟩⟩
          | skip
    · have hje : j = e.purities.length := by omega
      subst hje
      conv => whnf
      (repeat' (first | ((refine DecB.mk (fun h => ?_) (fun h => ?_)) <;> first | (exfalso; omega) | (conv => whnf)) | ((refine BoolB.mk (fun h => ?_) (fun h => ?_)) <;> first | (exact absurd h (by decide)) | (conv => whnf)) | ((first | refine zzW ?_ | refine zzI ?_ | refine zzR ?_ | refine zzB ?_ | refine late_ok rfl rfl ?_ | refine src_ok rfl ?_ | refine LitB.data ?_ | refine BoxB.own ?_); conv => whnf)))
      all_goals try (exfalso; omega)
      refine acode_sound tab_ok _ ?_
      conv => whnf
      (repeat' (first | ((refine DecB.mk (fun h => ?_) (fun h => ?_)) <;> first | (exfalso; omega) | (conv => whnf)) | ((refine BoolB.mk (fun h => ?_) (fun h => ?_)) <;> first | (exact absurd h (by decide)) | (conv => whnf)) | ((first | refine zzW ?_ | refine zzI ?_ | refine zzR ?_ | refine zzB ?_ | refine late_ok rfl rfl ?_ | refine src_ok rfl ?_ | refine LitB.data ?_ | refine BoxB.own ?_); conv => whnf)))
      all_goals first
        | (exfalso; omega)
        | exact ⟨hlt, trivial, [some 0, some 1, some 2], rfl, rfl, by rw [hM3]; exact hl0_ent rfl rfl rfl, ⟨rfl, ⟨rfl, rfl, rfl⟩, rfl, trivial⟩⟩
        | skip
  · have hke : k = e.moves.length := by omega
    subst hke
    refine ⟨⟨[some 0, some 1, some 2], rfl, rfl, hl0_ent rfl rfl rfl, ⟨rfl, rfl, rfl⟩⟩⟩
theorem a_LMadeF (e : Ev) (hE : EvSm e) (h0 : check e = 0) (T : Blk) : ACall Tryz.prog 40 [evS e] [T] (.c (.ptr 1 0 0)) [T, lsB 2 3 (evRows e).length, rB (evRows e), oB (evRows e)] := by
  refine acall_frame [] (a_LMade e hE h0) rfl rfl rfl (by decide) ?_ ?_ (by simp) rfl rfl (by simp) ?_ ?_
  · intro i k hk
    simp at hk
  · intro k hk
    simp at hk
    rcases hk with rfl | rfl | rfl <;> (intro h; cases h)
  · intro i k hk
    match i, hk with
    | 0, hk => injection hk with hk; subst hk; exact ⟨_, rfl, ⟨rfl, rfl, rfl, rfl, rfl⟩⟩
    | 1, hk => injection hk with hk; subst hk; exact ⟨_, rfl, renB_data rfl⟩
    | 2, hk => injection hk with hk; subst hk; exact ⟨_, rfl, renB_data rfl⟩
  · intro j hj _
    simp at hj
    subst hj; rfl
set_option maxHeartbeats 4000000 in
theorem a_LSystem (e : Ev) (hs : e.Sized) (hE : check e = 0 → EvSm e) : ACall Tryz.prog 15 [evS e] [] (.tup [sysS (evSysR e), intS .i64 (check e)]) [] := by
  have ck := r14Check e hs
  have m0 : (e.moves.map Move.row).length = e.moves.length := by simp
  by_cases h0 : check e ≠ 0
  · have e1 : evSysR e = ⟨0, []⟩ := by unfold evSysR; rw [if_pos h0]
    rw [e1]
    (refine acall_of tab_ok Tryz.func15 rfl (by decide) ?_; (conv => whnf); repeat (first | (refine LitB.data ?_; conv => whnf) | (refine BoxB.data ?_; conv => whnf)))
    (repeat' (first | ((refine DecB.mk (fun h => ?_) (fun h => ?_)) <;> first | (exfalso; omega) | (conv => whnf)) | ((refine BoolB.mk (fun h => ?_) (fun h => ?_)) <;> first | (exact absurd h (by decide)) | (conv => whnf)) | ((first | refine zzW ?_ | refine zzI ?_ | refine zzR ?_ | refine zzB ?_ | refine late_ok rfl rfl ?_ | refine src_ok rfl ?_ | refine .inl ⟨_, _, qcall_pure (ck) rfl rfl, ?_⟩ | refine .inl ⟨_, _, qcall_pure (1) rfl rfl, ?_⟩ | refine bar_late [1] (by decide +kernel) (by decide +kernel) ?_ | refine LitB.data ?_ | refine BoxB.own ?_); conv => whnf)))
    all_goals first
      | (exfalso; omega)
      | exact fin_t ⟨⟨rfl, rfl, trivial⟩, rfl, trivial⟩
      | skip
  · have h0 : check e = 0 := by omega
    have hE := hE h0
    have e1 : evSysR e = evSys e := by unfold evSysR; rw [if_neg (by omega)]
    rw [e1]
    rw [h0] at ck ⊢
    have h1 := hE.m1
    have h6 := hE.m6
    have hmv := hE.mv
    have n0 : 0 ≤ (e.moves.length : Int) * e.mats := Int.mul_nonneg (by omega) (by omega)
    have n1 : (e.moves.length : Int) * e.mats ≤ 8 * 6 := Int.mul_le_mul (by omega) h6 (by omega) (by decide)
    have vr := a_Vars16 e n0 (by omega)
    have md := a_LMadeF e hE h0
    (refine acall_of tab_ok Tryz.func15 rfl (by decide) ?_; (conv => whnf); repeat (first | (refine LitB.data ?_; conv => whnf) | (refine BoxB.data ?_; conv => whnf)))
    (repeat' (first | ((refine DecB.mk (fun h => ?_) (fun h => ?_)) <;> first | (exfalso; omega) | (conv => whnf)) | ((refine BoolB.mk (fun h => ?_) (fun h => ?_)) <;> first | (exact absurd h (by decide)) | (conv => whnf)) | ((first | refine zzW ?_ | refine zzI ?_ | refine zzR ?_ | refine zzB ?_ | refine late_ok rfl rfl ?_ | refine src_ok rfl ?_ | refine .inl ⟨_, _, qcall_pure (ck) rfl rfl, ?_⟩ | refine .inl ⟨_, _, qcall_pure (vr) rfl rfl, ?_⟩ | refine .inl ⟨_, _, qcall_pure (0, 1, 2) rfl rfl, ?_⟩ | refine bar_late [0, 1, 2] (by decide +kernel) (by decide +kernel) ?_ | refine .inr ⟨_, _, md _, ?_⟩ | refine LitB.data ?_ | refine BoxB.own ?_); conv => whnf)))
    all_goals first
      | (exfalso; omega)
      | skip
    all_goals exact fin_t ⟨⟨rfl, show VC _ (fun id => notIn [] id = true) _ _ from vc_all rfl rfl (by intro h; cases h) rfl (by show (rB (evRows e)).rows = toC ((List.map Prod.fst (evRows e)).map rowRow); rw [rows_fst]) (by simp [evSys]), trivial⟩, rfl, trivial⟩
set_option maxHeartbeats 4000000 in
theorem a_LOrigin (e : Ev) (hs : e.Sized) (hE : check e = 0 → EvSm e) (i : Int) : ACall Tryz.prog 17 [evS e, intS .i64 i] [] (.tup [.agg ((orRow ((orAt e i).getD orZ)).map C.t), boolS (orAt e i).isSome]) [] := by
  have ck := r14Check e hs
  by_cases h0 : check e ≠ 0
  · have e1 : orAt e i = none := by unfold orAt; rw [if_pos h0]
    rw [e1]
    (refine acall_of tab_ok Tryz.func17 rfl (by decide) ?_; (conv => whnf); repeat (first | (refine LitB.data ?_; conv => whnf) | (refine BoxB.data ?_; conv => whnf)))
    (repeat' (first | ((refine DecB.mk (fun h => ?_) (fun h => ?_)) <;> first | (exfalso; omega) | (conv => whnf)) | ((refine BoolB.mk (fun h => ?_) (fun h => ?_)) <;> first | (exact absurd h (by decide)) | (conv => whnf)) | ((first | refine zzW ?_ | refine zzI ?_ | refine zzR ?_ | refine zzB ?_ | refine late_ok rfl rfl ?_ | refine src_ok rfl ?_ | refine .inl ⟨_, _, qcall_pure (ck) rfl rfl, ?_⟩ | refine LitB.data ?_ | refine BoxB.own ?_); conv => whnf)))
    all_goals first
      | (exfalso; omega)
      | exact fin_t ⟨⟨rfl, rfl, rfl, rfl, trivial⟩, rfl, trivial⟩
      | skip
  · have h1 : check e = 0 := by omega
    have hE := hE h1
    rw [h1] at ck
    have md := a_LMadeF e hE h1
    have l0 := evTo_small hE (Nat.le_refl _)
    have l1 : (evRows e).length ≤ 400 := l0
    by_cases hi : 0 ≤ i ∧ i < (evRows e).length
    · obtain ⟨n, rfl⟩ := Int.eq_ofNat_of_zero_le hi.1
      obtain ⟨w, hw⟩ : ∃ w, (evRows e)[n]? = some w := ⟨_, List.getElem?_eq_getElem (by omega)⟩
      rw [or_get h1 hw]
      (refine acall_of tab_ok Tryz.func17 rfl (by decide) ?_; (conv => whnf); repeat (first | (refine LitB.data ?_; conv => whnf) | (refine BoxB.data ?_; conv => whnf)))
      (repeat' (first | ((refine DecB.mk (fun h => ?_) (fun h => ?_)) <;> first | (exfalso; omega) | (conv => whnf)) | ((refine BoolB.mk (fun h => ?_) (fun h => ?_)) <;> first | (exact absurd h (by decide)) | (conv => whnf)) | ((first | refine zzW ?_ | refine zzI ?_ | refine zzR ?_ | refine zzB ?_ | refine late_ok rfl rfl ?_ | refine src_ok rfl ?_ | refine .inl ⟨_, _, qcall_pure (ck) rfl rfl, ?_⟩ | refine .inr ⟨_, _, md _, ?_⟩ | refine ex_ownO (by omega) hw ?_ | refine LitB.data ?_ | refine BoxB.own ?_); conv => whnf)))
      all_goals first
        | (exfalso; omega)
        | exact fin_t ⟨⟨rfl, rfl, rfl, rfl, trivial⟩, rfl, trivial⟩
        | skip
    · rw [or_none (by omega)]
      (refine acall_of tab_ok Tryz.func17 rfl (by decide) ?_; (conv => whnf); repeat (first | (refine LitB.data ?_; conv => whnf) | (refine BoxB.data ?_; conv => whnf)))
      (repeat' (first | ((refine DecB.mk (fun h => ?_) (fun h => ?_)) <;> first | (exfalso; omega) | (conv => whnf)) | ((refine BoolB.mk (fun h => ?_) (fun h => ?_)) <;> first | (exact absurd h (by decide)) | (conv => whnf)) | ((first | refine zzW ?_ | refine zzI ?_ | refine zzR ?_ | refine zzB ?_ | refine late_ok rfl rfl ?_ | refine src_ok rfl ?_ | refine .inl ⟨_, _, qcall_pure (ck) rfl rfl, ?_⟩ | refine .inr ⟨_, _, md _, ?_⟩ | refine LitB.data ?_ | refine BoxB.own ?_); conv => whnf)))
      all_goals first
        | (exfalso; omega)
        | exact fin_t ⟨⟨rfl, rfl, rfl, rfl, trivial⟩, rfl, trivial⟩
        | skip
end Go.Proofs.YtfieodjihaodiaaGreat
/- chunks and their concatenation. -/
namespace Go.Proofs.YtfieodjihaodiaaGreat
open Go.RowKit
set_option linter.unusedVariables false
set_option linter.unusedSimpArgs false

theorem len_cast {n m : Nat} {c : Int} (h0 : 0 ≤ c) (h : (n : Int) = (m : Int) * c) : n = m * c.toNat := by
  obtain ⟨k, rfl⟩ := Int.eq_ofNat_of_zero_le h0
  rw [Int.toNat_natCast]
  exact_mod_cast h
end Go.Proofs.YtfieodjihaodiaaGreat
/- reference 16: Point, History; reference 8: SameSystem. -/
namespace Go.Proofs.YtfieodjihaodiaaGreat
open Go.RowKit
set_option linter.unusedVariables false
set_option linter.unusedSimpArgs false
set_option maxRecDepth 100000

theorem a_SameS16 (s : SysP) (hs : SysB s) : ACall Tryz.prog 18 [sysS s, sysS s] [] (boolS true) [] := by
  have m1 : (s.rows.map rowRow).length = s.rows.length := by simp
  have l1 := hs.n0
  (refine acall_of tab_ok Tryz.func18 rfl (by decide) ?_; (conv => whnf); repeat (first | (refine LitB.data ?_; conv => whnf) | (refine BoxB.data ?_; conv => whnf)))
  (repeat' (first | ((refine DecB.mk (fun h => ?_) (fun h => ?_)) <;> first | (exfalso; omega) | (conv => whnf)) | ((refine BoolB.mk (fun h => ?_) (fun h => ?_)) <;> first | (exact absurd h (by decide)) | (conv => whnf)) | ((first | refine zzW ?_ | refine zzI ?_ | refine zzR ?_ | refine zzB ?_ | refine late_ok rfl rfl ?_ | refine src_ok rfl ?_ | refine LitB.data ?_ | refine BoxB.own ?_); conv => whnf)))
  all_goals try (exfalso; omega)
  refine awp_for tab_ok (fun k => ([J, J, S.c (C.t (T.ptr [ti s.n, rowsTT s.rows])), S.c (C.t (T.ptr [ti s.n, rowsTT s.rows])), J, intS .i64 k, J, J, J, J, J, J, J, J, J, J, J, J, J, J, J, J, J, J, J, J, J, J, J, J, J, J, J, J, J, J, J, J, J, J, J, J, J, J, J, J, J, J, J, J, J, J, J, J, J, J, J, J, J, J, J, J, J, J, J, J, J, J, J, J, J, J], [])) s.rows.length (fun _ => True) [] trivial
    ⟨rfl, rfl, trivial, ⟨rfl, rfl, rfl, trivial⟩⟩ ?_
  intro k hk _
  by_cases hlt : k < s.rows.length
  · obtain ⟨w, hw⟩ : ∃ w, s.rows[k]? = some w := ⟨_, List.getElem?_eq_getElem hlt⟩
    obtain ⟨b1, b2, b3⟩ := hs.t w (List.mem_of_getElem? hw)
    have q := fz_len8 b3
    have r := a_SameF (fz w.value) q.1 q.2
    have st := a_SameT8 w.terms b1 b2
    conv => whnf
    (repeat' (first | ((refine DecB.mk (fun h => ?_) (fun h => ?_)) <;> first | (exfalso; omega) | (conv => whnf)) | ((refine BoolB.mk (fun h => ?_) (fun h => ?_)) <;> first | (exact absurd h (by decide)) | (conv => whnf)) | ((first | refine zzW ?_ | refine zzI ?_ | refine zzR ?_ | refine zzB ?_ | refine late_ok rfl rfl ?_ | refine src_ok rfl ?_ | refine .inl ⟨_, _, qcall_pure (r) rfl rfl, ?_⟩ | refine .inl ⟨_, _, qcall_pure (st) rfl rfl, ?_⟩ | refine ex_row hw ?_ | refine LitB.data ?_ | refine BoxB.own ?_); conv => whnf)))
    all_goals first
      | (exfalso; omega)
      | exact ⟨hlt, trivial, [], rfl, rfl, trivial, ⟨rfl, rfl, rfl, trivial⟩⟩
  · conv => whnf
    (repeat' (first | ((refine DecB.mk (fun h => ?_) (fun h => ?_)) <;> first | (exfalso; omega) | (conv => whnf)) | ((refine BoolB.mk (fun h => ?_) (fun h => ?_)) <;> first | (exact absurd h (by decide)) | (conv => whnf)) | ((first | refine zzW ?_ | refine zzI ?_ | refine zzR ?_ | refine zzB ?_ | refine late_ok rfl rfl ?_ | refine src_ok rfl ?_ | refine LitB.data ?_ | refine BoxB.own ?_); conv => whnf)))
    all_goals first
      | (exfalso; omega)
      | exact fin_bool rfl
set_option maxHeartbeats 4000000 in
theorem a_LPoint (e : Ev) (hs : e.Sized) (hh : List (List Fr)) (h1 : hh.length ≤ 100000) (h2 : hh.flatten.length ≤ 100000) : ACall Tryz.prog 21 [evS e, histS hh] [] (fracsS (pointR e hh)) [] := by
  have ck := r14Check e hs
  have m0 : (e.moves.map Move.row).length = e.moves.length := by simp
  have m1 : (hh.map fracsRow).length = hh.length := by simp
  by_cases h0 : check e ≠ 0 ∨ hh.length ≠ e.moves.length
  · have e1 : pointR e hh = [] := by unfold pointR; rw [if_pos (by rcases h0 with h | h; exact .inl h; exact .inr (.inl h))]
    rw [e1]
    by_cases h3 : check e = 0
    · rw [h3] at ck
      (refine acall_of tab_ok Tryz.func21 rfl (by decide) ?_; (conv => whnf); repeat (first | (refine LitB.data ?_; conv => whnf) | (refine BoxB.data ?_; conv => whnf)))
      (repeat' (first | ((refine DecB.mk (fun h => ?_) (fun h => ?_)) <;> first | (exfalso; omega) | (conv => whnf)) | ((refine BoolB.mk (fun h => ?_) (fun h => ?_)) <;> first | (exact absurd h (by decide)) | (conv => whnf)) | ((first | refine zzW ?_ | refine zzI ?_ | refine zzR ?_ | refine zzB ?_ | refine late_ok rfl rfl ?_ | refine src_ok rfl ?_ | refine .inl ⟨_, _, qcall_pure (ck) rfl rfl, ?_⟩ | refine LitB.data ?_ | refine BoxB.own ?_); conv => whnf)))
      all_goals first
        | (exfalso; omega)
        | exact fin_t rfl
    · (refine acall_of tab_ok Tryz.func21 rfl (by decide) ?_; (conv => whnf); repeat (first | (refine LitB.data ?_; conv => whnf) | (refine BoxB.data ?_; conv => whnf)))
      (repeat' (first | ((refine DecB.mk (fun h => ?_) (fun h => ?_)) <;> first | (exfalso; omega) | (conv => whnf)) | ((refine BoolB.mk (fun h => ?_) (fun h => ?_)) <;> first | (exact absurd h (by decide)) | (conv => whnf)) | ((first | refine zzW ?_ | refine zzI ?_ | refine zzR ?_ | refine zzB ?_ | refine late_ok rfl rfl ?_ | refine src_ok rfl ?_ | refine .inl ⟨_, _, qcall_pure (ck) rfl rfl, ?_⟩ | refine LitB.data ?_ | refine BoxB.own ?_); conv => whnf)))
      all_goals first
        | (exfalso; omega)
        | exact fin_t rfl
  · have h3 : check e = 0 := by omega
    rw [h3] at ck
    (refine acall_of tab_ok Tryz.func21 rfl (by decide) ?_; (conv => whnf); repeat (first | (refine LitB.data ?_; conv => whnf) | (refine BoxB.data ?_; conv => whnf)))
    (repeat' (first | ((refine DecB.mk (fun h => ?_) (fun h => ?_)) <;> first | (exfalso; omega) | (conv => whnf)) | ((refine BoolB.mk (fun h => ?_) (fun h => ?_)) <;> first | (exact absurd h (by decide)) | (conv => whnf)) | ((first | refine zzW ?_ | refine zzI ?_ | refine zzR ?_ | refine zzB ?_ | refine late_ok rfl rfl ?_ | refine src_ok rfl ?_ | refine .inl ⟨_, _, qcall_pure (ck) rfl rfl, ?_⟩ | refine LitB.data ?_ | refine BoxB.own ?_); conv => whnf)))
    all_goals try (exfalso; omega)
    refine awp_for tab_ok (fun k => ([J, histS hh, S.c (C.t (T.ptr (evT e))), J, J, S.c (C.own 0 0 (hh.take k).flatten.length true), intS .i64 k, J, J, J, J, J, J, J, J, J, J, J, J, J, J, J, J, J, J, J, J, J, J, J, J, J, J, J, J, J, J, J, J], [frKB (toC ((hh.take k).flatten.map frRow))])) hh.length (fun k => (hh.take k).any (fun l => decide ((l.length : Int) ≠ e.mats)) = false) [none] rfl
      ⟨rfl, rfl, ⟨⟨rfl, rfl⟩, trivial⟩, ⟨rfl, rfl, ⟨rfl, rfl, rfl⟩, rfl, trivial⟩⟩ ?_
    intro k hk hI
    by_cases hlt : k < hh.length
    · obtain ⟨l, hl⟩ : ∃ l, hh[k]? = some l := ⟨_, List.getElem?_eq_getElem hlt⟩
      have m3 : (l.map frRow).length = l.length := by simp
      have e1 := flat_succ hl
      have e2 := flat_le hh (k + 1)
      have e3 : (hh.take (k + 1)).flatten.length = (hh.take k).flatten.length + l.length := by rw [e1, List.length_append]
      have hany : (hh.take (k + 1)).any (fun l => decide ((l.length : Int) ≠ e.mats)) = decide ((l.length : Int) ≠ e.mats) := by rw [take_snocE hl, List.any_append, hI]; simp
      by_cases hw : (l.length : Int) = e.mats
      · rw [decide_eq_false (by omega : ¬ (l.length : Int) ≠ e.mats)] at hany
        conv => whnf
        (repeat' (first | ((refine DecB.mk (fun h => ?_) (fun h => ?_)) <;> first | (exfalso; omega) | (conv => whnf)) | ((refine BoolB.mk (fun h => ?_) (fun h => ?_)) <;> first | (exact absurd h (by decide)) | (conv => whnf)) | ((first | refine zzW ?_ | refine zzI ?_ | refine zzR ?_ | refine zzB ?_ | refine late_ok rfl rfl ?_ | refine src_ok rfl ?_ | refine .inl ⟨_, _, qcall_pure (toC, List.length_map) rfl rfl, ?_⟩ | refine .inl ⟨_, _, qcall_pure (toC, List.length_map) rfl rfl, ?_⟩ | refine ex_row hl ?_ | refine src_ok rfl ?_ | refine app_ok (by simp only [toC, List.length_map]; exact Nat.le_refl _) (by simp only [toC, List.length_map]; omega) ?_ | refine LitB.data ?_ | refine BoxB.own ?_); conv => whnf)))
        all_goals first
          | (exfalso; omega)
          | exact ⟨hlt, hany, [some 1], rfl, rfl, ⟨entB_rows rfl rfl rfl (flat_ext hl rfl) rfl, trivial⟩, ⟨rfl, rfl, ent_own rfl (by simp only [toC, List.length_map]; omega), rfl, trivial⟩⟩
          | skip
      · have ep : pointR e hh = [] := by
          unfold pointR
          rw [if_pos (.inr (.inr (List.any_eq_true.2 ⟨l, List.mem_of_getElem? hl, by simpa using hw⟩)))]
        rw [ep]
        conv => whnf
        (repeat' (first | ((refine DecB.mk (fun h => ?_) (fun h => ?_)) <;> first | (exfalso; omega) | (conv => whnf)) | ((refine BoolB.mk (fun h => ?_) (fun h => ?_)) <;> first | (exact absurd h (by decide)) | (conv => whnf)) | ((first | refine zzW ?_ | refine zzI ?_ | refine zzR ?_ | refine zzB ?_ | refine late_ok rfl rfl ?_ | refine src_ok rfl ?_ | refine ex_row hl ?_ | refine LitB.data ?_ | refine BoxB.own ?_); conv => whnf)))
        all_goals first
          | (exfalso; omega)
          | exact fin_t rfl
          | skip
    · have hke : k = hh.length := by omega
      subst hke
      rw [List.take_length] at hI
      have ep : pointR e hh = hh.flatten := by unfold pointR; rw [if_neg (by rw [hI]; simp; omega)]
      rw [ep, List.take_length]
      conv => whnf
      (repeat' (first | ((refine DecB.mk (fun h => ?_) (fun h => ?_)) <;> first | (exfalso; omega) | (conv => whnf)) | ((refine BoolB.mk (fun h => ?_) (fun h => ?_)) <;> first | (exact absurd h (by decide)) | (conv => whnf)) | ((first | refine zzW ?_ | refine zzI ?_ | refine zzR ?_ | refine zzB ?_ | refine late_ok rfl rfl ?_ | refine src_ok rfl ?_ | refine LitB.data ?_ | refine BoxB.own ?_); conv => whnf)))
      all_goals first
        | (exfalso; omega)
        | exact fin_own rfl (by intro h; cases h) rfl rfl (by simp only [List.length_map])
        | skip
theorem entL_ts16 {ρ : List (Option Nat)} {H : Hp} : ∀ l : List T, EntL ρ H (l.map C.t) (l.map C.t)
  | [] => trivial
  | x :: r => ⟨weak_refl x, entL_ts16 r⟩
theorem entR_rf16 {ρ : List (Option Nat)} {H : Hp} : ∀ R : List (List T), EntR ρ H (toC R) (toC R)
  | [] => trivial
  | r :: R => ⟨entL_ts16 r, entR_rf16 R⟩
theorem entR_app {ρ : List (Option Nat)} {H : Hp} : ∀ {A B A' B' : List (List C)}, EntR ρ H A B → EntR ρ H A' B' → EntR ρ H (A ++ A') (B ++ B')
  | [], [], _, _, _, h => h
  | _ :: _, _ :: _, _, _, ⟨h1, h2⟩, h => ⟨h1, entR_app h2 h⟩
  | [], _ :: _, _, _, h, _ => h.elim
  | _ :: _, [], _, _, h, _ => h.elim
theorem chunks_get {c N k : Nat} {x : List Fr} (h : k < N) : (chunks c N x)[k]? = some ((x.drop (k * c)).take c) := by
  unfold chunks; rw [List.getElem?_map, List.getElem?_range h]; rfl
abbrev hiB (l : List (List Fr)) : Blk := { mode := .live, elem := 30, size := 1, rows := toC (l.map fracsRow), box := false }
set_option maxHeartbeats 4000000 in
theorem a_LHist (e : Ev) (hs : e.Sized) (hE : check e = 0 → EvSm e) (x : List Fr) (hx : x.length ≤ 100000) : ACall Tryz.prog 24 [evS e, fracsS x] [] (histS (histR e x)) [] := by
  have ck := r14Check e hs
  have m0 : (e.moves.map Move.row).length = e.moves.length := by simp
  have m1 : (x.map frRow).length = x.length := by simp
  by_cases h3 : ¬ check e = 0
  · have e1 : histR e x = [] := by unfold histR; rw [if_pos (.inl h3)]
    rw [e1]
    (refine acall_of tab_ok Tryz.func24 rfl (by decide) ?_; (conv => whnf); repeat (first | (refine LitB.data ?_; conv => whnf) | (refine BoxB.data ?_; conv => whnf)))
    (repeat' (first | ((refine DecB.mk (fun h => ?_) (fun h => ?_)) <;> first | (exfalso; omega) | (conv => whnf)) | ((refine BoolB.mk (fun h => ?_) (fun h => ?_)) <;> first | (exact absurd h (by decide)) | (conv => whnf)) | ((first | refine zzW ?_ | refine zzI ?_ | refine zzR ?_ | refine zzB ?_ | refine late_ok rfl rfl ?_ | refine src_ok rfl ?_ | refine .inl ⟨_, _, qcall_pure (ck) rfl rfl, ?_⟩ | refine LitB.data ?_ | refine BoxB.own ?_); conv => whnf)))
    all_goals first
      | (exfalso; omega)
      | exact fin_t rfl
  have h3 : check e = 0 := Decidable.not_not.1 h3
  have hE := hE h3
  rw [h3] at ck
  have hm1 := hE.m1
  have hm6 := hE.m6
  have hmv := hE.mv
  have n0 : 0 ≤ (e.moves.length : Int) * e.mats := Int.mul_nonneg (by omega) (by omega)
  have n1 : (e.moves.length : Int) * e.mats ≤ 8 * 6 := Int.mul_le_mul (by omega) hm6 (by omega) (by decide)
  have vr := a_Vars16 e n0 (by omega)
  by_cases h4 : ¬ (x.length : Int) = (e.moves.length : Int) * e.mats
  · have e1 : histR e x = [] := by unfold histR; rw [if_pos (.inr h4)]
    rw [e1]
    (refine acall_of tab_ok Tryz.func24 rfl (by decide) ?_; (conv => whnf); repeat (first | (refine LitB.data ?_; conv => whnf) | (refine BoxB.data ?_; conv => whnf)))
    (repeat' (first | ((refine DecB.mk (fun h => ?_) (fun h => ?_)) <;> first | (exfalso; omega) | (conv => whnf)) | ((refine BoolB.mk (fun h => ?_) (fun h => ?_)) <;> first | (exact absurd h (by decide)) | (conv => whnf)) | ((first | refine zzW ?_ | refine zzI ?_ | refine zzR ?_ | refine zzB ?_ | refine late_ok rfl rfl ?_ | refine src_ok rfl ?_ | refine .inl ⟨_, _, qcall_pure (ck) rfl rfl, ?_⟩ | refine .inl ⟨_, _, qcall_pure (vr) rfl rfl, ?_⟩ | refine LitB.data ?_ | refine BoxB.own ?_); conv => whnf)))
    all_goals first
      | (exfalso; omega)
      | exact fin_t rfl
  have h4 : (x.length : Int) = (e.moves.length : Int) * e.mats := Decidable.not_not.1 h4
  have e1 : histR e x = chunks e.mats.toNat e.moves.length x := by unfold histR; rw [if_neg (by omega)]
  rw [e1]
  obtain ⟨c, hc⟩ : ∃ c : Nat, e.mats = c := Int.eq_ofNat_of_zero_le (by omega)
  obtain ⟨Q, hQ⟩ : ∃ Q, Q = chunks e.mats.toNat e.moves.length x := ⟨_, rfl⟩
  have ql : Q.length = e.moves.length := by rw [hQ, chunks_len]
  have hxl := len_cast (by omega) h4
  rw [← hQ]
  (refine acall_of tab_ok Tryz.func24 rfl (by decide) ?_; (conv => whnf); repeat (first | (refine LitB.data ?_; conv => whnf) | (refine BoxB.data ?_; conv => whnf)))
  (repeat' (first | ((refine DecB.mk (fun h => ?_) (fun h => ?_)) <;> first | (exfalso; omega) | (conv => whnf)) | ((refine BoolB.mk (fun h => ?_) (fun h => ?_)) <;> first | (exact absurd h (by decide)) | (conv => whnf)) | ((first | refine zzW ?_ | refine zzI ?_ | refine zzR ?_ | refine zzB ?_ | refine late_ok rfl rfl ?_ | refine src_ok rfl ?_ | refine .inl ⟨_, _, qcall_pure (ck) rfl rfl, ?_⟩ | refine .inl ⟨_, _, qcall_pure (vr) rfl rfl, ?_⟩ | refine LitB.data ?_ | refine BoxB.own ?_); conv => whnf)))
  all_goals try (exfalso; omega)
  refine awp_for tab_ok (fun k => ([J, fracsS x, S.c (C.t (T.ptr (evT e))), J, J, S.c (C.own 0 0 k true), intS .i64 k, J, J, J, J, J, J, J, J, J, J, J, J, J, J, J, J, J, J, J, J, J, J, J, J, J, J, J, J, J, J, J, J, J, J], [hiB (Q.take k)])) e.moves.length (fun _ => True) [none] trivial
    ⟨rfl, rfl, ⟨⟨rfl, rfl⟩, trivial⟩, ⟨rfl, rfl, ⟨rfl, rfl, rfl⟩, rfl, trivial⟩⟩ ?_
  intro k hk _
  have ktl : (Q.take k).length = k := by rw [List.length_take]; omega
  by_cases hlt : k < e.moves.length
  · have hg : Q[k]? = some ((x.drop (k * c)).take c) := by rw [hQ, hc]; exact chunks_get hlt
    have kc0 : 0 ≤ (k : Int) * e.mats := Int.mul_nonneg (by omega) (by omega)
    have kc1 : ((k : Int) + 1) * e.mats ≤ (e.moves.length : Int) * e.mats := Int.mul_le_mul_of_nonneg_right (by omega) (by omega)
    have kc2 : ((k : Int) + 1) * e.mats = (k : Int) * e.mats + e.mats := by rw [Int.add_mul, Int.one_mul]
    have kcn : ((k : Int) * e.mats).toNat = k * c := by rw [hc]; exact Int.toNat_natCast (k * c)
    have kcn2 : (((k : Int) + 1) * e.mats).toNat = k * c + c := by rw [kc2, hc]; exact Int.toNat_natCast (k * c + c)
    have hrows : ((x.map frRow).take (((k : Int) + 1) * e.mats).toNat).drop ((k : Int) * e.mats).toNat = ((x.drop (k * c)).take c).map frRow := by
      rw [kcn, kcn2, List.drop_take, Nat.add_sub_cancel_left, List.map_take, List.map_drop]
    have hsz : (0 + (toC (List.drop ((k : Int) * e.mats).toNat (List.take (((k : Int) + 1) * e.mats).toNat (x.map frRow)))).length) * 65 ≤ 140737488355328 := by
      rw [hrows]; simp only [toC, List.length_map, List.length_take, List.length_drop]; omega
    have lA : k ≤ (hiB (Q.take k)).rows.length := by show _ ≤ (toC _).length; simp only [toC, List.length_map]; omega
    have lC : (k + 1) * 25 ≤ 140737488355328 := by omega
    conv => whnf
    (repeat' (first | ((refine DecB.mk (fun h => ?_) (fun h => ?_)) <;> first | (exfalso; omega) | (conv => whnf)) | ((refine BoolB.mk (fun h => ?_) (fun h => ?_)) <;> first | (exact absurd h (by decide)) | (conv => whnf)) | ((first | refine zzW ?_ | refine zzI ?_ | refine zzR ?_ | refine zzB ?_ | refine late_ok rfl rfl ?_ | refine src_ok rfl ?_ | refine sl_ok (by omega) (by omega) (by omega) ?_ | refine app_nil rfl hsz ?_ | refine app_ok lA lC ?_ | refine And.intro (Nat.le_refl 1) ?_ | refine LitB.data ?_ | refine BoxB.own ?_); conv => whnf)))
    all_goals try (exfalso; omega)
    have hsnoc : (Q.take (k + 1)).map fracsRow = (Q.take k).map fracsRow ++ [fracsRow ((x.drop (k * c)).take c)] := by rw [take_snocE hg, List.map_append]; rfl
    refine ⟨hlt, trivial, [some 3], rfl, rfl, ⟨⟨rfl, rfl, rfl, .inr ?_⟩, trivial⟩, ⟨rfl, rfl, ent_own rfl (by rfl), rfl, trivial⟩⟩
    show EntR _ _ (List.take k (toC ((Q.take k).map fracsRow)) ++ [[C.own 1 0 _ true]]) (toC ((Q.take (k + 1)).map fracsRow))
    have htk : List.take k (toC ((Q.take k).map fracsRow)) = toC ((Q.take k).map fracsRow) := List.take_of_length_le (by simp only [toC, List.length_map]; omega)
    rw [hsnoc, htk]
    have tc : ∀ (R R' : List (List T)), toC (R ++ R') = toC R ++ toC R' := fun R R' => by simp [toC]
    rw [tc]
    refine entR_app (entR_rf16 _) ⟨⟨?_, trivial⟩, trivial⟩
    exact (show VC _ _ _ _ from vc_all rfl rfl (by intro h; cases h) rfl (by show toC [] ++ toC _ = _; rw [hrows]; rfl) (by rw [hrows]; simp [toC]))
  · have hke : k = e.moves.length := by omega
    subst hke
    have et : Q.take e.moves.length = Q := List.take_of_length_le (by omega)
    rw [et]
    conv => whnf
    (repeat' (first | ((refine DecB.mk (fun h => ?_) (fun h => ?_)) <;> first | (exfalso; omega) | (conv => whnf)) | ((refine BoolB.mk (fun h => ?_) (fun h => ?_)) <;> first | (exact absurd h (by decide)) | (conv => whnf)) | ((first | refine zzW ?_ | refine zzI ?_ | refine zzR ?_ | refine zzB ?_ | refine late_ok rfl rfl ?_ | refine src_ok rfl ?_ | refine LitB.data ?_ | refine BoxB.own ?_); conv => whnf)))
    all_goals first
      | (exfalso; omega)
      | exact fin_own rfl (by intro h; cases h) rfl rfl (by simp only [List.length_map]; omega)
      | skip
end Go.Proofs.YtfieodjihaodiaaGreat
/- EvidenceTells: its walk. -/
namespace Go.Proofs.YtfieodjihaodiaaGreat
open Go.RowKit
set_option linter.unusedVariables false
set_option linter.unusedSimpArgs false
set_option maxRecDepth 100000

set_option maxHeartbeats 8000000 in
theorem a_EvidenceTells (e : Ev) (at' : Int) (hh : List (List Fr)) (x : List Fr) : ACall Tryz.prog 3 [evS e, intS .i64 at', histS hh, fracsS x] [] (boolS true) [] := by
  have sa := a_sane16
  have f1 := a_Few16 e 8
  have f2 := a_FewMasses hh 10 (by decide)
  have f3 := a_FewPoint x 60 3 (by decide)
  cases h1 : few16 e 8 with
  | false =>
    rw [h1] at f1
    (refine acall_of tab_ok Tryz.func3 rfl (by decide) ?_; (conv => whnf); repeat (first | (refine LitB.data ?_; conv => whnf) | (refine BoxB.data ?_; conv => whnf)))
    (repeat' (first | ((refine DecB.mk (fun h => ?_) (fun h => ?_)) <;> first | (exfalso; omega) | (conv => whnf)) | ((refine BoolB.mk (fun h => ?_) (fun h => ?_)) <;> first | (exact absurd h (by decide)) | (conv => whnf)) | ((first | refine zzW ?_ | refine zzI ?_ | refine zzR ?_ | refine zzB ?_ | refine late_ok rfl rfl ?_ | refine src_ok rfl ?_ | refine .inl ⟨_, _, qcall_pure (sa) rfl rfl, ?_⟩ | refine .inl ⟨_, _, qcall_pure (f1) rfl rfl, ?_⟩ | refine LitB.data ?_ | refine BoxB.own ?_); conv => whnf)))
    all_goals first
      | (exfalso; omega)
      | exact fin_bool rfl
  | true =>
  rw [h1] at f1
  cases h2 : massesB hh 10 with
  | false =>
    rw [h2] at f2
    (refine acall_of tab_ok Tryz.func3 rfl (by decide) ?_; (conv => whnf); repeat (first | (refine LitB.data ?_; conv => whnf) | (refine BoxB.data ?_; conv => whnf)))
    (repeat' (first | ((refine DecB.mk (fun h => ?_) (fun h => ?_)) <;> first | (exfalso; omega) | (conv => whnf)) | ((refine BoolB.mk (fun h => ?_) (fun h => ?_)) <;> first | (exact absurd h (by decide)) | (conv => whnf)) | ((first | refine zzW ?_ | refine zzI ?_ | refine zzR ?_ | refine zzB ?_ | refine late_ok rfl rfl ?_ | refine src_ok rfl ?_ | refine .inl ⟨_, _, qcall_pure (sa) rfl rfl, ?_⟩ | refine .inl ⟨_, _, qcall_pure (f1) rfl rfl, ?_⟩ | refine .inl ⟨_, _, qcall_pure (f2) rfl rfl, ?_⟩ | refine LitB.data ?_ | refine BoxB.own ?_); conv => whnf)))
    all_goals first
      | (exfalso; omega)
      | exact fin_bool rfl
  | true =>
  rw [h2] at f2
  cases h2x : pointB x 60 3 with
  | false =>
    rw [h2x] at f3
    (refine acall_of tab_ok Tryz.func3 rfl (by decide) ?_; (conv => whnf); repeat (first | (refine LitB.data ?_; conv => whnf) | (refine BoxB.data ?_; conv => whnf)))
    (repeat' (first | ((refine DecB.mk (fun h => ?_) (fun h => ?_)) <;> first | (exfalso; omega) | (conv => whnf)) | ((refine BoolB.mk (fun h => ?_) (fun h => ?_)) <;> first | (exact absurd h (by decide)) | (conv => whnf)) | ((first | refine zzW ?_ | refine zzI ?_ | refine zzR ?_ | refine zzB ?_ | refine late_ok rfl rfl ?_ | refine src_ok rfl ?_ | refine .inl ⟨_, _, qcall_pure (sa) rfl rfl, ?_⟩ | refine .inl ⟨_, _, qcall_pure (f1) rfl rfl, ?_⟩ | refine .inl ⟨_, _, qcall_pure (f2) rfl rfl, ?_⟩ | refine .inl ⟨_, _, qcall_pure (f3) rfl rfl, ?_⟩ | refine LitB.data ?_ | refine BoxB.own ?_); conv => whnf)))
    all_goals first
      | (exfalso; omega)
      | exact fin_bool rfl
  | true =>
  rw [h2x] at f3
  have hs := few16_sized h1
  have hE := few16_small h1
  have sy := a_ESystem e hs hE
  have sr := a_LSystem e hs hE
  have oy := a_EOrigin e hs hE at'
  have or' := a_LOrigin e hs hE at'
  obtain ⟨g1, g2, g3, g4⟩ := flat_small h2
  obtain ⟨p1, p2⟩ := points_small h2x
  have py := a_EPoint e hs hh (by omega) (by omega)
  have pr := a_LPoint e hs hh (by omega) (by omega)
  have hy := a_EHist e hs hE x (by omega)
  have hr := a_LHist e hs hE x (by omega)
  have hB : SysB (evSysR e) := by
    unfold evSysR
    split
    · exact ⟨by simp, fun w hw => by simp at hw⟩
    · rename_i h; exact ev_sb (hE (Decidable.not_not.1 h))
  have ss := a_SameS16 (evSysR e) hB
  have sp := a_SamePoint8 (pointR e hh) (by unfold pointR; split; simp; omega) (fun f hf => by
    unfold pointR at hf
    split at hf
    · simp at hf
    · have := g3 f hf; omega)
  have hmem : ∀ r ∈ histR e x, r.length ≤ 1000000 ∧ ∀ f ∈ r, f.p.dl.length ≤ 1000000 ∧ f.q.dl.length ≤ 1000000 := by
    intro r hr
    unfold histR at hr
    split at hr
    · simp at hr
    · obtain ⟨j, _, rfl⟩ := List.mem_map.1 (show r ∈ (List.range e.moves.length).map _ from hr)
      refine ⟨by rw [List.length_take, List.length_drop]; omega, fun f hf => ?_⟩
      have := fz_dl3 (p2 f (List.mem_of_mem_drop (List.mem_of_mem_take hf)))
      omega
  have hlen : (histR e x).length ≤ 1000000 := by
    unfold histR
    split
    · simp
    · rename_i h
      have hc : check e = 0 := by omega
      have := (hE hc).mv
      rw [chunks_len]; omega
  have sm := a_SameMasses16 (histR e x) hlen hmem
  (refine acall_of tab_ok Tryz.func3 rfl (by decide) ?_; (conv => whnf); repeat (first | (refine LitB.data ?_; conv => whnf) | (refine BoxB.data ?_; conv => whnf)))
  (repeat' (first | ((refine DecB.mk (fun h => ?_) (fun h => ?_)) <;> first | (exfalso; omega) | (conv => whnf)) | ((refine BoolB.mk (fun h => ?_) (fun h => ?_)) <;> first | (exact absurd h (by decide)) | (conv => whnf)) | ((first | refine zzW ?_ | refine zzI ?_ | refine zzR ?_ | refine zzB ?_ | refine late_ok rfl rfl ?_ | refine src_ok rfl ?_ | refine .inl ⟨_, _, qcall_pure (sa) rfl rfl, ?_⟩ | refine .inl ⟨_, _, qcall_pure (f1) rfl rfl, ?_⟩ | refine .inl ⟨_, _, qcall_pure (f2) rfl rfl, ?_⟩ | refine .inl ⟨_, _, qcall_pure (f3) rfl rfl, ?_⟩ | refine .inl ⟨_, _, qcall_pure (sy) rfl rfl, ?_⟩ | refine .inl ⟨_, _, qcall_pure (sr) rfl rfl, ?_⟩ | refine .inl ⟨_, _, qcall_pure (oy) rfl rfl, ?_⟩ | refine .inl ⟨_, _, qcall_pure (or') rfl rfl, ?_⟩ | refine .inl ⟨_, _, qcall_pure (ss) rfl rfl, ?_⟩ | refine .inl ⟨_, _, qcall_pure (py) rfl rfl, ?_⟩ | refine .inl ⟨_, _, qcall_pure (pr) rfl rfl, ?_⟩ | refine .inl ⟨_, _, qcall_pure (sp) rfl rfl, ?_⟩ | refine .inl ⟨_, _, qcall_pure (hy) rfl rfl, ?_⟩ | refine .inl ⟨_, _, qcall_pure (hr) rfl rfl, ?_⟩ | refine .inl ⟨_, _, qcall_pure (sm) rfl rfl, ?_⟩ | refine .inl ⟨_, _, qcall_pure (4) rfl rfl, ?_⟩ | refine .inl ⟨_, _, qcall_pure (5) rfl rfl, ?_⟩ | refine bar_late [4] (by decide +kernel) (by decide +kernel) ?_ | refine bar_late [5] (by decide +kernel) (by decide +kernel) ?_ | refine eqs_ok eqs_or rfl ?_ | refine LitB.data ?_ | refine BoxB.own ?_); conv => whnf)))
  all_goals first
    | (exfalso; omega)
    | exact fin_bool rfl
    | (exfalso; simp_all; done)
end Go.Proofs.YtfieodjihaodiaaGreat
/- Laws on appending to a slice that the call itself made, in the form that my walks use. Over any program. -/
namespace Go.Proofs.YtfieodjihaodiaaGreat
open Go.RowKit

/-- what an append leaves of older worlds -/
def Later (base : Nat) (w w' : World) : Prop := w.heap.size ≤ w'.heap.size ∧ ∀ (w0 : World) (B : Nat), Below B w0 w → B ≤ base → Below B w0 w'
theorem Later.below {base B : Nat} {w w' w0 : World} (h : Later base w w') (hb : Below B w0 w) (hB : B ≤ base) : Below B w0 w' := h.2 w0 B hb hB
theorem Later.size {base : Nat} {w w' : World} (h : Later base w w') : w.heap.size ≤ w'.heap.size := h.1

end Go.Proofs.YtfieodjihaodiaaGreat
/- More words on memory: boxes of evidence; an append whose value is written out. -/
namespace Go.Proofs.YtfieodjihaodiaaGreat
open Go.RowKit

/-- Block b holds evidence of these parts. -/
structure EvBox (w : World) (b : Nat) (m h s : Int) (A1 : Option Addr) (n1 c1 : Nat) (A2 : Option Addr) (n2 c2 : Nat) (A3 : Option Addr) (n3 c3 : Nat) (A4 : Option Addr) (n4 c4 : Nat) (A5 : Option Addr) (n5 c5 : Nat) : Prop where
  b0 : w.cell? ⟨b, 0, none⟩ = some (vi m)
  b1 : w.cell? ⟨b, 1, none⟩ = some (vi h)
  b2 : w.cell? ⟨b, 2, none⟩ = some (vi s)
  b3 : w.cell? ⟨b, 3, none⟩ = some (.slice A1 n1 c1)
  b4 : w.cell? ⟨b, 4, none⟩ = some (.slice A2 n2 c2)
  b5 : w.cell? ⟨b, 5, none⟩ = some (.slice A3 n3 c3)
  b6 : w.cell? ⟨b, 6, none⟩ = some (.slice A4 n4 c4)
  b7 : w.cell? ⟨b, 7, none⟩ = some (.slice A5 n5 c5)
section
variable {w w' : World} {b : Nat} {m h s : Int} {A1 A2 A3 A4 A5 : Option Addr} {n1 n2 n3 n4 n5 c1 c2 c3 c4 c5 : Nat}
theorem EvBox.lt (h0 : EvBox w b m h s A1 n1 c1 A2 n2 c2 A3 n3 c3 A4 n4 c4 A5 n5 c5) : b < w.heap.size := lt_of_cell h0.b0
theorem EvBox.keep {B : Nat} (h0 : EvBox w b m h s A1 n1 c1 A2 n2 c2 A3 n3 c3 A4 n4 c4 A5 n5 c5) (hb : Below B w w') (hB : b < B) : EvBox w' b m h s A1 n1 c1 A2 n2 c2 A3 n3 c3 A4 n4 c4 A5 n5 c5 :=
  ⟨(hb.cell (p := ⟨b, 0, none⟩) hB).trans h0.b0, (hb.cell (p := ⟨b, 1, none⟩) hB).trans h0.b1, (hb.cell (p := ⟨b, 2, none⟩) hB).trans h0.b2, (hb.cell (p := ⟨b, 3, none⟩) hB).trans h0.b3,
   (hb.cell (p := ⟨b, 4, none⟩) hB).trans h0.b4, (hb.cell (p := ⟨b, 5, none⟩) hB).trans h0.b5, (hb.cell (p := ⟨b, 6, none⟩) hB).trans h0.b6, (hb.cell (p := ⟨b, 7, none⟩) hB).trans h0.b7⟩
theorem EvBox.later (h0 : EvBox w b m h s A1 n1 c1 A2 n2 c2 A3 n3 c3 A4 n4 c4 A5 n5 c5) (hb : Below w.heap.size w w') : EvBox w' b m h s A1 n1 c1 A2 n2 c2 A3 n3 c3 A4 n4 c4 A5 n5 c5 := h0.keep hb h0.lt
theorem EvBox.new (w : World) (m h s : Int) (A1 : Option Addr) (n1 c1 : Nat) (A2 : Option Addr) (n2 c2 : Nat) (A3 : Option Addr) (n3 c3 : Nat) (A4 : Option Addr) (n4 c4 : Nat) (A5 : Option Addr) (n5 c5 : Nat) (t : TypeId) :
    EvBox (w.alloc (.cells #[.int .i64 m, .int .i64 h, .int .i64 s, .slice A1 n1 c1, .slice A2 n2 c2, .slice A3 n3 c3, .slice A4 n4 c4, .slice A5 n5 c5] t)) w.heap.size m h s A1 n1 c1 A2 n2 c2 A3 n3 c3 A4 n4 c4 A5 n5 c5 := by
  have hc := fun i => cell_of_row (w.alloc (.cells #[.int .i64 m, .int .i64 h, .int .i64 s, .slice A1 n1 c1, .slice A2 n2 c2, .slice A3 n3 c3, .slice A4 n4 c4, .slice A5 n5 c5] t)) w.heap.size i _ t (0, 0) (heap_alloc_new w _)
  exact ⟨hc 0, hc 1, hc 2, hc 3, hc 4, hc 5, hc 6, hc 7⟩
end
end Go.Proofs.YtfieodjihaodiaaGreat
/- From a walk to a row: every law of the seat is closed by these, over any program. And: arguments opened to cells. -/
namespace Go.Proofs.YtfieodjihaodiaaGreat
open Go.RowKit Go.ChangeShapes Go.WideShapes Go.Deep

section
variable {H : Type} {enc : TypeId × Value → H} {P : Program}
theorem trodAll_stays (hl : laidOutB P = true) {W W' : World} {sp : Nat → Bool} : ∀ {ts : List TypeId} {vs : List Value} {ds : List (DataW H)} {ps : List MemPlace}, (∀ t ∈ ts, P.readableRec t = true ∧ t < P.types.size) →
    DataW.TrodAll enc P W 0 (fun _ => true) true ts vs ds ps → (∀ p ∈ ps, W.sameAt W' p) → (∀ p ∈ ps, sp p.block = true) → DataW.TrodAll enc P W' 0 sp true ts vs ds ps := by
  intro ts
  induction ts with
  | nil =>
    intro vs ds ps _ h _ _
    obtain ⟨rfl, rfl, rfl⟩ := trodAll_nil h
    exact trodAll_mk0
  | cons t ts ih =>
    intro vs ds ps hr h hsame hs
    obtain ⟨v, vs', d, ds', p, q, rfl, rfl, rfl, h1, h2⟩ := trodAll_cons h
    obtain ⟨ht, hlt⟩ := hr t (by simp)
    exact trodAll_cons_mk (WideElems.Trod_stays hl ht hlt h1 (fun x hx => hsame x (by simp [hx])) (fun x hx => hs x (by simp [hx]))) (ih (fun t ht => hr t (by simp [ht])) h2 (fun x hx => hsame x (by simp [hx])) (fun x hx => hs x (by simp [hx])))

/-- A law's post: it returned true, and old memory is as it was. -/
theorem law_post {f : Func} {s : ChangeSpec} {fresh handsOn : Bool} {W W' : World} {args : Array Value} {ds gs : List (DataW H)} {before : List MemPlace} {tb : TypeId}
    (hW : DataW.Whole enc P f.params.toList s.vars false W args.toList ds gs before) (hl : laidOutB P = true) (hr : ∀ t ∈ f.params.toList, P.readableRec t = true ∧ t < P.types.size) (hv : s.vars = [])
    (hfn : s.fn H (ds ++ gs) = { results := [.lit (.bool true)], args := ds }) (hres : f.resultTypes = #[tb]) (hbool : P.underlying tb = some .bool) (hb : Below W.heap.size W W') :
    s.post enc P f false fresh handsOn false W args (.bool true) W' := by
  have hW' := hW
  obtain ⟨p, q, hA, hV, rfl, hfz, hnd⟩ := hW
  rw [hv] at hV
  obtain ⟨rfl, rfl⟩ := trodVars_none hV
  have hlt : ∀ x ∈ p, x.block < W.heap.size := fun x hx => by have := hW'.lt x (by simpa using hx); simpa using this
  refine ⟨ds, [], p ++ [], [], p, [], hW', ?_, ?_, ?_, hb.frame _, fun h => by cases h⟩
  · rw [hfn, hres]
    exact trodAll_mk1 (shut_bool hbool true)
  · rw [hfn]
    exact trodAll_stays hl hr hA (fun x hx => hb.same (hlt x hx)) (fun x hx => by simpa using hlt x hx)
  · rw [hv, hfn]
    exact rfl

/-- lists out of cells that can be read one by one -/
theorem Rd.of_each {α : Type} {k : Nat} {f : α → List Value} {w : World} {b off : Nat} : ∀ (n : Nat), (∀ i, i < n → ∃ x : α, ∀ j u, (f x)[j]? = some u → w.cell? ⟨b, off + (i * k + j), none⟩ = some u) → ∃ xs, Rd k f w (some ⟨b, off, none⟩) n xs := by
  intro n
  induction n with
  | zero => intro _; exact ⟨[], Rd.nil _⟩
  | succ n ih =>
    intro h
    obtain ⟨xs, hx⟩ := ih (fun i hi => h i (by omega))
    obtain ⟨x, hxn⟩ := h n (by omega)
    have hl := hx.len
    refine ⟨xs ++ [x], by simp [← hl], fun _ => ⟨b, off, rfl, fun i y hy j u hu => ?_⟩⟩
    by_cases hi : i < xs.length
    · rw [List.getElem?_append_left hi] at hy
      obtain ⟨b', off', e, hc⟩ := hx.2 (by omega)
      injection e with e
      injection e with e1 e2
      subst e1 e2
      exact hc i y hy j u hu
    · have hi2 : i = n := by
        have := (List.getElem?_eq_some_iff.1 hy).1
        simp at this
        omega
      subst hi2
      have hy2 : x = y := by
        rw [List.getElem?_append_right (by omega), ← hl] at hy
        simpa using hy
      subst hy2
      exact hxn j u hu

variable {w : World} {base : Nat} {spare : Nat → Bool} {held : Bool}
/-- a slice of structs whose fields are one cell each -/
theorem open_structs {α : Type} (f : α → List Value) {t e : TypeId} {fs : Array Field} {fuel : Nat} {v : Value} {x : DataW H × List MemPlace} (ht : P.underlying t = some (.slice e)) (he : P.underlying e = some (.struct fs))
    (hone : oneCellFields P fs = true) (hC : P.cellsOf e = fs.size) (hpos : 0 < fs.size)
    (hdec : ∀ vs : Nat → Value, (∀ j fld, fs[j]? = some fld → ∃ y n, DataW.trod enc P w base spare held n fld.type [vs j] = some y) → ∃ x : α, ∀ j u, (f x)[j]? = some u → vs j = u ∧ j < fs.size)
    (h : DataW.trod enc P w base spare held fuel t [v] = some x) : ∃ A n c xs, v = .slice A n c ∧ Rd fs.size f w A n xs ∧ n ≤ c ∧ c ≤ maxLen := by
  rcases open_slice ht h with ⟨h0, _⟩ | ⟨a, len, cap, m, n, D, Pl, hcs, hb, hl, hm, hmm, hx, hi⟩
  · injection h0 with h0
    exact ⟨none, 0, 0, [], h0, Rd.nil _, Nat.le_refl _, by unfold maxLen; omega⟩
  · injection hcs with hv
    by_cases hz : len = 0
    · subst hz
      exact ⟨some a, 0, cap, [], hv, Rd.nil _, hl, hm⟩
    have hlm : len ≤ m := by rw [hmm]; split <;> omega
    have key : ∀ i, i < m → ∀ j fld, fs[j]? = some fld → ∃ u y n, w.cell? (a.add (i * fs.size + j)) = some u ∧ DataW.trod enc P w base spare held n fld.type [u] = some y := by
      intro i him j fld hj
      obtain ⟨cs', hc, ht'⟩ := hi i him
      rw [hC] at hc
      obtain ⟨ys, n', hn', hy, hlen, hyl, hf⟩ := DataW.trod_struct he ht'
      obtain ⟨_, hcl, hat⟩ := World.cells?_some hc
      obtain ⟨ho, hk⟩ := hone_of hone j fld hj
      have hjl : j < fs.size := (Array.getElem?_eq_some_iff.1 hj).1
      have hcell := hat j hjl
      have hv : cs'[j]? = some (cs'[j]'(by omega)) := List.getElem?_eq_getElem (by omega)
      have h1 := hf j fld hj
      rw [ho, hk] at h1
      have hone' : (cs'.drop j).take 1 = [cs'[j]'(by omega)] := by
        rw [List.drop_eq_getElem_cons (by omega)]
        rfl
      rw [hone'] at h1
      have hys : ys[j]? = some (ys[j]'(by omega)) := List.getElem?_eq_getElem (by omega)
      exact ⟨_, _, _, by rw [← Go.Deep.add_add, hcell, hv], h1.trans hys⟩
    obtain ⟨f0, hf0⟩ : ∃ f0, fs[0]? = some f0 := ⟨_, Array.getElem?_eq_getElem hpos⟩
    obtain ⟨u0, _, _, hu0, _⟩ := key 0 (by omega) 0 f0 hf0
    have hspot : a.spot = none := by
      have := World.cell?_spot hu0
      simpa [Addr.add] using this
    obtain ⟨b, off, sp⟩ := a
    simp only at hspot
    subst hspot
    have hadd : ∀ k, (⟨b, off, none⟩ : Addr).add k = ⟨b, off + k, none⟩ := by
      intro k
      unfold Addr.add
      split
      · subst_vars; rfl
      · rfl
    obtain ⟨xs, hxs⟩ := Rd.of_each (k := fs.size) (f := f) (w := w) (b := b) (off := off) len (fun i hil => by
      have hsel : ∀ j, ∃ u, ∀ fld, fs[j]? = some fld → w.cell? ⟨b, off + (i * fs.size + j), none⟩ = some u ∧ ∃ y n, DataW.trod enc P w base spare held n fld.type [u] = some y := by
        intro j
        by_cases hj : j < fs.size
        · obtain ⟨u, y, n, hu, hy⟩ := key i (by omega) j fs[j] (Array.getElem?_eq_getElem hj)
          rw [hadd] at hu
          refine ⟨u, fun fld hfld => ?_⟩
          rw [Array.getElem?_eq_getElem hj] at hfld
          injection hfld with hfld
          subst hfld
          exact ⟨hu, y, n, hy⟩
        · exact ⟨.nilFunc, fun fld hfld => absurd (Array.getElem?_eq_some_iff.1 hfld).1 hj⟩
      let vs : Nat → Value := fun j => Classical.choose (hsel j)
      obtain ⟨x, hx⟩ := hdec vs (fun j fld hj => (Classical.choose_spec (hsel j) fld hj).2)
      refine ⟨x, fun j u hu => ?_⟩
      obtain ⟨hvu, hjl⟩ := hx j u hu
      rw [← hvu]
      exact (Classical.choose_spec (hsel j) fs[j] (Array.getElem?_eq_getElem hjl)).1)
    exact ⟨_, len, cap, xs, hv, hxs, hl, hm⟩
end
end Go.Proofs.YtfieodjihaodiaaGreat
/- An argument 'e api.Evidence' opened to its parts. -/
namespace Go.Proofs.YtfieodjihaodiaaGreat
open Go.RowKit Go.ChangeShapes Go.WideShapes Go.Deep

set_option maxRecDepth 100000
section
variable {H : Type} {enc : TypeId × Value → H} {w : World} {base : Nat} {spare : Nat → Bool} {held : Bool}
theorem dec_int {k : TypeId} (hk : Tryz.prog.underlying k = some (.int .i64)) {u : Value} (h : ∃ y n, DataW.trod enc Tryz.prog w base spare held n k [u] = some y) : ∃ a : Int, u = .int .i64 a := by
  obtain ⟨y, n, h⟩ := h
  obtain ⟨a, e, _, _⟩ := DataW.trod_int hk h
  injection e with e
  exact ⟨a, e⟩
theorem dec_bool {k : TypeId} (hk : Tryz.prog.underlying k = some .bool) {u : Value} (h : ∃ y n, DataW.trod enc Tryz.prog w base spare held n k [u] = some y) : ∃ a : Bool, u = .bool a := by
  obtain ⟨y, n, h⟩ := h
  obtain ⟨a, e, _⟩ := DataW.trod_bool hk h
  injection e with e
  exact ⟨a, e⟩

theorem open_ev {r : Reach} {b0 : Nat} {v : Value} {d : DataW H} {p : List MemPlace} (hv : Value.okWide Tryz.prog w r b0 28 v) (h : DataW.Trod enc Tryz.prog w base spare held 28 v d p) :
    ∃ m h s A1 n1 c1 A2 n2 c2 A3 n3 c3 A4 n4 c4 A5 n5 c5 e, v = .agg #[.int .i64 m, .int .i64 h, .int .i64 s, .slice A1 n1 c1, .slice A2 n2 c2, .slice A3 n3 c3, .slice A4 n4 c4, .slice A5 n5 c5] ∧ EvR w m h s A1 n1 A2 n2 A3 n3 A4 n4 A5 n5 e ∧ n1 ≤ c1 ∧ n2 ≤ c2 ∧ n3 ≤ c3 ∧ n4 ≤ c4 ∧ n5 ≤ c5 ∧ c1 ≤ maxLen ∧ c2 ≤ maxLen ∧ c3 ≤ maxLen ∧ c4 ≤ maxLen ∧ c5 ≤ maxLen := by
  obtain ⟨fs, hs, hone, hC, hty⟩ : ∃ fs : Array Field, Tryz.prog.underlying 28 = some (.struct fs) ∧ oneCellFields Tryz.prog fs = true ∧ Tryz.prog.cellsOf 28 = 8 ∧ fs.map (·.type) = #[3, 3, 3, 22, 23, 24, 25, 26] :=
    ⟨_, Tryz.underlying28, by kernel_rfl, by kernel_rfl, by kernel_rfl⟩
  obtain ⟨cs, rfl, hsz⟩ := okWide_struct hs hv
  obtain ⟨l⟩ := cs
  obtain ⟨fuel, hf⟩ := h
  obtain ⟨xs, n, _, hx, _, hlen, hg⟩ := DataW.trod_struct hs hf
  have hl8 : l.length = 8 := by simpa [hC] using hsz
  have hfs : fs.size = 8 := by have := congrArg Array.size hty; simpa using this
  have hfld : ∀ j, j < 8 → ∃ u y m, l[j]? = some u ∧ DataW.trod enc Tryz.prog w base spare held m ((#[3, 3, 3, 22, 23, 24, 25, 26] : Array TypeId).getD j 0) [u] = some y := by
    intro j hj
    have hjf : fs[j]? = some (fs[j]'(by omega)) := Array.getElem?_eq_getElem (by omega)
    obtain ⟨ho, hk⟩ := hone_of hone j _ hjf
    have h1 := hg j _ hjf
    rw [ho, hk] at h1
    have hone' : ((Value.agg ⟨l⟩).cells.toList.drop j).take 1 = [l[j]'(by omega)] := by
      show (l.drop j).take 1 = _
      rw [List.drop_eq_getElem_cons (by omega)]
      rfl
    rw [hone'] at h1
    have hxl : j < xs.length := by omega
    rw [List.getElem?_eq_getElem hxl] at h1
    have htj : (#[3, 3, 3, 22, 23, 24, 25, 26] : Array TypeId).getD j 0 = (fs[j]'(by omega)).type := by
      rw [← hty, Array.getD_eq_getD_getElem?, Array.getElem?_map, hjf]
      rfl
    rw [htj]
    exact ⟨_, _, n, List.getElem?_eq_getElem (by omega), h1⟩
  match l, hl8 with
  | [v0, v1, v2, v3, v4, v5, v6, v7], _ =>
    obtain ⟨u0, y0, m0, e0, t0⟩ := hfld 0 (by omega)
    obtain ⟨u1, y1, m1, e1, t1⟩ := hfld 1 (by omega)
    obtain ⟨u2, y2, m2, e2, t2⟩ := hfld 2 (by omega)
    obtain ⟨u3, y3, m3, e3, t3⟩ := hfld 3 (by omega)
    obtain ⟨u4, y4, m4, e4, t4⟩ := hfld 4 (by omega)
    obtain ⟨u5, y5, m5, e5, t5⟩ := hfld 5 (by omega)
    obtain ⟨u6, y6, m6, e6, t6⟩ := hfld 6 (by omega)
    obtain ⟨u7, y7, m7, e7, t7⟩ := hfld 7 (by omega)
    simp at e0 e1 e2 e3 e4 e5 e6 e7
    subst e0 e1 e2 e3 e4 e5 e6 e7
    obtain ⟨a0, rfl⟩ := dec_int Tryz.underlying3 ⟨_, _, t0⟩
    obtain ⟨a1, rfl⟩ := dec_int Tryz.underlying3 ⟨_, _, t1⟩
    obtain ⟨a2, rfl⟩ := dec_int Tryz.underlying3 ⟨_, _, t2⟩
    obtain ⟨A1, n1, c1, ps, rfl, r1, l1, g1⟩ := open_structs Place.cells Tryz.underlying22 Tryz.underlying125 (by kernel_rfl) (by kernel_rfl) (by decide)
      (fun vs hd => by
        obtain ⟨b0, h0⟩ := dec_int Tryz.underlying3 (hd 0 _ rfl)
        obtain ⟨b1, h1⟩ := dec_int Tryz.underlying3 (hd 1 _ rfl)
        obtain ⟨b2, h2⟩ := dec_int Tryz.underlying3 (hd 2 _ rfl)
        refine ⟨⟨b0, b1, b2⟩, fun j u hu => ?_⟩
        match j, hu with
        | 0, hu => exact ⟨h0.trans (by simpa [Place.cells] using hu), by decide⟩
        | 1, hu => exact ⟨h1.trans (by simpa [Place.cells] using hu), by decide⟩
        | 2, hu => exact ⟨h2.trans (by simpa [Place.cells] using hu), by decide⟩
        | n + 3, hu => simp [Place.cells] at hu) t3
    obtain ⟨A2, n2, c2, ms, rfl, r2, l2, g2⟩ := open_structs Move.cells Tryz.underlying23 Tryz.underlying74 (by kernel_rfl) (by kernel_rfl) (by decide)
      (fun vs hd => by
        obtain ⟨b0, h0⟩ := dec_int Tryz.underlying3 (hd 0 _ rfl)
        obtain ⟨b1, h1⟩ := dec_int Tryz.underlying3 (hd 1 _ rfl)
        obtain ⟨b2, h2⟩ := dec_int Tryz.underlying3 (hd 2 _ rfl)
        obtain ⟨b3, h3⟩ := dec_int Tryz.underlying3 (hd 3 _ rfl)
        obtain ⟨b4, h4⟩ := dec_int Tryz.underlying3 (hd 4 _ rfl)
        obtain ⟨b5, h5⟩ := dec_bool Tryz.underlying4 (hd 5 _ rfl)
        refine ⟨⟨b0, b1, b2, b3, b4, b5⟩, fun j u hu => ?_⟩
        match j, hu with
        | 0, hu => exact ⟨h0.trans (by simpa [Move.cells] using hu), by decide⟩
        | 1, hu => exact ⟨h1.trans (by simpa [Move.cells] using hu), by decide⟩
        | 2, hu => exact ⟨h2.trans (by simpa [Move.cells] using hu), by decide⟩
        | 3, hu => exact ⟨h3.trans (by simpa [Move.cells] using hu), by decide⟩
        | 4, hu => exact ⟨h4.trans (by simpa [Move.cells] using hu), by decide⟩
        | 5, hu => exact ⟨h5.trans (by simpa [Move.cells] using hu), by decide⟩
        | n + 6, hu => simp [Move.cells] at hu) t4
    obtain ⟨A3, n3, c3, cts, rfl, r3, l3, g3⟩ := open_structs Cert.cells Tryz.underlying24 Tryz.underlying120 (by kernel_rfl) (by kernel_rfl) (by decide)
      (fun vs hd => by
        obtain ⟨b0, h0⟩ := dec_int Tryz.underlying3 (hd 0 _ rfl)
        obtain ⟨b1, h1⟩ := dec_int Tryz.underlying3 (hd 1 _ rfl)
        obtain ⟨b2, h2⟩ := dec_int Tryz.underlying3 (hd 2 _ rfl)
        obtain ⟨b3, h3⟩ := dec_int Tryz.underlying3 (hd 3 _ rfl)
        obtain ⟨b4, h4⟩ := dec_int Tryz.underlying3 (hd 4 _ rfl)
        obtain ⟨b5, h5⟩ := dec_int Tryz.underlying3 (hd 5 _ rfl)
        refine ⟨⟨b0, b1, b2, b3, b4, b5⟩, fun j u hu => ?_⟩
        match j, hu with
        | 0, hu => exact ⟨h0.trans (by simpa [Cert.cells] using hu), by decide⟩
        | 1, hu => exact ⟨h1.trans (by simpa [Cert.cells] using hu), by decide⟩
        | 2, hu => exact ⟨h2.trans (by simpa [Cert.cells] using hu), by decide⟩
        | 3, hu => exact ⟨h3.trans (by simpa [Cert.cells] using hu), by decide⟩
        | 4, hu => exact ⟨h4.trans (by simpa [Cert.cells] using hu), by decide⟩
        | 5, hu => exact ⟨h5.trans (by simpa [Cert.cells] using hu), by decide⟩
        | n + 6, hu => simp [Cert.cells] at hu) t5
    obtain ⟨A4, n4, c4, rcs, rfl, r4, l4, g4⟩ := open_structs Recall.cells Tryz.underlying25 Tryz.underlying72 (by kernel_rfl) (by kernel_rfl) (by decide)
      (fun vs hd => by
        obtain ⟨b0, h0⟩ := dec_int Tryz.underlying3 (hd 0 _ rfl)
        obtain ⟨b1, h1⟩ := dec_int Tryz.underlying3 (hd 1 _ rfl)
        refine ⟨⟨b0, b1⟩, fun j u hu => ?_⟩
        match j, hu with
        | 0, hu => exact ⟨h0.trans (by simpa [Recall.cells] using hu), by decide⟩
        | 1, hu => exact ⟨h1.trans (by simpa [Recall.cells] using hu), by decide⟩
        | n + 2, hu => simp [Recall.cells] at hu) t6
    obtain ⟨A5, n5, c5, pus, rfl, r5, l5, g5⟩ := open_structs Purity.cells Tryz.underlying26 Tryz.underlying69 (by kernel_rfl) (by kernel_rfl) (by decide)
      (fun vs hd => by
        obtain ⟨b0, h0⟩ := dec_int Tryz.underlying3 (hd 0 _ rfl)
        obtain ⟨b1, h1⟩ := dec_int Tryz.underlying3 (hd 1 _ rfl)
        obtain ⟨b2, h2⟩ := dec_int Tryz.underlying3 (hd 2 _ rfl)
        obtain ⟨b3, h3⟩ := dec_int Tryz.underlying3 (hd 3 _ rfl)
        refine ⟨⟨b0, b1, b2, b3⟩, fun j u hu => ?_⟩
        match j, hu with
        | 0, hu => exact ⟨h0.trans (by simpa [Purity.cells] using hu), by decide⟩
        | 1, hu => exact ⟨h1.trans (by simpa [Purity.cells] using hu), by decide⟩
        | 2, hu => exact ⟨h2.trans (by simpa [Purity.cells] using hu), by decide⟩
        | 3, hu => exact ⟨h3.trans (by simpa [Purity.cells] using hu), by decide⟩
        | n + 4, hu => simp [Purity.cells] at hu) t7
    exact ⟨a0, a1, a2, A1, n1, c1, A2, n2, c2, A3, n3, c3, A4, n4, c4, A5, n5, c5, ⟨a0, a1, a2, ps, ms, cts, rcs, pus⟩, rfl, ⟨rfl, rfl, rfl, r1, r2, r3, r4, r5⟩, l1, l2, l3, l4, l5, g1, g2, g3, g4, g5⟩
end
theorem law_own : ownKnob Tryz.prog.godebug = none := by kernel_rfl
theorem law_laid : laidOutB Tryz.prog = true := by kernel_rfl
end Go.Proofs.YtfieodjihaodiaaGreat
/- From a call's contract to what a law's row asks for. -/
namespace Go.Proofs.YtfieodjihaodiaaGreat
open Go.RowKit
set_option linter.unusedVariables false
set_option linter.unusedSimpArgs false

/-- a list that is read from the outside -/
theorem rt_of_rd {α : Type} {k : Nat} {f : α → List Value} {row : α → List T} (hrow : ∀ x, row x = (f x).map T.atm) (hone : ∀ x, ∀ v ∈ f x, v.oneCell' = true) (hk : ∀ x, (f x).length = k)
    {w : World} {A : Option Addr} {n c : Nat} {xs : List α} (h : Rd k f w A n xs) (h1 : n ≤ c) (h2 : c ≤ maxLen) : RT w (fun _ => False) (.sl k .any (xs.map row)) (.slice A n c) := by
  obtain ⟨hn, hc⟩ := h
  have hlen : (xs.map row).length = n := by simp [hn]
  rw [← hlen]
  have hat : ∀ i j t, at2 (xs.map row) i j = some t → ∃ x v, xs[i]? = some x ∧ (f x)[j]? = some v ∧ t = .atm v := fun i j t ht => by
    obtain ⟨r, q1, q2⟩ := at2_inv ht
    rw [List.getElem?_map] at q1
    cases hx : xs[i]? with
    | none => rw [hx] at q1; cases q1
    | some x =>
      rw [hx] at q1
      injection q1 with q1
      subst q1
      rw [hrow, List.getElem?_map] at q2
      cases hv : (f x)[j]? with
      | none => rw [hv] at q2; cases q2
      | some v => rw [hv] at q2; injection q2 with q2; exact ⟨x, v, rfl, hv, q2.symm⟩
  rcases Nat.eq_zero_or_pos n with h0 | h0
  · have hx : xs = [] := List.eq_nil_of_length_eq_zero (by omega)
    subst hx
    exact .sl (b := 0) (off := 0) (fun _ _ => undef) (by simp) (by simp) h2 (by intro h; cases h) (by intro h; cases h) (by simp) (by simp [at2]) (by simp [at2])
  · obtain ⟨b, off, hA, hcell⟩ := hc h0
    refine .sl (b := b) (off := off) (fun i j => ((xs[i]?).bind fun x => (f x)[j]?).getD undef) ?_ (by omega) h2 (by intro h; cases h) (by intro h; cases h) (fun _ => hA) ?_ ?_
    · intro r hr
      obtain ⟨x, _, rfl⟩ := List.mem_map.1 hr
      rw [hrow, List.length_map, hk]
    · intro i j t ht
      obtain ⟨x, v, hx, hv, rfl⟩ := hat i j t ht
      exact ⟨by rw [hcell i x hx j v hv]; simp [hx, hv], fun h => h⟩
    · intro i j t ht
      obtain ⟨x, v, hx, hv, rfl⟩ := hat i j t ht
      have : ((xs[i]?).bind fun x => (f x)[j]?).getD undef = v := by simp [hx, hv]
      rw [this]
      exact .atm (hone x v (List.mem_of_getElem? hv))

theorem rs_ev {w : World} {m h s : Int} {A1 A2 A3 A4 A5 : Option Addr} {n1 n2 n3 n4 n5 c1 c2 c3 c4 c5 : Nat} {e : Ev} (hr : EvR w m h s A1 n1 A2 n2 A3 n3 A4 n4 A5 n5 e)
    (hb : n1 ≤ c1 ∧ n2 ≤ c2 ∧ n3 ≤ c3 ∧ n4 ≤ c4 ∧ n5 ≤ c5 ∧ c1 ≤ maxLen ∧ c2 ≤ maxLen ∧ c3 ≤ maxLen ∧ c4 ≤ maxLen ∧ c5 ≤ maxLen) :
    RS w (fun _ => none) (fun _ => False) (evS e) (.agg #[.int .i64 m, .int .i64 h, .int .i64 s, .slice A1 n1 c1, .slice A2 n2 c2, .slice A3 n3 c3, .slice A4 n4 c4, .slice A5 n5 c5]) := by
  obtain ⟨rfl, rfl, rfl, r1, r2, r3, r4, r5⟩ := hr
  obtain ⟨b1, b2, b3, b4, b5, d1, d2, d3, d4, d5⟩ := hb
  have t1 := rt_of_rd (k := 3) (f := Place.cells) (row := Place.row) (fun _ => rfl) (by intro x v hv; simp [Place.cells] at hv; rcases hv with rfl | rfl | rfl <;> rfl) (fun _ => rfl) r1 b1 d1
  have t2 := rt_of_rd (k := 6) (f := Move.cells) (row := Move.row) (fun _ => rfl) (by intro x v hv; simp [Move.cells] at hv; rcases hv with rfl | rfl | rfl | rfl | rfl | rfl <;> rfl) (fun _ => rfl) r2 b2 d2
  have t3 := rt_of_rd (k := 6) (f := Cert.cells) (row := Cert.row) (fun _ => rfl) (by intro x v hv; simp [Cert.cells] at hv; rcases hv with rfl | rfl | rfl | rfl | rfl | rfl <;> rfl) (fun _ => rfl) r3 b3 d3
  have t4 := rt_of_rd (k := 2) (f := Recall.cells) (row := Recall.row) (fun _ => rfl) (by intro x v hv; simp [Recall.cells] at hv; rcases hv with rfl | rfl <;> rfl) (fun _ => rfl) r4 b4 d4
  have t5 := rt_of_rd (k := 4) (f := Purity.cells) (row := Purity.row) (fun _ => rfl) (by intro x v hv; simp [Purity.cells] at hv; rcases hv with rfl | rfl | rfl | rfl <;> rfl) (fun _ => rfl) r5 b5 d5
  refine .agg [.int .i64 e.mats, .int .i64 e.hhs, .int .i64 e.scs, .slice A1 n1 c1, .slice A2 n2 c2, .slice A3 n3 c3, .slice A4 n4 c4, .slice A5 n5 c5] rfl fun j c hj => ?_
  match j, hj with
  | 0, hj => injection hj with hj; subst hj; exact .t (.atm rfl)
  | 1, hj => injection hj with hj; subst hj; exact .t (.atm rfl)
  | 2, hj => injection hj with hj; subst hj; exact .t (.atm rfl)
  | 3, hj => injection hj with hj; subst hj; exact .t t1
  | 4, hj => injection hj with hj; subst hj; exact .t t2
  | 5, hj => injection hj with hj; subst hj; exact .t t3
  | 6, hj => injection hj with hj; subst hj; exact .t t4
  | 7, hj => injection hj with hj; subst hj; exact .t t5
  | j + 8, hj => simp [evC] at hj

theorem rs_int {w : World} {n : Int} : RS w (fun _ => none) (fun _ => False) (intS .i64 n) (.int .i64 n) := RS.int

/-- arguments one by one -/
inductive RArgs (w : World) : List S → List Value → Prop
  | nil : RArgs w [] []
  | cons {s : S} {v : Value} {ss : List S} {vs : List Value} (h : RS w (fun _ => none) (fun _ => False) s v) (hs : RArgs w ss vs) : RArgs w (s :: ss) (v :: vs)
theorem RArgs.get {w : World} {ss : List S} {vs : List Value} (h : RArgs w ss vs) : vs.length = ss.length ∧ ∀ (j : Nat) (s : S), ss[j]? = some s → RS w (fun _ => none) (fun _ => False) s (vs.getD j undef) := by
  induction h with
  | nil => exact ⟨rfl, by simp⟩
  | cons h hs ih =>
    refine ⟨by simp [ih.1], fun j s hj => ?_⟩
    cases j with
    | zero => simp at hj; subst hj; exact h
    | succ j => simpa using ih.2 j s (by simpa using hj)

theorem law_of_acall {P : Program} {g : FuncId} {ss : List S} {b : Bool} (h : ACall P g ss [] (boolS b) []) {w : World} {vs : List Value} (ha : RArgs w ss vs) :
    Calls P g vs.toArray w fun e w' => e = .returned (.bool b) ∧ Below w.heap.size w w' := by
  obtain ⟨h1, h2⟩ := ha.get
  refine Calls.mono (h.2 w (fun _ => none) (fun _ => False) vs h1 h2 ⟨by simp, by simp, by simp, by simp, by simp⟩ (fun _ h => h.elim) (fun _ _ => rfl)) ?_
  rintro e w' ⟨v, rfl, ι', M', q1, q2, q3, q4, q5⟩
  rw [q1.inv_atm]
  exact ⟨rfl, q5.os, q5.tape, q5.output, q5.size, fun k hk => q5.keep k hk (by rintro ⟨id, k, _, _, hk, _⟩; simp at hk)⟩
end Go.Proofs.YtfieodjihaodiaaGreat
/- Arguments opened by the shape of their type: integers, truth values, structs and slices, however nested. -/
namespace Go.Proofs.YtfieodjihaodiaaGreat
open Go.RowKit Go.ChangeShapes Go.WideShapes Go.Deep
set_option linter.unusedVariables false

inductive Sh where
  | int (k : IntKind)
  | bool
  | sl (row : List Sh)
inductive Fit : Sh → T → Prop
  | int {k : IntKind} {n : Int} (h : (Lit.int k n).wf = true) : Fit (.int k) (.atm (.int k n))
  | bool {b : Bool} : Fit .bool (.atm (.bool b))
  | sl {row : List Sh} {rows : List (List T)} (hl : ∀ r ∈ rows, r.length = row.length) (h : ∀ r ∈ rows, ∀ (j : Nat) (s : Sh) (t : T), row[j]? = some s → r[j]? = some t → Fit s t) : Fit (.sl row) (.sl row.length .any rows)
inductive HasSh (P : Program) : TypeId → List Sh → Prop
  | int {t : TypeId} {k : IntKind} (h : P.underlying t = some (.int k)) : HasSh P t [.int k]
  | bool {t : TypeId} (h : P.underlying t = some .bool) : HasSh P t [.bool]
  | sl {t e : TypeId} {row : List Sh} (h : P.underlying t = some (.slice e)) (hc : P.cellsOf e = row.length) (hp : 0 < row.length) (he : HasSh P e row) : HasSh P t [.sl row]
  | struct {t : TypeId} {fs : Array Field} (parts : List (List Sh)) (h : P.underlying t = some (.struct fs)) (hl : parts.length = fs.size)
      (ho : ∀ (i : Nat) (f : Field) (p : List Sh), fs[i]? = some f → parts[i]? = some p → f.offset = (parts.take i).flatten.length ∧ P.cellsOf f.type = p.length)
      (hc : P.cellsOf t = parts.flatten.length)
      (he : ∀ (i : Nat) (f : Field) (p : List Sh), fs[i]? = some f → parts[i]? = some p → HasSh P f.type p) : HasSh P t parts.flatten

section
variable {H : Type} {enc : TypeId × Value → H} {P : Program} {w : World} {base : Nat} {spare : Nat → Bool} {held : Bool}
/-- cells that read as trees of these shapes -/
def OpenAs (w : World) (shs : List Sh) (cs : List Value) : Prop :=
  cs.length = shs.length ∧ ∃ ts : List T, ts.length = shs.length ∧ ∀ (j : Nat) (s : Sh), shs[j]? = some s → ∃ u t, cs[j]? = some u ∧ ts[j]? = some t ∧ RT w (fun _ => False) t u ∧ Fit s t
theorem flatten_at {α : Type} : ∀ (parts : List (List α)) (j : Nat) (x : α), parts.flatten[j]? = some x → ∃ i p k, parts[i]? = some p ∧ p[k]? = some x ∧ j = (parts.take i).flatten.length + k
  | [], j, x, h => by simp at h
  | p :: r, j, x, h => by
    rw [List.flatten_cons] at h
    by_cases hj : j < p.length
    · rw [List.getElem?_append_left hj] at h
      exact ⟨0, p, j, rfl, h, by simp⟩
    · rw [List.getElem?_append_right (by omega)] at h
      obtain ⟨i, q, k, h1, h2, h3⟩ := flatten_at r _ x h
      exact ⟨i + 1, q, k, by simpa using h1, h2, by rw [List.take_succ_cons, List.flatten_cons, List.length_append]; omega⟩
theorem lists_choose {α : Type} {p : Nat → α → Prop} : ∀ (n : Nat), (∀ i, i < n → ∃ x, p i x) → ∃ xs : List α, xs.length = n ∧ ∀ i x, xs[i]? = some x → p i x
  | 0, _ => ⟨[], rfl, by simp⟩
  | n + 1, h => by
    obtain ⟨xs, h1, h2⟩ := lists_choose n fun i hi => h i (by omega)
    obtain ⟨x, hx⟩ := h n (by omega)
    refine ⟨xs ++ [x], by simp [h1], fun i y hy => ?_⟩
    by_cases hi : i < xs.length
    · rw [List.getElem?_append_left hi] at hy; exact h2 i y hy
    · rw [List.getElem?_append_right (by omega)] at hy
      have : i = n := by
        have := (List.getElem?_eq_some_iff.1 hy).1
        simp at this; omega
      subst this
      rw [h1] at hy
      simp at hy
      subst hy
      exact hx
theorem open_sh {t : TypeId} {shs : List Sh} (h : HasSh P t shs) : ∀ (n : Nat) (cs : List Value) (x : DataW H × List MemPlace), DataW.trod enc P w base spare held n t cs = some x → OpenAs w shs cs := by
  induction h with
  | int h =>
    intro n cs x hx
    obtain ⟨a, rfl, _, hw⟩ := DataW.trod_int h hx
    exact ⟨rfl, [.atm (.int _ a)], rfl, fun j s hj => by
      match j, hj with
      | 0, hj => simp at hj; subst hj; exact ⟨_, _, rfl, rfl, .atm rfl, .int hw⟩⟩
  | bool h =>
    intro n cs x hx
    obtain ⟨a, rfl, _⟩ := DataW.trod_bool h hx
    exact ⟨rfl, [.atm (.bool a)], rfl, fun j s hj => by
      match j, hj with
      | 0, hj => simp at hj; subst hj; exact ⟨_, _, rfl, rfl, .atm rfl, .bool⟩⟩
  | @sl t e row h hc hp he ih =>
    intro n cs x hx
    have key : ∀ (rows : List (List T)) (u : Value), cs = [u] → RT w (fun _ => False) (.sl row.length .any rows) u → (∀ r ∈ rows, r.length = row.length) → (∀ r ∈ rows, ∀ (j : Nat) (s : Sh) (t : T), row[j]? = some s → r[j]? = some t → Fit s t) → OpenAs w [.sl row] cs := by
      rintro rows u rfl hu h1 h2
      exact ⟨rfl, [.sl row.length .any rows], rfl, fun j s hj => by
        match j, hj with
        | 0, hj => simp at hj; subst hj; exact ⟨_, _, rfl, rfl, hu, .sl h1 h2⟩⟩
    rcases open_slice h hx with ⟨h0, _⟩ | ⟨a, len, cap, m, n, D, Pl, hcs, hb, hl, hm, hmm, hx, hi⟩
    · exact key [] _ h0 (.sl (b := 0) (off := 0) (fun _ _ => undef) (by simp) (by simp) (by unfold maxLen; omega) (by intro h; cases h) (by intro h; cases h) (by simp) (by simp [at2]) (by simp [at2])) (by simp) (by simp)
    · by_cases hz : len = 0
      · subst hz
        exact key [] _ hcs (.sl (b := 0) (off := 0) (fun _ _ => undef) (by simp) (by simp) hm (by intro h; cases h) (by intro h; cases h) (by simp) (by simp [at2]) (by simp [at2])) (by simp) (by simp)
      have hlm : len ≤ m := by rw [hmm]; split <;> omega
      have each : ∀ i, i < len → ∃ cs' : List Value, (∀ j, j < row.length → w.cell? (a.add (i * row.length + j)) = cs'[j]?) ∧ OpenAs w row cs' := by
        intro i hil
        obtain ⟨cs', hc', ht'⟩ := hi i (by omega)
        rw [hc] at hc'
        obtain ⟨_, hcl, hat⟩ := World.cells?_some hc'
        exact ⟨cs', fun j hj => by rw [← Go.Deep.add_add]; exact hat j hj, ih n cs' _ ht'⟩
      obtain ⟨css, hcl, hcs2⟩ := lists_choose len each
      obtain ⟨rows, hrl, hrows⟩ := lists_choose (α := List T) (p := fun i ts => ts.length = row.length ∧ ∀ (j : Nat) (s : Sh), row[j]? = some s → ∃ u t, (css.getD i [])[j]? = some u ∧ ts[j]? = some t ∧ RT w (fun _ => False) t u ∧ Fit s t) len (fun i hi => by
        have hg : css[i]? = some (css[i]'(by omega)) := List.getElem?_eq_getElem (by omega)
        obtain ⟨_, _, ts, h1, h2⟩ := hcs2 i _ hg
        refine ⟨ts, h1, ?_⟩
        rw [List.getD_eq_getElem?_getD, hg]
        exact h2)
      have hcell : ∀ i j, i < len → j < row.length → w.cell? (a.add (i * row.length + j)) = some ((css.getD i []).getD j undef) := by
        intro i j hi hj
        have hg : css[i]? = some (css[i]'(by omega)) := List.getElem?_eq_getElem (by omega)
        obtain ⟨h1, h2, _⟩ := hcs2 i _ hg
        rw [h1 j hj]
        have hgd : css.getD i [] = css[i]'(by omega) := by rw [List.getD_eq_getElem?_getD, hg]; rfl
        rw [hgd, List.getD_eq_getElem?_getD, List.getElem?_eq_getElem (by omega)]; rfl
      have hspot : a.spot = none := by
        have := World.cell?_spot (hcell 0 0 (by omega) hp)
        simpa [Addr.add] using this
      obtain ⟨b, off, sp⟩ := a
      simp only at hspot
      subst hspot
      have hadd : ∀ k, (⟨b, off, none⟩ : Addr).add k = ⟨b, off + k, none⟩ := by
        intro k
        unfold Addr.add
        split
        · subst_vars; rfl
        · rfl
      have hat : ∀ i j c, at2 rows i j = some c → i < len ∧ j < row.length ∧ ∃ r s, rows[i]? = some r ∧ r[j]? = some c ∧ row[j]? = some s := by
        intro i j c hc
        obtain ⟨r, q1, q2⟩ := at2_inv hc
        have hil : i < len := by rw [← hrl]; exact (List.getElem?_eq_some_iff.1 q1).1
        have hjl : j < row.length := by rw [← (hrows i r q1).1]; exact (List.getElem?_eq_some_iff.1 q2).1
        exact ⟨hil, hjl, r, _, q1, q2, List.getElem?_eq_getElem hjl⟩
      refine key rows (.slice (some ⟨b, off, none⟩) len cap) hcs ?_ ?_ ?_
      · rw [← hrl]
        refine .sl (b := b) (off := off) (fun i j => (css.getD i []).getD j undef) ?_ (by omega) hm (by intro h; cases h) (by intro h; cases h) (fun _ => rfl) ?_ ?_
        · intro r hr
          obtain ⟨i, hi⟩ := List.mem_iff_getElem?.1 hr
          exact (hrows i r hi).1
        · intro i j c hc
          obtain ⟨hil, hjl, _⟩ := hat i j c hc
          have := hcell i j hil hjl
          rw [hadd] at this
          exact ⟨this, fun h => h⟩
        · intro i j c hc
          obtain ⟨hil, hjl, r, s, q1, q2, q3⟩ := hat i j c hc
          obtain ⟨u, t, h1, h2, h3, h4⟩ := (hrows i r q1).2 j s q3
          rw [q2] at h2
          injection h2 with h2
          subst h2
          rw [List.getD_eq_getElem?_getD (l := css.getD i []), h1]
          exact h3
      · intro r hr
        obtain ⟨i, hi⟩ := List.mem_iff_getElem?.1 hr
        exact (hrows i r hi).1
      · intro r hr j s t hs ht
        obtain ⟨i, hi⟩ := List.mem_iff_getElem?.1 hr
        obtain ⟨u, t', h1, h2, h3, h4⟩ := (hrows i r hi).2 j s hs
        rw [ht] at h2
        injection h2 with h2
        subst h2
        exact h4
  | @struct t fs parts h hl ho hc he ih =>
    intro n cs x hx
    obtain ⟨xs, n', hn', hy, hlen, hyl, hf⟩ := DataW.trod_struct h hx
    have hlen' : cs.length = parts.flatten.length := by rw [hlen, hc]
    have each : ∀ j, j < parts.flatten.length → ∃ t, ∀ s, parts.flatten[j]? = some s → ∃ u, cs[j]? = some u ∧ RT w (fun _ => False) t u ∧ Fit s t := by
      intro j hj
      obtain ⟨i, p, k, q1, q2, q3⟩ := flatten_at parts j _ (List.getElem?_eq_getElem hj)
      have hi : i < fs.size := by rw [← hl]; exact (List.getElem?_eq_some_iff.1 q1).1
      have hfi : fs[i]? = some fs[i] := Array.getElem?_eq_getElem hi
      obtain ⟨o1, o2⟩ := ho i _ p hfi q1
      have h1 := hf i _ hfi
      have hxi : xs[i]? = some (xs[i]'(by omega)) := List.getElem?_eq_getElem (by omega)
      obtain ⟨r1, ts, r2, r3⟩ := ih i _ p hfi q1 n' _ _ (h1.trans hxi)
      obtain ⟨u, t, e1, e2, e3, e4⟩ := r3 k _ q2
      refine ⟨t, fun s hs => ⟨u, ?_, e3, ?_⟩⟩
      · have hk : k < p.length := (List.getElem?_eq_some_iff.1 q2).1
        rw [List.getElem?_take, o2, if_pos hk, List.getElem?_drop, o1, ← q3] at e1
        exact e1
      · rw [List.getElem?_eq_getElem hj] at hs
        injection hs with hs
        rw [← hs]; exact e4
    obtain ⟨ts, t1, t2⟩ := lists_choose parts.flatten.length each
    refine ⟨hlen', ts, t1, fun j s hj => ?_⟩
    have hjl := (List.getElem?_eq_some_iff.1 hj).1
    have htj : ts[j]? = some (ts[j]'(by omega)) := List.getElem?_eq_getElem (by omega)
    obtain ⟨u, h1, h2, h3⟩ := t2 j _ htj s hj
    exact ⟨u, _, h1, htj, h2, h3⟩
end
theorem Fit.int_inv {k : IntKind} {t : T} (h : Fit (.int k) t) : ∃ n, t = .atm (.int k n) ∧ (Lit.int k n).wf = true := by cases h with | int h => exact ⟨_, rfl, h⟩
/-- rows that are each the row of something -/
theorem rows_map {α : Type} {f : α → List T} {p : α → Prop} : ∀ {rows : List (List T)}, (∀ r ∈ rows, ∃ x, r = f x ∧ p x) → ∃ xs : List α, rows = xs.map f ∧ ∀ x ∈ xs, p x
  | [], _ => ⟨[], rfl, by simp⟩
  | r :: rs, h => by
    obtain ⟨x, rfl, hx⟩ := h r (by simp)
    obtain ⟨xs, rfl, hxs⟩ := rows_map (rows := rs) (f := f) (p := p) fun r hr => h r (List.mem_cons_of_mem _ hr)
    exact ⟨x :: xs, rfl, fun y hy => by rcases List.mem_cons.1 hy with rfl | hy; exact hx; exact hxs y hy⟩
theorem Fit.sl_inv {α : Type} (f : α → List T) (p : α → Prop) {row : List Sh} {t : T} (h : Fit (.sl row) t)
    (hrow : ∀ r : List T, r.length = row.length → (∀ (j : Nat) (s : Sh) (t : T), row[j]? = some s → r[j]? = some t → Fit s t) → ∃ x, r = f x ∧ p x) :
    ∃ xs : List α, t = .sl row.length .any (xs.map f) ∧ ∀ x ∈ xs, p x := by
  cases h with
  | sl hl h =>
    obtain ⟨xs, rfl, hx⟩ := rows_map (f := f) (p := p) (fun r hr => hrow r (hl r hr) (h r hr))
    exact ⟨xs, rfl, hx⟩
end Go.Proofs.YtfieodjihaodiaaGreat
/- Arguments of the histories: lists of fractions, picks, fractions, recalls. -/
namespace Go.Proofs.YtfieodjihaodiaaGreat
open Go.RowKit Go.ChangeShapes Go.WideShapes Go.Deep
set_option linter.unusedVariables false
set_option linter.unusedSimpArgs false
set_option maxRecDepth 100000

abbrev shInt : Sh := .int .i64
abbrev shBig : List Sh := [shInt, .sl [shInt]]
abbrev shFrac : List Sh := [shInt, .sl [shInt], shInt, .sl [shInt]]
theorem has_int : HasSh Tryz.prog 3 [shInt] := .int Tryz.underlying3
theorem has_ints : HasSh Tryz.prog 59 [.sl [shInt]] := .sl Tryz.underlying59 (by kernel_rfl) (by decide) has_int
theorem has_struct2 {P : Program} {t : TypeId} {fs : Array Field} {p0 p1 : List Sh} (h : P.underlying t = some (.struct fs)) (hl : fs.size = 2)
    (h0 : ∃ f, fs[0]? = some f ∧ f.offset = 0 ∧ P.cellsOf f.type = p0.length ∧ HasSh P f.type p0) (h1 : ∃ f, fs[1]? = some f ∧ f.offset = p0.length ∧ P.cellsOf f.type = p1.length ∧ HasSh P f.type p1)
    (hc : P.cellsOf t = p0.length + p1.length) : HasSh P t (p0 ++ p1) := by
  obtain ⟨f0, a1, a2, a3, a4⟩ := h0
  obtain ⟨f1, b1, b2, b3, b4⟩ := h1
  have := HasSh.struct (P := P) (t := t) (fs := fs) [p0, p1] h (by simp [hl]) (fun i f p hf hp => by
    match i, hp with
    | 0, hp => simp at hp; subst hp; rw [a1] at hf; injection hf with hf; subst hf; exact ⟨by simp [a2], a3⟩
    | 1, hp => simp at hp; subst hp; rw [b1] at hf; injection hf with hf; subst hf; exact ⟨by simp [b2], b3⟩
    | n + 2, hp => simp at hp) (by simp [hc]) (fun i f p hf hp => by
    match i, hp with
    | 0, hp => simp at hp; subst hp; rw [a1] at hf; injection hf with hf; subst hf; exact a4
    | 1, hp => simp at hp; subst hp; rw [b1] at hf; injection hf with hf; subst hf; exact b4
    | n + 2, hp => simp at hp)
  simpa using this
theorem has_big : HasSh Tryz.prog 61 shBig :=
  has_struct2 (p0 := [shInt]) (p1 := [.sl [shInt]]) Tryz.underlying61 (by kernel_rfl) ⟨_, rfl, rfl, by kernel_rfl, has_int⟩ ⟨_, rfl, rfl, by kernel_rfl, has_ints⟩ (by kernel_rfl)
theorem has_frac : HasSh Tryz.prog 63 shFrac :=
  has_struct2 (p0 := shBig) (p1 := shBig) Tryz.underlying63 (by kernel_rfl) ⟨_, rfl, rfl, by kernel_rfl, has_big⟩ ⟨_, rfl, rfl, by kernel_rfl, has_big⟩ (by kernel_rfl)
theorem has_fracs : HasSh Tryz.prog 30 [.sl shFrac] := .sl Tryz.underlying30 (by kernel_rfl) (by decide) has_frac
theorem has_hist : HasSh Tryz.prog 29 [.sl [.sl shFrac]] := .sl Tryz.underlying29 (by kernel_rfl) (by decide) has_fracs
theorem fit_ints {t : T} (h : Fit (.sl [shInt]) t) : ∃ l : List Int, t = intsT l := by
  obtain ⟨xs, rfl, _⟩ := h.sl_inv intRow (fun _ => True) (fun r hl hr => by
    match r, hl with
    | [u], _ =>
      obtain ⟨n, rfl, _⟩ := (hr 0 _ _ rfl rfl).int_inv
      exact ⟨n, rfl, trivial⟩)
  exact ⟨xs, rfl⟩
theorem fit_fracrow {r : List T} (hl : r.length = 4) (hr : ∀ (j : Nat) (s : Sh) (t : T), shFrac[j]? = some s → r[j]? = some t → Fit s t) : ∃ f : Fr, r = frRow f := by
  match r, hl with
  | [a, b, c, d], _ =>
    obtain ⟨n, rfl, _⟩ := (hr 0 _ _ rfl rfl).int_inv
    obtain ⟨l, rfl⟩ := fit_ints (hr 1 _ _ rfl rfl)
    obtain ⟨m, rfl, _⟩ := (hr 2 _ _ rfl rfl).int_inv
    obtain ⟨k, rfl⟩ := fit_ints (hr 3 _ _ rfl rfl)
    exact ⟨⟨⟨n, l⟩, ⟨m, k⟩⟩, rfl⟩
theorem fit_fracs {t : T} (h : Fit (.sl shFrac) t) : ∃ l : List Fr, t = fracsT l := by
  obtain ⟨xs, rfl, _⟩ := h.sl_inv frRow (fun _ => True) (fun r hl hr => by
    obtain ⟨f, rfl⟩ := fit_fracrow hl hr
    exact ⟨f, rfl, trivial⟩)
  exact ⟨xs, rfl⟩
theorem fit_hist {t : T} (h : Fit (.sl [.sl shFrac]) t) : ∃ l : List (List Fr), t = histT l := by
  obtain ⟨xs, rfl, _⟩ := h.sl_inv fracsRow (fun _ => True) (fun r hl hr => by
    match r, hl with
    | [u], _ =>
      obtain ⟨l, rfl⟩ := fit_fracs (hr 0 _ _ rfl rfl)
      exact ⟨l, rfl, trivial⟩)
  exact ⟨xs, rfl⟩
section
variable {H : Type} {enc : TypeId × Value → H} {w : World} {base : Nat} {spare : Nat → Bool} {held : Bool}
theorem open_hist {v : Value} {d : DataW H} {p : List MemPlace} {r : Reach} {b0 : Nat} (hv : Value.okWide Tryz.prog w r b0 29 v) (h : DataW.Trod enc Tryz.prog w base spare held 29 v d p) : ∃ hh, RS w (fun _ => none) (fun _ => False) (histS hh) v := by
  obtain ⟨a, len, cap, rfl⟩ := okWide_slice Tryz.underlying29 hv
  obtain ⟨fuel, hf⟩ := h
  obtain ⟨_, ts, h1, h2⟩ := open_sh has_hist fuel _ _ hf
  obtain ⟨u, t, e1, e2, e3, e4⟩ := h2 0 _ rfl
  obtain ⟨hh, rfl⟩ := fit_hist e4
  injection e1 with e1
  subst e1
  exact ⟨hh, .c (.t e3)⟩
end
end Go.Proofs.YtfieodjihaodiaaGreat
/- An argument that is a list of fractions. -/
namespace Go.Proofs.YtfieodjihaodiaaGreat
open Go.RowKit Go.ChangeShapes Go.WideShapes Go.Deep
set_option linter.unusedVariables false
set_option linter.unusedSimpArgs false
set_option maxRecDepth 100000
section
variable {H : Type} {enc : TypeId × Value → H} {w : World} {base : Nat} {spare : Nat → Bool} {held : Bool}
theorem open_fracs {v : Value} {d : DataW H} {p : List MemPlace} {r : Reach} {b0 : Nat} (hv : Value.okWide Tryz.prog w r b0 30 v) (h : DataW.Trod enc Tryz.prog w base spare held 30 v d p) : ∃ l, RS w (fun _ => none) (fun _ => False) (fracsS l) v := by
  obtain ⟨a, len, cap, rfl⟩ := okWide_slice Tryz.underlying30 hv
  obtain ⟨fuel, hf⟩ := h
  obtain ⟨_, ts, h1, h2⟩ := open_sh has_fracs fuel _ _ hf
  obtain ⟨u, t, e1, e2, e3, e4⟩ := h2 0 _ rfl
  obtain ⟨hh, rfl⟩ := fit_fracs e4
  injection e1 with e1
  subst e1
  exact ⟨hh, .c (.t e3)⟩
end
end Go.Proofs.YtfieodjihaodiaaGreat
/- EvidenceTells: at every input the law returns true, and its arguments read as before. Conditions: none. -/
namespace Go.Proofs.YtfieodjihaodiaaGreat
open Go.RowKit Go.ChangeShapes Go.WideShapes Go.ChangeAt

set_option maxRecDepth 100000 in
theorem evidenceTells_lifted (os : Os) (started : os.Started) (H : Type) (enc : TypeId × Value → H) :
    ReturnsInHanded {} Tryz.checked os 3 .any (Rows.evidenceTellsSpec.pre6 enc Tryz.prog Tryz.f3 Rows.evidenceTellsRow.domain false) (Rows.evidenceTellsSpec.post enc Tryz.prog Tryz.f3 false true false false) := by
  refine returnsInHanded_of_change (C := Tryz.checked) law_own started (by kernel_rfl) Tryz.func3
    (ChangeSpec.witness6 (enc := enc) (C := Tryz.checked) false ⟨#[], #[.agg #[.int .i64 0, .int .i64 0, .int .i64 0, .slice none 0 0, .slice none 0 0, .slice none 0 0, .slice none 0 0, .slice none 0 0], .int .i64 0, .slice none 0 0, .slice none 0 0], []⟩ 12 (by kernel_rfl) (by kernel_rfl) (by kernel_rfl) (by kernel_rfl)) ?_
  intro W base args ds gs before hval0 hW hcnd _
  have hval : ∀ (j : Nat) t v, Tryz.f3.params[j]? = some t → args[j]? = some v → Value.okWide Tryz.prog W .any base t v := hval0
  have hW' := hW
  obtain ⟨p, q, hA0, hV, rfl, hfz, hnd⟩ := hW
  have hA : DataW.TrodAll enc Tryz.prog W 0 (fun _ => true) true Tryz.f3.params.toList args.toList ds p := hA0
  rw [Tryz.params3] at hA hval
  obtain ⟨v0, vs0, d0, ds0, p0, q0, hargs, rfl, rfl, h0, r0⟩ := trodAll_cons hA
  obtain ⟨v1, vs1, d1, ds1, p1, q1, rfl, rfl, rfl, h1, r1⟩ := trodAll_cons r0
  obtain ⟨v2, vs2, d2, ds2, p2, q2, rfl, rfl, rfl, h2, r2⟩ := trodAll_cons r1
  obtain ⟨v3, vs3, d3, ds3, p3, q3, rfl, rfl, rfl, h3, r3⟩ := trodAll_cons r2
  obtain ⟨rfl, rfl, rfl⟩ := trodAll_nil r3
  obtain rfl : args = #[v0, v1, v2, v3] := by cases args; simp_all
  obtain ⟨rfl, rfl⟩ := trodVars_none hV
  obtain ⟨m, h, s, A1, n1, c1, A2, n2, c2, A3, n3, c3, A4, n4, c4, A5, n5, c5, e, rfl, hr, hb⟩ := open_ev (hval 0 28 v0 rfl rfl) h0
  obtain ⟨a1, rfl, rfl, rfl, w1⟩ := open_int Tryz.underlying3 (hval 1 3 v1 rfl rfl) h1
  obtain ⟨a2, t2⟩ := Go.Proofs.YtfieodjihaodiaaGreat.open_hist (hval 2 29 v2 rfl rfl) h2
  obtain ⟨a3, t3⟩ := Go.Proofs.YtfieodjihaodiaaGreat.open_fracs (hval 3 30 v3 rfl rfl) h3
  refine (law_of_acall (a_EvidenceTells e a1 a2 a3) (.cons (rs_ev hr hb) (.cons (rs_int) (.cons (t2) (.cons (t3) (.nil)))))).mono fun ee W' ⟨he, hg⟩ => ?_
  subst he
  exact ⟨_, rfl, law_post hW' law_laid (by rw [Tryz.params3]; intro t ht; simp at ht; rcases ht with rfl | rfl | rfl | rfl <;> exact ⟨by kernel_rfl, of_decide_eq_true (by kernel_rfl)⟩) rfl rfl (by kernel_rfl) Tryz.underlying4 hg⟩

theorem evidenceTells_holds : Rows.EvidenceTellsSaid :=
  OpenClaim.holds_of_wide 3 Tryz.f3 rfl rfl rfl rfl rfl rfl rfl ⟨rfl, rfl, rfl, rfl, rfl⟩ rfl rfl rfl rfl rfl (by kernel_rfl) Tryz.func3 (by kernel_rfl)
    (of_decide_eq_true (by kernel_rfl)) (by unfold Func.isWrapper; first | (rw [if_pos (by decide +kernel)]; kernel_rfl) | (rw [if_neg (by decide +kernel)]; exact ⟨rfl, rfl⟩))
    (fun os started H enc _ => evidenceTells_lifted os started H enc)
end Go.Proofs.YtfieodjihaodiaaGreat

