/- taint: System. -/
import Derived.Test.YtomfnfbijgjfeaaGreatTt4
namespace Go.Proofs.YtomfnfbijgjfeaaGreat
open Go.RowKit
set_option linter.unusedVariables false
set_option linter.unusedSimpArgs false
set_option maxRecDepth 100000

theorem a_pushF {H : Hp} {id len : Nat} {n : Int} {rows : List RowP} {rs : List (List C)} {f : Fr} {v : Rat} (hf : f = fz v) (hs : H[2]? = some (sysB n id len)) (hid : H[id]? = some { mode := .live, elem := 54, size := 6, rows := rs, box := false })
    (hlen : len = rows.length) (hrs : rs = toC (rows.map rowRow)) (hne : id ≠ 2) (hr : rows.length ≤ 1000000) (mv : Nat) (kind : Int) :
    ACall Tryz.prog 19 [intS .i64 mv, intS .i64 kind, frS f, .c (.ptr 2 0 0)] H (.tup []) (((H.set 2 (sysB n H.length (rows.length + 1))).set id (deadB 54 6)) ++ [rowsB (rows ++ [oneRow mv kind v])]) := by
  subst hf; subst hlen; subst hrs; exact a_push hs hid hne hr mv kind v
theorem rowsTo_len {t : Trace} {kind : Int} {k : Nat} (hk : k ≤ 200) (hf : t.finds.length ≤ 20) (hc : t.cleans.length ≤ 50) : (sysRows t kind k).length ≤ 14400 := by
  have h1 := sysRows_len (t := t) (kind := kind) k
  have h2 := Nat.mul_le_mul hk (show 2 + t.finds.length + t.cleans.length ≤ 72 by omega)
  omega
abbrev aboutB (t : Trace) (kind : Int) (i : Nat) : Blk := { mode := .live, elem := 66, size := 7, rows := [(aboutAt t kind i).map .t], box := true }
theorem entR_data {ρ : List (Option Nat)} {H : Hp} : ∀ rows : List (List T), EntR ρ H (rows.map (·.map C.t)) (rows.map (·.map C.t))
  | [] => trivial
  | r :: rs => ⟨entL_data r, entR_data rs⟩
def sysE (t : Trace) (kind : Int) : Int := if traceE t ≠ 0 ∨ kind < 0 ∨ 8 ≤ kind then 1 else 0
def sysR (t : Trace) (kind : Int) : SysP := if traceE t ≠ 0 ∨ kind < 0 ∨ 8 ≤ kind then ⟨0, []⟩ else sysOf t kind
abbrev rowFn : FuncId := 19
abbrev sysZB : Blk := { mode := .live, elem := 38, size := 2, rows := [[.t (ti 0), .t (rowsTT [])]], box := true }
set_option maxHeartbeats 4000000 in
theorem a_System (t : Trace) (kind : Int) (hs : t.Sized) : ACall Tryz.prog 6 [trS t, intS .i64 kind] [] (.tup [sysS (sysR t kind), intS .i64 (sysE t kind)]) [] := by
  have ck := a_TCheck t hs
  have m2 : (t.ev.moves.map Move.row).length = t.ev.moves.length := by simp
  by_cases h1 : traceE t ≠ 0 ∨ kind < 0 ∨ 8 ≤ kind
  · have e1 : sysE t kind = 1 := by unfold sysE; rw [if_pos h1]
    have e2 : sysR t kind = ⟨0, []⟩ := by unfold sysR; rw [if_pos h1]
    rw [e1, e2]
    (refine acall_of tab_ok Tryz.func6 rfl (by decide) ?_; (conv => whnf); repeat (first | (refine LitB.data ?_; conv => whnf) | (refine BoxB.data ?_; conv => whnf)))
    (repeat' (first | ((refine DecB.mk (fun h => ?_) (fun h => ?_)) <;> first | (exfalso; omega) | (conv => whnf)) | ((refine BoolB.mk (fun h => ?_) (fun h => ?_)) <;> first | (exact absurd h (by decide)) | (conv => whnf)) | ((first | refine ⟨_, wrap_ok (by omega) (by omega), ?_⟩ | refine and_idx (by omega) (by omega) ?_ | refine reg_ok (by decide +kernel) ?_ | refine bar_ok (by decide +kernel) (by decide +kernel) ?_ | refine late_ok rfl rfl ?_ | refine src_ok rfl ?_ | refine .inl ⟨_, _, qcall_pure (ck) rfl rfl, ?_⟩ | refine LitB.data ?_ | refine BoxB.own ?_); conv => whnf)))
    all_goals first
      | (exfalso; omega)
      | exact fin_t ⟨⟨rfl, rfl, trivial⟩, rfl, trivial⟩
  have e1 : sysE t kind = 0 := by unfold sysE; rw [if_neg h1]
  have e2 : sysR t kind = sysOf t kind := by unfold sysR; rw [if_neg h1]
  rw [e1, e2]
  obtain ⟨k1, k2, k3⟩ : traceE t = 0 ∧ 0 ≤ kind ∧ kind < 8 := by omega
  rw [k1] at ck
  clear h1 e1 e2
  obtain ⟨q1, q2, q3, q4, q5⟩ := traceE_zero k1
  obtain ⟨b1, b2, b3, b4⟩ := check_bounds q1
  have kn := a_known t kind hs q1 (fun f hf => by have := findsE_get q4 f hf; omega) (fun c hc => cleansE_get q5 c hc)
  (refine acall_of tab_ok Tryz.func6 rfl (by decide) ?_; (conv => whnf); repeat (first | (refine LitB.data ?_; conv => whnf) | (refine BoxB.data ?_; conv => whnf)))
  (repeat' (first | ((refine DecB.mk (fun h => ?_) (fun h => ?_)) <;> first | (exfalso; omega) | (conv => whnf)) | ((refine BoolB.mk (fun h => ?_) (fun h => ?_)) <;> first | (exact absurd h (by decide)) | (conv => whnf)) | ((first | refine ⟨_, wrap_ok (by omega) (by omega), ?_⟩ | refine and_idx (by omega) (by omega) ?_ | refine reg_ok (by decide +kernel) ?_ | refine bar_ok (by decide +kernel) (by decide +kernel) ?_ | refine late_ok rfl rfl ?_ | refine src_ok rfl ?_ | refine .inl ⟨_, _, qcall_pure (ck) rfl rfl, ?_⟩ | refine .inl ⟨_, _, qcall_pure (kn) rfl rfl, ?_⟩ | refine LitB.data ?_ | refine BoxB.own ?_); conv => whnf)))
  all_goals try (exfalso; omega)
  refine awp_for tab_ok (fun k => ([J, J, J, J, S.c (C.ptr 0 0 0), J, S.c (C.ptr 1 0 0), S.c (C.ptr 2 0 0), S.c (C.fn (Fn.func rowFn) [C.ptr 2 0 0]), J, J, J, J, J, J, J, J, J, J, J, J, J, J, J, J, J, J, J, J, J, J, J, J, J, S.c (C.t (knownT t kind)), intS .i64 t.ev.moves.length, intS .i64 k, J, J, J, J, J, J, J, J, J, J, J, J, J, J, J, J, J, J, J, J, J, J, J, J, J, J, J, J, J, J, J, J, J, J, J, J, J, J, J, J, J, J, J, J, J, J, J], [sysZB, evB t.ev, sysB t.ev.moves.length 3 (sysRows t kind k).length, rowsB (sysRows t kind k)])) t.ev.moves.length (fun _ => True) [some 0, some 1, some 2, none] trivial ?_ ?_
  · refine ⟨rfl, rfl, ⟨⟨rfl, rfl, rfl, .inr ⟨⟨rfl, rfl, trivial⟩, trivial⟩⟩, ⟨rfl, rfl, rfl, .inl ⟨rfl, rowsT_ev _⟩⟩, ⟨rfl, rfl, rfl, .inr ⟨⟨?_, ⟨rfl, rfl, rfl⟩, trivial⟩, trivial⟩⟩, ⟨rfl, rfl⟩, trivial⟩, ⟨⟨rfl, rfl, rfl⟩, ⟨rfl, rfl, rfl⟩, ⟨rfl, rfl, rfl⟩, ⟨rfl, ⟨rfl, rfl, rfl⟩, trivial⟩, rfl, ent_i (by simp), rfl, trivial⟩⟩
    exact weak_eq (by rw [m2])
  intro k hk _
  by_cases hlt : k < t.ev.moves.length
  · obtain ⟨x, hx⟩ : ∃ x, t.ev.moves[k]? = some x := ⟨_, List.getElem?_eq_getElem hlt⟩
    have bn := a_bin t.ev q1 hx
    have st := a_stock t.ev q1 hx
    have gk : (List.range t.ev.moves.length)[k]? = some k := List.getElem?_range hlt
    have iv : ivAt t.ev k = ivOf t.ev x := ivAt_of hx
    have rl0 := rowsTo_len (t := t) (kind := kind) (k := k) (by omega) q2 q3
    have gl : (gramsOf t.finds kind k).length ≤ 20 := by unfold gramsOf; rw [List.length_map]; exact Nat.le_trans (List.length_filter_le _ _) q2
    have cl : cleansOf t.cleans kind k ≤ 50 := Nat.le_trans (List.length_filter_le _ _) q3
    have i0 := z_fInt 0 (by decide) (by decide)
    obtain ⟨R1, hR1⟩ : ∃ R1 : List RowP, R1 = sysRows t kind k ++ (if kindAt t.ev x.src = 0 then [] else [stockRow t.ev k x]) ++ capRows (ivOf t.ev x) k := ⟨_, rfl⟩
    have l5 : (sysRows t kind k).length + 1 = (sysRows t kind k ++ [stockRow t.ev k x]).length := by simp
    have r5 : List.take (sysRows t kind k).length (toC ((sysRows t kind k).map rowRow)) ++ toC [rowRow (stockRow t.ev k x)] = toC ((sysRows t kind k ++ [stockRow t.ev k x]).map rowRow) := ext_rowsN rfl
    have b5 : (sysRows t kind k ++ [stockRow t.ev k x]).length ≤ 1000000 := by simp; omega
    have b3 : (sysRows t kind k).length ≤ 1000000 := by omega
    obtain ⟨G, hG⟩ : ∃ G : Nat → List RowP, ∀ j, G j = R1 ++ ((gramsOf t.finds kind k).take j).map (fun g : Int => oneRow k 0 (g : Rat)) := ⟨_, fun _ => rfl⟩
    obtain ⟨K, hK⟩ : ∃ K : Nat → List RowP, ∀ j, K j = (R1 ++ (gramsOf t.finds kind k).map (fun g : Int => oneRow k 0 (g : Rat))) ++ List.replicate j (oneRow k 2 ((0 : Int) : Rat)) := ⟨_, fun _ => rfl⟩
    have hG0 : G 0 = R1 := by rw [hG]; simp
    have hK0 : K 0 = R1 ++ (gramsOf t.finds kind k).map (fun g : Int => oneRow k 0 (g : Rat)) := by rw [hK]; simp
    have hKe : sysRows t kind (k + 1) = K (cleansOf t.cleans kind k) := by
      rw [hK, hR1]
      show (match t.ev.moves[k]? with | none => sysRows t kind k | some x => sysRows t kind k ++ moveRows t kind k x) = _
      rw [hx]
      unfold moveRows
      simp [List.append_assoc]
    have hKs : toC ((K (cleansOf t.cleans kind k)).map rowRow) = toC ((sysRows t kind (k + 1)).map rowRow) ∧ (K (cleansOf t.cleans kind k)).length = (sysRows t kind (k + 1)).length := by rw [hKe]; exact ⟨rfl, rfl⟩
    have hgr : ∀ g ∈ gramsOf t.finds kind k, 1 ≤ g ∧ g ≤ 1099511627776 := fun g hg => by
      unfold gramsOf at hg
      obtain ⟨f, hf, rfl⟩ := List.mem_map.1 hg
      have := findsE_get q4 f (List.mem_filter.1 hf).1
      omega
    have hcr : capRows (ivOf t.ev x) k = if (ivOf t.ev x).isSome then [oneRow k 1 (hiR (ivOf t.ev x))] else [] := by cases ivOf t.ev x <;> rfl
    cases hc : (ivOf t.ev x).isSome <;> cases hb : decide (kindAt t.ev x.src = 0) <;> rw [hb] at bn
    · have hci : (ivAt t.ev k).isSome = false := by rw [iv]; exact hc
      rw [hc] at hcr
      have hcr : capRows (ivOf t.ev x) k = [] := hcr
      have eR : R1 = sysRows t kind k ++ [stockRow t.ev k x] := by rw [hR1, hcr]; simp only [decide_eq_false_iff_not, decide_eq_true_eq] at hb; simp [hb, List.append_assoc]
      have hRl : R1.length ≤ 14500 := by rw [eR]; (try simp); omega
      conv => whnf
      (repeat' (first | ((refine DecB.mk (fun h => ?_) (fun h => ?_)) <;> first | (exfalso; omega) | (conv => whnf)) | ((refine BoolB.mk (fun h => ?_) (fun h => ?_)) <;> first | (exact absurd h (by decide)) | (conv => whnf)) | ((first | refine ⟨_, wrap_ok (by omega) (by omega), ?_⟩ | refine and_idx (by omega) (by omega) ?_ | refine reg_ok (by decide +kernel) ?_ | refine bar_ok (by decide +kernel) (by decide +kernel) ?_ | refine late_ok rfl rfl ?_ | refine src_ok rfl ?_ | refine .inl ⟨_, _, qcall_pure (bn) rfl rfl, ?_⟩ | refine .inl ⟨_, _, qcall_pure (st) rfl rfl, ?_⟩ | refine .inl ⟨_, _, qcall_pure (toC) rfl rfl, ?_⟩ | refine .inl ⟨_, _, qcall_pure (toC) rfl rfl, ?_⟩ | refine ex_row gk ?_ | refine app_ok (by simp [toC]) (by simp [toC]; omega) ?_ | refine LitB.data ?_ | refine BoxB.own ?_); conv => whnf)))
      all_goals try (exfalso; omega)
      all_goals try (rw [hci] at h; exact absurd h (by decide))
      refine awp_for tab_ok (fun j => ([J, J, J, J, S.c (C.ptr 0 0 0), J, S.c (C.ptr 1 0 0), S.c (C.ptr 2 0 0), S.c (C.fn (Fn.func rowFn) [C.ptr 2 0 0]), intS .i64 k, S.c (C.ptr 4 0 0), J, J, J, J, J, J, J, J, J, J, J, J, J, J, J, J, J, J, J, J, J, J, J, S.c (C.t (knownT t kind)), intS .i64 t.ev.moves.length, intS .i64 k, J, J, J, J, J, J, J, J, J, J, J, J, J, J, J, J, J, J, J, J, J, J, J, J, S.c (C.t (intsT (gramsOf t.finds kind k))), intS .i64 (gramsOf t.finds kind k).length, intS .i64 j, J, J, J, J, J, J, J, J, J, J, J, J, J, J, J, J, J, J, J, J], [sysZB, evB t.ev, sysB t.ev.moves.length 3 (G j).length, rowsB (G j), aboutB t kind k])) (gramsOf t.finds kind k).length (fun _ => True) [some 0, some 1, some 2, some 5, some 4] trivial ⟨rfl, rfl, ⟨⟨rfl, rfl, rfl, .inr ⟨⟨rfl, rfl, trivial⟩, trivial⟩⟩, ⟨rfl, rfl, rfl, .inl ⟨rfl, rowsT_ev _⟩⟩, ⟨rfl, rfl, rfl, .inr ⟨⟨rfl, ⟨rfl, rfl, ?_, fun h => h⟩, trivial⟩, trivial⟩⟩, entB_rows rfl rfl rfl ?_ rfl, ⟨rfl, rfl, rfl, .inr (entR_data [aboutAt t kind k])⟩, trivial⟩, ⟨⟨rfl, rfl, rfl⟩, ⟨rfl, rfl, rfl⟩, ⟨rfl, rfl, rfl⟩, ⟨rfl, ⟨rfl, rfl, rfl⟩, trivial⟩, rfl, ⟨rfl, rfl, rfl⟩, rfl, rfl, rfl, rfl, ent_i (by simp), rfl, trivial⟩⟩ ?_
      · simp [hG0, eR, toC]
      · rw [hG0, eR]; exact r5
      intro j hj _
      have hGl : (G j).length ≤ 1000000 := by rw [hG]; simp [List.length_append]; omega
      by_cases hjt : j < (gramsOf t.finds kind k).length
      · obtain ⟨g, hg⟩ : ∃ g, (gramsOf t.finds kind k)[j]? = some g := ⟨_, List.getElem?_eq_getElem hjt⟩
        have gb := hgr g (List.mem_of_getElem? hg)
        have ig := z_fInt g (by omega) (by omega)
        have eG : G (j + 1) = G j ++ [oneRow k 0 (g : Rat)] := by rw [hG, hG, List.take_add_one, hg]; simp
        conv => whnf
        (repeat' (first | ((refine DecB.mk (fun h => ?_) (fun h => ?_)) <;> first | (exfalso; omega) | (conv => whnf)) | ((refine BoolB.mk (fun h => ?_) (fun h => ?_)) <;> first | (exact absurd h (by decide)) | (conv => whnf)) | ((first | refine ⟨_, wrap_ok (by omega) (by omega), ?_⟩ | refine and_idx (by omega) (by omega) ?_ | refine reg_ok (by decide +kernel) ?_ | refine bar_ok (by decide +kernel) (by decide +kernel) ?_ | refine late_ok rfl rfl ?_ | refine src_ok rfl ?_ | refine .inl ⟨_, _, qcall_pure (ig) rfl rfl, ?_⟩ | refine ex_row hg ?_ | refine .inr ⟨_, _, a_pushF (id := 3) rfl rfl rfl rfl rfl (by decide) hGl _ _, ?_⟩ | refine LitB.data ?_ | refine BoxB.own ?_); conv => whnf)))
        all_goals try (exfalso; omega)
        refine ⟨hjt, trivial, [some 0, some 1, some 2, some 5, some 4], rfl, rfl, ⟨⟨rfl, rfl, rfl, .inr ⟨⟨rfl, rfl, trivial⟩, trivial⟩⟩, ⟨rfl, rfl, rfl, .inl ⟨rfl, rowsT_ev _⟩⟩, ⟨rfl, rfl, rfl, .inr ⟨⟨rfl, ⟨rfl, rfl, ?_, fun h => h⟩, trivial⟩, trivial⟩⟩, entB_rows rfl rfl rfl ?_ rfl, ⟨rfl, rfl, rfl, .inr (entR_data [aboutAt t kind k])⟩, trivial⟩, ⟨⟨rfl, rfl, rfl⟩, ⟨rfl, rfl, rfl⟩, ⟨rfl, rfl, rfl⟩, ⟨rfl, ⟨rfl, rfl, rfl⟩, trivial⟩, rfl, ⟨rfl, rfl, rfl⟩, rfl, rfl, rfl, rfl, rfl, rfl, trivial⟩⟩
        · rw [eG]; simp
        · rw [eG]
      have hje : j = (gramsOf t.finds kind k).length := by omega
      subst hje
      have hGe : G (gramsOf t.finds kind k).length = R1 ++ (gramsOf t.finds kind k).map (fun g : Int => oneRow k 0 (g : Rat)) := by rw [hG, List.take_of_length_le (Nat.le_refl _)]
      conv => whnf
      (repeat' (first | ((refine DecB.mk (fun h => ?_) (fun h => ?_)) <;> first | (exfalso; omega) | (conv => whnf)) | ((refine BoolB.mk (fun h => ?_) (fun h => ?_)) <;> first | (exact absurd h (by decide)) | (conv => whnf)) | ((first | refine ⟨_, wrap_ok (by omega) (by omega), ?_⟩ | refine and_idx (by omega) (by omega) ?_ | refine reg_ok (by decide +kernel) ?_ | refine bar_ok (by decide +kernel) (by decide +kernel) ?_ | refine late_ok rfl rfl ?_ | refine src_ok rfl ?_ | refine LitB.data ?_ | refine BoxB.own ?_); conv => whnf)))
      all_goals try (exfalso; omega)
      refine awp_for tab_ok (fun j => ([J, J, J, J, S.c (C.ptr 0 0 0), J, S.c (C.ptr 1 0 0), S.c (C.ptr 2 0 0), S.c (C.fn (Fn.func rowFn) [C.ptr 2 0 0]), intS .i64 k, J, J, J, J, J, J, J, J, J, J, J, J, J, J, J, J, J, J, J, J, J, J, J, J, S.c (C.t (knownT t kind)), intS .i64 t.ev.moves.length, intS .i64 k, J, J, J, J, J, J, J, J, J, J, J, J, J, J, J, J, J, J, J, J, J, J, J, J, J, J, J, J, J, J, J, J, J, J, J, J, J, intS .i64 (cleansOf t.cleans kind k), intS .i64 j, J, J, J, J, J, J, J, J], [sysZB, evB t.ev, sysB t.ev.moves.length 3 (K j).length, rowsB (K j)])) (cleansOf t.cleans kind k) (fun _ => True) [some 0, some 1, some 2, some 3] trivial ⟨rfl, rfl, ⟨⟨rfl, rfl, rfl, .inr ⟨⟨rfl, rfl, trivial⟩, trivial⟩⟩, ⟨rfl, rfl, rfl, .inl ⟨rfl, rowsT_ev _⟩⟩, ⟨rfl, rfl, rfl, .inr ⟨⟨rfl, ⟨rfl, rfl, ?_, fun h => h⟩, trivial⟩, trivial⟩⟩, entB_rows rfl rfl rfl ?_ rfl, trivial⟩, ⟨⟨rfl, rfl, rfl⟩, ⟨rfl, rfl, rfl⟩, ⟨rfl, rfl, rfl⟩, ⟨rfl, ⟨rfl, rfl, rfl⟩, trivial⟩, rfl, rfl, rfl, rfl, rfl, rfl, trivial⟩⟩ ?_
      · rw [hK0, hGe]
      · rw [hK0, hGe]
      clear hj hjt
      intro j hj _
      have hKl : (K j).length ≤ 1000000 := by rw [hK]; simp [List.length_append]; omega
      by_cases hjt : j < cleansOf t.cleans kind k
      · have eK : K (j + 1) = K j ++ [oneRow k 2 ((0 : Int) : Rat)] := by rw [hK, hK, List.replicate_succ']; simp
        conv => whnf
        (repeat' (first | ((refine DecB.mk (fun h => ?_) (fun h => ?_)) <;> first | (exfalso; omega) | (conv => whnf)) | ((refine BoolB.mk (fun h => ?_) (fun h => ?_)) <;> first | (exact absurd h (by decide)) | (conv => whnf)) | ((first | refine ⟨_, wrap_ok (by omega) (by omega), ?_⟩ | refine and_idx (by omega) (by omega) ?_ | refine reg_ok (by decide +kernel) ?_ | refine bar_ok (by decide +kernel) (by decide +kernel) ?_ | refine late_ok rfl rfl ?_ | refine src_ok rfl ?_ | refine .inl ⟨_, _, qcall_pure (i0) rfl rfl, ?_⟩ | refine .inr ⟨_, _, a_pushF (id := 3) rfl rfl rfl rfl rfl (by decide) hKl _ _, ?_⟩ | refine LitB.data ?_ | refine BoxB.own ?_); conv => whnf)))
        all_goals try (exfalso; omega)
        refine ⟨hjt, trivial, [some 0, some 1, some 2, some 4], rfl, rfl, ⟨⟨rfl, rfl, rfl, .inr ⟨⟨rfl, rfl, trivial⟩, trivial⟩⟩, ⟨rfl, rfl, rfl, .inl ⟨rfl, rowsT_ev _⟩⟩, ⟨rfl, rfl, rfl, .inr ⟨⟨rfl, ⟨rfl, rfl, ?_, fun h => h⟩, trivial⟩, trivial⟩⟩, entB_rows rfl rfl rfl ?_ rfl, trivial⟩, ⟨⟨rfl, rfl, rfl⟩, ⟨rfl, rfl, rfl⟩, ⟨rfl, rfl, rfl⟩, ⟨rfl, ⟨rfl, rfl, rfl⟩, trivial⟩, rfl, rfl, rfl, rfl, rfl, rfl, trivial⟩⟩
        · rw [eK]; simp
        · rw [eK]
      have hje : j = cleansOf t.cleans kind k := by omega
      subst hje
      conv => whnf
      (repeat' (first | ((refine DecB.mk (fun h => ?_) (fun h => ?_)) <;> first | (exfalso; omega) | (conv => whnf)) | ((refine BoolB.mk (fun h => ?_) (fun h => ?_)) <;> first | (exact absurd h (by decide)) | (conv => whnf)) | ((first | refine ⟨_, wrap_ok (by omega) (by omega), ?_⟩ | refine and_idx (by omega) (by omega) ?_ | refine reg_ok (by decide +kernel) ?_ | refine bar_ok (by decide +kernel) (by decide +kernel) ?_ | refine late_ok rfl rfl ?_ | refine src_ok rfl ?_ | refine LitB.data ?_ | refine BoxB.own ?_); conv => whnf)))
      all_goals try (exfalso; omega)
      exact ⟨hlt, trivial, [some 0, some 1, some 2, some 3], rfl, rfl, ⟨⟨rfl, rfl, rfl, .inr ⟨⟨rfl, rfl, trivial⟩, trivial⟩⟩, ⟨rfl, rfl, rfl, .inl ⟨rfl, rowsT_ev _⟩⟩, ⟨rfl, rfl, rfl, .inr ⟨⟨rfl, ⟨rfl, rfl, hKs.2, fun h => h⟩, trivial⟩, trivial⟩⟩, entB_rows rfl rfl rfl hKs.1 rfl, trivial⟩, ⟨⟨rfl, rfl, rfl⟩, ⟨rfl, rfl, rfl⟩, ⟨rfl, rfl, rfl⟩, ⟨rfl, ⟨rfl, rfl, rfl⟩, trivial⟩, rfl, rfl, rfl, trivial⟩⟩
    · have hci : (ivAt t.ev k).isSome = false := by rw [iv]; exact hc
      rw [hc] at hcr
      have hcr : capRows (ivOf t.ev x) k = [] := hcr
      have eR : R1 = sysRows t kind k := by rw [hR1, hcr]; simp only [decide_eq_false_iff_not, decide_eq_true_eq] at hb; simp [hb, List.append_assoc]
      have hRl : R1.length ≤ 14500 := by rw [eR]; (try simp); omega
      conv => whnf
      (repeat' (first | ((refine DecB.mk (fun h => ?_) (fun h => ?_)) <;> first | (exfalso; omega) | (conv => whnf)) | ((refine BoolB.mk (fun h => ?_) (fun h => ?_)) <;> first | (exact absurd h (by decide)) | (conv => whnf)) | ((first | refine ⟨_, wrap_ok (by omega) (by omega), ?_⟩ | refine and_idx (by omega) (by omega) ?_ | refine reg_ok (by decide +kernel) ?_ | refine bar_ok (by decide +kernel) (by decide +kernel) ?_ | refine late_ok rfl rfl ?_ | refine src_ok rfl ?_ | refine .inl ⟨_, _, qcall_pure (bn) rfl rfl, ?_⟩ | refine .inl ⟨_, _, qcall_pure (st) rfl rfl, ?_⟩ | refine .inl ⟨_, _, qcall_pure (toC) rfl rfl, ?_⟩ | refine .inl ⟨_, _, qcall_pure (toC) rfl rfl, ?_⟩ | refine ex_row gk ?_ | refine app_ok (by simp [toC]) (by simp [toC]; omega) ?_ | refine LitB.data ?_ | refine BoxB.own ?_); conv => whnf)))
      all_goals try (exfalso; omega)
      all_goals try (rw [hci] at h; exact absurd h (by decide))
      refine awp_for tab_ok (fun j => ([J, J, J, J, S.c (C.ptr 0 0 0), J, S.c (C.ptr 1 0 0), S.c (C.ptr 2 0 0), S.c (C.fn (Fn.func rowFn) [C.ptr 2 0 0]), intS .i64 k, S.c (C.ptr 4 0 0), J, J, J, J, J, J, J, J, J, J, J, J, J, J, J, J, J, J, J, J, J, J, J, S.c (C.t (knownT t kind)), intS .i64 t.ev.moves.length, intS .i64 k, J, J, J, J, J, J, J, J, J, J, J, J, J, J, J, J, J, J, J, J, J, J, J, J, S.c (C.t (intsT (gramsOf t.finds kind k))), intS .i64 (gramsOf t.finds kind k).length, intS .i64 j, J, J, J, J, J, J, J, J, J, J, J, J, J, J, J, J, J, J, J, J], [sysZB, evB t.ev, sysB t.ev.moves.length 3 (G j).length, rowsB (G j), aboutB t kind k])) (gramsOf t.finds kind k).length (fun _ => True) [some 0, some 1, some 2, some 3, some 4] trivial ⟨rfl, rfl, ⟨⟨rfl, rfl, rfl, .inr ⟨⟨rfl, rfl, trivial⟩, trivial⟩⟩, ⟨rfl, rfl, rfl, .inl ⟨rfl, rowsT_ev _⟩⟩, ⟨rfl, rfl, rfl, .inr ⟨⟨rfl, ⟨rfl, rfl, ?_, fun h => h⟩, trivial⟩, trivial⟩⟩, entB_rows rfl rfl rfl ?_ rfl, ⟨rfl, rfl, rfl, .inr (entR_data [aboutAt t kind k])⟩, trivial⟩, ⟨⟨rfl, rfl, rfl⟩, ⟨rfl, rfl, rfl⟩, ⟨rfl, rfl, rfl⟩, ⟨rfl, ⟨rfl, rfl, rfl⟩, trivial⟩, rfl, ⟨rfl, rfl, rfl⟩, rfl, rfl, rfl, rfl, ent_i (by simp), rfl, trivial⟩⟩ ?_
      · simp [hG0, eR, toC]
      · rw [hG0, eR] <;> rfl
      intro j hj _
      have hGl : (G j).length ≤ 1000000 := by rw [hG]; simp [List.length_append]; omega
      by_cases hjt : j < (gramsOf t.finds kind k).length
      · obtain ⟨g, hg⟩ : ∃ g, (gramsOf t.finds kind k)[j]? = some g := ⟨_, List.getElem?_eq_getElem hjt⟩
        have gb := hgr g (List.mem_of_getElem? hg)
        have ig := z_fInt g (by omega) (by omega)
        have eG : G (j + 1) = G j ++ [oneRow k 0 (g : Rat)] := by rw [hG, hG, List.take_add_one, hg]; simp
        conv => whnf
        (repeat' (first | ((refine DecB.mk (fun h => ?_) (fun h => ?_)) <;> first | (exfalso; omega) | (conv => whnf)) | ((refine BoolB.mk (fun h => ?_) (fun h => ?_)) <;> first | (exact absurd h (by decide)) | (conv => whnf)) | ((first | refine ⟨_, wrap_ok (by omega) (by omega), ?_⟩ | refine and_idx (by omega) (by omega) ?_ | refine reg_ok (by decide +kernel) ?_ | refine bar_ok (by decide +kernel) (by decide +kernel) ?_ | refine late_ok rfl rfl ?_ | refine src_ok rfl ?_ | refine .inl ⟨_, _, qcall_pure (ig) rfl rfl, ?_⟩ | refine ex_row hg ?_ | refine .inr ⟨_, _, a_pushF (id := 3) rfl rfl rfl rfl rfl (by decide) hGl _ _, ?_⟩ | refine LitB.data ?_ | refine BoxB.own ?_); conv => whnf)))
        all_goals try (exfalso; omega)
        refine ⟨hjt, trivial, [some 0, some 1, some 2, some 5, some 4], rfl, rfl, ⟨⟨rfl, rfl, rfl, .inr ⟨⟨rfl, rfl, trivial⟩, trivial⟩⟩, ⟨rfl, rfl, rfl, .inl ⟨rfl, rowsT_ev _⟩⟩, ⟨rfl, rfl, rfl, .inr ⟨⟨rfl, ⟨rfl, rfl, ?_, fun h => h⟩, trivial⟩, trivial⟩⟩, entB_rows rfl rfl rfl ?_ rfl, ⟨rfl, rfl, rfl, .inr (entR_data [aboutAt t kind k])⟩, trivial⟩, ⟨⟨rfl, rfl, rfl⟩, ⟨rfl, rfl, rfl⟩, ⟨rfl, rfl, rfl⟩, ⟨rfl, ⟨rfl, rfl, rfl⟩, trivial⟩, rfl, ⟨rfl, rfl, rfl⟩, rfl, rfl, rfl, rfl, rfl, rfl, trivial⟩⟩
        · rw [eG]; simp
        · rw [eG]
      have hje : j = (gramsOf t.finds kind k).length := by omega
      subst hje
      have hGe : G (gramsOf t.finds kind k).length = R1 ++ (gramsOf t.finds kind k).map (fun g : Int => oneRow k 0 (g : Rat)) := by rw [hG, List.take_of_length_le (Nat.le_refl _)]
      conv => whnf
      (repeat' (first | ((refine DecB.mk (fun h => ?_) (fun h => ?_)) <;> first | (exfalso; omega) | (conv => whnf)) | ((refine BoolB.mk (fun h => ?_) (fun h => ?_)) <;> first | (exact absurd h (by decide)) | (conv => whnf)) | ((first | refine ⟨_, wrap_ok (by omega) (by omega), ?_⟩ | refine and_idx (by omega) (by omega) ?_ | refine reg_ok (by decide +kernel) ?_ | refine bar_ok (by decide +kernel) (by decide +kernel) ?_ | refine late_ok rfl rfl ?_ | refine src_ok rfl ?_ | refine LitB.data ?_ | refine BoxB.own ?_); conv => whnf)))
      all_goals try (exfalso; omega)
      refine awp_for tab_ok (fun j => ([J, J, J, J, S.c (C.ptr 0 0 0), J, S.c (C.ptr 1 0 0), S.c (C.ptr 2 0 0), S.c (C.fn (Fn.func rowFn) [C.ptr 2 0 0]), intS .i64 k, J, J, J, J, J, J, J, J, J, J, J, J, J, J, J, J, J, J, J, J, J, J, J, J, S.c (C.t (knownT t kind)), intS .i64 t.ev.moves.length, intS .i64 k, J, J, J, J, J, J, J, J, J, J, J, J, J, J, J, J, J, J, J, J, J, J, J, J, J, J, J, J, J, J, J, J, J, J, J, J, J, intS .i64 (cleansOf t.cleans kind k), intS .i64 j, J, J, J, J, J, J, J, J], [sysZB, evB t.ev, sysB t.ev.moves.length 3 (K j).length, rowsB (K j)])) (cleansOf t.cleans kind k) (fun _ => True) [some 0, some 1, some 2, some 3] trivial ⟨rfl, rfl, ⟨⟨rfl, rfl, rfl, .inr ⟨⟨rfl, rfl, trivial⟩, trivial⟩⟩, ⟨rfl, rfl, rfl, .inl ⟨rfl, rowsT_ev _⟩⟩, ⟨rfl, rfl, rfl, .inr ⟨⟨rfl, ⟨rfl, rfl, ?_, fun h => h⟩, trivial⟩, trivial⟩⟩, entB_rows rfl rfl rfl ?_ rfl, trivial⟩, ⟨⟨rfl, rfl, rfl⟩, ⟨rfl, rfl, rfl⟩, ⟨rfl, rfl, rfl⟩, ⟨rfl, ⟨rfl, rfl, rfl⟩, trivial⟩, rfl, rfl, rfl, rfl, rfl, rfl, trivial⟩⟩ ?_
      · rw [hK0, hGe]
      · rw [hK0, hGe]
      clear hj hjt
      intro j hj _
      have hKl : (K j).length ≤ 1000000 := by rw [hK]; simp [List.length_append]; omega
      by_cases hjt : j < cleansOf t.cleans kind k
      · have eK : K (j + 1) = K j ++ [oneRow k 2 ((0 : Int) : Rat)] := by rw [hK, hK, List.replicate_succ']; simp
        conv => whnf
        (repeat' (first | ((refine DecB.mk (fun h => ?_) (fun h => ?_)) <;> first | (exfalso; omega) | (conv => whnf)) | ((refine BoolB.mk (fun h => ?_) (fun h => ?_)) <;> first | (exact absurd h (by decide)) | (conv => whnf)) | ((first | refine ⟨_, wrap_ok (by omega) (by omega), ?_⟩ | refine and_idx (by omega) (by omega) ?_ | refine reg_ok (by decide +kernel) ?_ | refine bar_ok (by decide +kernel) (by decide +kernel) ?_ | refine late_ok rfl rfl ?_ | refine src_ok rfl ?_ | refine .inl ⟨_, _, qcall_pure (i0) rfl rfl, ?_⟩ | refine .inr ⟨_, _, a_pushF (id := 3) rfl rfl rfl rfl rfl (by decide) hKl _ _, ?_⟩ | refine LitB.data ?_ | refine BoxB.own ?_); conv => whnf)))
        all_goals try (exfalso; omega)
        refine ⟨hjt, trivial, [some 0, some 1, some 2, some 4], rfl, rfl, ⟨⟨rfl, rfl, rfl, .inr ⟨⟨rfl, rfl, trivial⟩, trivial⟩⟩, ⟨rfl, rfl, rfl, .inl ⟨rfl, rowsT_ev _⟩⟩, ⟨rfl, rfl, rfl, .inr ⟨⟨rfl, ⟨rfl, rfl, ?_, fun h => h⟩, trivial⟩, trivial⟩⟩, entB_rows rfl rfl rfl ?_ rfl, trivial⟩, ⟨⟨rfl, rfl, rfl⟩, ⟨rfl, rfl, rfl⟩, ⟨rfl, rfl, rfl⟩, ⟨rfl, ⟨rfl, rfl, rfl⟩, trivial⟩, rfl, rfl, rfl, rfl, rfl, rfl, trivial⟩⟩
        · rw [eK]; simp
        · rw [eK]
      have hje : j = cleansOf t.cleans kind k := by omega
      subst hje
      conv => whnf
      (repeat' (first | ((refine DecB.mk (fun h => ?_) (fun h => ?_)) <;> first | (exfalso; omega) | (conv => whnf)) | ((refine BoolB.mk (fun h => ?_) (fun h => ?_)) <;> first | (exact absurd h (by decide)) | (conv => whnf)) | ((first | refine ⟨_, wrap_ok (by omega) (by omega), ?_⟩ | refine and_idx (by omega) (by omega) ?_ | refine reg_ok (by decide +kernel) ?_ | refine bar_ok (by decide +kernel) (by decide +kernel) ?_ | refine late_ok rfl rfl ?_ | refine src_ok rfl ?_ | refine LitB.data ?_ | refine BoxB.own ?_); conv => whnf)))
      all_goals try (exfalso; omega)
      exact ⟨hlt, trivial, [some 0, some 1, some 2, some 3], rfl, rfl, ⟨⟨rfl, rfl, rfl, .inr ⟨⟨rfl, rfl, trivial⟩, trivial⟩⟩, ⟨rfl, rfl, rfl, .inl ⟨rfl, rowsT_ev _⟩⟩, ⟨rfl, rfl, rfl, .inr ⟨⟨rfl, ⟨rfl, rfl, hKs.2, fun h => h⟩, trivial⟩, trivial⟩⟩, entB_rows rfl rfl rfl hKs.1 rfl, trivial⟩, ⟨⟨rfl, rfl, rfl⟩, ⟨rfl, rfl, rfl⟩, ⟨rfl, rfl, rfl⟩, ⟨rfl, ⟨rfl, rfl, rfl⟩, trivial⟩, rfl, rfl, rfl, trivial⟩⟩
    · have hci : (ivAt t.ev k).isSome = true := by rw [iv]; exact hc
      rw [hc] at hcr
      have hcr : capRows (ivOf t.ev x) k = [oneRow k 1 (hiR (ivOf t.ev x))] := hcr
      have eR : R1 = (sysRows t kind k ++ [stockRow t.ev k x]) ++ [oneRow k 1 (hiR (ivOf t.ev x))] := by rw [hR1, hcr]; simp only [decide_eq_false_iff_not, decide_eq_true_eq] at hb; simp [hb, List.append_assoc]
      have hRl : R1.length ≤ 14500 := by rw [eR]; (try simp); omega
      have hfv : hiF (ivAt t.ev k) = fz (hiR (ivOf t.ev x)) := by rw [iv]; exact (hiF_some hc).1
      conv => whnf
      (repeat' (first | ((refine DecB.mk (fun h => ?_) (fun h => ?_)) <;> first | (exfalso; omega) | (conv => whnf)) | ((refine BoolB.mk (fun h => ?_) (fun h => ?_)) <;> first | (exact absurd h (by decide)) | (conv => whnf)) | ((first | refine ⟨_, wrap_ok (by omega) (by omega), ?_⟩ | refine and_idx (by omega) (by omega) ?_ | refine reg_ok (by decide +kernel) ?_ | refine bar_ok (by decide +kernel) (by decide +kernel) ?_ | refine late_ok rfl rfl ?_ | refine src_ok rfl ?_ | refine .inl ⟨_, _, qcall_pure (bn) rfl rfl, ?_⟩ | refine .inl ⟨_, _, qcall_pure (st) rfl rfl, ?_⟩ | refine .inl ⟨_, _, qcall_pure (toC) rfl rfl, ?_⟩ | refine .inl ⟨_, _, qcall_pure (toC) rfl rfl, ?_⟩ | refine ex_row gk ?_ | refine app_ok (by simp [toC]) (by simp [toC]; omega) ?_ | refine .inr ⟨_, _, a_pushF (id := 5) hfv rfl rfl l5 r5 (by decide) b5 _ _, ?_⟩ | refine LitB.data ?_ | refine BoxB.own ?_); conv => whnf)))
      all_goals try (exfalso; omega)
      all_goals try (rw [hci] at h; exact absurd h (by decide))
      refine awp_for tab_ok (fun j => ([J, J, J, J, S.c (C.ptr 0 0 0), J, S.c (C.ptr 1 0 0), S.c (C.ptr 2 0 0), S.c (C.fn (Fn.func rowFn) [C.ptr 2 0 0]), intS .i64 k, S.c (C.ptr 4 0 0), J, J, J, J, J, J, J, J, J, J, J, J, J, J, J, J, J, J, J, J, J, J, J, S.c (C.t (knownT t kind)), intS .i64 t.ev.moves.length, intS .i64 k, J, J, J, J, J, J, J, J, J, J, J, J, J, J, J, J, J, J, J, J, J, J, J, J, S.c (C.t (intsT (gramsOf t.finds kind k))), intS .i64 (gramsOf t.finds kind k).length, intS .i64 j, J, J, J, J, J, J, J, J, J, J, J, J, J, J, J, J, J, J, J, J], [sysZB, evB t.ev, sysB t.ev.moves.length 3 (G j).length, rowsB (G j), aboutB t kind k])) (gramsOf t.finds kind k).length (fun _ => True) [some 0, some 1, some 2, some 6, some 4] trivial ⟨rfl, rfl, ⟨⟨rfl, rfl, rfl, .inr ⟨⟨rfl, rfl, trivial⟩, trivial⟩⟩, ⟨rfl, rfl, rfl, .inl ⟨rfl, rowsT_ev _⟩⟩, ⟨rfl, rfl, rfl, .inr ⟨⟨rfl, ⟨rfl, rfl, ?_, fun h => h⟩, trivial⟩, trivial⟩⟩, entB_rows rfl rfl rfl ?_ rfl, ⟨rfl, rfl, rfl, .inr (entR_data [aboutAt t kind k])⟩, trivial⟩, ⟨⟨rfl, rfl, rfl⟩, ⟨rfl, rfl, rfl⟩, ⟨rfl, rfl, rfl⟩, ⟨rfl, ⟨rfl, rfl, rfl⟩, trivial⟩, rfl, ⟨rfl, rfl, rfl⟩, rfl, rfl, rfl, rfl, ent_i (by simp), rfl, trivial⟩⟩ ?_
      · simp [hG0, eR, toC]
      · rw [hG0, eR] <;> rfl
      intro j hj _
      have hGl : (G j).length ≤ 1000000 := by rw [hG]; simp [List.length_append]; omega
      by_cases hjt : j < (gramsOf t.finds kind k).length
      · obtain ⟨g, hg⟩ : ∃ g, (gramsOf t.finds kind k)[j]? = some g := ⟨_, List.getElem?_eq_getElem hjt⟩
        have gb := hgr g (List.mem_of_getElem? hg)
        have ig := z_fInt g (by omega) (by omega)
        have eG : G (j + 1) = G j ++ [oneRow k 0 (g : Rat)] := by rw [hG, hG, List.take_add_one, hg]; simp
        conv => whnf
        (repeat' (first | ((refine DecB.mk (fun h => ?_) (fun h => ?_)) <;> first | (exfalso; omega) | (conv => whnf)) | ((refine BoolB.mk (fun h => ?_) (fun h => ?_)) <;> first | (exact absurd h (by decide)) | (conv => whnf)) | ((first | refine ⟨_, wrap_ok (by omega) (by omega), ?_⟩ | refine and_idx (by omega) (by omega) ?_ | refine reg_ok (by decide +kernel) ?_ | refine bar_ok (by decide +kernel) (by decide +kernel) ?_ | refine late_ok rfl rfl ?_ | refine src_ok rfl ?_ | refine .inl ⟨_, _, qcall_pure (ig) rfl rfl, ?_⟩ | refine ex_row hg ?_ | refine .inr ⟨_, _, a_pushF (id := 3) rfl rfl rfl rfl rfl (by decide) hGl _ _, ?_⟩ | refine LitB.data ?_ | refine BoxB.own ?_); conv => whnf)))
        all_goals try (exfalso; omega)
        refine ⟨hjt, trivial, [some 0, some 1, some 2, some 5, some 4], rfl, rfl, ⟨⟨rfl, rfl, rfl, .inr ⟨⟨rfl, rfl, trivial⟩, trivial⟩⟩, ⟨rfl, rfl, rfl, .inl ⟨rfl, rowsT_ev _⟩⟩, ⟨rfl, rfl, rfl, .inr ⟨⟨rfl, ⟨rfl, rfl, ?_, fun h => h⟩, trivial⟩, trivial⟩⟩, entB_rows rfl rfl rfl ?_ rfl, ⟨rfl, rfl, rfl, .inr (entR_data [aboutAt t kind k])⟩, trivial⟩, ⟨⟨rfl, rfl, rfl⟩, ⟨rfl, rfl, rfl⟩, ⟨rfl, rfl, rfl⟩, ⟨rfl, ⟨rfl, rfl, rfl⟩, trivial⟩, rfl, ⟨rfl, rfl, rfl⟩, rfl, rfl, rfl, rfl, rfl, rfl, trivial⟩⟩
        · rw [eG]; simp
        · rw [eG]
      have hje : j = (gramsOf t.finds kind k).length := by omega
      subst hje
      have hGe : G (gramsOf t.finds kind k).length = R1 ++ (gramsOf t.finds kind k).map (fun g : Int => oneRow k 0 (g : Rat)) := by rw [hG, List.take_of_length_le (Nat.le_refl _)]
      conv => whnf
      (repeat' (first | ((refine DecB.mk (fun h => ?_) (fun h => ?_)) <;> first | (exfalso; omega) | (conv => whnf)) | ((refine BoolB.mk (fun h => ?_) (fun h => ?_)) <;> first | (exact absurd h (by decide)) | (conv => whnf)) | ((first | refine ⟨_, wrap_ok (by omega) (by omega), ?_⟩ | refine and_idx (by omega) (by omega) ?_ | refine reg_ok (by decide +kernel) ?_ | refine bar_ok (by decide +kernel) (by decide +kernel) ?_ | refine late_ok rfl rfl ?_ | refine src_ok rfl ?_ | refine LitB.data ?_ | refine BoxB.own ?_); conv => whnf)))
      all_goals try (exfalso; omega)
      refine awp_for tab_ok (fun j => ([J, J, J, J, S.c (C.ptr 0 0 0), J, S.c (C.ptr 1 0 0), S.c (C.ptr 2 0 0), S.c (C.fn (Fn.func rowFn) [C.ptr 2 0 0]), intS .i64 k, J, J, J, J, J, J, J, J, J, J, J, J, J, J, J, J, J, J, J, J, J, J, J, J, S.c (C.t (knownT t kind)), intS .i64 t.ev.moves.length, intS .i64 k, J, J, J, J, J, J, J, J, J, J, J, J, J, J, J, J, J, J, J, J, J, J, J, J, J, J, J, J, J, J, J, J, J, J, J, J, J, intS .i64 (cleansOf t.cleans kind k), intS .i64 j, J, J, J, J, J, J, J, J], [sysZB, evB t.ev, sysB t.ev.moves.length 3 (K j).length, rowsB (K j)])) (cleansOf t.cleans kind k) (fun _ => True) [some 0, some 1, some 2, some 3] trivial ⟨rfl, rfl, ⟨⟨rfl, rfl, rfl, .inr ⟨⟨rfl, rfl, trivial⟩, trivial⟩⟩, ⟨rfl, rfl, rfl, .inl ⟨rfl, rowsT_ev _⟩⟩, ⟨rfl, rfl, rfl, .inr ⟨⟨rfl, ⟨rfl, rfl, ?_, fun h => h⟩, trivial⟩, trivial⟩⟩, entB_rows rfl rfl rfl ?_ rfl, trivial⟩, ⟨⟨rfl, rfl, rfl⟩, ⟨rfl, rfl, rfl⟩, ⟨rfl, rfl, rfl⟩, ⟨rfl, ⟨rfl, rfl, rfl⟩, trivial⟩, rfl, rfl, rfl, rfl, rfl, rfl, trivial⟩⟩ ?_
      · rw [hK0, hGe]
      · rw [hK0, hGe]
      clear hj hjt
      intro j hj _
      have hKl : (K j).length ≤ 1000000 := by rw [hK]; simp [List.length_append]; omega
      by_cases hjt : j < cleansOf t.cleans kind k
      · have eK : K (j + 1) = K j ++ [oneRow k 2 ((0 : Int) : Rat)] := by rw [hK, hK, List.replicate_succ']; simp
        conv => whnf
        (repeat' (first | ((refine DecB.mk (fun h => ?_) (fun h => ?_)) <;> first | (exfalso; omega) | (conv => whnf)) | ((refine BoolB.mk (fun h => ?_) (fun h => ?_)) <;> first | (exact absurd h (by decide)) | (conv => whnf)) | ((first | refine ⟨_, wrap_ok (by omega) (by omega), ?_⟩ | refine and_idx (by omega) (by omega) ?_ | refine reg_ok (by decide +kernel) ?_ | refine bar_ok (by decide +kernel) (by decide +kernel) ?_ | refine late_ok rfl rfl ?_ | refine src_ok rfl ?_ | refine .inl ⟨_, _, qcall_pure (i0) rfl rfl, ?_⟩ | refine .inr ⟨_, _, a_pushF (id := 3) rfl rfl rfl rfl rfl (by decide) hKl _ _, ?_⟩ | refine LitB.data ?_ | refine BoxB.own ?_); conv => whnf)))
        all_goals try (exfalso; omega)
        refine ⟨hjt, trivial, [some 0, some 1, some 2, some 4], rfl, rfl, ⟨⟨rfl, rfl, rfl, .inr ⟨⟨rfl, rfl, trivial⟩, trivial⟩⟩, ⟨rfl, rfl, rfl, .inl ⟨rfl, rowsT_ev _⟩⟩, ⟨rfl, rfl, rfl, .inr ⟨⟨rfl, ⟨rfl, rfl, ?_, fun h => h⟩, trivial⟩, trivial⟩⟩, entB_rows rfl rfl rfl ?_ rfl, trivial⟩, ⟨⟨rfl, rfl, rfl⟩, ⟨rfl, rfl, rfl⟩, ⟨rfl, rfl, rfl⟩, ⟨rfl, ⟨rfl, rfl, rfl⟩, trivial⟩, rfl, rfl, rfl, rfl, rfl, rfl, trivial⟩⟩
        · rw [eK]; simp
        · rw [eK]
      have hje : j = cleansOf t.cleans kind k := by omega
      subst hje
      conv => whnf
      (repeat' (first | ((refine DecB.mk (fun h => ?_) (fun h => ?_)) <;> first | (exfalso; omega) | (conv => whnf)) | ((refine BoolB.mk (fun h => ?_) (fun h => ?_)) <;> first | (exact absurd h (by decide)) | (conv => whnf)) | ((first | refine ⟨_, wrap_ok (by omega) (by omega), ?_⟩ | refine and_idx (by omega) (by omega) ?_ | refine reg_ok (by decide +kernel) ?_ | refine bar_ok (by decide +kernel) (by decide +kernel) ?_ | refine late_ok rfl rfl ?_ | refine src_ok rfl ?_ | refine LitB.data ?_ | refine BoxB.own ?_); conv => whnf)))
      all_goals try (exfalso; omega)
      exact ⟨hlt, trivial, [some 0, some 1, some 2, some 3], rfl, rfl, ⟨⟨rfl, rfl, rfl, .inr ⟨⟨rfl, rfl, trivial⟩, trivial⟩⟩, ⟨rfl, rfl, rfl, .inl ⟨rfl, rowsT_ev _⟩⟩, ⟨rfl, rfl, rfl, .inr ⟨⟨rfl, ⟨rfl, rfl, hKs.2, fun h => h⟩, trivial⟩, trivial⟩⟩, entB_rows rfl rfl rfl hKs.1 rfl, trivial⟩, ⟨⟨rfl, rfl, rfl⟩, ⟨rfl, rfl, rfl⟩, ⟨rfl, rfl, rfl⟩, ⟨rfl, ⟨rfl, rfl, rfl⟩, trivial⟩, rfl, rfl, rfl, trivial⟩⟩
    · have hci : (ivAt t.ev k).isSome = true := by rw [iv]; exact hc
      rw [hc] at hcr
      have hcr : capRows (ivOf t.ev x) k = [oneRow k 1 (hiR (ivOf t.ev x))] := hcr
      have eR : R1 = sysRows t kind k ++ [oneRow k 1 (hiR (ivOf t.ev x))] := by rw [hR1, hcr]; simp only [decide_eq_false_iff_not, decide_eq_true_eq] at hb; simp [hb, List.append_assoc]
      have hRl : R1.length ≤ 14500 := by rw [eR]; (try simp); omega
      have hfv : hiF (ivAt t.ev k) = fz (hiR (ivOf t.ev x)) := by rw [iv]; exact (hiF_some hc).1
      conv => whnf
      (repeat' (first | ((refine DecB.mk (fun h => ?_) (fun h => ?_)) <;> first | (exfalso; omega) | (conv => whnf)) | ((refine BoolB.mk (fun h => ?_) (fun h => ?_)) <;> first | (exact absurd h (by decide)) | (conv => whnf)) | ((first | refine ⟨_, wrap_ok (by omega) (by omega), ?_⟩ | refine and_idx (by omega) (by omega) ?_ | refine reg_ok (by decide +kernel) ?_ | refine bar_ok (by decide +kernel) (by decide +kernel) ?_ | refine late_ok rfl rfl ?_ | refine src_ok rfl ?_ | refine .inl ⟨_, _, qcall_pure (bn) rfl rfl, ?_⟩ | refine .inl ⟨_, _, qcall_pure (st) rfl rfl, ?_⟩ | refine .inl ⟨_, _, qcall_pure (toC) rfl rfl, ?_⟩ | refine .inl ⟨_, _, qcall_pure (toC) rfl rfl, ?_⟩ | refine ex_row gk ?_ | refine app_ok (by simp [toC]) (by simp [toC]; omega) ?_ | refine .inr ⟨_, _, a_pushF (id := 3) hfv rfl rfl rfl rfl (by decide) b3 _ _, ?_⟩ | refine LitB.data ?_ | refine BoxB.own ?_); conv => whnf)))
      all_goals try (exfalso; omega)
      all_goals try (rw [hci] at h; exact absurd h (by decide))
      refine awp_for tab_ok (fun j => ([J, J, J, J, S.c (C.ptr 0 0 0), J, S.c (C.ptr 1 0 0), S.c (C.ptr 2 0 0), S.c (C.fn (Fn.func rowFn) [C.ptr 2 0 0]), intS .i64 k, S.c (C.ptr 4 0 0), J, J, J, J, J, J, J, J, J, J, J, J, J, J, J, J, J, J, J, J, J, J, J, S.c (C.t (knownT t kind)), intS .i64 t.ev.moves.length, intS .i64 k, J, J, J, J, J, J, J, J, J, J, J, J, J, J, J, J, J, J, J, J, J, J, J, J, S.c (C.t (intsT (gramsOf t.finds kind k))), intS .i64 (gramsOf t.finds kind k).length, intS .i64 j, J, J, J, J, J, J, J, J, J, J, J, J, J, J, J, J, J, J, J, J], [sysZB, evB t.ev, sysB t.ev.moves.length 3 (G j).length, rowsB (G j), aboutB t kind k])) (gramsOf t.finds kind k).length (fun _ => True) [some 0, some 1, some 2, some 5, some 4] trivial ⟨rfl, rfl, ⟨⟨rfl, rfl, rfl, .inr ⟨⟨rfl, rfl, trivial⟩, trivial⟩⟩, ⟨rfl, rfl, rfl, .inl ⟨rfl, rowsT_ev _⟩⟩, ⟨rfl, rfl, rfl, .inr ⟨⟨rfl, ⟨rfl, rfl, ?_, fun h => h⟩, trivial⟩, trivial⟩⟩, entB_rows rfl rfl rfl ?_ rfl, ⟨rfl, rfl, rfl, .inr (entR_data [aboutAt t kind k])⟩, trivial⟩, ⟨⟨rfl, rfl, rfl⟩, ⟨rfl, rfl, rfl⟩, ⟨rfl, rfl, rfl⟩, ⟨rfl, ⟨rfl, rfl, rfl⟩, trivial⟩, rfl, ⟨rfl, rfl, rfl⟩, rfl, rfl, rfl, rfl, ent_i (by simp), rfl, trivial⟩⟩ ?_
      · simp [hG0, eR, toC]
      · rw [hG0, eR] <;> rfl
      intro j hj _
      have hGl : (G j).length ≤ 1000000 := by rw [hG]; simp [List.length_append]; omega
      by_cases hjt : j < (gramsOf t.finds kind k).length
      · obtain ⟨g, hg⟩ : ∃ g, (gramsOf t.finds kind k)[j]? = some g := ⟨_, List.getElem?_eq_getElem hjt⟩
        have gb := hgr g (List.mem_of_getElem? hg)
        have ig := z_fInt g (by omega) (by omega)
        have eG : G (j + 1) = G j ++ [oneRow k 0 (g : Rat)] := by rw [hG, hG, List.take_add_one, hg]; simp
        conv => whnf
        (repeat' (first | ((refine DecB.mk (fun h => ?_) (fun h => ?_)) <;> first | (exfalso; omega) | (conv => whnf)) | ((refine BoolB.mk (fun h => ?_) (fun h => ?_)) <;> first | (exact absurd h (by decide)) | (conv => whnf)) | ((first | refine ⟨_, wrap_ok (by omega) (by omega), ?_⟩ | refine and_idx (by omega) (by omega) ?_ | refine reg_ok (by decide +kernel) ?_ | refine bar_ok (by decide +kernel) (by decide +kernel) ?_ | refine late_ok rfl rfl ?_ | refine src_ok rfl ?_ | refine .inl ⟨_, _, qcall_pure (ig) rfl rfl, ?_⟩ | refine ex_row hg ?_ | refine .inr ⟨_, _, a_pushF (id := 3) rfl rfl rfl rfl rfl (by decide) hGl _ _, ?_⟩ | refine LitB.data ?_ | refine BoxB.own ?_); conv => whnf)))
        all_goals try (exfalso; omega)
        refine ⟨hjt, trivial, [some 0, some 1, some 2, some 5, some 4], rfl, rfl, ⟨⟨rfl, rfl, rfl, .inr ⟨⟨rfl, rfl, trivial⟩, trivial⟩⟩, ⟨rfl, rfl, rfl, .inl ⟨rfl, rowsT_ev _⟩⟩, ⟨rfl, rfl, rfl, .inr ⟨⟨rfl, ⟨rfl, rfl, ?_, fun h => h⟩, trivial⟩, trivial⟩⟩, entB_rows rfl rfl rfl ?_ rfl, ⟨rfl, rfl, rfl, .inr (entR_data [aboutAt t kind k])⟩, trivial⟩, ⟨⟨rfl, rfl, rfl⟩, ⟨rfl, rfl, rfl⟩, ⟨rfl, rfl, rfl⟩, ⟨rfl, ⟨rfl, rfl, rfl⟩, trivial⟩, rfl, ⟨rfl, rfl, rfl⟩, rfl, rfl, rfl, rfl, rfl, rfl, trivial⟩⟩
        · rw [eG]; simp
        · rw [eG]
      have hje : j = (gramsOf t.finds kind k).length := by omega
      subst hje
      have hGe : G (gramsOf t.finds kind k).length = R1 ++ (gramsOf t.finds kind k).map (fun g : Int => oneRow k 0 (g : Rat)) := by rw [hG, List.take_of_length_le (Nat.le_refl _)]
      conv => whnf
      (repeat' (first | ((refine DecB.mk (fun h => ?_) (fun h => ?_)) <;> first | (exfalso; omega) | (conv => whnf)) | ((refine BoolB.mk (fun h => ?_) (fun h => ?_)) <;> first | (exact absurd h (by decide)) | (conv => whnf)) | ((first | refine ⟨_, wrap_ok (by omega) (by omega), ?_⟩ | refine and_idx (by omega) (by omega) ?_ | refine reg_ok (by decide +kernel) ?_ | refine bar_ok (by decide +kernel) (by decide +kernel) ?_ | refine late_ok rfl rfl ?_ | refine src_ok rfl ?_ | refine LitB.data ?_ | refine BoxB.own ?_); conv => whnf)))
      all_goals try (exfalso; omega)
      refine awp_for tab_ok (fun j => ([J, J, J, J, S.c (C.ptr 0 0 0), J, S.c (C.ptr 1 0 0), S.c (C.ptr 2 0 0), S.c (C.fn (Fn.func rowFn) [C.ptr 2 0 0]), intS .i64 k, J, J, J, J, J, J, J, J, J, J, J, J, J, J, J, J, J, J, J, J, J, J, J, J, S.c (C.t (knownT t kind)), intS .i64 t.ev.moves.length, intS .i64 k, J, J, J, J, J, J, J, J, J, J, J, J, J, J, J, J, J, J, J, J, J, J, J, J, J, J, J, J, J, J, J, J, J, J, J, J, J, intS .i64 (cleansOf t.cleans kind k), intS .i64 j, J, J, J, J, J, J, J, J], [sysZB, evB t.ev, sysB t.ev.moves.length 3 (K j).length, rowsB (K j)])) (cleansOf t.cleans kind k) (fun _ => True) [some 0, some 1, some 2, some 3] trivial ⟨rfl, rfl, ⟨⟨rfl, rfl, rfl, .inr ⟨⟨rfl, rfl, trivial⟩, trivial⟩⟩, ⟨rfl, rfl, rfl, .inl ⟨rfl, rowsT_ev _⟩⟩, ⟨rfl, rfl, rfl, .inr ⟨⟨rfl, ⟨rfl, rfl, ?_, fun h => h⟩, trivial⟩, trivial⟩⟩, entB_rows rfl rfl rfl ?_ rfl, trivial⟩, ⟨⟨rfl, rfl, rfl⟩, ⟨rfl, rfl, rfl⟩, ⟨rfl, rfl, rfl⟩, ⟨rfl, ⟨rfl, rfl, rfl⟩, trivial⟩, rfl, rfl, rfl, rfl, rfl, rfl, trivial⟩⟩ ?_
      · rw [hK0, hGe]
      · rw [hK0, hGe]
      clear hj hjt
      intro j hj _
      have hKl : (K j).length ≤ 1000000 := by rw [hK]; simp [List.length_append]; omega
      by_cases hjt : j < cleansOf t.cleans kind k
      · have eK : K (j + 1) = K j ++ [oneRow k 2 ((0 : Int) : Rat)] := by rw [hK, hK, List.replicate_succ']; simp
        conv => whnf
        (repeat' (first | ((refine DecB.mk (fun h => ?_) (fun h => ?_)) <;> first | (exfalso; omega) | (conv => whnf)) | ((refine BoolB.mk (fun h => ?_) (fun h => ?_)) <;> first | (exact absurd h (by decide)) | (conv => whnf)) | ((first | refine ⟨_, wrap_ok (by omega) (by omega), ?_⟩ | refine and_idx (by omega) (by omega) ?_ | refine reg_ok (by decide +kernel) ?_ | refine bar_ok (by decide +kernel) (by decide +kernel) ?_ | refine late_ok rfl rfl ?_ | refine src_ok rfl ?_ | refine .inl ⟨_, _, qcall_pure (i0) rfl rfl, ?_⟩ | refine .inr ⟨_, _, a_pushF (id := 3) rfl rfl rfl rfl rfl (by decide) hKl _ _, ?_⟩ | refine LitB.data ?_ | refine BoxB.own ?_); conv => whnf)))
        all_goals try (exfalso; omega)
        refine ⟨hjt, trivial, [some 0, some 1, some 2, some 4], rfl, rfl, ⟨⟨rfl, rfl, rfl, .inr ⟨⟨rfl, rfl, trivial⟩, trivial⟩⟩, ⟨rfl, rfl, rfl, .inl ⟨rfl, rowsT_ev _⟩⟩, ⟨rfl, rfl, rfl, .inr ⟨⟨rfl, ⟨rfl, rfl, ?_, fun h => h⟩, trivial⟩, trivial⟩⟩, entB_rows rfl rfl rfl ?_ rfl, trivial⟩, ⟨⟨rfl, rfl, rfl⟩, ⟨rfl, rfl, rfl⟩, ⟨rfl, rfl, rfl⟩, ⟨rfl, ⟨rfl, rfl, rfl⟩, trivial⟩, rfl, rfl, rfl, rfl, rfl, rfl, trivial⟩⟩
        · rw [eK]; simp
        · rw [eK]
      have hje : j = cleansOf t.cleans kind k := by omega
      subst hje
      conv => whnf
      (repeat' (first | ((refine DecB.mk (fun h => ?_) (fun h => ?_)) <;> first | (exfalso; omega) | (conv => whnf)) | ((refine BoolB.mk (fun h => ?_) (fun h => ?_)) <;> first | (exact absurd h (by decide)) | (conv => whnf)) | ((first | refine ⟨_, wrap_ok (by omega) (by omega), ?_⟩ | refine and_idx (by omega) (by omega) ?_ | refine reg_ok (by decide +kernel) ?_ | refine bar_ok (by decide +kernel) (by decide +kernel) ?_ | refine late_ok rfl rfl ?_ | refine src_ok rfl ?_ | refine LitB.data ?_ | refine BoxB.own ?_); conv => whnf)))
      all_goals try (exfalso; omega)
      exact ⟨hlt, trivial, [some 0, some 1, some 2, some 3], rfl, rfl, ⟨⟨rfl, rfl, rfl, .inr ⟨⟨rfl, rfl, trivial⟩, trivial⟩⟩, ⟨rfl, rfl, rfl, .inl ⟨rfl, rowsT_ev _⟩⟩, ⟨rfl, rfl, rfl, .inr ⟨⟨rfl, ⟨rfl, rfl, hKs.2, fun h => h⟩, trivial⟩, trivial⟩⟩, entB_rows rfl rfl rfl hKs.1 rfl, trivial⟩, ⟨⟨rfl, rfl, rfl⟩, ⟨rfl, rfl, rfl⟩, ⟨rfl, rfl, rfl⟩, ⟨rfl, ⟨rfl, rfl, rfl⟩, trivial⟩, rfl, rfl, rfl, trivial⟩⟩
  · have hke : k = t.ev.moves.length := by omega
    subst hke
    conv => whnf
    (repeat' (first | ((refine DecB.mk (fun h => ?_) (fun h => ?_)) <;> first | (exfalso; omega) | (conv => whnf)) | ((refine BoolB.mk (fun h => ?_) (fun h => ?_)) <;> first | (exact absurd h (by decide)) | (conv => whnf)) | ((first | refine ⟨_, wrap_ok (by omega) (by omega), ?_⟩ | refine and_idx (by omega) (by omega) ?_ | refine reg_ok (by decide +kernel) ?_ | refine bar_ok (by decide +kernel) (by decide +kernel) ?_ | refine late_ok rfl rfl ?_ | refine src_ok rfl ?_ | refine LitB.data ?_ | refine BoxB.own ?_); conv => whnf)))
    all_goals try (exfalso; omega)
    refine fin_t ⟨⟨rfl, show VC _ (fun id => notIn [] id = true) _ _ from vc_all rfl rfl (by intro h; cases h) rfl rfl (by rw [List.length_map]; rfl), trivial⟩, rfl, trivial⟩
end Go.Proofs.YtomfnfbijgjfeaaGreat
/- history: Mass. -/
namespace Go.Proofs.YtomfnfbijgjfeaaGreat
open Go.RowKit
set_option linter.unusedVariables false
set_option linter.unusedSimpArgs false
set_option maxRecDepth 100000

structure Pick where
  mv : Int
  mat : Int
def Pick.row (p : Pick) : List T := [ti p.mv, ti p.mat]
end Go.Proofs.YtomfnfbijgjfeaaGreat
/- Reference of big: trim, made, digit, Right, Of. -/
namespace Go.Proofs.YtomfnfbijgjfeaaGreat
open Go.RowKit
set_option linter.unusedVariables false
set_option linter.unusedSimpArgs false
set_option maxRecDepth 100000

theorem r_trim (l : List Int) (hl : l.length ≤ 1000000) : ACall Tryz.prog 120 [intsS l] [] (intsS (trimL l)) [] := by
  have l2 : (l.map intRow).length = l.length := by simp
  (refine acall_of tab_ok Tryz.func120 rfl (by decide) ?_; (conv => whnf); repeat (first | (refine LitB.data ?_; conv => whnf) | (refine BoxB.own ?_; conv => whnf)))
  (repeat' (first | ((refine DecB.mk (fun h => ?_) (fun h => ?_)) <;> first | (exfalso; omega) | (conv => whnf)) | ((refine BoolB.mk (fun h => ?_) (fun h => ?_)) <;> first | (exact absurd h (by decide)) | (conv => whnf)) | ((first | refine ⟨_, wrap_ok (by omega) (by omega), ?_⟩ | refine and_idx (by omega) (by omega) ?_ | refine reg_ok (by decide +kernel) ?_ | refine bar_ok (by decide +kernel) (by decide +kernel) ?_ | refine late_ok rfl rfl ?_ | refine src_ok rfl ?_ | refine LitB.data ?_ | refine BoxB.own ?_); conv => whnf)))
  refine awp_while tab_ok (σ := Nat) (fun n => ([intsS l, J, J, intS .i64 n, J, J, J, J, J, J, J, J, J, J, J, J, J, J, J, J, J, J, J], [])) (fun n => n ≤ l.length ∧ ∀ j x, n ≤ j → l[j]? = some x → x = 0) (fun n => n) l.length []
    ⟨Nat.le_refl _, fun j x hj hx => by rw [List.getElem?_eq_none hj] at hx; cases hx⟩ ⟨rfl, rfl, trivial, ⟨ent_t rfl, ent_i (by simp), trivial⟩⟩ ?_
  rintro n ⟨hn, hz⟩
  have hn : n ≤ l.length := hn
  conv => whnf
  (repeat' (first | ((refine DecB.mk (fun h => ?_) (fun h => ?_)) <;> first | (exfalso; omega) | (conv => whnf)) | ((refine BoolB.mk (fun h => ?_) (fun h => ?_)) <;> first | (exact absurd h (by decide)) | (conv => whnf)) | ((first | refine ⟨_, wrap_ok (by omega) (by omega), ?_⟩ | refine and_idx (by omega) (by omega) ?_ | refine reg_ok (by decide +kernel) ?_ | refine bar_ok (by decide +kernel) (by decide +kernel) ?_ | refine late_ok rfl rfl ?_ | refine src_ok rfl ?_ | refine .inl ⟨_, _, qcall_pure (toC) rfl rfl, ?_⟩ | refine .inl ⟨_, _, qcall_pure (toC) rfl rfl, ?_⟩ | refine LitB.own ?_ | refine ex_rowI (by omega) (get_pred (by omega) hn) ?_ | refine sl_ok (by omega) (by omega) (by omega) ?_ | refine app_ok (by simp [toC]) (by simp [toC]; omega) ?_ | refine LitB.data ?_ | refine BoxB.own ?_); conv => whnf)))
  · have h0 : dat l (n - 1) = 0 := by assumption
    have h1 : 0 < n := by omega
    refine ⟨[], n - 1, ⟨rfl, rfl, trivial, ⟨rfl, ent_i (by omega), trivial⟩⟩, ⟨by omega, fun j x hj hxj => ?_⟩, by show n - 1 < n; omega⟩
    by_cases hj2 : j = n - 1
    · subst hj2; rw [get_dat (by omega)] at hxj; injection hxj with hx; rw [← hx]; exact h0
    · exact hz j x (by omega) hxj
  all_goals
    have e : l.take n = trimL l := trimL_take hz (fun x h0 hx => by
      first
        | (exfalso; omega)
        | (rw [get_dat (by omega)] at hx; injection hx with hx; rw [← hx]; assumption)) hn
    rw [← e]
    refine fin_own rfl (by intro h; cases h) rfl ?_ ?_
    · simp [toC, newBlk, List.map_take]
    · simp [toC]
theorem r_made (s : Int) (l : List Int) (hl : l.length ≤ 1000000) : ACall Tryz.prog 100 [intS .i64 s, intsS l] [] (bgS (sgn s l)) [] := by
  (refine acall_of tab_ok Tryz.func100 rfl (by decide) ?_; (conv => whnf); repeat (first | (refine LitB.data ?_; conv => whnf) | (refine BoxB.own ?_; conv => whnf)))
  (repeat' (first | ((refine DecB.mk (fun h => ?_) (fun h => ?_)) <;> first | (exfalso; omega) | (conv => whnf)) | ((refine BoolB.mk (fun h => ?_) (fun h => ?_)) <;> first | (exact absurd h (by decide)) | (conv => whnf)) | ((first | refine ⟨_, wrap_ok (by omega) (by omega), ?_⟩ | refine and_idx (by omega) (by omega) ?_ | refine reg_ok (by decide +kernel) ?_ | refine bar_ok (by decide +kernel) (by decide +kernel) ?_ | refine late_ok rfl rfl ?_ | refine src_ok rfl ?_ | refine .inl ⟨_, _, qcall_pure (r_trim l hl) rfl rfl, ?_⟩ | refine LitB.data ?_ | refine BoxB.own ?_); conv => whnf)))
  · have h0 : (trimL l).length = 0 := by simp at *; assumption
    unfold sgn
    rw [if_pos h0]
    exact fin_t ⟨rfl, rfl, trivial⟩
  · have h0 : ¬ (trimL l).length = 0 := by simp at *; assumption
    unfold sgn
    rw [if_neg h0]
    exact fin_t ⟨rfl, rfl, trivial⟩
theorem r_madeD (s : Int) (k : Nat) (h : s = 1 ∨ s = -1 ∨ k = 0) (lk : (dg k).length ≤ 700000) :
    ACall Tryz.prog 100 [intS .i64 s, intsS (dg k)] [] (bgS (bz (s * k))) [] := by
  have e := r_made s (dg k) (by omega)
  rw [sgn_bz (okd_dg k) (by rw [val_dg]; omega), val_dg] at e
  exact e
theorem r_digit (l : List Int) (i : Nat) (hl : l.length ≤ 1000000) : ACall Tryz.prog 122 [intsS l, intS .i64 i] [] (intS .i64 (dat l i)) [] := by
  have l2 : (l.map intRow).length = l.length := by simp
  (refine acall_of tab_ok Tryz.func122 rfl (by decide) ?_; (conv => whnf); repeat (first | (refine LitB.data ?_; conv => whnf) | (refine BoxB.own ?_; conv => whnf)))
  (repeat' (first | ((refine DecB.mk (fun h => ?_) (fun h => ?_)) <;> first | (exfalso; omega) | (conv => whnf)) | ((refine BoolB.mk (fun h => ?_) (fun h => ?_)) <;> first | (exact absurd h (by decide)) | (conv => whnf)) | ((first | refine ⟨_, wrap_ok (by omega) (by omega), ?_⟩ | refine and_idx (by omega) (by omega) ?_ | refine reg_ok (by decide +kernel) ?_ | refine bar_ok (by decide +kernel) (by decide +kernel) ?_ | refine late_ok rfl rfl ?_ | refine src_ok rfl ?_ | refine ex_row (get_dat (by omega)) ?_ | refine LitB.data ?_ | refine BoxB.own ?_); conv => whnf)))
  all_goals first
    | exact fin_int rfl
    | exact fin_int (dat_none (by omega)).symm
end Go.Proofs.YtomfnfbijgjfeaaGreat
/- Digits, for the reference of big: less, minus, times, over. No program is in sight. -/
namespace Go.Proofs.YtomfnfbijgjfeaaGreat
set_option linter.unusedVariables false
set_option linter.unusedSimpArgs false

theorem drop_dat' (l : List Int) (i : Nat) : val (l.drop i) = dat l i + 1048576 * val (l.drop (i + 1)) := by
  by_cases h : i < l.length
  · exact drop_dat h
  · rw [List.drop_of_length_le (by omega), List.drop_of_length_le (by omega), dat_none (by omega)]; rfl
theorem val_split' (l : List Int) (i : Nat) : val l = val (l.take i) + pw i * val (l.drop i) := by
  by_cases h : i ≤ l.length
  · exact val_split l i h
  · rw [List.drop_of_length_le (by omega), List.take_of_length_le (by omega)]; simp [val]
theorem val_take_rng {l : List Int} (h : Okd l) (i : Nat) : 0 ≤ val (l.take i) ∧ val (l.take i) < pw i := by
  refine ⟨val_nonneg (h.take i), ?_⟩
  have h1 := val_lt (h.take i)
  have h2 := pw_mono (i := (l.take i).length) (j := i) (by simp; omega)
  omega
theorem less_top {a b : List Int} (ha : Okd a) (hb : Okd b) {i : Nat} (h : val (a.drop (i + 1)) = val (b.drop (i + 1))) (hd : dat a i < dat b i) : val a < val b := by
  rw [val_split' a i, val_split' b i, drop_dat' a i, drop_dat' b i, h]
  have h1 := val_take_rng ha i
  have h2 := val_take_rng hb i
  have hp := pw_pos i
  have h3 := Int.mul_le_mul_of_nonneg_left (a := dat a i + 1048576 * val (b.drop (i + 1)) + 1) (b := dat b i + 1048576 * val (b.drop (i + 1))) (c := pw i) (by omega) (by omega)
  rw [Int.mul_add _ _ (1 : Int)] at h3
  omega
theorem drop_zero_val (l : List Int) : val (l.drop 0) = val l := by rw [List.drop_zero]
/-- the difference, digit by digit, appended -/
structure MinI (a b : List Int) (i : Nat) (out : List Int) (c : Int) : Prop where
  len : out.length = i
  ok : Okd out
  le : i ≤ a.length
  c0 : 0 ≤ c
  c1 : c ≤ 1
  eq : val out - pw i * c = val (a.take i) - val (b.take i)
theorem MinI.init (a b : List Int) : MinI a b 0 [] 0 := ⟨rfl, .nil, Nat.zero_le _, by decide, by decide, by simp [val]⟩
theorem MinI.step {a b out : List Int} {i : Nat} {c n c' : Int} (h : MinI a b i out c) (ha : Okd a) (hb : Okd b) (hi : i < a.length) (hn : n = dat a i - dat b i - c + 1048576 * c') (h0 : 0 ≤ n ∧ n < 1048576) (hc : 0 ≤ c' ∧ c' ≤ 1) :
    MinI a b (i + 1) (out ++ [n]) c' := by
  refine ⟨by simp [h.len], h.ok.append (Okd.cons h0 .nil), hi, hc.1, hc.2, ?_⟩
  rw [val_append, h.len, val_take_dat, val_take_dat, pw_succ]
  have := h.eq
  simp only [val]
  rw [hn]
  grind
theorem MinI.fin {a b out : List Int} {c : Int} (h : MinI a b a.length out c) (ha : Okd a) (hb : Okd b) (hl : b.length ≤ a.length) (hv : val b ≤ val a) : trimL out = dg (val a - val b).toNat := by
  have h1 := h.eq
  rw [List.take_of_length_le (Nat.le_refl _), List.take_of_length_le hl] at h1
  have h2 := val_lt h.ok
  rw [h.len] at h2
  have hc : c = 0 := by
    have := h.c0
    have := h.c1
    rcases Int.lt_or_le 0 c with h3 | h3
    · have : c = 1 := by omega
      subst this
      omega
    · omega
  subst hc
  rw [trimL_dg h.ok]
  congr 2
  simp at h1
  exact h1
/-- the reference's product, its inner loop -/
structure TimK (a b : List Int) (i k : Nat) (out : List Int) (c : Int) : Prop where
  out : (MulK a b i k out c ∧ k ≤ b.length) ∨ (k = b.length + 1 ∧ c = 0 ∧ MulI a b (i + 1) out)
theorem set_dat {l : List Int} {i : Nat} : l.set i (dat l i) = l := by
  by_cases h : i < l.length
  · apply List.ext_getElem?
    intro j
    by_cases hj : i = j
    · subst hj; rw [List.getElem?_set_self h]; unfold dat; rw [List.getD_eq_getElem?_getD, List.getElem?_eq_getElem h]; rfl
    · rw [List.getElem?_set_ne hj]
  · rw [List.set_eq_of_length_le (by omega)]
theorem TimK.exit {a b out : List Int} {i k : Nat} {c : Int} (h : TimK a b i k out c) (ha : Okd a) (hb : Okd b) (hi : i < a.length) (hk : b.length ≤ k) (hc : c ≤ 0) : MulI a b (i + 1) out := by
  rcases h.out with ⟨h1, h2⟩ | ⟨h1, h2, h3⟩
  · have hk : k = b.length := by omega
    subst hk
    have hc : c = 0 := by have := h1.c0; omega
    subst hc
    have := h1.done ha hb hi
    rw [Int.add_zero, set_dat] at this
    exact this
  · exact h3
theorem over_val {r d : Nat} {x : Int} (hx : 0 ≤ x ∧ x < 1048576) : trimL (x :: dg r) = dg (r * 1048576 + x.toNat) := by
  rw [trimL_dg (Okd.cons hx (okd_dg r))]
  congr 1
  simp only [val, val_dg]
  omega
end Go.Proofs.YtomfnfbijgjfeaaGreat
/- Reference of big: less, minus, times. -/
namespace Go.Proofs.YtomfnfbijgjfeaaGreat
open Go.RowKit
set_option linter.unusedVariables false
set_option linter.unusedSimpArgs false
set_option maxRecDepth 100000

theorem r_less (a b : List Int) (ha : Okd a) (hb : Okd b) (la : a.length ≤ 1000000) (lb : b.length ≤ 1000000) : ACall Tryz.prog 102 [intsS a, intsS b] [] (boolS (decide (val a < val b))) [] := by
  have l1 : (a.map intRow).length = a.length := by simp
  have l2 : (b.map intRow).length = b.length := by simp
  (refine acall_of tab_ok Tryz.func102 rfl (by decide) ?_; (conv => whnf); repeat (first | (refine LitB.data ?_; conv => whnf) | (refine BoxB.own ?_; conv => whnf)))
  (repeat' (first | ((refine DecB.mk (fun h => ?_) (fun h => ?_)) <;> first | (exfalso; omega) | (conv => whnf)) | ((refine BoolB.mk (fun h => ?_) (fun h => ?_)) <;> first | (exact absurd h (by decide)) | (conv => whnf)) | ((first | refine ⟨_, wrap_ok (by omega) (by omega), ?_⟩ | refine and_idx (by omega) (by omega) ?_ | refine reg_ok (by decide +kernel) ?_ | refine bar_ok (by decide +kernel) (by decide +kernel) ?_ | refine late_ok rfl rfl ?_ | refine src_ok rfl ?_ | refine .inl ⟨_, _, qcall_pure (cond) rfl rfl, ?_⟩ | refine ⟨_, wrap_eq (y := ((max a.length b.length : Nat) : Int) - 1) (by simp only [cond]; split <;> omega) (by omega) (by omega), ?_⟩ | refine LitB.data ?_ | refine BoxB.own ?_); conv => whnf)))
  refine awp_while tab_ok (σ := Nat) (fun k => ([intsS a, intsS b, J, J, J, intS .i64 ((k : Int) - 1), J, J, J, J, J, J, J, J, J, J, J, J, J, J, J, J, J, J, J, J, J, J, J, J], [])) (fun k => k ≤ 1000000 ∧ val (a.drop k) = val (b.drop k)) (fun k => k) (max a.length b.length) []
    ⟨by omega, by rw [List.drop_of_length_le (by omega), List.drop_of_length_le (by omega)]⟩ ⟨rfl, rfl, trivial, ⟨ent_t rfl, ent_t rfl, rfl, trivial⟩⟩ ?_
  rintro k ⟨hk, hd⟩
  have hk : k ≤ 1000000 := hk
  have hd : val (a.drop k) = val (b.drop k) := hd
  by_cases h0 : 0 < k
  · obtain ⟨i, rfl⟩ : ∃ i, k = i + 1 := ⟨k - 1, by omega⟩
    have d1 := r_digit a i la
    have d2 := r_digit b i lb
    have ei : (((i + 1 : Nat) : Int) - 1) = i := by omega
    rw [ei]
    conv => whnf
    (repeat' (first | ((refine DecB.mk (fun h => ?_) (fun h => ?_)) <;> first | (exfalso; omega) | (conv => whnf)) | ((refine BoolB.mk (fun h => ?_) (fun h => ?_)) <;> first | (exact absurd h (by decide)) | (conv => whnf)) | ((first | refine ⟨_, wrap_ok (by omega) (by omega), ?_⟩ | refine and_idx (by omega) (by omega) ?_ | refine reg_ok (by decide +kernel) ?_ | refine bar_ok (by decide +kernel) (by decide +kernel) ?_ | refine late_ok rfl rfl ?_ | refine src_ok rfl ?_ | refine .inl ⟨_, _, qcall_pure (d1) rfl rfl, ?_⟩ | refine .inl ⟨_, _, qcall_pure (d2) rfl rfl, ?_⟩ | refine LitB.data ?_ | refine BoxB.own ?_); conv => whnf)))
    · have h := less_top ha hb hd (by assumption)
      exact fin_bool (by simp [h])
    · have h := less_top hb ha hd.symm (by omega)
      exact fin_bool (by simp; omega)
    · have he : dat a i = dat b i := by omega
      refine ⟨[], i, ⟨rfl, rfl, trivial, ⟨rfl, rfl, rfl, trivial⟩⟩, ⟨by omega, ?_⟩, by show i < i + 1; omega⟩
      rw [drop_dat' a i, drop_dat' b i, he, hd]
  · obtain rfl : k = 0 := by omega
    rw [drop_zero_val, drop_zero_val] at hd
    conv => whnf
    (repeat' (first | ((refine DecB.mk (fun h => ?_) (fun h => ?_)) <;> first | (exfalso; omega) | (conv => whnf)) | ((refine BoolB.mk (fun h => ?_) (fun h => ?_)) <;> first | (exact absurd h (by decide)) | (conv => whnf)) | ((first | refine ⟨_, wrap_ok (by omega) (by omega), ?_⟩ | refine and_idx (by omega) (by omega) ?_ | refine reg_ok (by decide +kernel) ?_ | refine bar_ok (by decide +kernel) (by decide +kernel) ?_ | refine late_ok rfl rfl ?_ | refine src_ok rfl ?_ | refine LitB.data ?_ | refine BoxB.own ?_); conv => whnf)))
    all_goals first
      | (exfalso; omega)
      | exact fin_bool (by simp; omega)
theorem r_minus (a b : List Int) (ha : Okd a) (hb : Okd b) (la : a.length ≤ 400000) (lb : b.length ≤ a.length) (hv : val b ≤ val a) :
    ACall Tryz.prog 121 [intsS a, intsS b] [] (intsS (dg (val a - val b).toNat)) [] := by
  have l1 : (a.map intRow).length = a.length := by simp
  have l2 : (b.map intRow).length = b.length := by simp
  (refine acall_of tab_ok Tryz.func121 rfl (by decide) ?_; (conv => whnf); repeat (first | (refine LitB.data ?_; conv => whnf) | (refine BoxB.own ?_; conv => whnf)))
  (repeat' (first | ((refine DecB.mk (fun h => ?_) (fun h => ?_)) <;> first | (exfalso; omega) | (conv => whnf)) | ((refine BoolB.mk (fun h => ?_) (fun h => ?_)) <;> first | (exact absurd h (by decide)) | (conv => whnf)) | ((first | refine ⟨_, wrap_ok (by omega) (by omega), ?_⟩ | refine and_idx (by omega) (by omega) ?_ | refine reg_ok (by decide +kernel) ?_ | refine bar_ok (by decide +kernel) (by decide +kernel) ?_ | refine late_ok rfl rfl ?_ | refine src_ok rfl ?_ | refine LitB.data ?_ | refine BoxB.own ?_); conv => whnf)))
  refine awp_while tab_ok (σ := Nat × List Int × Int) (fun | (k, out, c) => ([intsS a, intsS b, J, J, J, ownI 0 out, intS .i64 c, intS .i64 k, J, J, J, J, J, J, J, J, J, J, J, J, J, J, J, J, J, J, J, J, J, J, J, J, J, J, J], [intsB out])) (fun x => MinI a b x.1 x.2.1 x.2.2) (fun x => a.length - x.1) (0, [], 0) [none]
    (MinI.init a b) ⟨rfl, rfl, ⟨⟨rfl, rfl⟩, trivial⟩, ⟨ent_t rfl, ent_t rfl, ⟨rfl, rfl, rfl⟩, rfl, rfl, trivial⟩⟩ ?_
  rintro ⟨k, out, c⟩ hI
  have hI : MinI a b k out c := hI
  have hlen := hI.len
  have hle := hI.le
  have hc0 := hI.c0
  have hc1 := hI.c1
  have hda := ha.dat k
  have hdb := hb.dat k
  have d2 := r_digit b k (by omega)
  conv => whnf
  (repeat' (first | ((refine DecB.mk (fun h => ?_) (fun h => ?_)) <;> first | (exfalso; omega) | (conv => whnf)) | ((refine BoolB.mk (fun h => ?_) (fun h => ?_)) <;> first | (exact absurd h (by decide)) | (conv => whnf)) | ((first | refine ⟨_, wrap_ok (by omega) (by omega), ?_⟩ | refine and_idx (by omega) (by omega) ?_ | refine reg_ok (by decide +kernel) ?_ | refine bar_ok (by decide +kernel) (by decide +kernel) ?_ | refine late_ok rfl rfl ?_ | refine src_ok rfl ?_ | refine .inl ⟨_, _, qcall_pure (d2) rfl rfl, ?_⟩ | refine .inl ⟨_, _, qcall_pure (toC) rfl rfl, ?_⟩ | refine .inl ⟨_, _, qcall_pure (toC) rfl rfl, ?_⟩ | refine ex_row (get_dat (by omega)) ?_ | refine app_ok (by simp [toC]) (by simp [toC]; omega) ?_ | refine LitB.data ?_ | refine BoxB.own ?_); conv => whnf)))
  · have hst := hI.step ha hb (n := dat a k - dat b k - c + 1048576) (c' := 1) (by omega) (by omega) (by omega) (by omega)
    refine ⟨[some 1], (k + 1, out ++ [dat a k - dat b k - c + 1048576], 1), ⟨rfl, rfl, ⟨entB_rows rfl rfl rfl toC_app1 rfl, trivial⟩, ⟨rfl, rfl, ent_own rfl (by simp [toC]), rfl, ent_i (by omega), trivial⟩⟩, hst, ?_⟩
    show a.length - (k + 1) < a.length - k
    omega
  · have hst := hI.step ha hb (n := dat a k - dat b k - c) (c' := 0) (by omega) (by omega) (by omega) (by omega)
    refine ⟨[some 1], (k + 1, out ++ [dat a k - dat b k - c], 0), ⟨rfl, rfl, ⟨entB_rows rfl rfl rfl toC_app1 rfl, trivial⟩, ⟨rfl, rfl, ent_own rfl (by simp [toC]), rfl, ent_i (by omega), trivial⟩⟩, hst, ?_⟩
    show a.length - (k + 1) < a.length - k
    omega
  · have hk : k = a.length := by omega
    subst hk
    have hf := hI.fin ha hb lb hv
    have t := r_trim out (by omega)
    rw [hf] at t
    refine .inr ⟨_, _, acall_freeze [0] t ⟨vs_c (vc_all (by simp) rfl (by intro h; cases h) rfl rfl (by simp)), trivial⟩ rfl, ?_⟩
    conv => whnf
    exact fin_d rfl
end Go.Proofs.YtomfnfbijgjfeaaGreat
/- Reference of big: times. -/
namespace Go.Proofs.YtomfnfbijgjfeaaGreat
open Go.RowKit
set_option linter.unusedVariables false
set_option linter.unusedSimpArgs false
set_option maxRecDepth 100000

theorem tmodB {a : Int} (h : 0 ≤ a) : a.tmod 1048576 = a % 1048576 := Int.tmod_eq_emod_of_nonneg h
set_option maxHeartbeats 1000000 in
theorem r_times (a b : List Int) (ha : Okd a) (hb : Okd b) (la : a.length ≤ 400000) (lb : b.length ≤ 400000) :
    ACall Tryz.prog 105 [intsS a, intsS b] [] (intsS (dg (val a * val b).toNat)) [] := by
  have l1 : (a.map intRow).length = a.length := by simp
  have l2 : (b.map intRow).length = b.length := by simp
  (refine acall_of tab_ok Tryz.func105 rfl (by decide) ?_; (conv => whnf); repeat (first | (refine LitB.data ?_; conv => whnf) | (refine BoxB.own ?_; conv => whnf)))
  (repeat' (first | ((refine DecB.mk (fun h => ?_) (fun h => ?_)) <;> first | (exfalso; omega) | (conv => whnf)) | ((refine BoolB.mk (fun h => ?_) (fun h => ?_)) <;> first | (exact absurd h (by decide)) | (conv => whnf)) | ((first | refine ⟨_, wrap_ok (by omega) (by omega), ?_⟩ | refine and_idx (by omega) (by omega) ?_ | refine reg_ok (by decide +kernel) ?_ | refine bar_ok (by decide +kernel) (by decide +kernel) ?_ | refine late_ok rfl rfl ?_ | refine src_ok rfl ?_ | refine mk_ok (by omega) (by omega) (by omega) (by decide) ?_ | refine LitB.data ?_ | refine BoxB.own ?_); conv => whnf)))
  refine awp_while tab_ok (σ := Nat × List Int) (fun | (i, out) => ([intsS a, intsS b, J, J, J, ownI 0 out, intS .i64 i, J, J, J, J, J, J, J, J, J, J, J, J, J, J, J, J, J, J, J, J, J, J, J, J, J, J, J, J, J, J, J, J, J, J, J, J, J, J, J, J, J, J, J, J, J, J, J, J, J, J, J, J, J], [intsB out])) (fun x => MulI a b x.1 x.2) (fun x => a.length - x.1) (0, List.replicate (a.length + b.length) 0) [some 0]
    (MulI.init a b) ⟨rfl, rfl, ⟨entB_rows rfl rfl rfl ?_ rfl, trivial⟩, ⟨ent_t rfl, ent_t rfl, ent_own rfl (by simp; omega), rfl, trivial⟩⟩ ?_
  · show List.replicate _ _ = _
    rw [show ((((a.map intRow).length : Nat) : Int) + ((b.map intRow).length : Nat)).toNat = a.length + b.length by omega]
    simp [toC, intRow, constC]
  rintro ⟨i, out⟩ hI
  have hI : MulI a b i out := hI
  have hlen := hI.len
  have hle := hI.le
  conv => whnf
  (repeat' (first | ((refine DecB.mk (fun h => ?_) (fun h => ?_)) <;> first | (exfalso; omega) | (conv => whnf)) | ((refine BoolB.mk (fun h => ?_) (fun h => ?_)) <;> first | (exact absurd h (by decide)) | (conv => whnf)) | ((first | refine ⟨_, wrap_ok (by omega) (by omega), ?_⟩ | refine and_idx (by omega) (by omega) ?_ | refine reg_ok (by decide +kernel) ?_ | refine bar_ok (by decide +kernel) (by decide +kernel) ?_ | refine late_ok rfl rfl ?_ | refine src_ok rfl ?_ | refine LitB.data ?_ | refine BoxB.own ?_); conv => whnf)))
  · have hi : i < a.length := by omega
    refine awp_while tab_ok (σ := Nat × List Int × Int) (fun | (k, out, c) => ([intsS a, intsS b, J, J, J, ownI 0 out, intS .i64 i, intS .i64 c, intS .i64 k, J, J, J, J, J, J, J, J, J, J, J, J, J, J, J, J, J, J, J, J, J, J, J, J, J, J, J, J, J, J, J, J, J, J, J, J, J, J, J, J, J, J, J, J, J, J, J, J, J, J, J], [intsB out])) (fun x => TimK a b i x.1 x.2.1 x.2.2) (fun x => b.length + 1 - x.1) (0, out, 0) [some 0]
      ⟨.inl ⟨hI.start, Nat.zero_le _⟩⟩ ⟨rfl, rfl, ⟨entB_rows rfl rfl rfl rfl rfl, trivial⟩, ⟨ent_t rfl, ent_t rfl, ent_own rfl rfl, rfl, rfl, rfl, trivial⟩⟩ ?_
    rintro ⟨k, out, c⟩ hT
    have hT : TimK a b i k out c := hT
    have hdb := hb.dat k
    have hda := ha.dat i
    have hm := mul_rng (ha.dat i) (hb.dat k)
    have d2 := r_digit b k (by omega)
    have e1 : ((i : Int) + k).toNat = i + k := by omega
    rcases hT.out with ⟨hK, hkb⟩ | ⟨hk1, hc, hM⟩
    · have hlen := hK.len
      have hc0 := hK.c0
      have hc1 := hK.c1
      have hdo := hK.ok.dat (i + k)
      have hz : k = b.length → dat out (i + k) = 0 ∧ dat b k = 0 := fun h => ⟨hK.zero _ (by omega), dat_none (by omega)⟩
      have hzm : k = b.length → dat a i * dat b k = 0 := fun h => by rw [(hz h).2, Int.mul_zero]
      conv => whnf
      (repeat' (first | ((refine DecB.mk (fun h => ?_) (fun h => ?_)) <;> first | (exfalso; omega) | (conv => whnf)) | ((refine BoolB.mk (fun h => ?_) (fun h => ?_)) <;> first | (exact absurd h (by decide)) | (conv => whnf)) | ((first | refine ⟨_, wrap_ok (by omega) (by omega), ?_⟩ | refine and_idx (by omega) (by omega) ?_ | refine reg_ok (by decide +kernel) ?_ | refine bar_ok (by decide +kernel) (by decide +kernel) ?_ | refine late_ok rfl rfl ?_ | refine src_ok rfl ?_ | refine .inl ⟨_, _, qcall_pure (d2) rfl rfl, ?_⟩ | refine ex_row (get_dat (by omega)) ?_ | refine and_idx (by omega) (by show _ < ((out.length : Nat) : Int); omega) ?_ | refine ex_own (get_dat0 e1 (by omega)) ?_ | refine ⟨by decide, _, tdivq (by omega) (by omega) (by decide), ?_⟩ | refine ne_ok (by decide) ?_ | refine LitB.data ?_ | refine BoxB.own ?_); conv => whnf)))
      all_goals have hn : 0 ≤ dat out (i + k) + dat a i * dat b k + c := by omega
      · have hst := hK.step ha hb hi (by omega)
        refine ⟨[some 0], (k + 1, out.set (i + k) ((dat out (i + k) + dat a i * dat b k + c) % 1048576), (dat out (i + k) + dat a i * dat b k + c) / 1048576), ⟨rfl, rfl, ⟨entB_rows rfl rfl rfl ?_ rfl, trivial⟩, ⟨rfl, rfl, ent_own rfl (by simp), rfl, rfl, rfl, trivial⟩⟩, ⟨.inl ⟨hst, by omega⟩⟩, ?_⟩
        · rw [← tmodB hn]; exact toC_set (by omega)
        · show b.length + 1 - (k + 1) < b.length + 1 - k; omega
      · have hkb2 : k = b.length := by omega
        obtain ⟨z1, z2⟩ := hz hkb2
        have z3 := hzm hkb2
        have en : dat out (i + k) + dat a i * dat b k + c = c := by omega
        have hdone := hK
        rw [hkb2] at hdone
        have hdone := hdone.done ha hb hi
        rw [← hkb2] at hdone
        refine ⟨[some 0], (k + 1, out.set (i + k) ((dat out (i + k) + dat a i * dat b k + c) % 1048576), (dat out (i + k) + dat a i * dat b k + c) / 1048576), ⟨rfl, rfl, ⟨entB_rows rfl rfl rfl ?_ rfl, trivial⟩, ⟨rfl, rfl, ent_own rfl (by simp), rfl, rfl, rfl, trivial⟩⟩, ⟨.inr ⟨by show k + 1 = b.length + 1; omega, by show (dat out (i + k) + dat a i * dat b k + c) / 1048576 = 0; omega, ?_⟩⟩, ?_⟩
        · rw [← tmodB hn]; exact toC_set (by omega)
        · have e2 : (dat out (i + k) + dat a i * dat b k + c) % 1048576 = dat out (i + k) + c := by omega
          rw [e2]; exact hdone
        · show b.length + 1 - (k + 1) < b.length + 1 - k; omega
      · have hx := hT.exit ha hb hi (by omega) (by omega)
        exact ⟨[some 0], (i + 1, out), ⟨rfl, rfl, ⟨entB_rows rfl rfl rfl rfl rfl, trivial⟩, ⟨rfl, rfl, ent_own rfl rfl, ent_i (by omega), trivial⟩⟩, hx, by show a.length - (i + 1) < a.length - i; omega⟩
    · have hlen := hM.len
      have hx := hT.exit ha hb hi (by omega) (by omega)
      conv => whnf
      (repeat' (first | ((refine DecB.mk (fun h => ?_) (fun h => ?_)) <;> first | (exfalso; omega) | (conv => whnf)) | ((refine BoolB.mk (fun h => ?_) (fun h => ?_)) <;> first | (exact absurd h (by decide)) | (conv => whnf)) | ((first | refine ⟨_, wrap_ok (by omega) (by omega), ?_⟩ | refine and_idx (by omega) (by omega) ?_ | refine reg_ok (by decide +kernel) ?_ | refine bar_ok (by decide +kernel) (by decide +kernel) ?_ | refine late_ok rfl rfl ?_ | refine src_ok rfl ?_ | refine LitB.data ?_ | refine BoxB.own ?_); conv => whnf)))
      all_goals first
        | (exfalso; omega)
        | exact ⟨[some 0], (i + 1, out), ⟨rfl, rfl, ⟨entB_rows rfl rfl rfl rfl rfl, trivial⟩, ⟨rfl, rfl, ent_own rfl rfl, ent_i (by omega), trivial⟩⟩, hx, by show a.length - (i + 1) < a.length - i; omega⟩
  · have hi : i = a.length := by omega
    subst hi
    have hf := hI.fin
    have t := r_trim out (by omega)
    rw [hf] at t
    refine .inr ⟨_, _, acall_freeze [0] t ⟨vs_c (vc_all (by simp) rfl (by intro h; cases h) rfl rfl (by simp)), trivial⟩ rfl, ?_⟩
    conv => whnf
    exact fin_d rfl
theorem r_timesD (m n : Nat) (lm : (dg m).length ≤ 300000) (ln : (dg n).length ≤ 300000) :
    ACall Tryz.prog 105 [intsS (dg m), intsS (dg n)] [] (intsS (dg (m * n))) [] := by
  have h := r_times (dg m) (dg n) (okd_dg m) (okd_dg n) (by omega) (by omega)
  rw [val_dg, val_dg, show ((m : Int) * n).toNat = m * n by rw [← Int.natCast_mul]; rfl] at h
  exact h
end Go.Proofs.YtomfnfbijgjfeaaGreat
/- Reference of big: over. -/
namespace Go.Proofs.YtomfnfbijgjfeaaGreat
open Go.RowKit
set_option linter.unusedVariables false
set_option linter.unusedSimpArgs false
set_option maxRecDepth 100000

set_option maxHeartbeats 1000000 in
theorem r_over (m n : Nat) (hn : 0 < n) (lm : (dg m).length ≤ 200000) (ln : (dg n).length ≤ 200000) :
    ACall Tryz.prog 99 [intsS (dg m), intsS (dg n)] [] (divS m n) [] := by
  have l1 : ((dg m).map intRow).length = (dg m).length := by simp
  have l2 : ((dg n).map intRow).length = (dg n).length := by simp
  (refine acall_of tab_ok Tryz.func99 rfl (by decide) ?_; (conv => whnf); repeat (first | (refine LitB.data ?_; conv => whnf) | (refine BoxB.own ?_; conv => whnf)))
  (repeat' (first | ((refine DecB.mk (fun h => ?_) (fun h => ?_)) <;> first | (exfalso; omega) | (conv => whnf)) | ((refine BoolB.mk (fun h => ?_) (fun h => ?_)) <;> first | (exact absurd h (by decide)) | (conv => whnf)) | ((first | refine ⟨_, wrap_ok (by omega) (by omega), ?_⟩ | refine and_idx (by omega) (by omega) ?_ | refine reg_ok (by decide +kernel) ?_ | refine bar_ok (by decide +kernel) (by decide +kernel) ?_ | refine late_ok rfl rfl ?_ | refine src_ok rfl ?_ | refine mk_ok (by omega) (by omega) (by omega) (by decide) ?_ | refine LitB.data ?_ | refine BoxB.own ?_); conv => whnf)))
  refine awp_while tab_ok (σ := Nat × List Int × Nat) (fun | (j, q, r) => ([intsS (dg m), intsS (dg n), J, J, J, J, ownI 0 q, intsS (dg r), intS .i64 ((j : Int) - 1), J, J, J, J, J, J, J, J, J, J, J, J, J, J, J, J, J, J, J, J, J, J, J, J, J, J, J, J, J, J, J, J, J, J, J, J, J, J, J, J, J, J, J, J, J, J, J, J, J, J, J], [intsB q])) (fun x => ShortI (dg m) n x.1 x.2.1 x.2.2) (fun x => x.1) ((dg m).length, List.replicate (dg m).length 0, 0) [some 0]
    (ShortI.init _ (by omega)) ⟨rfl, rfl, ⟨entB_rows rfl rfl rfl ?_ rfl, trivial⟩, ⟨ent_t rfl, ent_t rfl, ent_own rfl (by simp), rfl, ent_i (by omega), trivial⟩⟩ ?_
  · show List.replicate _ _ = _
    simp [toC, intRow, constC]
  rintro ⟨j, q, r⟩ hI
  have hI : ShortI (dg m) n j q r := hI
  have hlen := hI.len
  have hle := hI.le
  have hr1 := hI.r1
  by_cases hj : 0 < j
  · obtain ⟨i, rfl⟩ : ∃ i, j = i + 1 := ⟨j - 1, by omega⟩
    have ei : (((i + 1 : Nat) : Int) - 1) = i := by omega
    have hda := (okd_dg m).dat i
    obtain ⟨y, hy⟩ := Int.eq_ofNat_of_zero_le hda.1
    have lr := dg_len_mono (show r ≤ n by omega)
    have lm2 : i < (dg m).length := by omega
    generalize hR : r * 1048576 + y = R
    have hRn : R < n * 1048576 := by
      have := Nat.mul_le_mul_right 1048576 (show r + 1 ≤ n by omega)
      rw [Nat.add_mul] at this
      omega
    have lR : (dg R).length ≤ (dg n).length + 1 := dg_len_le (by
      have h1 := dg_lt_pw n
      rw [pw_succ]
      have h2 := Int.mul_le_mul_of_nonneg_right (a := (n : Int) + 1) (b := pw (dg n).length) (c := 1048576) (by omega) (by decide)
      omega)
    have tr := r_trim (dat (dg m) i :: dg r) (by simp; omega)
    rw [over_val (d := n) hda, hy, Int.toNat_natCast, hR] at tr
    conv => whnf
    (repeat' (first | ((refine DecB.mk (fun h => ?_) (fun h => ?_)) <;> first | (exfalso; omega) | (conv => whnf)) | ((refine BoolB.mk (fun h => ?_) (fun h => ?_)) <;> first | (exact absurd h (by decide)) | (conv => whnf)) | ((first | refine ⟨_, wrap_ok (by omega) (by omega), ?_⟩ | refine and_idx (by omega) (by omega) ?_ | refine reg_ok (by decide +kernel) ?_ | refine bar_ok (by decide +kernel) (by decide +kernel) ?_ | refine late_ok rfl rfl ?_ | refine src_ok rfl ?_ | refine .inl ⟨_, _, qcall_pure (toC, newBlk) rfl rfl, ?_⟩ | refine .inl ⟨_, _, qcall_pure (toC) rfl rfl, ?_⟩ | refine .inl ⟨_, _, qcall_pure (2) rfl rfl, ?_⟩ | refine .inl ⟨_, _, qcall_pure (toC, newBlk, intRow, hy) rfl rfl, ?_⟩ | refine .inl ⟨_, _, qcall_pure (toC, Nat.add_comm) rfl rfl, ?_⟩ | refine LitB.own ?_ | refine ex_rowE ei (get_dat (by omega)) ?_ | refine app_ok (by simp [toC, newBlk]) (by simp [toC]; omega) ?_ | refine .inr ⟨_, _, acall_freeze [2] tr ⟨vs_c (vc_all (by simp) rfl (by intro h; cases h) rfl (by simp [toC, newBlk, intRow, hy]) (by simp [toC, Nat.add_comm])), trivial⟩ rfl, ?_⟩ | refine LitB.data ?_ | refine BoxB.own ?_); conv => whnf)))
    refine awp_while tab_ok (σ := Nat × Nat) (fun | (lo, hi) => ([intsS (dg m), intsS (dg n), J, J, J, J, ownI 0 q, intsS (dg R), intS .i64 i, intS .i64 lo, intS .i64 hi, J, J, J, J, J, J, J, J, J, J, J, J, J, J, J, J, J, J, J, J, J, J, J, J, J, J, J, J, J, J, J, J, J, J, J, J, J, J, J, J, J, J, J, J, J, J, J, J, J], [intsB q])) (fun x => x.1 * n ≤ R ∧ R < x.2 * n ∧ x.1 < x.2 ∧ x.2 ≤ 1048576) (fun x => x.2 - x.1) (0, 1048576) [some 0]
      ⟨by simp, by show R < 1048576 * n; rw [Nat.mul_comm]; exact hRn, by decide, by decide⟩ ⟨rfl, rfl, ⟨entB_rows rfl rfl rfl rfl rfl, trivial⟩, ⟨rfl, rfl, ent_own rfl rfl, rfl, ent_i ei, rfl, rfl, trivial⟩⟩ ?_
    rintro ⟨lo, hi⟩ ⟨i1, i2, i3, i4⟩
    have i1 : lo * n ≤ R := i1
    have i2 : R < hi * n := i2
    have i3 : lo < hi := i3
    have i4 : hi ≤ 1048576 := i4
    have ln1 : (dg n).length ≤ 200000 := ln
    by_cases hc : 1 < hi - lo
    · have hmid : (((lo : Int) + hi) / 2) = (((lo + hi) / 2 : Nat) : Int) := by omega
      generalize hM : (lo + hi) / 2 = mid at hmid
      have tm := r_times (dg n) [(mid : Int)] (okd_dg n) (by intro x hx; simp at hx; omega) (by omega) (by simp)
      have e0 : val [(mid : Int)] = mid := by simp [val]
      rw [e0, val_dg, show ((n : Int) * mid).toNat = n * mid by rw [← Int.natCast_mul]; rfl] at tm
      have lnm : (dg (n * mid)).length ≤ (dg n).length + 1 := Nat.le_trans (dg_mul_len _ _) (by have := bl_small (x := (mid : Int)) (by omega) (by omega); simp only [bl, Int.natAbs_natCast] at this; omega)
      have ls := r_less (dg R) (dg (n * mid)) (okd_dg _) (okd_dg _) (by omega) (by omega)
      rw [val_dg, val_dg] at ls
      conv => whnf
      (repeat' (first | ((refine DecB.mk (fun h => ?_) (fun h => ?_)) <;> first | (exfalso; omega) | (conv => whnf)) | ((refine BoolB.mk (fun h => ?_) (fun h => ?_)) <;> first | (exact absurd h (by decide)) | (conv => whnf)) | ((first | refine ⟨_, wrap_ok (by omega) (by omega), ?_⟩ | refine and_idx (by omega) (by omega) ?_ | refine reg_ok (by decide +kernel) ?_ | refine bar_ok (by decide +kernel) (by decide +kernel) ?_ | refine late_ok rfl rfl ?_ | refine src_ok rfl ?_ | refine .inl ⟨_, _, qcall_pure (ls) rfl rfl, ?_⟩ | refine .inl ⟨_, _, qcall_pure (Int.tdiv_eq_ediv_of_nonneg (by omega)) rfl rfl, ?_⟩ | refine ⟨by decide, _, wrap_eq (y := (mid : Int)) (by rw [Int.tdiv_eq_ediv_of_nonneg (by omega)]; exact hmid) (by omega) (by omega), ?_⟩ | refine .inl ⟨_, _, qcall_data tm ⟨vs_t, vs_c (vc_t rfl), trivial⟩ rfl, ?_⟩ | refine LitB.data ?_ | refine BoxB.own ?_); conv => whnf)))
      · have hlt : R < n * mid := Int.ofNat_lt.1 (of_decide_eq_true (by assumption))
        exact ⟨[some 0], (lo, mid), ⟨rfl, rfl, ⟨entB_rows rfl rfl rfl rfl rfl, trivial⟩, ⟨rfl, rfl, ent_own rfl rfl, rfl, rfl, rfl, rfl, trivial⟩⟩, ⟨i1, by show R < mid * n; rw [Nat.mul_comm]; exact hlt, by show lo < mid; omega, by show mid ≤ 1048576; omega⟩, by show mid - lo < hi - lo; omega⟩
      · have hlt : n * mid ≤ R := Nat.not_lt.1 (fun h => absurd (Int.ofNat_lt.2 h) (of_decide_eq_false (by assumption)))
        exact ⟨[some 0], (mid, hi), ⟨rfl, rfl, ⟨entB_rows rfl rfl rfl rfl rfl, trivial⟩, ⟨rfl, rfl, ent_own rfl rfl, rfl, rfl, rfl, rfl, trivial⟩⟩, ⟨by show mid * n ≤ R; rw [Nat.mul_comm]; exact hlt, i2, by show mid < hi; omega, i4⟩, by show hi - mid < hi - lo; omega⟩
    · obtain rfl : hi = lo + 1 := by omega
      have hq : R / n = lo := by
        rw [Nat.div_eq_iff hn]
        rw [Nat.add_mul] at i2
        omega
      have hm2 := Nat.div_add_mod R n
      rw [hq] at hm2
      have hrm := Nat.mod_lt R hn
      have tl := r_trim [(lo : Int)] (by simp)
      rw [trimL_dg (by intro x hx; simp at hx; omega), show (val [(lo : Int)]).toNat = lo by simp [val]] at tl
      have llo : (dg lo).length ≤ 1 := by have := bl_small (x := (lo : Int)) (by omega) (by omega); simpa [bl] using this
      have tt := r_timesD n lo (by omega) (by omega)
      have mi := r_minus (dg R) (dg (n * lo)) (okd_dg _) (okd_dg _) (by omega) (dg_len_mono (by omega)) (by rw [val_dg, val_dg]; omega)
      rw [val_dg, val_dg, show ((R : Int) - ((n * lo : Nat) : Int)).toNat = R % n by omega] at mi
      have hst := hI.step (okd_dg m) (by omega)
      have c1 : ((r : Int) * 1048576 + dat (dg m) i) = (R : Int) := by rw [hy, ← hR]; simp
      rw [c1] at hst
      have c2 : (R : Int) / n = (lo : Int) := by rw [← hq]; simp
      have c3 : (R : Int) % n = ((R % n : Nat) : Int) := by simp
      rw [c2, c3] at hst
      have gq : q[0 + (i : Int).toNat]? = some (dat q i) := get_dat0 (by omega) (by omega)
      conv => whnf
      (repeat' (first | ((refine DecB.mk (fun h => ?_) (fun h => ?_)) <;> first | (exfalso; omega) | (conv => whnf)) | ((refine BoolB.mk (fun h => ?_) (fun h => ?_)) <;> first | (exact absurd h (by decide)) | (conv => whnf)) | ((first | refine ⟨_, wrap_ok (by omega) (by omega), ?_⟩ | refine and_idx (by omega) (by omega) ?_ | refine reg_ok (by decide +kernel) ?_ | refine bar_ok (by decide +kernel) (by decide +kernel) ?_ | refine late_ok rfl rfl ?_ | refine src_ok rfl ?_ | refine .inl ⟨_, _, qcall_pure (tt) rfl rfl, ?_⟩ | refine .inl ⟨_, _, qcall_pure (mi) rfl rfl, ?_⟩ | refine .inl ⟨_, _, qcall_data tl ⟨vs_c (vc_t rfl), trivial⟩ rfl, ?_⟩ | refine and_idx (by omega) (by show _ < ((q.length : Nat) : Int); omega) ?_ | refine ex_own gq ?_ | refine LitB.data ?_ | refine BoxB.own ?_); conv => whnf)))
      all_goals try (exfalso; omega)
      refine ⟨[some 0], (i, q.set i lo, R % n), ⟨rfl, rfl, ⟨entB_rows rfl rfl rfl (toC_set (by omega)) rfl, trivial⟩, ⟨rfl, rfl, ent_own rfl (by simp), rfl, ent_i (by omega), trivial⟩⟩, hst, by show i < i + 1; omega⟩
  · obtain rfl : j = 0 := by omega
    obtain ⟨f1, f2⟩ := hI.fin (okd_dg m) (by omega)
    have tq := r_trim q (by have := hI.len; omega)
    rw [f1, val_dg, show ((m : Int) / n).toNat = m / n by rw [← Int.natCast_ediv]; rfl] at tq
    rw [val_dg] at f2
    have f3 : r = m % n := by
      have : (m : Int) % n = ((m % n : Nat) : Int) := by simp
      omega
    subst f3
    conv => whnf
    (repeat' (first | ((refine DecB.mk (fun h => ?_) (fun h => ?_)) <;> first | (exfalso; omega) | (conv => whnf)) | ((refine BoolB.mk (fun h => ?_) (fun h => ?_)) <;> first | (exact absurd h (by decide)) | (conv => whnf)) | ((first | refine ⟨_, wrap_ok (by omega) (by omega), ?_⟩ | refine and_idx (by omega) (by omega) ?_ | refine reg_ok (by decide +kernel) ?_ | refine bar_ok (by decide +kernel) (by decide +kernel) ?_ | refine late_ok rfl rfl ?_ | refine src_ok rfl ?_ | refine .inl ⟨_, _, qcall_pure (0) rfl rfl, ?_⟩ | refine .inr ⟨_, _, acall_freeze [0] tq ⟨vs_c (vc_all (by simp) rfl (by intro h; cases h) rfl rfl (by simp)), trivial⟩ rfl, ?_⟩ | refine LitB.data ?_ | refine BoxB.own ?_); conv => whnf)))
    all_goals try (exfalso; omega)
    exact fin_t ⟨rfl, rfl, trivial⟩
end Go.Proofs.YtomfnfbijgjfeaaGreat
/- Reference of big and frac: Of, Right, Gcd, Div (exact), New, Int. -/
namespace Go.Proofs.YtomfnfbijgjfeaaGreat
open Go.RowKit
set_option linter.unusedVariables false
set_option linter.unusedSimpArgs false
set_option maxRecDepth 100000

theorem r_bigRight (b : Bg) (hl : b.dl.length ≤ 1000000) : ACall Tryz.prog 68 [bgS b] [] (boolS (rightB b)) [] := by
  have l2 : (b.dl.map intRow).length = b.dl.length := by simp
  (refine acall_of tab_ok Tryz.func68 rfl (by decide) ?_; (conv => whnf); repeat (first | (refine LitB.data ?_; conv => whnf) | (refine BoxB.data ?_; conv => whnf)))
  (repeat' (first | ((refine DecB.mk (fun h => ?_) (fun h => ?_)) <;> first | (exfalso; omega) | (conv => whnf)) | ((refine BoolB.mk (fun h => ?_) (fun h => ?_)) <;> first | (exact absurd h (by decide)) | (conv => whnf)) | ((first | refine ⟨_, wrap_ok (by omega) (by omega), ?_⟩ | refine and_idx (by omega) (by omega) ?_ | refine reg_ok (by decide +kernel) ?_ | refine bar_ok (by decide +kernel) (by decide +kernel) ?_ | refine late_ok rfl rfl ?_ | refine src_ok rfl ?_ | refine LitB.data ?_ | refine BoxB.own ?_); conv => whnf)))
  refine awp_for tab_ok (fun k => ([J, S.c (C.t (T.ptr [ti b.sg, intsT b.dl])), J, intS .i64 k, J, J, J, J, J, J, J, J, J, J, J, J, J, J, J, J, J, J, J, J, J, J, J, J, J, J, J, J, J, J, J, J, J, J, J, J, J, J, J, J, J, J, J, J, J, J, J, J, J, J, J, J], [])) b.dl.length (fun k => (b.dl.take k).all inD = true) [] rfl
    ⟨rfl, rfl, trivial, ⟨ent_t rfl, rfl, trivial⟩⟩ ?_
  intro k hk hI
  by_cases hlt : k < b.dl.length
  · conv => whnf
    (repeat' (first | ((refine DecB.mk (fun h => ?_) (fun h => ?_)) <;> first | (exfalso; omega) | (conv => whnf)) | ((refine BoolB.mk (fun h => ?_) (fun h => ?_)) <;> first | (exact absurd h (by decide)) | (conv => whnf)) | ((first | refine ⟨_, wrap_ok (by omega) (by omega), ?_⟩ | refine and_idx (by omega) (by omega) ?_ | refine reg_ok (by decide +kernel) ?_ | refine bar_ok (by decide +kernel) (by decide +kernel) ?_ | refine late_ok rfl rfl ?_ | refine src_ok rfl ?_ | refine ex_row (get_dat (by omega)) ?_ | refine LitB.data ?_ | refine BoxB.own ?_); conv => whnf)))
    all_goals first
      | (exfalso; omega)
      | exact ⟨hlt, by rw [all_take_succ (get_dat hlt), hI]; simp [inD]; omega, [], rfl, rfl, trivial, ⟨rfl, rfl, trivial⟩⟩
      | (refine fin_bool ?_; unfold rightB; rw [all_of_get (get_dat hlt) (by simp [inD]; omega)]; rfl)
  · have hke : k = b.dl.length := by omega
    subst hke
    have ha : b.dl.all inD = true := by rw [← hI, List.take_of_length_le (by omega)]
    have hgl : 0 < b.dl.length → b.dl[((((b.dl.map intRow).length : Nat) : Int) - 1).toNat]? = some (dat b.dl (b.dl.length - 1)) := fun h => by rw [l2]; exact get_last h
    conv => whnf
    (repeat' (first | ((refine DecB.mk (fun h => ?_) (fun h => ?_)) <;> first | (exfalso; omega) | (conv => whnf)) | ((refine BoolB.mk (fun h => ?_) (fun h => ?_)) <;> first | (exact absurd h (by decide)) | (conv => whnf)) | ((first | refine ⟨_, wrap_ok (by omega) (by omega), ?_⟩ | refine and_idx (by omega) (by omega) ?_ | refine reg_ok (by decide +kernel) ?_ | refine bar_ok (by decide +kernel) (by decide +kernel) ?_ | refine late_ok rfl rfl ?_ | refine src_ok rfl ?_ | refine ex_rowI (by omega) (hgl (by omega)) ?_ | refine LitB.data ?_ | refine BoxB.own ?_); conv => whnf)))
    all_goals first
      | (exfalso; omega)
      | (exfalso; simp_all; done)
      | (exfalso; simp_all; omega)
      | skip
    all_goals
      refine fin_bool ?_
      unfold rightB
      rw [ha]
      by_cases hz : b.dl.length = 0
      · rw [if_pos hz]; simp_all <;> omega
      · rw [if_neg hz]; simp_all <;> omega
theorem r4Right (x : Int) (lx : bl x ≤ 300000) : ACall Tryz.prog 68 [bgS (bz x)] [] (boolS true) [] := by
  have := r_bigRight (bz x) (show bl x ≤ 1000000 by omega)
  rw [bz_right] at this
  exact this
theorem r4Of (n : Int) (h0 : -9223372036854775808 ≤ n) (h1 : n ≤ 9223372036854775807) : ACall Tryz.prog 71 [intS .i64 n] [] (bgS (bz n)) [] := by
  rcases Int.lt_trichotomy n 0 with hn | hn | hn
  · (refine acall_of tab_ok Tryz.func71 rfl (by decide) ?_; (conv => whnf); repeat (first | (refine LitB.data ?_; conv => whnf) | (refine BoxB.own ?_; conv => whnf)))
    (repeat' (first | ((refine DecB.mk (fun h => ?_) (fun h => ?_)) <;> first | (exfalso; omega) | (conv => whnf)) | ((refine BoolB.mk (fun h => ?_) (fun h => ?_)) <;> first | (exact absurd h (by decide)) | (conv => whnf)) | ((first | refine ⟨_, wrap_ok (by omega) (by omega), ?_⟩ | refine and_idx (by omega) (by omega) ?_ | refine reg_ok (by decide +kernel) ?_ | refine bar_ok (by decide +kernel) (by decide +kernel) ?_ | refine late_ok rfl rfl ?_ | refine src_ok rfl ?_ | refine LitB.data ?_ | refine BoxB.own ?_); conv => whnf)))
    all_goals try (exfalso; omega)
    refine awp_while tab_ok (σ := List Int × Nat) (fun | (acc, u) => ([intS .i64 (- (u : Int)), J, S.c (C.ptr 0 0 0), intS .i64 (-1), ownI 1 acc, J, J, J, J, J, J, J, J, J, J, J, J, J, J, J, J, J, J, J, J, J, J, J], [zBox, intsB acc])) (fun s => OfI n s.1 s.2) (fun s => s.2) ([], n.natAbs) [some 0, none]
      ⟨rfl⟩ ⟨rfl, rfl, ⟨⟨rfl, rfl, rfl, .inl ⟨rfl, rowsT_z⟩⟩, ⟨rfl, rfl⟩, trivial⟩, ⟨ent_i (by omega), ⟨rfl, rfl, rfl⟩, rfl, ⟨rfl, rfl, rfl⟩, trivial⟩⟩ ?_
    rintro ⟨acc, u⟩ hI
    have hI : OfI n acc u := hI
    have hl := hI.len h0 h1
    have hu := hI.le
    have hm : (- (u : Int)).tmod 1048576 = - ((u : Int) % 1048576) := by
      first
        | exact Int.tmod_eq_emod_of_nonneg (by omega)
        | (rw [Int.neg_tmod, Int.tmod_eq_emod_of_nonneg (by omega)])
    have hd : (- (u : Int)).tdiv 1048576 = - ((u / 1048576 : Nat) : Int) := by
      first
        | (rw [Int.tdiv_eq_ediv_of_nonneg (by omega)]; simp; done)
        | (rw [Int.neg_tdiv, Int.tdiv_eq_ediv_of_nonneg (by omega)]; simp)
    by_cases hu0 : 0 < u
    · have hst := hI.step hu0
      conv => whnf
      (repeat' (first | ((refine DecB.mk (fun h => ?_) (fun h => ?_)) <;> first | (exfalso; omega) | (conv => whnf)) | ((refine BoolB.mk (fun h => ?_) (fun h => ?_)) <;> first | (exact absurd h (by decide)) | (conv => whnf)) | ((first | refine ⟨_, wrap_ok (by omega) (by omega), ?_⟩ | refine and_idx (by omega) (by omega) ?_ | refine reg_ok (by decide +kernel) ?_ | refine bar_ok (by decide +kernel) (by decide +kernel) ?_ | refine late_ok rfl rfl ?_ | refine src_ok rfl ?_ | refine .inl ⟨_, _, qcall_pure (toC) rfl rfl, ?_⟩ | refine .inl ⟨_, _, qcall_pure (toC) rfl rfl, ?_⟩ | refine app_ok (by simp [toC]) (by simp [toC]; omega) ?_ | refine ⟨by decide, _, wrap_eq hd (by omega) (by omega), ?_⟩ | refine ne_ok (by decide) ?_ | refine LitB.data ?_ | refine BoxB.own ?_); conv => whnf)))
      all_goals try (exfalso; omega)
      all_goals
        refine ⟨[some 0, some 2], (acc ++ [(u : Int) % 1048576], u / 1048576), ⟨rfl, rfl, ⟨⟨rfl, rfl, rfl, .inl ⟨rfl, rowsT_z⟩⟩, entB_rows rfl rfl rfl ?_ rfl, trivial⟩, ⟨ent_i rfl, ⟨rfl, rfl, rfl⟩, rfl, ent_own rfl (by simp [toC]), trivial⟩⟩, hst, by show u / 1048576 < u; omega⟩
        have e : ∀ y : Int, y = (u : Int) % 1048576 → (toC (acc.map intRow)).take acc.length ++ toC [[ti y]] = toC ((acc ++ [(u : Int) % 1048576]).map intRow) := fun y hy => by rw [hy]; exact toC_app1
        exact e _ (by omega)
    · have h0u : u = 0 := by omega
      subst h0u
      have e : acc = dg n.natAbs := by have := hI.eq; rw [dg_zero, List.append_nil] at this; exact this
      have sg := r_madeD (-1) n.natAbs (by omega) (by rw [← e]; omega)
      rw [← e, show (-1) * (n.natAbs : Int) = n by omega] at sg
      conv => whnf
      (repeat' (first | ((refine DecB.mk (fun h => ?_) (fun h => ?_)) <;> first | (exfalso; omega) | (conv => whnf)) | ((refine BoolB.mk (fun h => ?_) (fun h => ?_)) <;> first | (exact absurd h (by decide)) | (conv => whnf)) | ((first | refine ⟨_, wrap_ok (by omega) (by omega), ?_⟩ | refine and_idx (by omega) (by omega) ?_ | refine reg_ok (by decide +kernel) ?_ | refine bar_ok (by decide +kernel) (by decide +kernel) ?_ | refine late_ok rfl rfl ?_ | refine src_ok rfl ?_ | refine .inl ⟨_, _, qcall_pure (1) rfl rfl, ?_⟩ | refine .inr ⟨_, _, acall_freeze [1] sg ⟨vs_t, vs_c (vc_all (by simp) rfl (by intro h; cases h) rfl rfl (by simp)), trivial⟩ rfl, ?_⟩ | refine LitB.data ?_ | refine BoxB.own ?_); conv => whnf)))
      all_goals try (exfalso; omega)
      exact fin_t ⟨rfl, rfl, trivial⟩
  · subst hn
    (refine acall_of tab_ok Tryz.func71 rfl (by decide) ?_; (conv => whnf); repeat (first | (refine LitB.data ?_; conv => whnf) | (refine BoxB.own ?_; conv => whnf)))
    (repeat' (first | ((refine DecB.mk (fun h => ?_) (fun h => ?_)) <;> first | (exfalso; omega) | (conv => whnf)) | ((refine BoolB.mk (fun h => ?_) (fun h => ?_)) <;> first | (exact absurd h (by decide)) | (conv => whnf)) | ((first | refine ⟨_, wrap_ok (by omega) (by omega), ?_⟩ | refine and_idx (by omega) (by omega) ?_ | refine reg_ok (by decide +kernel) ?_ | refine bar_ok (by decide +kernel) (by decide +kernel) ?_ | refine late_ok rfl rfl ?_ | refine src_ok rfl ?_ | refine LitB.data ?_ | refine BoxB.own ?_); conv => whnf)))
    all_goals first
      | (exfalso; omega)
      | exact fin_t ⟨rfl, rfl, trivial⟩
  · (refine acall_of tab_ok Tryz.func71 rfl (by decide) ?_; (conv => whnf); repeat (first | (refine LitB.data ?_; conv => whnf) | (refine BoxB.own ?_; conv => whnf)))
    (repeat' (first | ((refine DecB.mk (fun h => ?_) (fun h => ?_)) <;> first | (exfalso; omega) | (conv => whnf)) | ((refine BoolB.mk (fun h => ?_) (fun h => ?_)) <;> first | (exact absurd h (by decide)) | (conv => whnf)) | ((first | refine ⟨_, wrap_ok (by omega) (by omega), ?_⟩ | refine and_idx (by omega) (by omega) ?_ | refine reg_ok (by decide +kernel) ?_ | refine bar_ok (by decide +kernel) (by decide +kernel) ?_ | refine late_ok rfl rfl ?_ | refine src_ok rfl ?_ | refine LitB.data ?_ | refine BoxB.own ?_); conv => whnf)))
    all_goals try (exfalso; omega)
    refine awp_while tab_ok (σ := List Int × Nat) (fun | (acc, u) => ([intS .i64 ((u : Int)), J, S.c (C.ptr 0 0 0), intS .i64 (1), ownI 1 acc, J, J, J, J, J, J, J, J, J, J, J, J, J, J, J, J, J, J, J, J, J, J, J], [zBox, intsB acc])) (fun s => OfI n s.1 s.2) (fun s => s.2) ([], n.natAbs) [some 0, none]
      ⟨rfl⟩ ⟨rfl, rfl, ⟨⟨rfl, rfl, rfl, .inl ⟨rfl, rowsT_z⟩⟩, ⟨rfl, rfl⟩, trivial⟩, ⟨ent_i (by omega), ⟨rfl, rfl, rfl⟩, rfl, ⟨rfl, rfl, rfl⟩, trivial⟩⟩ ?_
    rintro ⟨acc, u⟩ hI
    have hI : OfI n acc u := hI
    have hl := hI.len h0 h1
    have hu := hI.le
    have hm : ((u : Int)).tmod 1048576 = ((u : Int) % 1048576) := by
      first
        | exact Int.tmod_eq_emod_of_nonneg (by omega)
        | (rw [Int.neg_tmod, Int.tmod_eq_emod_of_nonneg (by omega)])
    have hd : ((u : Int)).tdiv 1048576 = ((u / 1048576 : Nat) : Int) := by
      first
        | (rw [Int.tdiv_eq_ediv_of_nonneg (by omega)]; simp; done)
        | (rw [Int.neg_tdiv, Int.tdiv_eq_ediv_of_nonneg (by omega)]; simp)
    by_cases hu0 : 0 < u
    · have hst := hI.step hu0
      conv => whnf
      (repeat' (first | ((refine DecB.mk (fun h => ?_) (fun h => ?_)) <;> first | (exfalso; omega) | (conv => whnf)) | ((refine BoolB.mk (fun h => ?_) (fun h => ?_)) <;> first | (exact absurd h (by decide)) | (conv => whnf)) | ((first | refine ⟨_, wrap_ok (by omega) (by omega), ?_⟩ | refine and_idx (by omega) (by omega) ?_ | refine reg_ok (by decide +kernel) ?_ | refine bar_ok (by decide +kernel) (by decide +kernel) ?_ | refine late_ok rfl rfl ?_ | refine src_ok rfl ?_ | refine .inl ⟨_, _, qcall_pure (toC) rfl rfl, ?_⟩ | refine .inl ⟨_, _, qcall_pure (toC) rfl rfl, ?_⟩ | refine app_ok (by simp [toC]) (by simp [toC]; omega) ?_ | refine ⟨by decide, _, wrap_eq hd (by omega) (by omega), ?_⟩ | refine ne_ok (by decide) ?_ | refine LitB.data ?_ | refine BoxB.own ?_); conv => whnf)))
      all_goals try (exfalso; omega)
      all_goals
        refine ⟨[some 0, some 2], (acc ++ [(u : Int) % 1048576], u / 1048576), ⟨rfl, rfl, ⟨⟨rfl, rfl, rfl, .inl ⟨rfl, rowsT_z⟩⟩, entB_rows rfl rfl rfl ?_ rfl, trivial⟩, ⟨ent_i rfl, ⟨rfl, rfl, rfl⟩, rfl, ent_own rfl (by simp [toC]), trivial⟩⟩, hst, by show u / 1048576 < u; omega⟩
        have e : ∀ y : Int, y = (u : Int) % 1048576 → (toC (acc.map intRow)).take acc.length ++ toC [[ti y]] = toC ((acc ++ [(u : Int) % 1048576]).map intRow) := fun y hy => by rw [hy]; exact toC_app1
        exact e _ (by omega)
    · have h0u : u = 0 := by omega
      subst h0u
      have e : acc = dg n.natAbs := by have := hI.eq; rw [dg_zero, List.append_nil] at this; exact this
      have sg := r_madeD (1) n.natAbs (by omega) (by rw [← e]; omega)
      rw [← e, show (1) * (n.natAbs : Int) = n by omega] at sg
      conv => whnf
      (repeat' (first | ((refine DecB.mk (fun h => ?_) (fun h => ?_)) <;> first | (exfalso; omega) | (conv => whnf)) | ((refine BoolB.mk (fun h => ?_) (fun h => ?_)) <;> first | (exact absurd h (by decide)) | (conv => whnf)) | ((first | refine ⟨_, wrap_ok (by omega) (by omega), ?_⟩ | refine and_idx (by omega) (by omega) ?_ | refine reg_ok (by decide +kernel) ?_ | refine bar_ok (by decide +kernel) (by decide +kernel) ?_ | refine late_ok rfl rfl ?_ | refine src_ok rfl ?_ | refine .inl ⟨_, _, qcall_pure (1) rfl rfl, ?_⟩ | refine .inr ⟨_, _, acall_freeze [1] sg ⟨vs_t, vs_c (vc_all (by simp) rfl (by intro h; cases h) rfl rfl (by simp)), trivial⟩ rfl, ?_⟩ | refine LitB.data ?_ | refine BoxB.own ?_); conv => whnf)))
      all_goals try (exfalso; omega)
      exact fin_t ⟨rfl, rfl, trivial⟩
theorem r4Gcd (x y : Int) (lx : bl x ≤ 200000) (ly : bl y ≤ 200000) : ACall Tryz.prog 69 [bgS (bz x), bgS (bz y)] [] (.tup [bgS (bz (Int.gcd x y)), intS .i64 0]) [] := by
  have r1 := r4Right x (by omega)
  have r2 := r4Right y (by omega)
  (refine acall_of tab_ok Tryz.func69 rfl (by decide) ?_; (conv => whnf); repeat (first | (refine LitB.data ?_; conv => whnf) | (refine BoxB.own ?_; conv => whnf)))
  (repeat' (first | ((refine DecB.mk (fun h => ?_) (fun h => ?_)) <;> first | (exfalso; omega) | (conv => whnf)) | ((refine BoolB.mk (fun h => ?_) (fun h => ?_)) <;> first | (exact absurd h (by decide)) | (conv => whnf)) | ((first | refine ⟨_, wrap_ok (by omega) (by omega), ?_⟩ | refine and_idx (by omega) (by omega) ?_ | refine reg_ok (by decide +kernel) ?_ | refine bar_ok (by decide +kernel) (by decide +kernel) ?_ | refine late_ok rfl rfl ?_ | refine src_ok rfl ?_ | refine .inl ⟨_, _, qcall_pure (r1) rfl rfl, ?_⟩ | refine .inl ⟨_, _, qcall_pure (r2) rfl rfl, ?_⟩ | refine LitB.data ?_ | refine BoxB.own ?_); conv => whnf)))
  all_goals first
    | (exfalso; simp_all; done)
    | skip
  refine awp_while tab_ok (σ := Nat × Nat) (fun | (X, Y) => ([J, J, J, J, S.c (C.ptr 0 0 0), J, intsS (dg X), intsS (dg Y), J, J, J, J, J, J, J, J, J, J, J, J, J, J, J, J, J, J, J, J, J, J, J, J, J, J, J, J], [zBox])) (fun s => GcdI x y s.1 s.2) (fun s => s.2) (x.natAbs, y.natAbs) [some 2]
    ⟨rfl, lx, ly⟩ ⟨rfl, rfl, ⟨⟨rfl, rfl, rfl, .inl ⟨rfl, rowsT_z⟩⟩, trivial⟩, ⟨⟨rfl, rfl, rfl⟩, rfl, rfl, trivial⟩⟩ ?_
  rintro ⟨X, Y⟩ hI
  have hI : GcdI x y X Y := hI
  obtain ⟨g1, g2, g3⟩ := hI
  have l2 : ((dg Y).map intRow).length = (dg Y).length := by simp
  by_cases hY : 0 < Y
  · have hp : (dg Y).length ≠ 0 := by rw [Ne, List.length_eq_zero_iff, dg_eq_nil]; omega
    have dv := r_over X Y hY (by omega) (by omega)
    conv => whnf
    (repeat' (first | ((refine DecB.mk (fun h => ?_) (fun h => ?_)) <;> first | (exfalso; omega) | (conv => whnf)) | ((refine BoolB.mk (fun h => ?_) (fun h => ?_)) <;> first | (exact absurd h (by decide)) | (conv => whnf)) | ((first | refine ⟨_, wrap_ok (by omega) (by omega), ?_⟩ | refine and_idx (by omega) (by omega) ?_ | refine reg_ok (by decide +kernel) ?_ | refine bar_ok (by decide +kernel) (by decide +kernel) ?_ | refine late_ok rfl rfl ?_ | refine src_ok rfl ?_ | refine .inl ⟨_, _, qcall_pure (dv) rfl rfl, ?_⟩ | refine LitB.data ?_ | refine BoxB.own ?_); conv => whnf)))
    all_goals first
      | (exfalso; omega)
      | exact ⟨[some 0], (Y, X % Y), ⟨rfl, rfl, ⟨⟨rfl, rfl, rfl, .inl ⟨rfl, rowsT_z⟩⟩, trivial⟩, ⟨⟨rfl, rfl, rfl⟩, rfl, rfl, trivial⟩⟩, ⟨by rw [← g1, Nat.gcd_comm Y, ← Nat.gcd_rec, Nat.gcd_comm], g3, Nat.le_trans (dg_len_mono (Nat.le_of_lt (Nat.mod_lt X hY))) g3⟩, Nat.mod_lt X hY⟩
  · have hY : Y = 0 := by omega
    subst hY
    have hp : (dg 0).length = 0 := rfl
    have s1 := r_madeD 1 X (by simp) (by omega)
    conv => whnf
    (repeat' (first | ((refine DecB.mk (fun h => ?_) (fun h => ?_)) <;> first | (exfalso; omega) | (conv => whnf)) | ((refine BoolB.mk (fun h => ?_) (fun h => ?_)) <;> first | (exact absurd h (by decide)) | (conv => whnf)) | ((first | refine ⟨_, wrap_ok (by omega) (by omega), ?_⟩ | refine and_idx (by omega) (by omega) ?_ | refine reg_ok (by decide +kernel) ?_ | refine bar_ok (by decide +kernel) (by decide +kernel) ?_ | refine late_ok rfl rfl ?_ | refine src_ok rfl ?_ | refine .inl ⟨_, _, qcall_pure (s1) rfl rfl, ?_⟩ | refine LitB.data ?_ | refine BoxB.own ?_); conv => whnf)))
    all_goals first
      | (exfalso; omega)
      | skip
    refine fin_be ?_
    rw [Int.one_mul, show X = Int.gcd x y by rw [Int.gcd, ← g1, Nat.gcd_zero_right]]
theorem r4Div (x y : Int) (hy : 0 < y) (hxy : x % y = 0) (lx : bl x ≤ 200000) (ly : bl y ≤ 200000) : ACall Tryz.prog 107 [bgS (bz x), bgS (bz y)] [] (.tup [bgS (bz (x / y)), bgS (bz 0), intS .i64 0]) [] := by
  have r1 := r4Right x (by omega)
  have r2 := r4Right y (by omega)
  have hys : (bz y).sg = 1 := by rw [bz_sg, Int.sign_eq_one_of_pos hy]
  have ov := r_over x.natAbs y.natAbs (by omega) lx ly
  have hmod : x.natAbs % y.natAbs = 0 := by
    have := Int.natAbs_dvd_natAbs.2 (Int.dvd_of_emod_eq_zero hxy)
    exact Nat.mod_eq_zero_of_dvd this
  have lq := dg_len_mono (Nat.div_le_self x.natAbs y.natAbs)
  have hsg : (bz x).sg = x.sign := rfl
  have hs := sign_cases x
  have hq : x.sign * ((x.natAbs / y.natAbs : Nat) : Int) = x / y := by
    obtain ⟨k, hk⟩ := Int.dvd_of_emod_eq_zero hxy
    subst hk
    have hk2 : (y * k) / y = k := Int.mul_ediv_cancel_left _ (by omega)
    rw [hk2, Int.natAbs_mul, Nat.mul_div_cancel_left _ (by omega), Int.sign_mul, Int.sign_eq_one_of_pos hy, Int.one_mul]
    exact Int.sign_mul_natAbs k
  have s1 := r_madeD x.sign (x.natAbs / y.natAbs) (by
    rcases hs with ⟨h, h1⟩ | ⟨h, h1⟩ | ⟨h, h1⟩
    · right; right; subst h1; simp
    · exact .inl h
    · exact .inr (.inl h)) (by unfold bl at lx; omega)
  rw [hq] at s1
  have s2 := r_madeD x.sign 0 (by simp) (by rw [dg_zero]; simp)
  rw [show x.sign * ((0 : Nat) : Int) = 0 by simp] at s2
  have hmul : x.sign * 1 = x.sign := Int.mul_one _
  have hd0 : ((dg (x.natAbs % y.natAbs)).map intRow).length = 0 := by rw [hmod, dg_zero]; rfl
  unfold divS at ov
  rw [hmod] at ov hd0
  (refine acall_of tab_ok Tryz.func107 rfl (by decide) ?_; (conv => whnf); repeat (first | (refine LitB.data ?_; conv => whnf) | (refine BoxB.own ?_; conv => whnf)))
  (repeat' (first | ((refine DecB.mk (fun h => ?_) (fun h => ?_)) <;> first | (exfalso; omega) | (conv => whnf)) | ((refine BoolB.mk (fun h => ?_) (fun h => ?_)) <;> first | (exact absurd h (by decide)) | (conv => whnf)) | ((first | refine ⟨_, wrap_ok (by omega) (by omega), ?_⟩ | refine and_idx (by omega) (by omega) ?_ | refine reg_ok (by decide +kernel) ?_ | refine bar_ok (by decide +kernel) (by decide +kernel) ?_ | refine late_ok rfl rfl ?_ | refine src_ok rfl ?_ | refine .inl ⟨_, _, qcall_pure (r1) rfl rfl, ?_⟩ | refine .inl ⟨_, _, qcall_pure (r2) rfl rfl, ?_⟩ | refine .inl ⟨_, _, qcall_pure (ov) rfl rfl, ?_⟩ | refine .inl ⟨_, _, qcall_pure (s1) rfl rfl, ?_⟩ | refine .inl ⟨_, _, qcall_pure (s2) rfl rfl, ?_⟩ | refine .inl ⟨_, _, qcall_pure (hys, hsg) rfl rfl, ?_⟩ | refine ⟨_, wrap_eq (y := x.sign) (by rw [hys, hsg]; exact hmul) (by omega) (by omega), ?_⟩ | refine LitB.data ?_ | refine BoxB.own ?_); conv => whnf)))
  all_goals first
    | (exfalso; omega)
    | (exfalso; simp_all; done)
    | exact fin_be2 rfl rfl
theorem r5New (p q : Int) (hq : 0 < q) (lp : bl p ≤ 200000) (lq : bl q ≤ 200000) : ACall Tryz.prog 75 [bgS (bz p), bgS (bz q)] [] (.tup [frS (fz (Rat.divInt p q)), intS .i64 0]) [] := by
  have r1 := r4Right p (by omega)
  have r2 := r4Right q (by omega)
  have hsg : (bz q).sg = 1 := by rw [bz_sg, Int.sign_eq_one_of_pos hq]
  have lg := bl_gcd p q lp lq
  have hg : 0 < (Int.gcd p q : Int) := by have := Int.gcd_pos_of_ne_zero_right p (b := q) (by omega); omega
  have g := r4Gcd p q lp lq
  have d1 := r4Div p _ hg (Int.emod_eq_zero_of_dvd (Int.gcd_dvd_left ..)) lp lg
  have d2 := r4Div q _ hg (Int.emod_eq_zero_of_dvd (Int.gcd_dvd_right ..)) lq lg
  have e := fz_divInt (p := p) (q := q) (by omega) rfl
  (refine acall_of tab_ok Tryz.func75 rfl (by decide) ?_; (conv => whnf); repeat (first | (refine LitB.data ?_; conv => whnf) | (refine BoxB.own ?_; conv => whnf)))
  (repeat' (first | ((refine DecB.mk (fun h => ?_) (fun h => ?_)) <;> first | (exfalso; omega) | (conv => whnf)) | ((refine BoolB.mk (fun h => ?_) (fun h => ?_)) <;> first | (exact absurd h (by decide)) | (conv => whnf)) | ((first | refine ⟨_, wrap_ok (by omega) (by omega), ?_⟩ | refine and_idx (by omega) (by omega) ?_ | refine reg_ok (by decide +kernel) ?_ | refine bar_ok (by decide +kernel) (by decide +kernel) ?_ | refine late_ok rfl rfl ?_ | refine src_ok rfl ?_ | refine .inl ⟨_, _, qcall_pure (r1) rfl rfl, ?_⟩ | refine .inl ⟨_, _, qcall_pure (r2) rfl rfl, ?_⟩ | refine .inl ⟨_, _, qcall_pure (g) rfl rfl, ?_⟩ | refine .inl ⟨_, _, qcall_pure (d1) rfl rfl, ?_⟩ | refine .inl ⟨_, _, qcall_pure (d2) rfl rfl, ?_⟩ | refine LitB.data ?_ | refine BoxB.own ?_); conv => whnf)))
  all_goals first
    | (exfalso; omega)
    | (exfalso; simp_all; done)
    | exact fin_fe e.symm
theorem r5Of (p q : Int) (hq : 0 < q) (p0 : -9223372036854775808 ≤ p) (p1 : p ≤ 9223372036854775807) (q1 : q ≤ 9223372036854775807) :
    ACall Tryz.prog 45 [intS .i64 p, intS .i64 q] [] (.tup [frS (fz (Rat.divInt p q)), intS .i64 0]) [] := by
  have l1 := bl_int p0 p1
  have l2 := bl_int (x := q) (by omega) q1
  have o1 := r4Of p p0 p1
  have o2 := r4Of q (by omega) q1
  have n := r5New p q hq (by omega) (by omega)
  (refine acall_of tab_ok Tryz.func45 rfl (by decide) ?_; (conv => whnf); repeat (first | (refine LitB.data ?_; conv => whnf) | (refine BoxB.own ?_; conv => whnf)))
  (repeat' (first | ((refine DecB.mk (fun h => ?_) (fun h => ?_)) <;> first | (exfalso; omega) | (conv => whnf)) | ((refine BoolB.mk (fun h => ?_) (fun h => ?_)) <;> first | (exact absurd h (by decide)) | (conv => whnf)) | ((first | refine ⟨_, wrap_ok (by omega) (by omega), ?_⟩ | refine and_idx (by omega) (by omega) ?_ | refine reg_ok (by decide +kernel) ?_ | refine bar_ok (by decide +kernel) (by decide +kernel) ?_ | refine late_ok rfl rfl ?_ | refine src_ok rfl ?_ | refine .inl ⟨_, _, qcall_pure (o1) rfl rfl, ?_⟩ | refine .inl ⟨_, _, qcall_pure (o2) rfl rfl, ?_⟩ | refine .inl ⟨_, _, qcall_pure (n) rfl rfl, ?_⟩ | refine LitB.data ?_ | refine BoxB.own ?_); conv => whnf)))
  all_goals exact fin_fe rfl
theorem r5Int (n : Int) (p0 : -9223372036854775808 ≤ n) (p1 : n ≤ 9223372036854775807) : ACall Tryz.prog 15 [intS .i64 n] [] (frS (fz (n : Rat))) [] := by
  have o := r5Of n 1 (by decide) p0 p1 (by decide)
  have e : Rat.divInt n 1 = (n : Rat) := by rw [Rat.divInt_eq_div]; simp; grind
  rw [e] at o
  (refine acall_of tab_ok Tryz.func15 rfl (by decide) ?_; (conv => whnf); repeat (first | (refine LitB.data ?_; conv => whnf) | (refine BoxB.own ?_; conv => whnf)))
  (repeat' (first | ((refine DecB.mk (fun h => ?_) (fun h => ?_)) <;> first | (exfalso; omega) | (conv => whnf)) | ((refine BoolB.mk (fun h => ?_) (fun h => ?_)) <;> first | (exact absurd h (by decide)) | (conv => whnf)) | ((first | refine ⟨_, wrap_ok (by omega) (by omega), ?_⟩ | refine and_idx (by omega) (by omega) ?_ | refine reg_ok (by decide +kernel) ?_ | refine bar_ok (by decide +kernel) (by decide +kernel) ?_ | refine late_ok rfl rfl ?_ | refine src_ok rfl ?_ | refine .inl ⟨_, _, qcall_pure (o) rfl rfl, ?_⟩ | refine LitB.data ?_ | refine BoxB.own ?_); conv => whnf)))
  all_goals exact fin_t ⟨rfl, rfl, rfl, rfl, trivial⟩
end Go.Proofs.YtomfnfbijgjfeaaGreat
/- Small references: Few, Little, Same; few. -/
namespace Go.Proofs.YtomfnfbijgjfeaaGreat
open Go.RowKit
set_option linter.unusedVariables false
set_option linter.unusedSimpArgs false
set_option maxRecDepth 100000

theorem a_SameBig (b : Bg) (hl : b.dl.length ≤ 1000000) : ACall Tryz.prog 44 [bgS b, bgS b] [] (boolS true) [] := by
  have l2 : (b.dl.map intRow).length = b.dl.length := by simp
  (refine acall_of tab_ok Tryz.func44 rfl (by decide) ?_; (conv => whnf); repeat (first | (refine LitB.data ?_; conv => whnf) | (refine BoxB.data ?_; conv => whnf)))
  (repeat' (first | ((refine DecB.mk (fun h => ?_) (fun h => ?_)) <;> first | (exfalso; omega) | (conv => whnf)) | ((refine BoolB.mk (fun h => ?_) (fun h => ?_)) <;> first | (exact absurd h (by decide)) | (conv => whnf)) | ((first | refine ⟨_, wrap_ok (by omega) (by omega), ?_⟩ | refine and_idx (by omega) (by omega) ?_ | refine reg_ok (by decide +kernel) ?_ | refine bar_ok (by decide +kernel) (by decide +kernel) ?_ | refine late_ok rfl rfl ?_ | refine src_ok rfl ?_ | refine LitB.data ?_ | refine BoxB.own ?_); conv => whnf)))
  all_goals try (exfalso; omega)
  refine awp_for tab_ok (fun k => ([J, J, S.c (C.t (T.ptr [ti b.sg, intsT b.dl])), S.c (C.t (T.ptr [ti b.sg, intsT b.dl])), J, intS .i64 k, J, J, J, J, J, J, J, J, J, J, J, J, J, J, J, J, J, J, J, J, J, J, J, J, J, J, J, J, J, J, J, J], [])) b.dl.length (fun _ => True) [] trivial
    ⟨rfl, rfl, trivial, ⟨rfl, rfl, rfl, trivial⟩⟩ ?_
  intro k hk _
  by_cases hlt : k < b.dl.length
  · conv => whnf
    (repeat' (first | ((refine DecB.mk (fun h => ?_) (fun h => ?_)) <;> first | (exfalso; omega) | (conv => whnf)) | ((refine BoolB.mk (fun h => ?_) (fun h => ?_)) <;> first | (exact absurd h (by decide)) | (conv => whnf)) | ((first | refine ⟨_, wrap_ok (by omega) (by omega), ?_⟩ | refine and_idx (by omega) (by omega) ?_ | refine reg_ok (by decide +kernel) ?_ | refine bar_ok (by decide +kernel) (by decide +kernel) ?_ | refine late_ok rfl rfl ?_ | refine src_ok rfl ?_ | refine ex_row (get_dat (by omega)) ?_ | refine LitB.data ?_ | refine BoxB.own ?_); conv => whnf)))
    all_goals first
      | (exfalso; omega)
      | exact ⟨hlt, trivial, [], rfl, rfl, trivial, ⟨rfl, rfl, rfl, trivial⟩⟩
  · conv => whnf
    (repeat' (first | ((refine DecB.mk (fun h => ?_) (fun h => ?_)) <;> first | (exfalso; omega) | (conv => whnf)) | ((refine BoolB.mk (fun h => ?_) (fun h => ?_)) <;> first | (exact absurd h (by decide)) | (conv => whnf)) | ((first | refine ⟨_, wrap_ok (by omega) (by omega), ?_⟩ | refine and_idx (by omega) (by omega) ?_ | refine reg_ok (by decide +kernel) ?_ | refine bar_ok (by decide +kernel) (by decide +kernel) ?_ | refine late_ok rfl rfl ?_ | refine src_ok rfl ?_ | refine LitB.data ?_ | refine BoxB.own ?_); conv => whnf)))
    all_goals first
      | (exfalso; omega)
      | exact fin_bool rfl
theorem a_SameF (f : Fr) (lp : f.p.dl.length ≤ 1000000) (lq : f.q.dl.length ≤ 1000000) : ACall Tryz.prog 14 [frS f, frS f] [] (boolS true) [] := by
  have s1 := a_SameBig f.p lp
  have s2 := a_SameBig f.q lq
  (refine acall_of tab_ok Tryz.func14 rfl (by decide) ?_; (conv => whnf); repeat (first | (refine LitB.data ?_; conv => whnf) | (refine BoxB.data ?_; conv => whnf)))
  (repeat' (first | ((refine DecB.mk (fun h => ?_) (fun h => ?_)) <;> first | (exfalso; omega) | (conv => whnf)) | ((refine BoolB.mk (fun h => ?_) (fun h => ?_)) <;> first | (exact absurd h (by decide)) | (conv => whnf)) | ((first | refine ⟨_, wrap_ok (by omega) (by omega), ?_⟩ | refine and_idx (by omega) (by omega) ?_ | refine reg_ok (by decide +kernel) ?_ | refine bar_ok (by decide +kernel) (by decide +kernel) ?_ | refine late_ok rfl rfl ?_ | refine src_ok rfl ?_ | refine .inl ⟨_, _, qcall_pure (s1) rfl rfl, ?_⟩ | refine .inl ⟨_, _, qcall_pure (s2) rfl rfl, ?_⟩ | refine LitB.data ?_ | refine BoxB.own ?_); conv => whnf)))
  all_goals first
    | (exfalso; simp_all; done)
    | exact fin_bool rfl
def fewF (n : Int) (f : Fr) : Bool := decide ((f.p.dl.length : Int) ≤ n) && decide ((f.q.dl.length : Int) ≤ n)
def little (e : Ev) : Bool := decide (e.moves.length ≤ 14) && decide (e.places.length ≤ 14) && decide (e.certs.length ≤ 20) && decide (e.purities.length ≤ 20) && decide (e.recalls.length ≤ 10) && (decide (e.mats ≤ 6) || decide (e.mats > 6))
theorem a_Little (e : Ev) : ACall Tryz.prog 46 [evS e] [] (boolS (little e)) [] := by
  have l1 : (e.moves.map Move.row).length = e.moves.length := by simp
  have l2 : (e.places.map Place.row).length = e.places.length := by simp
  have l3 : (e.certs.map Cert.row).length = e.certs.length := by simp
  have l4 : (e.purities.map Purity.row).length = e.purities.length := by simp
  have l5 : (e.recalls.map Recall.row).length = e.recalls.length := by simp
  (refine acall_of tab_ok Tryz.func46 rfl (by decide) ?_; (conv => whnf); repeat (first | (refine LitB.data ?_; conv => whnf) | (refine BoxB.data ?_; conv => whnf)))
  (repeat' (first | ((refine DecB.mk (fun h => ?_) (fun h => ?_)) <;> first | (exfalso; omega) | (conv => whnf)) | ((refine BoolB.mk (fun h => ?_) (fun h => ?_)) <;> first | (exact absurd h (by decide)) | (conv => whnf)) | ((first | refine ⟨_, wrap_ok (by omega) (by omega), ?_⟩ | refine and_idx (by omega) (by omega) ?_ | refine reg_ok (by decide +kernel) ?_ | refine bar_ok (by decide +kernel) (by decide +kernel) ?_ | refine late_ok rfl rfl ?_ | refine src_ok rfl ?_ | refine LitB.data ?_ | refine BoxB.own ?_); conv => whnf)))
  all_goals (refine fin_bool ?_; unfold little; simp; omega)
theorem SmallH.mono {m n : Nat} {hh : List (List Fr)} (h : SmallH m hh) (hmn : m ≤ n) : SmallH n hh := ⟨h.l1, h.l2, fun l hl f hf => by have := h.l3 l hl f hf; omega⟩
theorem little_sized {e : Ev} (h : little e = true) : e.Sized := by
  unfold little at h
  simp only [Bool.and_eq_true, decide_eq_true_eq] at h
  exact ⟨by omega, by omega, by omega, by omega, by omega⟩
end Go.Proofs.YtomfnfbijgjfeaaGreat
/- The examples of law 21: example, grams, small; what is little. -/
namespace Go.Proofs.YtomfnfbijgjfeaaGreat
open Go.RowKit
set_option linter.unusedVariables false
set_option linter.unusedSimpArgs false
set_option maxRecDepth 100000

abbrev ir (n : Int) : Rat := ((n : Int) : Rat)
def exT21 : Trace := ⟨⟨1, 2, 1, [⟨0, 0, 0⟩, ⟨0, 1, 0⟩, ⟨1, -1, -1⟩, ⟨6, -1, -1⟩], [⟨1, 0, 2, 0, 100, false⟩, ⟨1, 1, 2, -1, 0, false⟩, ⟨2, 2, 3, -1, 0, true⟩], [⟨0, 0, 9, 10, 0, 0⟩], [], []⟩, [⟨2, 0, 150⟩], []⟩
def grams3 (a b c : Int) : List Fr := [fz (ir a), fz (ir b), fz (ir c)]
theorem a_grams21 (a b c : Int) (ha : -1000 ≤ a ∧ a ≤ 1000) (hb : -1000 ≤ b ∧ b ≤ 1000) (hc : -1000 ≤ c ∧ c ≤ 1000) :
    ACall Tryz.prog 16 [intS .i64 a, intS .i64 b, intS .i64 c] [] (fracsS (grams3 a b c)) [] := by
  have i1 := r5Int a (by omega) (by omega)
  have i2 := r5Int b (by omega) (by omega)
  have i3 := r5Int c (by omega) (by omega)
  (refine acall_of tab_ok Tryz.func16 rfl (by decide) ?_; (conv => whnf); repeat (first | (refine LitB.data ?_; conv => whnf) | (refine BoxB.own ?_; conv => whnf)))
  (repeat' (first | ((refine DecB.mk (fun h => ?_) (fun h => ?_)) <;> first | (exfalso; omega) | (conv => whnf)) | ((refine BoolB.mk (fun h => ?_) (fun h => ?_)) <;> first | (exact absurd h (by decide)) | (conv => whnf)) | ((first | refine ⟨_, wrap_ok (by omega) (by omega), ?_⟩ | refine and_idx (by omega) (by omega) ?_ | refine reg_ok (by decide +kernel) ?_ | refine bar_ok (by decide +kernel) (by decide +kernel) ?_ | refine late_ok rfl rfl ?_ | refine src_ok rfl ?_ | refine .inl ⟨_, _, qcall_pure (i1) rfl rfl, ?_⟩ | refine .inl ⟨_, _, qcall_pure (i2) rfl rfl, ?_⟩ | refine .inl ⟨_, _, qcall_pure (i3) rfl rfl, ?_⟩ | refine LitB.weak ?_ | refine LitB.data ?_ | refine BoxB.own ?_); conv => whnf)))
  exact fin_t rfl
theorem a_example21 : ACall Tryz.prog 13 [] [] (trS exT21) [] := by
  (refine acall_of tab_ok Tryz.func13 rfl (by decide) ?_; (conv => whnf); repeat (first | (refine LitB.data ?_; conv => whnf) | (refine BoxB.own ?_; conv => whnf)))
  (repeat' (first | ((refine DecB.mk (fun h => ?_) (fun h => ?_)) <;> first | (exfalso; omega) | (conv => whnf)) | ((refine BoolB.mk (fun h => ?_) (fun h => ?_)) <;> first | (exact absurd h (by decide)) | (conv => whnf)) | ((first | refine ⟨_, wrap_ok (by omega) (by omega), ?_⟩ | refine and_idx (by omega) (by omega) ?_ | refine reg_ok (by decide +kernel) ?_ | refine bar_ok (by decide +kernel) (by decide +kernel) ?_ | refine late_ok rfl rfl ?_ | refine src_ok rfl ?_ | refine LitB.weak ?_ | refine LitB.data ?_ | refine BoxB.own ?_); conv => whnf)))
  exact fin_t ⟨rfl, rfl, rfl, rfl, rfl, rfl, rfl, rfl, rfl, rfl, trivial⟩
theorem ex21_sized : exT21.Sized := ⟨⟨by simp [exT21], by simp [exT21], by simp [exT21], by simp [exT21], by simp [exT21]⟩, by simp [exT21], by simp [exT21]⟩
theorem a_Short9 (f : Fr) : ACall Tryz.prog 47 [frS f] [] (boolS (fewF 6 f)) [] := by
  have l1 : (f.p.dl.map intRow).length = f.p.dl.length := by simp
  have l2 : (f.q.dl.map intRow).length = f.q.dl.length := by simp
  (refine acall_of tab_ok Tryz.func47 rfl (by decide) ?_; (conv => whnf); repeat (first | (refine LitB.data ?_; conv => whnf) | (refine BoxB.data ?_; conv => whnf)))
  (repeat' (first | ((refine DecB.mk (fun h => ?_) (fun h => ?_)) <;> first | (exfalso; omega) | (conv => whnf)) | ((refine BoolB.mk (fun h => ?_) (fun h => ?_)) <;> first | (exact absurd h (by decide)) | (conv => whnf)) | ((first | refine ⟨_, wrap_ok (by omega) (by omega), ?_⟩ | refine and_idx (by omega) (by omega) ?_ | refine reg_ok (by decide +kernel) ?_ | refine bar_ok (by decide +kernel) (by decide +kernel) ?_ | refine late_ok rfl rfl ?_ | refine src_ok rfl ?_ | refine LitB.data ?_ | refine BoxB.own ?_); conv => whnf)))
  all_goals (refine fin_bool ?_; unfold fewF; simp; omega)
def shortsB (l : List Fr) (n : Nat) : Bool := (l.take (n + 1)).all (fewF 6) && decide (l.length ≤ n)
theorem a_Shorts9 (l : List Fr) (n : Nat) (hn : n ≤ 1000) : ACall Tryz.prog 18 [fracsS l, intS .i64 n] [] (boolS (shortsB l n)) [] := by
  have m1 : (l.map frRow).length = l.length := by simp
  (refine acall_of tab_ok Tryz.func18 rfl (by decide) ?_; (conv => whnf); repeat (first | (refine LitB.data ?_; conv => whnf) | (refine BoxB.data ?_; conv => whnf)))
  (repeat' (first | ((refine DecB.mk (fun h => ?_) (fun h => ?_)) <;> first | (exfalso; omega) | (conv => whnf)) | ((refine BoolB.mk (fun h => ?_) (fun h => ?_)) <;> first | (exact absurd h (by decide)) | (conv => whnf)) | ((first | refine ⟨_, wrap_ok (by omega) (by omega), ?_⟩ | refine and_idx (by omega) (by omega) ?_ | refine reg_ok (by decide +kernel) ?_ | refine bar_ok (by decide +kernel) (by decide +kernel) ?_ | refine late_ok rfl rfl ?_ | refine src_ok rfl ?_ | refine LitB.data ?_ | refine BoxB.own ?_); conv => whnf)))
  refine awp_for tab_ok (fun k => ([fracsS l, intS .i64 n, J, J, J, intS .i64 k, J, J, J, J, J, J, J, J, J, J, J, J, J, J, J, J, J, J, J, J, J], [])) (n + 1) (fun k => k ≤ l.length ∧ (l.take k).all (fewF 6) = true) [] ⟨Nat.zero_le _, rfl⟩
    ⟨rfl, rfl, trivial, ⟨rfl, rfl, rfl, trivial⟩⟩ ?_
  rintro k hk ⟨hle, hI⟩
  by_cases hlt : k < l.length ∧ k < n + 1
  · obtain ⟨f, hf⟩ : ∃ f, l[k]? = some f := ⟨_, List.getElem?_eq_getElem hlt.1⟩
    have hf2 : (l.take (n + 1))[k]? = some f := by rw [List.getElem?_take, if_pos hlt.2]; exact hf
    have r := a_Short9 f
    cases hff : fewF 6 f with
    | true =>
      rw [hff] at r
      conv => whnf
      (repeat' (first | ((refine DecB.mk (fun h => ?_) (fun h => ?_)) <;> first | (exfalso; omega) | (conv => whnf)) | ((refine BoolB.mk (fun h => ?_) (fun h => ?_)) <;> first | (exact absurd h (by decide)) | (conv => whnf)) | ((first | refine ⟨_, wrap_ok (by omega) (by omega), ?_⟩ | refine and_idx (by omega) (by omega) ?_ | refine reg_ok (by decide +kernel) ?_ | refine bar_ok (by decide +kernel) (by decide +kernel) ?_ | refine late_ok rfl rfl ?_ | refine src_ok rfl ?_ | refine .inl ⟨_, _, qcall_pure (r) rfl rfl, ?_⟩ | refine ex_row hf ?_ | refine LitB.data ?_ | refine BoxB.own ?_); conv => whnf)))
      all_goals first
        | (exfalso; omega)
        | exact ⟨hlt.2, ⟨by omega, by rw [all_take_succ hf, hI, hff]; rfl⟩, [], rfl, rfl, trivial, ⟨rfl, rfl, rfl, trivial⟩⟩
    | false =>
      rw [hff] at r
      have e1 : shortsB l n = false := by unfold shortsB; rw [all_of_get hf2 hff]; rfl
      rw [e1]
      conv => whnf
      (repeat' (first | ((refine DecB.mk (fun h => ?_) (fun h => ?_)) <;> first | (exfalso; omega) | (conv => whnf)) | ((refine BoolB.mk (fun h => ?_) (fun h => ?_)) <;> first | (exact absurd h (by decide)) | (conv => whnf)) | ((first | refine ⟨_, wrap_ok (by omega) (by omega), ?_⟩ | refine and_idx (by omega) (by omega) ?_ | refine reg_ok (by decide +kernel) ?_ | refine bar_ok (by decide +kernel) (by decide +kernel) ?_ | refine late_ok rfl rfl ?_ | refine src_ok rfl ?_ | refine .inl ⟨_, _, qcall_pure (r) rfl rfl, ?_⟩ | refine ex_row hf ?_ | refine LitB.data ?_ | refine BoxB.own ?_); conv => whnf)))
      all_goals first
        | (exfalso; omega)
        | exact fin_bool rfl
  · have hk2 : l.length = k ∨ k = n + 1 := by omega
    have hall : (l.take (n + 1)).all (fewF 6) = true := by
      rcases hk2 with h | h
      · have e : l.take (n + 1) = l.take k := by rw [List.take_of_length_le (by omega), List.take_of_length_le (by omega)]
        rw [e]; exact hI
      · rw [← h]; exact hI
    conv => whnf
    (repeat' (first | ((refine DecB.mk (fun h => ?_) (fun h => ?_)) <;> first | (exfalso; omega) | (conv => whnf)) | ((refine BoolB.mk (fun h => ?_) (fun h => ?_)) <;> first | (exact absurd h (by decide)) | (conv => whnf)) | ((first | refine ⟨_, wrap_ok (by omega) (by omega), ?_⟩ | refine and_idx (by omega) (by omega) ?_ | refine reg_ok (by decide +kernel) ?_ | refine bar_ok (by decide +kernel) (by decide +kernel) ?_ | refine late_ok rfl rfl ?_ | refine src_ok rfl ?_ | refine LitB.data ?_ | refine BoxB.own ?_); conv => whnf)))
    all_goals first
      | (exfalso; omega)
      | (refine fin_bool ?_; unfold shortsB; rw [hall]; simp; omega)
def littleT (t : Trace) : Bool := little t.ev && decide (t.finds.length ≤ 10) && decide (t.cleans.length ≤ 10)
theorem a_LittleT (t : Trace) : ACall Tryz.prog 17 [trS t] [] (boolS (littleT t)) [] := by
  have r := a_Little t.ev
  have m1 : (t.finds.map Find.row).length = t.finds.length := by simp
  have m2 : (t.cleans.map Clean.row).length = t.cleans.length := by simp
  cases hq : little t.ev <;> rw [hq] at r <;>
  · (refine acall_of tab_ok Tryz.func17 rfl (by decide) ?_; (conv => whnf); repeat (first | (refine LitB.data ?_; conv => whnf) | (refine BoxB.data ?_; conv => whnf)))
    (repeat' (first | ((refine DecB.mk (fun h => ?_) (fun h => ?_)) <;> first | (exfalso; omega) | (conv => whnf)) | ((refine BoolB.mk (fun h => ?_) (fun h => ?_)) <;> first | (exact absurd h (by decide)) | (conv => whnf)) | ((first | refine ⟨_, wrap_ok (by omega) (by omega), ?_⟩ | refine and_idx (by omega) (by omega) ?_ | refine reg_ok (by decide +kernel) ?_ | refine bar_ok (by decide +kernel) (by decide +kernel) ?_ | refine late_ok rfl rfl ?_ | refine src_ok rfl ?_ | refine .inl ⟨_, _, qcall_pure (r) rfl rfl, ?_⟩ | refine LitB.data ?_ | refine BoxB.own ?_); conv => whnf)))
    all_goals (refine fin_bool ?_; unfold littleT; rw [hq]; simp; try omega)
def fewT (t : Trace) (z : List Fr) : Bool := littleT t && shortsB z 14
theorem a_few21 (t : Trace) (z : List Fr) : ACall Tryz.prog 5 [trS t, fracsS z] [] (boolS (fewT t z)) [] := by
  have r1 := a_LittleT t
  have r2 := a_Shorts9 z 14 (by decide)
  cases h1 : littleT t <;> cases h2 : shortsB z 14 <;> rw [h1] at r1 <;> rw [h2] at r2 <;>
  · (refine acall_of tab_ok Tryz.func5 rfl (by decide) ?_; (conv => whnf); repeat (first | (refine LitB.data ?_; conv => whnf) | (refine BoxB.data ?_; conv => whnf)))
    (repeat' (first | ((refine DecB.mk (fun h => ?_) (fun h => ?_)) <;> first | (exfalso; omega) | (conv => whnf)) | ((refine BoolB.mk (fun h => ?_) (fun h => ?_)) <;> first | (exact absurd h (by decide)) | (conv => whnf)) | ((first | refine ⟨_, wrap_ok (by omega) (by omega), ?_⟩ | refine and_idx (by omega) (by omega) ?_ | refine reg_ok (by decide +kernel) ?_ | refine bar_ok (by decide +kernel) (by decide +kernel) ?_ | refine late_ok rfl rfl ?_ | refine src_ok rfl ?_ | refine .inl ⟨_, _, qcall_pure (r1) rfl rfl, ?_⟩ | refine .inl ⟨_, _, qcall_pure (r2) rfl rfl, ?_⟩ | refine LitB.data ?_ | refine BoxB.own ?_); conv => whnf)))
    all_goals first
      | (exfalso; simp_all; done)
      | (refine fin_bool ?_; unfold fewT; rw [h1, h2]; rfl)
theorem littleT_sized {t : Trace} (h : littleT t = true) : t.Sized ∧ t.ev.moves.length ≤ 14 ∧ t.ev.recalls.length ≤ 10 ∧ t.finds.length ≤ 10 ∧ t.cleans.length ≤ 10 := by
  unfold littleT at h
  simp only [Bool.and_eq_true, decide_eq_true_eq] at h
  have h1 := h.1.1
  unfold little at h1
  simp only [Bool.and_eq_true, decide_eq_true_eq] at h1
  exact ⟨⟨little_sized h.1.1, by omega, by omega⟩, by omega, by omega, by omega, by omega⟩
theorem shorts_small {z : List Fr} {n : Nat} (h : shortsB z n = true) : z.length ≤ n ∧ ∀ f ∈ z, f.p.dl.length ≤ 6 ∧ f.q.dl.length ≤ 6 := by
  unfold shortsB at h
  simp only [Bool.and_eq_true, decide_eq_true_eq] at h
  obtain ⟨h1, h2⟩ := h
  rw [List.take_of_length_le (by omega), List.all_eq_true] at h1
  refine ⟨h2, fun f hf => ?_⟩
  have := h1 f hf
  unfold fewF at this
  simp only [Bool.and_eq_true, decide_eq_true_eq] at this
  omega
theorem rl_ir {n : Int} (h : -1000 ≤ n ∧ n ≤ 1000) : rl (ir n) ≤ 1 := by rw [rl_int]; have := bl_small (x := n) (by omega) (by omega); omega
theorem fz_lenI {n : Int} (h : -1000 ≤ n ∧ n ≤ 1000) {m : Nat} (hm : 1 ≤ m) : (fz (ir n)).p.dl.length ≤ m ∧ (fz (ir n)).q.dl.length ≤ m := by
  have h3 := rl_ir h
  have h4 := rl_num (ir n)
  have h5 := rl_den (ir n)
  exact ⟨show bl (ir n).num ≤ m by omega, show bl (ir n).den ≤ m by omega⟩
theorem ex21_m (kind a b c : Int) (v : Int) (h : matterE exT21 kind (grams3 a b c) = v) (ha : -1000 ≤ a ∧ a ≤ 1000) (hb : -1000 ≤ b ∧ b ≤ 1000) (hc : -1000 ≤ c ∧ c ≤ 1000) :
    ACall Tryz.prog 11 [trS exT21, intS .i64 kind, fracsS (grams3 a b c)] [] (intS .i64 v) [] := by
  have := a_Matter exT21 kind (grams3 a b c) ex21_sized (by simp [grams3]) (by
    intro f hf
    simp only [grams3, List.mem_cons, List.not_mem_nil, or_false] at hf
    rcases hf with rfl | rfl | rfl
    · exact fz_lenI ha (by decide)
    · exact fz_lenI hb (by decide)
    · exact fz_lenI hc (by decide))
  rw [h] at this
  exact this
instance : DecidableEq RowP := fun a b => decidable_of_iff (a.terms = b.terms ∧ a.kind = b.kind ∧ a.value = b.value) ⟨fun ⟨h1, h2, h3⟩ => by cases a; cases b; simp_all, fun h => by subst h; exact ⟨rfl, rfl, rfl⟩⟩
instance : DecidableEq SysP := fun a b => decidable_of_iff (a.n = b.n ∧ a.rows = b.rows) ⟨fun ⟨h1, h2⟩ => by cases a; cases b; simp_all, fun h => by subst h; exact ⟨rfl, rfl⟩⟩
def exS21 : SysP := ⟨3, [⟨[((0 : Int), ir 1)], 1, ir 110⟩, ⟨[((0 : Int), ir 1), ((1 : Int), ir 1), ((2 : Int), ir (-1))], 2, ir 0⟩, ⟨[((2 : Int), ir 1)], 0, ir 150⟩]⟩
theorem ex21_sys : sysR exT21 0 = exS21 := by decide +kernel
theorem ex21_e0 : sysE exT21 0 = 0 := by decide +kernel
theorem ex21_e8 : sysE exT21 8 = 1 := by decide +kernel
theorem ex21_t : traceE exT21 = 0 := by decide +kernel
set_option maxHeartbeats 4000000 in
theorem a_small21 : ACall Tryz.prog 4 [] [] (boolS true) [] := by
  have s1 := a_System exT21 0 ex21_sized
  rw [ex21_sys, ex21_e0] at s1
  have s2 := a_System exT21 8 ex21_sized
  rw [ex21_e8] at s2
  have ck := a_TCheck exT21 ex21_sized
  rw [ex21_t] at ck
  have g1 := a_grams21 100 50 150 (by decide) (by decide) (by decide)
  have g2 := a_grams21 150 0 150 (by decide) (by decide) (by decide)
  have g3 := a_grams21 40 40 80 (by decide) (by decide) (by decide)
  have g4 := a_grams21 100 50 140 (by decide) (by decide) (by decide)
  have g5 := a_grams21 100 40 150 (by decide) (by decide) (by decide)
  have g6 := a_grams21 0 0 0 (by decide) (by decide) (by decide)
  have c1 := ex21_m 0 100 50 150 0 (by decide +kernel) (by decide) (by decide) (by decide)
  have c2 := ex21_m 0 150 0 150 20 (by decide +kernel) (by decide) (by decide) (by decide)
  have c3 := ex21_m 0 40 40 80 24 (by decide +kernel) (by decide) (by decide) (by decide)
  have c4 := ex21_m 0 100 50 140 7 (by decide +kernel) (by decide) (by decide) (by decide)
  have c5 := ex21_m 0 100 40 150 4 (by decide +kernel) (by decide) (by decide) (by decide)
  have c6 := ex21_m 1 0 0 0 0 (by decide +kernel) (by decide) (by decide) (by decide)
  have i1 := r5Int 110 (by decide) (by decide)
  have i2 := r5Int 150 (by decide) (by decide)
  have f1 := a_SameF (fz (ir 110)) (fz_lenI (by decide) (by decide)).1 (fz_lenI (by decide) (by decide)).2
  have f2 := a_SameF (fz (ir 150)) (fz_lenI (by decide) (by decide)).1 (fz_lenI (by decide) (by decide)).2
  (refine acall_of tab_ok Tryz.func4 rfl (by decide) ?_; (conv => whnf); repeat (first | (refine LitB.data ?_; conv => whnf) | (refine BoxB.own ?_; conv => whnf)))
  (repeat' (first | ((refine DecB.mk (fun h => ?_) (fun h => ?_)) <;> first | (exfalso; omega) | (conv => whnf)) | ((refine BoolB.mk (fun h => ?_) (fun h => ?_)) <;> first | (exact absurd h (by decide)) | (conv => whnf)) | ((first | refine ⟨_, wrap_ok (by omega) (by omega), ?_⟩ | refine and_idx (by omega) (by omega) ?_ | refine reg_ok (by decide +kernel) ?_ | refine bar_ok (by decide +kernel) (by decide +kernel) ?_ | refine late_ok rfl rfl ?_ | refine src_ok rfl ?_ | refine .inl ⟨_, _, qcall_pure (a_example21) rfl rfl, ?_⟩ | refine .inl ⟨_, _, qcall_pure (s1) rfl rfl, ?_⟩ | refine .inl ⟨_, _, qcall_pure (s2) rfl rfl, ?_⟩ | refine .inl ⟨_, _, qcall_pure (ck) rfl rfl, ?_⟩ | refine .inl ⟨_, _, qcall_pure (g1) rfl rfl, ?_⟩ | refine .inl ⟨_, _, qcall_pure (g2) rfl rfl, ?_⟩ | refine .inl ⟨_, _, qcall_pure (g3) rfl rfl, ?_⟩ | refine .inl ⟨_, _, qcall_pure (g4) rfl rfl, ?_⟩ | refine .inl ⟨_, _, qcall_pure (g5) rfl rfl, ?_⟩ | refine .inl ⟨_, _, qcall_pure (g6) rfl rfl, ?_⟩ | refine .inl ⟨_, _, qcall_pure (c1) rfl rfl, ?_⟩ | refine .inl ⟨_, _, qcall_pure (c2) rfl rfl, ?_⟩ | refine .inl ⟨_, _, qcall_pure (c3) rfl rfl, ?_⟩ | refine .inl ⟨_, _, qcall_pure (c4) rfl rfl, ?_⟩ | refine .inl ⟨_, _, qcall_pure (c5) rfl rfl, ?_⟩ | refine .inl ⟨_, _, qcall_pure (c6) rfl rfl, ?_⟩ | refine .inl ⟨_, _, qcall_pure (i1) rfl rfl, ?_⟩ | refine .inl ⟨_, _, qcall_pure (i2) rfl rfl, ?_⟩ | refine .inl ⟨_, _, qcall_pure (f1) rfl rfl, ?_⟩ | refine .inl ⟨_, _, qcall_pure (f2) rfl rfl, ?_⟩ | refine .inl ⟨_, _, qcall_pure (4) rfl rfl, ?_⟩ | refine bar_late [4] (by decide +kernel) (by decide +kernel) ?_ | refine ex_row (xs := exS21.rows) (k := 0) rfl ?_ | refine ex_row (xs := exS21.rows) (k := 1) rfl ?_ | refine ex_row (xs := exS21.rows) (k := 2) rfl ?_ | refine LitB.data ?_ | refine BoxB.own ?_); conv => whnf)))
  all_goals first
    | (exfalso; exact h rfl)
    | (exfalso; exact absurd h (by decide))
    | exact fin_bool rfl
    | (exfalso; clear s1 s2 ck g1 g2 g3 g4 g5 g6 c1 c2 c3 c4 c5 c6 i1 i2 f1 f2; simp_all [exS21]; done)
end Go.Proofs.YtomfnfbijgjfeaaGreat
/- Digits, for the reference of big: plus. No program is in sight. -/
namespace Go.Proofs.YtomfnfbijgjfeaaGreat
set_option linter.unusedVariables false
set_option linter.unusedSimpArgs false

/-- the sum, digit by digit, appended -/
structure PluI (a b : List Int) (i : Nat) (out : List Int) (c : Int) : Prop where
  len : out.length = i
  ok : Okd out
  le : i ≤ max a.length b.length + 1
  top : i = max a.length b.length + 1 → c = 0
  c0 : 0 ≤ c
  c1 : c ≤ 1
  eq : val out + pw i * c = val (a.take i) + val (b.take i)
theorem PluI.init (a b : List Int) : PluI a b 0 [] 0 := ⟨rfl, .nil, Nat.zero_le _, fun _ => rfl, by decide, by decide, by simp [val]⟩
theorem PluI.step {a b out : List Int} {i : Nat} {c : Int} (h : PluI a b i out c) (ha : Okd a) (hb : Okd b) (hi : i < a.length ∨ i < b.length ∨ 0 < c) :
    PluI a b (i + 1) (out ++ [(dat a i + dat b i + c) % 1048576]) ((dat a i + dat b i + c) / 1048576) := by
  have h1 := ha.dat i
  have h2 := hb.dat i
  have h3 := h.c0
  have h4 := h.c1
  have hl := h.le
  have ht := h.top
  have hi2 : i ≤ max a.length b.length := by
    rcases Nat.lt_or_ge (max a.length b.length) i with h5 | h5
    · have := ht (by omega); omega
    · exact h5
  refine ⟨by simp [h.len], h.ok.append (Okd.cons (mod_rng _) .nil), by omega, fun e => ?_, by omega, by omega, ?_⟩
  · have e1 : dat a i = 0 := dat_none (by omega)
    have e2 : dat b i = 0 := dat_none (by omega)
    rw [e1, e2]; omega
  · rw [val_append, h.len, val_take_dat, val_take_dat, pw_succ]
    have h5 := h.eq
    have h6 : (dat a i + dat b i + c) % 1048576 = dat a i + dat b i + c - 1048576 * ((dat a i + dat b i + c) / 1048576) := by omega
    simp only [val]
    rw [h6]
    grind
theorem PluI.fin {a b out : List Int} {i : Nat} {c : Int} (h : PluI a b i out c) (la : a.length ≤ i) (lb : b.length ≤ i) (hc : c ≤ 0) : trimL out = dg (val a + val b).toNat := by
  have h1 := h.eq
  have h2 := h.c0
  obtain rfl : c = 0 := by omega
  rw [List.take_of_length_le la, List.take_of_length_le lb] at h1
  rw [trimL_dg h.ok]
  congr 2
  grind
end Go.Proofs.YtomfnfbijgjfeaaGreat
/- Reference of big: plus, Neg, Add, Sub, Mul, Compare. -/
namespace Go.Proofs.YtomfnfbijgjfeaaGreat
open Go.RowKit
set_option linter.unusedVariables false
set_option linter.unusedSimpArgs false
set_option maxRecDepth 100000

theorem r_plus (a b : List Int) (ha : Okd a) (hb : Okd b) (la : a.length ≤ 400000) (lb : b.length ≤ 400000) :
    ACall Tryz.prog 123 [intsS a, intsS b] [] (intsS (dg (val a + val b).toNat)) [] := by
  have l1 : (a.map intRow).length = a.length := by simp
  have l2 : (b.map intRow).length = b.length := by simp
  (refine acall_of tab_ok Tryz.func123 rfl (by decide) ?_; (conv => whnf); repeat (first | (refine LitB.data ?_; conv => whnf) | (refine BoxB.own ?_; conv => whnf)))
  (repeat' (first | ((refine DecB.mk (fun h => ?_) (fun h => ?_)) <;> first | (exfalso; omega) | (conv => whnf)) | ((refine BoolB.mk (fun h => ?_) (fun h => ?_)) <;> first | (exact absurd h (by decide)) | (conv => whnf)) | ((first | refine ⟨_, wrap_ok (by omega) (by omega), ?_⟩ | refine and_idx (by omega) (by omega) ?_ | refine reg_ok (by decide +kernel) ?_ | refine bar_ok (by decide +kernel) (by decide +kernel) ?_ | refine late_ok rfl rfl ?_ | refine src_ok rfl ?_ | refine LitB.data ?_ | refine BoxB.own ?_); conv => whnf)))
  refine awp_while tab_ok (σ := Nat × List Int × Int) (fun | (k, out, c) => ([intsS a, intsS b, J, J, J, ownI 0 out, intS .i64 c, intS .i64 k, J, J, J, J, J, J, J, J, J, J, J, J, J, J, J, J, J, J, J, J, J, J, J, J, J, J, J, J, J, J, J, J, J, J, J], [intsB out])) (fun x => PluI a b x.1 x.2.1 x.2.2) (fun x => max a.length b.length + 1 - x.1) (0, [], 0) [none]
    (PluI.init a b) ⟨rfl, rfl, ⟨⟨rfl, rfl⟩, trivial⟩, ⟨ent_t rfl, ent_t rfl, ⟨rfl, rfl, rfl⟩, rfl, rfl, trivial⟩⟩ ?_
  rintro ⟨k, out, c⟩ hI
  have hI : PluI a b k out c := hI
  have hlen := hI.len
  have hle := hI.le
  have hc0 := hI.c0
  have hc1 := hI.c1
  have hda := ha.dat k
  have hdb := hb.dat k
  have d1 := r_digit a k (by omega)
  have d2 := r_digit b k (by omega)
  have hm : (dat a k + dat b k + c).tmod 1048576 = (dat a k + dat b k + c) % 1048576 := Int.tmod_eq_emod_of_nonneg (by omega)
  have hd : (dat a k + dat b k + c).tdiv 1048576 = (dat a k + dat b k + c) / 1048576 := Int.tdiv_eq_ediv_of_nonneg (by omega)
  by_cases hgo : k < a.length ∨ k < b.length ∨ 0 < c
  · have hst := hI.step ha hb hgo
    have hk2 := hst.le
    conv => whnf
    (repeat' (first | ((refine DecB.mk (fun h => ?_) (fun h => ?_)) <;> first | (exfalso; omega) | (conv => whnf)) | ((refine BoolB.mk (fun h => ?_) (fun h => ?_)) <;> first | (exact absurd h (by decide)) | (conv => whnf)) | ((first | refine ⟨_, wrap_ok (by omega) (by omega), ?_⟩ | refine and_idx (by omega) (by omega) ?_ | refine reg_ok (by decide +kernel) ?_ | refine bar_ok (by decide +kernel) (by decide +kernel) ?_ | refine late_ok rfl rfl ?_ | refine src_ok rfl ?_ | refine .inl ⟨_, _, qcall_pure (d1) rfl rfl, ?_⟩ | refine .inl ⟨_, _, qcall_pure (d2) rfl rfl, ?_⟩ | refine .inl ⟨_, _, qcall_pure (toC) rfl rfl, ?_⟩ | refine .inl ⟨_, _, qcall_pure (toC) rfl rfl, ?_⟩ | refine app_ok (by simp [toC]) (by simp [toC]; omega) ?_ | refine ⟨by decide, _, wrap_eq hd (by omega) (by omega), ?_⟩ | refine ne_ok (by decide) ?_ | refine LitB.data ?_ | refine BoxB.own ?_); conv => whnf)))
    all_goals try (exfalso; omega)
    all_goals
      refine ⟨[some 1], (k + 1, out ++ [(dat a k + dat b k + c) % 1048576], (dat a k + dat b k + c) / 1048576), ⟨rfl, rfl, ⟨entB_rows rfl rfl rfl ?_ rfl, trivial⟩, ⟨rfl, rfl, ent_own rfl (by simp [toC]), rfl, ent_i (by omega), trivial⟩⟩, hst, ?_⟩
      · have e : ∀ y : Int, y = (dat a k + dat b k + c) % 1048576 → (toC (out.map intRow)).take out.length ++ toC [[ti y]] = toC ((out ++ [(dat a k + dat b k + c) % 1048576]).map intRow) := fun y hy => by rw [hy]; exact toC_app1
        exact e _ (by omega)
      · show max a.length b.length + 1 - (k + 1) < max a.length b.length + 1 - k
        omega
  · have hf := hI.fin (by omega) (by omega) (by omega)
    have t := r_trim out (by omega)
    rw [hf] at t
    conv => whnf
    (repeat' (first | ((refine DecB.mk (fun h => ?_) (fun h => ?_)) <;> first | (exfalso; omega) | (conv => whnf)) | ((refine BoolB.mk (fun h => ?_) (fun h => ?_)) <;> first | (exact absurd h (by decide)) | (conv => whnf)) | ((first | refine ⟨_, wrap_ok (by omega) (by omega), ?_⟩ | refine and_idx (by omega) (by omega) ?_ | refine reg_ok (by decide +kernel) ?_ | refine bar_ok (by decide +kernel) (by decide +kernel) ?_ | refine late_ok rfl rfl ?_ | refine src_ok rfl ?_ | refine .inl ⟨_, _, qcall_pure (0) rfl rfl, ?_⟩ | refine .inr ⟨_, _, acall_freeze [0] t ⟨vs_c (vc_all (by simp) rfl (by intro h; cases h) rfl rfl (by simp)), trivial⟩ rfl, ?_⟩ | refine LitB.data ?_ | refine BoxB.own ?_); conv => whnf)))
    all_goals first
      | (exfalso; omega)
      | exact fin_d rfl
theorem r_plusD (m n : Nat) (lm : (dg m).length ≤ 300000) (ln : (dg n).length ≤ 300000) : ACall Tryz.prog 123 [intsS (dg m), intsS (dg n)] [] (intsS (dg (m + n))) [] := by
  have h := r_plus (dg m) (dg n) (okd_dg m) (okd_dg n) (by omega) (by omega)
  rw [val_dg, val_dg, show ((m : Int) + n).toNat = m + n by omega] at h
  exact h
theorem r_minusD (m n : Nat) (lm : (dg m).length ≤ 300000) (h : n ≤ m) : ACall Tryz.prog 121 [intsS (dg m), intsS (dg n)] [] (intsS (dg (m - n))) [] := by
  have h := r_minus (dg m) (dg n) (okd_dg m) (okd_dg n) (by omega) (dg_len_mono h) (by rw [val_dg, val_dg]; omega)
  rw [val_dg, val_dg, show ((m : Int) - n).toNat = m - n by omega] at h
  exact h
theorem r_lessD (m n : Nat) (lm : (dg m).length ≤ 300000) (ln : (dg n).length ≤ 300000) : ACall Tryz.prog 102 [intsS (dg m), intsS (dg n)] [] (boolS (decide (m < n))) [] := by
  have h := r_less (dg m) (dg n) (okd_dg m) (okd_dg n) (by omega) (by omega)
  rw [val_dg, val_dg, show decide ((m : Int) < n) = decide (m < n) by simp] at h
  exact h
theorem r4Rt (s : Int) (m : Nat) (h : Sg s m) (lm : (dg m).length ≤ 300000) : ACall Tryz.prog 68 [bgS ⟨s, dg m⟩] [] (boolS true) [] := by
  have := r_bigRight ⟨s, dg m⟩ (show (dg m).length ≤ 1000000 by omega)
  rw [← bz_of_sg h, bz_right, bz_of_sg h] at this
  exact this
theorem r4Neg (x : Int) (lx : bl x ≤ 300000) : ACall Tryz.prog 106 [bgS (bz x)] [] (bgS (bz (-x))) [] := by
  have r := r4Right x lx
  have hs := sign_cases x
  have hsg : (bz x).sg = x.sign := rfl
  have sg := r_madeD (0 - (bz x).sg) x.natAbs (by omega) (by unfold bl at lx; omega)
  rw [show (0 - (bz x).sg) * (x.natAbs : Int) = -x by rw [hsg]; have := sgm x; grind] at sg
  (refine acall_of tab_ok Tryz.func106 rfl (by decide) ?_; (conv => whnf); repeat (first | (refine LitB.data ?_; conv => whnf) | (refine BoxB.data ?_; conv => whnf)))
  (repeat' (first | ((refine DecB.mk (fun h => ?_) (fun h => ?_)) <;> first | (exfalso; omega) | (conv => whnf)) | ((refine BoolB.mk (fun h => ?_) (fun h => ?_)) <;> first | (exact absurd h (by decide)) | (conv => whnf)) | ((first | refine ⟨_, wrap_ok (by omega) (by omega), ?_⟩ | refine and_idx (by omega) (by omega) ?_ | refine reg_ok (by decide +kernel) ?_ | refine bar_ok (by decide +kernel) (by decide +kernel) ?_ | refine late_ok rfl rfl ?_ | refine src_ok rfl ?_ | refine .inl ⟨_, _, qcall_pure (r) rfl rfl, ?_⟩ | refine .inl ⟨_, _, qcall_pure (sg) rfl rfl, ?_⟩ | refine LitB.data ?_ | refine BoxB.own ?_); conv => whnf)))
  all_goals first
    | (exfalso; simp_all; done)
    | exact fin_t ⟨rfl, rfl, trivial⟩
end Go.Proofs.YtomfnfbijgjfeaaGreat
/- Reference of big: Same, Add, Sub, Mul, Compare. -/
namespace Go.Proofs.YtomfnfbijgjfeaaGreat
open Go.RowKit
set_option linter.unusedVariables false
set_option linter.unusedSimpArgs false
set_option maxRecDepth 100000

theorem take_snocR {α : Type} {l : List α} {k : Nat} {x : α} (h : l[k]? = some x) : l.take (k + 1) = l.take k ++ [x] := by
  rw [List.take_add_one, h]; rfl
theorem r4Same (a b : Bg) (ha : a.dl.length ≤ 1000000) (hb : b.dl.length ≤ 1000000) : ACall Tryz.prog 101 [bgS a, bgS b] [] (boolS (decide (a.sg = b.sg ∧ a.dl = b.dl))) [] := by
  have l1 : (a.dl.map intRow).length = a.dl.length := by simp
  have l2 : (b.dl.map intRow).length = b.dl.length := by simp
  by_cases h0 : ¬ (a.sg = b.sg ∧ a.dl.length = b.dl.length)
  · (refine acall_of tab_ok Tryz.func101 rfl (by decide) ?_; (conv => whnf); repeat (first | (refine LitB.data ?_; conv => whnf) | (refine BoxB.data ?_; conv => whnf)))
    (repeat' (first | ((refine DecB.mk (fun h => ?_) (fun h => ?_)) <;> first | (exfalso; omega) | (conv => whnf)) | ((refine BoolB.mk (fun h => ?_) (fun h => ?_)) <;> first | (exact absurd h (by decide)) | (conv => whnf)) | ((first | refine ⟨_, wrap_ok (by omega) (by omega), ?_⟩ | refine and_idx (by omega) (by omega) ?_ | refine reg_ok (by decide +kernel) ?_ | refine bar_ok (by decide +kernel) (by decide +kernel) ?_ | refine late_ok rfl rfl ?_ | refine src_ok rfl ?_ | refine LitB.data ?_ | refine BoxB.own ?_); conv => whnf)))
    all_goals first
      | (exfalso; omega)
      | (refine fin_bool (decide_eq_false ?_).symm; rintro ⟨h1, h2⟩; rw [h2] at h0; exact h0 ⟨h1, rfl⟩)
  have h0 : a.sg = b.sg ∧ a.dl.length = b.dl.length := Decidable.not_not.1 h0
  (refine acall_of tab_ok Tryz.func101 rfl (by decide) ?_; (conv => whnf); repeat (first | (refine LitB.data ?_; conv => whnf) | (refine BoxB.data ?_; conv => whnf)))
  (repeat' (first | ((refine DecB.mk (fun h => ?_) (fun h => ?_)) <;> first | (exfalso; omega) | (conv => whnf)) | ((refine BoolB.mk (fun h => ?_) (fun h => ?_)) <;> first | (exact absurd h (by decide)) | (conv => whnf)) | ((first | refine ⟨_, wrap_ok (by omega) (by omega), ?_⟩ | refine and_idx (by omega) (by omega) ?_ | refine reg_ok (by decide +kernel) ?_ | refine bar_ok (by decide +kernel) (by decide +kernel) ?_ | refine late_ok rfl rfl ?_ | refine src_ok rfl ?_ | refine LitB.data ?_ | refine BoxB.own ?_); conv => whnf)))
  all_goals try (exfalso; omega)
  refine awp_for tab_ok (fun k => ([J, J, S.c (C.t (T.ptr [ti a.sg, intsT a.dl])), S.c (C.t (T.ptr [ti b.sg, intsT b.dl])), J, intS .i64 k, J, J, J, J, J, J, J, J, J, J, J, J, J, J, J, J, J, J, J, J, J, J, J, J, J, J, J, J, J, J, J, J], [])) a.dl.length (fun k => a.dl.take k = b.dl.take k) [] rfl
    ⟨rfl, rfl, trivial, ⟨rfl, rfl, rfl, trivial⟩⟩ ?_
  intro k hk hI
  by_cases hlt : k < a.dl.length
  · obtain ⟨x, hx⟩ : ∃ x, a.dl[k]? = some x := ⟨_, List.getElem?_eq_getElem hlt⟩
    obtain ⟨y, hy⟩ : ∃ y, b.dl[k]? = some y := ⟨_, List.getElem?_eq_getElem (by omega)⟩
    conv => whnf
    (repeat' (first | ((refine DecB.mk (fun h => ?_) (fun h => ?_)) <;> first | (exfalso; omega) | (conv => whnf)) | ((refine BoolB.mk (fun h => ?_) (fun h => ?_)) <;> first | (exact absurd h (by decide)) | (conv => whnf)) | ((first | refine ⟨_, wrap_ok (by omega) (by omega), ?_⟩ | refine and_idx (by omega) (by omega) ?_ | refine reg_ok (by decide +kernel) ?_ | refine bar_ok (by decide +kernel) (by decide +kernel) ?_ | refine late_ok rfl rfl ?_ | refine src_ok rfl ?_ | refine ex_row hx ?_ | refine ex_row hy ?_ | refine LitB.data ?_ | refine BoxB.own ?_); conv => whnf)))
    · have hne : x ≠ y := ‹x ≠ y›
      refine fin_bool (decide_eq_false ?_).symm
      rintro ⟨_, hq⟩; rw [hq, hy] at hx; injection hx with hx; exact hne hx.symm
    · have hxy : x = y := by omega
      refine ⟨hlt, ?_, [], rfl, rfl, trivial, ⟨rfl, rfl, rfl, trivial⟩⟩
      rw [take_snocR hx, take_snocR hy, hI, hxy]
    all_goals (exfalso; omega)
  · rw [List.take_of_length_le (by omega), List.take_of_length_le (by omega)] at hI
    conv => whnf
    (repeat' (first | ((refine DecB.mk (fun h => ?_) (fun h => ?_)) <;> first | (exfalso; omega) | (conv => whnf)) | ((refine BoolB.mk (fun h => ?_) (fun h => ?_)) <;> first | (exact absurd h (by decide)) | (conv => whnf)) | ((first | refine ⟨_, wrap_ok (by omega) (by omega), ?_⟩ | refine and_idx (by omega) (by omega) ?_ | refine reg_ok (by decide +kernel) ?_ | refine bar_ok (by decide +kernel) (by decide +kernel) ?_ | refine late_ok rfl rfl ?_ | refine src_ok rfl ?_ | refine LitB.data ?_ | refine BoxB.own ?_); conv => whnf)))
    all_goals first
      | (exfalso; omega)
      | exact fin_bool (decide_eq_true ⟨h0.1, hI⟩).symm
theorem orS00 : IsBits .or .i64 0 0 0 := by show (0 : Int) = _; decide +kernel
theorem orS01 : IsBits .or .i64 0 1 1 := by show (1 : Int) = _; decide +kernel
theorem orS10 : IsBits .or .i64 1 0 1 := by show (1 : Int) = _; decide +kernel
theorem orS11 : IsBits .or .i64 1 1 1 := by show (1 : Int) = _; decide +kernel
theorem orS0m : IsBits .or .i64 0 (-1) (-1) := by show (-1 : Int) = _; decide +kernel
theorem orSm0 : IsBits .or .i64 (-1) 0 (-1) := by show (-1 : Int) = _; decide +kernel
theorem orSmm : IsBits .or .i64 (-1) (-1) (-1) := by show (-1 : Int) = _; decide +kernel
set_option maxHeartbeats 4000000 in
theorem r4AddS (s t : Int) (m n : Nat) (hs : Sg s m) (ht : Sg t n) (lm : (dg m).length ≤ 200000) (ln : (dg n).length ≤ 200000) :
    ACall Tryz.prog 103 [bgS ⟨s, dg m⟩, bgS ⟨t, dg n⟩] [] (.tup [bgS (bz (s * m + t * n)), intS .i64 0]) [] := by
  have r1 := r4Rt s m hs (by omega)
  have r2 := r4Rt t n ht (by omega)
  have ad := r_plusD m n (by omega) (by omega)
  have c := r_lessD m n (by omega) (by omega)
  have ls := dg_add_len m n
  have fin : ∀ (z : Int) (H1 : Hp), z = s * m + t * n → Fin 0 (.tup [bgS (bz z), intS .i64 0]) H1 (.tup [bgS (bz (s * m + t * n)), intS .i64 0]) [] := fun z H1 h => fin_be (by rw [h])
  rcases hs with ⟨rfl, rfl⟩ | ⟨rfl, h1⟩ | ⟨rfl, h1⟩ <;> rcases ht with ⟨rfl, rfl⟩ | ⟨rfl, h2⟩ | ⟨rfl, h2⟩
  case inl.inl =>
    have sg := r_madeD (0) _ (by omega) (le_of_len ls (by omega))
    (refine acall_of tab_ok Tryz.func103 rfl (by decide) ?_; (conv => whnf); repeat (first | (refine LitB.data ?_; conv => whnf) | (refine BoxB.data ?_; conv => whnf)))
    (repeat' (first | ((refine DecB.mk (fun h => ?_) (fun h => ?_)) <;> first | (exfalso; omega) | (conv => whnf)) | ((refine BoolB.mk (fun h => ?_) (fun h => ?_)) <;> first | (exact absurd h (by decide)) | (conv => whnf)) | ((first | refine ⟨_, wrap_ok (by omega) (by omega), ?_⟩ | refine and_idx (by omega) (by omega) ?_ | refine reg_ok (by decide +kernel) ?_ | refine bar_ok (by decide +kernel) (by decide +kernel) ?_ | refine late_ok rfl rfl ?_ | refine src_ok rfl ?_ | refine .inl ⟨_, _, qcall_pure (r1) rfl rfl, ?_⟩ | refine .inl ⟨_, _, qcall_pure (r2) rfl rfl, ?_⟩ | refine .inl ⟨_, _, qcall_pure (ad) rfl rfl, ?_⟩ | refine .inl ⟨_, _, qcall_pure (sg) rfl rfl, ?_⟩ | refine ⟨_, orS00, ?_⟩ | refine LitB.data ?_ | refine BoxB.own ?_); conv => whnf)))
    all_goals first | (exfalso; omega) | (exfalso; simp_all; done) | exact fin _ _ (by omega)
  case inl.inr.inl =>
    have sg := r_madeD (1) _ (by omega) (le_of_len ls (by omega))
    (refine acall_of tab_ok Tryz.func103 rfl (by decide) ?_; (conv => whnf); repeat (first | (refine LitB.data ?_; conv => whnf) | (refine BoxB.data ?_; conv => whnf)))
    (repeat' (first | ((refine DecB.mk (fun h => ?_) (fun h => ?_)) <;> first | (exfalso; omega) | (conv => whnf)) | ((refine BoolB.mk (fun h => ?_) (fun h => ?_)) <;> first | (exact absurd h (by decide)) | (conv => whnf)) | ((first | refine ⟨_, wrap_ok (by omega) (by omega), ?_⟩ | refine and_idx (by omega) (by omega) ?_ | refine reg_ok (by decide +kernel) ?_ | refine bar_ok (by decide +kernel) (by decide +kernel) ?_ | refine late_ok rfl rfl ?_ | refine src_ok rfl ?_ | refine .inl ⟨_, _, qcall_pure (r1) rfl rfl, ?_⟩ | refine .inl ⟨_, _, qcall_pure (r2) rfl rfl, ?_⟩ | refine .inl ⟨_, _, qcall_pure (ad) rfl rfl, ?_⟩ | refine .inl ⟨_, _, qcall_pure (sg) rfl rfl, ?_⟩ | refine ⟨_, orS01, ?_⟩ | refine LitB.data ?_ | refine BoxB.own ?_); conv => whnf)))
    all_goals first | (exfalso; omega) | (exfalso; simp_all; done) | exact fin _ _ (by omega)
  case inl.inr.inr =>
    have sg := r_madeD (-1) _ (by omega) (le_of_len ls (by omega))
    (refine acall_of tab_ok Tryz.func103 rfl (by decide) ?_; (conv => whnf); repeat (first | (refine LitB.data ?_; conv => whnf) | (refine BoxB.data ?_; conv => whnf)))
    (repeat' (first | ((refine DecB.mk (fun h => ?_) (fun h => ?_)) <;> first | (exfalso; omega) | (conv => whnf)) | ((refine BoolB.mk (fun h => ?_) (fun h => ?_)) <;> first | (exact absurd h (by decide)) | (conv => whnf)) | ((first | refine ⟨_, wrap_ok (by omega) (by omega), ?_⟩ | refine and_idx (by omega) (by omega) ?_ | refine reg_ok (by decide +kernel) ?_ | refine bar_ok (by decide +kernel) (by decide +kernel) ?_ | refine late_ok rfl rfl ?_ | refine src_ok rfl ?_ | refine .inl ⟨_, _, qcall_pure (r1) rfl rfl, ?_⟩ | refine .inl ⟨_, _, qcall_pure (r2) rfl rfl, ?_⟩ | refine .inl ⟨_, _, qcall_pure (ad) rfl rfl, ?_⟩ | refine .inl ⟨_, _, qcall_pure (sg) rfl rfl, ?_⟩ | refine ⟨_, orS0m, ?_⟩ | refine LitB.data ?_ | refine BoxB.own ?_); conv => whnf)))
    all_goals first | (exfalso; omega) | (exfalso; simp_all; done) | exact fin _ _ (by omega)
  case inr.inl.inl =>
    have sg := r_madeD (1) _ (by omega) (le_of_len ls (by omega))
    (refine acall_of tab_ok Tryz.func103 rfl (by decide) ?_; (conv => whnf); repeat (first | (refine LitB.data ?_; conv => whnf) | (refine BoxB.data ?_; conv => whnf)))
    (repeat' (first | ((refine DecB.mk (fun h => ?_) (fun h => ?_)) <;> first | (exfalso; omega) | (conv => whnf)) | ((refine BoolB.mk (fun h => ?_) (fun h => ?_)) <;> first | (exact absurd h (by decide)) | (conv => whnf)) | ((first | refine ⟨_, wrap_ok (by omega) (by omega), ?_⟩ | refine and_idx (by omega) (by omega) ?_ | refine reg_ok (by decide +kernel) ?_ | refine bar_ok (by decide +kernel) (by decide +kernel) ?_ | refine late_ok rfl rfl ?_ | refine src_ok rfl ?_ | refine .inl ⟨_, _, qcall_pure (r1) rfl rfl, ?_⟩ | refine .inl ⟨_, _, qcall_pure (r2) rfl rfl, ?_⟩ | refine .inl ⟨_, _, qcall_pure (ad) rfl rfl, ?_⟩ | refine .inl ⟨_, _, qcall_pure (sg) rfl rfl, ?_⟩ | refine ⟨_, orS10, ?_⟩ | refine LitB.data ?_ | refine BoxB.own ?_); conv => whnf)))
    all_goals first | (exfalso; omega) | (exfalso; simp_all; done) | exact fin _ _ (by omega)
  case inr.inr.inl =>
    have sg := r_madeD (-1) _ (by omega) (le_of_len ls (by omega))
    (refine acall_of tab_ok Tryz.func103 rfl (by decide) ?_; (conv => whnf); repeat (first | (refine LitB.data ?_; conv => whnf) | (refine BoxB.data ?_; conv => whnf)))
    (repeat' (first | ((refine DecB.mk (fun h => ?_) (fun h => ?_)) <;> first | (exfalso; omega) | (conv => whnf)) | ((refine BoolB.mk (fun h => ?_) (fun h => ?_)) <;> first | (exact absurd h (by decide)) | (conv => whnf)) | ((first | refine ⟨_, wrap_ok (by omega) (by omega), ?_⟩ | refine and_idx (by omega) (by omega) ?_ | refine reg_ok (by decide +kernel) ?_ | refine bar_ok (by decide +kernel) (by decide +kernel) ?_ | refine late_ok rfl rfl ?_ | refine src_ok rfl ?_ | refine .inl ⟨_, _, qcall_pure (r1) rfl rfl, ?_⟩ | refine .inl ⟨_, _, qcall_pure (r2) rfl rfl, ?_⟩ | refine .inl ⟨_, _, qcall_pure (ad) rfl rfl, ?_⟩ | refine .inl ⟨_, _, qcall_pure (sg) rfl rfl, ?_⟩ | refine ⟨_, orSm0, ?_⟩ | refine LitB.data ?_ | refine BoxB.own ?_); conv => whnf)))
    all_goals first | (exfalso; omega) | (exfalso; simp_all; done) | exact fin _ _ (by omega)
  case inr.inl.inr.inl =>
    have sg := r_madeD (1) _ (by omega) (le_of_len ls (by omega))
    (refine acall_of tab_ok Tryz.func103 rfl (by decide) ?_; (conv => whnf); repeat (first | (refine LitB.data ?_; conv => whnf) | (refine BoxB.data ?_; conv => whnf)))
    (repeat' (first | ((refine DecB.mk (fun h => ?_) (fun h => ?_)) <;> first | (exfalso; omega) | (conv => whnf)) | ((refine BoolB.mk (fun h => ?_) (fun h => ?_)) <;> first | (exact absurd h (by decide)) | (conv => whnf)) | ((first | refine ⟨_, wrap_ok (by omega) (by omega), ?_⟩ | refine and_idx (by omega) (by omega) ?_ | refine reg_ok (by decide +kernel) ?_ | refine bar_ok (by decide +kernel) (by decide +kernel) ?_ | refine late_ok rfl rfl ?_ | refine src_ok rfl ?_ | refine .inl ⟨_, _, qcall_pure (r1) rfl rfl, ?_⟩ | refine .inl ⟨_, _, qcall_pure (r2) rfl rfl, ?_⟩ | refine .inl ⟨_, _, qcall_pure (ad) rfl rfl, ?_⟩ | refine .inl ⟨_, _, qcall_pure (sg) rfl rfl, ?_⟩ | refine ⟨_, orS11, ?_⟩ | refine LitB.data ?_ | refine BoxB.own ?_); conv => whnf)))
    all_goals first | (exfalso; omega) | (exfalso; simp_all; done) | exact fin _ _ (by omega)
  case inr.inr.inr.inr =>
    have sg := r_madeD (-1) _ (by omega) (le_of_len ls (by omega))
    (refine acall_of tab_ok Tryz.func103 rfl (by decide) ?_; (conv => whnf); repeat (first | (refine LitB.data ?_; conv => whnf) | (refine BoxB.data ?_; conv => whnf)))
    (repeat' (first | ((refine DecB.mk (fun h => ?_) (fun h => ?_)) <;> first | (exfalso; omega) | (conv => whnf)) | ((refine BoolB.mk (fun h => ?_) (fun h => ?_)) <;> first | (exact absurd h (by decide)) | (conv => whnf)) | ((first | refine ⟨_, wrap_ok (by omega) (by omega), ?_⟩ | refine and_idx (by omega) (by omega) ?_ | refine reg_ok (by decide +kernel) ?_ | refine bar_ok (by decide +kernel) (by decide +kernel) ?_ | refine late_ok rfl rfl ?_ | refine src_ok rfl ?_ | refine .inl ⟨_, _, qcall_pure (r1) rfl rfl, ?_⟩ | refine .inl ⟨_, _, qcall_pure (r2) rfl rfl, ?_⟩ | refine .inl ⟨_, _, qcall_pure (ad) rfl rfl, ?_⟩ | refine .inl ⟨_, _, qcall_pure (sg) rfl rfl, ?_⟩ | refine ⟨_, orSmm, ?_⟩ | refine LitB.data ?_ | refine BoxB.own ?_); conv => whnf)))
    all_goals first | (exfalso; omega) | (exfalso; simp_all; done) | exact fin _ _ (by omega)
  case inr.inl.inr.inr =>
    rcases Nat.lt_or_ge m n with hmn | hmn
    · rw [decide_eq_true hmn] at c
      have l3 := dg_len_mono (Nat.sub_le n m)
      (refine acall_of tab_ok Tryz.func103 rfl (by decide) ?_; (conv => whnf); repeat (first | (refine LitB.data ?_; conv => whnf) | (refine BoxB.data ?_; conv => whnf)))
      (repeat' (first | ((refine DecB.mk (fun h => ?_) (fun h => ?_)) <;> first | (exfalso; omega) | (conv => whnf)) | ((refine BoolB.mk (fun h => ?_) (fun h => ?_)) <;> first | (exact absurd h (by decide)) | (conv => whnf)) | ((first | refine ⟨_, wrap_ok (by omega) (by omega), ?_⟩ | refine and_idx (by omega) (by omega) ?_ | refine reg_ok (by decide +kernel) ?_ | refine bar_ok (by decide +kernel) (by decide +kernel) ?_ | refine late_ok rfl rfl ?_ | refine src_ok rfl ?_ | refine .inl ⟨_, _, qcall_pure (r1) rfl rfl, ?_⟩ | refine .inl ⟨_, _, qcall_pure (r2) rfl rfl, ?_⟩ | refine .inl ⟨_, _, qcall_pure (c) rfl rfl, ?_⟩ | refine .inl ⟨_, _, qcall_pure (r_minusD n m (by omega) (by omega)) rfl rfl, ?_⟩ | refine .inl ⟨_, _, qcall_pure (r_madeD (-1) (n - m) (by omega) (by omega)) rfl rfl, ?_⟩ | refine LitB.data ?_ | refine BoxB.own ?_); conv => whnf)))
      all_goals first | (exfalso; omega) | (exfalso; simp_all; done) | exact fin _ _ (by omega)
    · rw [decide_eq_false (Nat.not_lt.2 hmn)] at c
      have l3 := dg_len_mono (Nat.sub_le m n)
      (refine acall_of tab_ok Tryz.func103 rfl (by decide) ?_; (conv => whnf); repeat (first | (refine LitB.data ?_; conv => whnf) | (refine BoxB.data ?_; conv => whnf)))
      (repeat' (first | ((refine DecB.mk (fun h => ?_) (fun h => ?_)) <;> first | (exfalso; omega) | (conv => whnf)) | ((refine BoolB.mk (fun h => ?_) (fun h => ?_)) <;> first | (exact absurd h (by decide)) | (conv => whnf)) | ((first | refine ⟨_, wrap_ok (by omega) (by omega), ?_⟩ | refine and_idx (by omega) (by omega) ?_ | refine reg_ok (by decide +kernel) ?_ | refine bar_ok (by decide +kernel) (by decide +kernel) ?_ | refine late_ok rfl rfl ?_ | refine src_ok rfl ?_ | refine .inl ⟨_, _, qcall_pure (r1) rfl rfl, ?_⟩ | refine .inl ⟨_, _, qcall_pure (r2) rfl rfl, ?_⟩ | refine .inl ⟨_, _, qcall_pure (c) rfl rfl, ?_⟩ | refine .inl ⟨_, _, qcall_pure (r_minusD m n (by omega) (by omega)) rfl rfl, ?_⟩ | refine .inl ⟨_, _, qcall_pure (r_madeD (1) (m - n) (by omega) (by omega)) rfl rfl, ?_⟩ | refine LitB.data ?_ | refine BoxB.own ?_); conv => whnf)))
      all_goals first | (exfalso; omega) | (exfalso; simp_all; done) | exact fin _ _ (by omega)
  case inr.inr.inr.inl =>
    rcases Nat.lt_or_ge m n with hmn | hmn
    · rw [decide_eq_true hmn] at c
      have l3 := dg_len_mono (Nat.sub_le n m)
      (refine acall_of tab_ok Tryz.func103 rfl (by decide) ?_; (conv => whnf); repeat (first | (refine LitB.data ?_; conv => whnf) | (refine BoxB.data ?_; conv => whnf)))
      (repeat' (first | ((refine DecB.mk (fun h => ?_) (fun h => ?_)) <;> first | (exfalso; omega) | (conv => whnf)) | ((refine BoolB.mk (fun h => ?_) (fun h => ?_)) <;> first | (exact absurd h (by decide)) | (conv => whnf)) | ((first | refine ⟨_, wrap_ok (by omega) (by omega), ?_⟩ | refine and_idx (by omega) (by omega) ?_ | refine reg_ok (by decide +kernel) ?_ | refine bar_ok (by decide +kernel) (by decide +kernel) ?_ | refine late_ok rfl rfl ?_ | refine src_ok rfl ?_ | refine .inl ⟨_, _, qcall_pure (r1) rfl rfl, ?_⟩ | refine .inl ⟨_, _, qcall_pure (r2) rfl rfl, ?_⟩ | refine .inl ⟨_, _, qcall_pure (c) rfl rfl, ?_⟩ | refine .inl ⟨_, _, qcall_pure (r_minusD n m (by omega) (by omega)) rfl rfl, ?_⟩ | refine .inl ⟨_, _, qcall_pure (r_madeD (1) (n - m) (by omega) (by omega)) rfl rfl, ?_⟩ | refine LitB.data ?_ | refine BoxB.own ?_); conv => whnf)))
      all_goals first | (exfalso; omega) | (exfalso; simp_all; done) | exact fin _ _ (by omega)
    · rw [decide_eq_false (Nat.not_lt.2 hmn)] at c
      have l3 := dg_len_mono (Nat.sub_le m n)
      (refine acall_of tab_ok Tryz.func103 rfl (by decide) ?_; (conv => whnf); repeat (first | (refine LitB.data ?_; conv => whnf) | (refine BoxB.data ?_; conv => whnf)))
      (repeat' (first | ((refine DecB.mk (fun h => ?_) (fun h => ?_)) <;> first | (exfalso; omega) | (conv => whnf)) | ((refine BoolB.mk (fun h => ?_) (fun h => ?_)) <;> first | (exact absurd h (by decide)) | (conv => whnf)) | ((first | refine ⟨_, wrap_ok (by omega) (by omega), ?_⟩ | refine and_idx (by omega) (by omega) ?_ | refine reg_ok (by decide +kernel) ?_ | refine bar_ok (by decide +kernel) (by decide +kernel) ?_ | refine late_ok rfl rfl ?_ | refine src_ok rfl ?_ | refine .inl ⟨_, _, qcall_pure (r1) rfl rfl, ?_⟩ | refine .inl ⟨_, _, qcall_pure (r2) rfl rfl, ?_⟩ | refine .inl ⟨_, _, qcall_pure (c) rfl rfl, ?_⟩ | refine .inl ⟨_, _, qcall_pure (r_minusD m n (by omega) (by omega)) rfl rfl, ?_⟩ | refine .inl ⟨_, _, qcall_pure (r_madeD (-1) (m - n) (by omega) (by omega)) rfl rfl, ?_⟩ | refine LitB.data ?_ | refine BoxB.own ?_); conv => whnf)))
      all_goals first | (exfalso; omega) | (exfalso; simp_all; done) | exact fin _ _ (by omega)
theorem r4Add (x y : Int) (lx : bl x ≤ 200000) (ly : bl y ≤ 200000) : ACall Tryz.prog 103 [bgS (bz x), bgS (bz y)] [] (.tup [bgS (bz (x + y)), intS .i64 0]) [] := by
  have h := r4AddS _ _ _ _ (sg_bz x) (sg_bz y) lx ly
  rw [sgm, sgm] at h
  exact h
set_option maxHeartbeats 2000000 in
theorem r4Sub (x y : Int) (lx : bl x ≤ 200000) (ly : bl y ≤ 200000) : ACall Tryz.prog 104 [bgS (bz x), bgS (bz y)] [] (.tup [bgS (bz (x - y)), intS .i64 0]) [] := by
  have r := r4Right y (by omega)
  have n := r4Neg y (by omega)
  have a := r4Add x (-y) lx (by rw [bl_neg]; exact ly)
  rw [← Int.sub_eq_add_neg] at a
  (refine acall_of tab_ok Tryz.func104 rfl (by decide) ?_; (conv => whnf); repeat (first | (refine LitB.data ?_; conv => whnf) | (refine BoxB.data ?_; conv => whnf)))
  (repeat' (first | ((refine DecB.mk (fun h => ?_) (fun h => ?_)) <;> first | (exfalso; omega) | (conv => whnf)) | ((refine BoolB.mk (fun h => ?_) (fun h => ?_)) <;> first | (exact absurd h (by decide)) | (conv => whnf)) | ((first | refine ⟨_, wrap_ok (by omega) (by omega), ?_⟩ | refine and_idx (by omega) (by omega) ?_ | refine reg_ok (by decide +kernel) ?_ | refine bar_ok (by decide +kernel) (by decide +kernel) ?_ | refine late_ok rfl rfl ?_ | refine src_ok rfl ?_ | refine .inl ⟨_, _, qcall_pure (r) rfl rfl, ?_⟩ | refine .inl ⟨_, _, qcall_pure (n) rfl rfl, ?_⟩ | refine .inl ⟨_, _, qcall_pure (a) rfl rfl, ?_⟩ | refine .inl ⟨_, _, qcall_pure (6) rfl rfl, ?_⟩ | refine .inl ⟨_, _, qcall_pure (1) rfl rfl, ?_⟩ | refine bar_late [6] (by decide +kernel) (by decide +kernel) ?_ | refine bar_late [1] (by decide +kernel) (by decide +kernel) ?_ | refine LitB.data ?_ | refine BoxB.own ?_); conv => whnf)))
  all_goals first
    | (exfalso; simp_all; done)
    | exact fin_be rfl
theorem r4MulS (s t : Int) (m n : Nat) (hs : Sg s m) (ht : Sg t n) (lm : (dg m).length ≤ 200000) (ln : (dg n).length ≤ 200000) :
    ACall Tryz.prog 74 [bgS ⟨s, dg m⟩, bgS ⟨t, dg n⟩] [] (.tup [bgS (bz ((s * t) * (m * n : Nat))), intS .i64 0]) [] := by
  have r1 := r4Rt s m hs (by omega)
  have r2 := r4Rt t n ht (by omega)
  have mu := r_timesD m n (by omega) (by omega)
  have ls := dg_mul_len m n
  have hst : -1 ≤ s * t ∧ s * t ≤ 1 ∧ (s * t = 1 ∨ s * t = -1 ∨ m * n = 0) := by
    rcases hs with ⟨rfl, rfl⟩ | ⟨rfl, h1⟩ | ⟨rfl, h1⟩ <;> rcases ht with ⟨rfl, rfl⟩ | ⟨rfl, h2⟩ | ⟨rfl, h2⟩ <;> simp
  obtain ⟨q1, q2, q3⟩ := hst
  have sg := r_madeD (s * t) (m * n) q3 (by omega)
  (refine acall_of tab_ok Tryz.func74 rfl (by decide) ?_; (conv => whnf); repeat (first | (refine LitB.data ?_; conv => whnf) | (refine BoxB.data ?_; conv => whnf)))
  (repeat' (first | ((refine DecB.mk (fun h => ?_) (fun h => ?_)) <;> first | (exfalso; omega) | (conv => whnf)) | ((refine BoolB.mk (fun h => ?_) (fun h => ?_)) <;> first | (exact absurd h (by decide)) | (conv => whnf)) | ((first | refine ⟨_, wrap_ok (by omega) (by omega), ?_⟩ | refine and_idx (by omega) (by omega) ?_ | refine reg_ok (by decide +kernel) ?_ | refine bar_ok (by decide +kernel) (by decide +kernel) ?_ | refine late_ok rfl rfl ?_ | refine src_ok rfl ?_ | refine .inl ⟨_, _, qcall_pure (r1) rfl rfl, ?_⟩ | refine .inl ⟨_, _, qcall_pure (r2) rfl rfl, ?_⟩ | refine .inl ⟨_, _, qcall_pure (mu) rfl rfl, ?_⟩ | refine .inl ⟨_, _, qcall_pure (sg) rfl rfl, ?_⟩ | refine ⟨_, wrap_eq (y := s * t) rfl (by omega) (by omega), ?_⟩ | refine LitB.data ?_ | refine BoxB.own ?_); conv => whnf)))
  all_goals first | (exfalso; simp_all; done) | exact fin_be rfl
theorem r4Mul (x y : Int) (lx : bl x ≤ 200000) (ly : bl y ≤ 200000) : ACall Tryz.prog 74 [bgS (bz x), bgS (bz y)] [] (.tup [bgS (bz (x * y)), intS .i64 0]) [] := by
  have h := r4MulS _ _ _ _ (sg_bz x) (sg_bz y) lx ly
  have e : (x.sign * y.sign) * ((x.natAbs * y.natAbs : Nat) : Int) = x * y := by
    rw [Int.natCast_mul]
    have h1 := sgm x
    have h2 := sgm y
    grind
  rw [e] at h
  exact h
theorem bz_inj2 {x y : Int} (h : (bz x).sg = (bz y).sg ∧ (bz x).dl = (bz y).dl) : x = y := by
  have : bz x = bz y := by
    obtain ⟨h1, h2⟩ := h
    cases hx : bz x with
    | mk a b =>
      cases hy : bz y with
      | mk c d => rw [hx, hy] at h1 h2; simp only at h1 h2; rw [h1, h2]
  rw [← bv_bz x, ← bv_bz y, this]
set_option maxHeartbeats 4000000 in
theorem r4Compare (x y : Int) (lx : bl x ≤ 300000) (ly : bl y ≤ 300000) : ACall Tryz.prog 70 [bgS (bz x), bgS (bz y)] [] (intS .i64 (cmpI x y)) [] := by
  have r1 := r4Right x lx
  have r2 := r4Right y ly
  have hsx : (bz x).sg = x.sign := rfl
  have hsy : (bz y).sg = y.sign := rfl
  have sx := sign_cases x
  have sy := sign_cases y
  have sm := r4Same (bz x) (bz y) (show bl x ≤ 1000000 by omega) (show bl y ≤ 1000000 by omega)
  by_cases he : x = y
  · subst he
    have sm : ACall Tryz.prog 101 [bgS (bz x), bgS (bz x)] [] (boolS true) [] := by rw [show decide ((bz x).sg = (bz x).sg ∧ (bz x).dl = (bz x).dl) = true from decide_eq_true ⟨rfl, rfl⟩] at sm; exact sm
    have e0 : cmpI x x = 0 := by unfold cmpI; rw [if_neg (by omega), if_neg (by omega)]
    rw [e0]
    (refine acall_of tab_ok Tryz.func70 rfl (by decide) ?_; (conv => whnf); repeat (first | (refine LitB.data ?_; conv => whnf) | (refine BoxB.data ?_; conv => whnf)))
    (repeat' (first | ((refine DecB.mk (fun h => ?_) (fun h => ?_)) <;> first | (exfalso; omega) | (conv => whnf)) | ((refine BoolB.mk (fun h => ?_) (fun h => ?_)) <;> first | (exact absurd h (by decide)) | (conv => whnf)) | ((first | refine ⟨_, wrap_ok (by omega) (by omega), ?_⟩ | refine and_idx (by omega) (by omega) ?_ | refine reg_ok (by decide +kernel) ?_ | refine bar_ok (by decide +kernel) (by decide +kernel) ?_ | refine late_ok rfl rfl ?_ | refine src_ok rfl ?_ | refine .inl ⟨_, _, qcall_pure (r1) rfl rfl, ?_⟩ | refine .inl ⟨_, _, qcall_pure (r2) rfl rfl, ?_⟩ | refine .inl ⟨_, _, qcall_pure (sm) rfl rfl, ?_⟩ | refine LitB.data ?_ | refine BoxB.own ?_); conv => whnf)))
    all_goals first
      | (exfalso; simp_all; done)
      | exact fin_int rfl
  rw [decide_eq_false (fun h => he (bz_inj2 h))] at sm
  have ls := r_lessD x.natAbs y.natAbs lx ly
  rcases Int.lt_or_gt_of_ne he with hlt | hgt
  · have e1 : cmpI x y = -1 := by unfold cmpI; rw [if_pos hlt]
    rw [e1]
    by_cases hl : x.natAbs < y.natAbs
    · rw [decide_eq_true hl] at ls
      (refine acall_of tab_ok Tryz.func70 rfl (by decide) ?_; (conv => whnf); repeat (first | (refine LitB.data ?_; conv => whnf) | (refine BoxB.data ?_; conv => whnf)))
      (repeat' (first | ((refine DecB.mk (fun h => ?_) (fun h => ?_)) <;> first | (exfalso; omega) | (conv => whnf)) | ((refine BoolB.mk (fun h => ?_) (fun h => ?_)) <;> first | (exact absurd h (by decide)) | (conv => whnf)) | ((first | refine ⟨_, wrap_ok (by omega) (by omega), ?_⟩ | refine and_idx (by omega) (by omega) ?_ | refine reg_ok (by decide +kernel) ?_ | refine bar_ok (by decide +kernel) (by decide +kernel) ?_ | refine late_ok rfl rfl ?_ | refine src_ok rfl ?_ | refine .inl ⟨_, _, qcall_pure (r1) rfl rfl, ?_⟩ | refine .inl ⟨_, _, qcall_pure (r2) rfl rfl, ?_⟩ | refine .inl ⟨_, _, qcall_pure (sm) rfl rfl, ?_⟩ | refine .inl ⟨_, _, qcall_pure (ls) rfl rfl, ?_⟩ | refine LitB.data ?_ | refine BoxB.own ?_); conv => whnf)))
      all_goals first
        | (exfalso; omega)
        | (exfalso; simp_all; done)
        | exact fin_int rfl
    · rw [decide_eq_false hl] at ls
      (refine acall_of tab_ok Tryz.func70 rfl (by decide) ?_; (conv => whnf); repeat (first | (refine LitB.data ?_; conv => whnf) | (refine BoxB.data ?_; conv => whnf)))
      (repeat' (first | ((refine DecB.mk (fun h => ?_) (fun h => ?_)) <;> first | (exfalso; omega) | (conv => whnf)) | ((refine BoolB.mk (fun h => ?_) (fun h => ?_)) <;> first | (exact absurd h (by decide)) | (conv => whnf)) | ((first | refine ⟨_, wrap_ok (by omega) (by omega), ?_⟩ | refine and_idx (by omega) (by omega) ?_ | refine reg_ok (by decide +kernel) ?_ | refine bar_ok (by decide +kernel) (by decide +kernel) ?_ | refine late_ok rfl rfl ?_ | refine src_ok rfl ?_ | refine .inl ⟨_, _, qcall_pure (r1) rfl rfl, ?_⟩ | refine .inl ⟨_, _, qcall_pure (r2) rfl rfl, ?_⟩ | refine .inl ⟨_, _, qcall_pure (sm) rfl rfl, ?_⟩ | refine .inl ⟨_, _, qcall_pure (ls) rfl rfl, ?_⟩ | refine LitB.data ?_ | refine BoxB.own ?_); conv => whnf)))
      all_goals first
        | (exfalso; omega)
        | (exfalso; simp_all; done)
        | exact fin_int rfl
  · have e1 : cmpI x y = 1 := by unfold cmpI; rw [if_neg (by omega), if_pos (by omega)]
    rw [e1]
    by_cases hl : x.natAbs < y.natAbs
    · rw [decide_eq_true hl] at ls
      (refine acall_of tab_ok Tryz.func70 rfl (by decide) ?_; (conv => whnf); repeat (first | (refine LitB.data ?_; conv => whnf) | (refine BoxB.data ?_; conv => whnf)))
      (repeat' (first | ((refine DecB.mk (fun h => ?_) (fun h => ?_)) <;> first | (exfalso; omega) | (conv => whnf)) | ((refine BoolB.mk (fun h => ?_) (fun h => ?_)) <;> first | (exact absurd h (by decide)) | (conv => whnf)) | ((first | refine ⟨_, wrap_ok (by omega) (by omega), ?_⟩ | refine and_idx (by omega) (by omega) ?_ | refine reg_ok (by decide +kernel) ?_ | refine bar_ok (by decide +kernel) (by decide +kernel) ?_ | refine late_ok rfl rfl ?_ | refine src_ok rfl ?_ | refine .inl ⟨_, _, qcall_pure (r1) rfl rfl, ?_⟩ | refine .inl ⟨_, _, qcall_pure (r2) rfl rfl, ?_⟩ | refine .inl ⟨_, _, qcall_pure (sm) rfl rfl, ?_⟩ | refine .inl ⟨_, _, qcall_pure (ls) rfl rfl, ?_⟩ | refine LitB.data ?_ | refine BoxB.own ?_); conv => whnf)))
      all_goals first
        | (exfalso; omega)
        | (exfalso; simp_all; done)
        | exact fin_int rfl
    · rw [decide_eq_false hl] at ls
      (refine acall_of tab_ok Tryz.func70 rfl (by decide) ?_; (conv => whnf); repeat (first | (refine LitB.data ?_; conv => whnf) | (refine BoxB.data ?_; conv => whnf)))
      (repeat' (first | ((refine DecB.mk (fun h => ?_) (fun h => ?_)) <;> first | (exfalso; omega) | (conv => whnf)) | ((refine BoolB.mk (fun h => ?_) (fun h => ?_)) <;> first | (exact absurd h (by decide)) | (conv => whnf)) | ((first | refine ⟨_, wrap_ok (by omega) (by omega), ?_⟩ | refine and_idx (by omega) (by omega) ?_ | refine reg_ok (by decide +kernel) ?_ | refine bar_ok (by decide +kernel) (by decide +kernel) ?_ | refine late_ok rfl rfl ?_ | refine src_ok rfl ?_ | refine .inl ⟨_, _, qcall_pure (r1) rfl rfl, ?_⟩ | refine .inl ⟨_, _, qcall_pure (r2) rfl rfl, ?_⟩ | refine .inl ⟨_, _, qcall_pure (sm) rfl rfl, ?_⟩ | refine .inl ⟨_, _, qcall_pure (ls) rfl rfl, ?_⟩ | refine LitB.data ?_ | refine BoxB.own ?_); conv => whnf)))
      all_goals first
        | (exfalso; omega)
        | (exfalso; simp_all; done)
        | exact fin_int rfl
end Go.Proofs.YtomfnfbijgjfeaaGreat
/- Reference of frac: Right, Add, Sub, Mul, Sign, Compare. -/
namespace Go.Proofs.YtomfnfbijgjfeaaGreat
open Go.RowKit
set_option linter.unusedVariables false
set_option linter.unusedSimpArgs false
set_option maxRecDepth 100000

theorem cmpI_zero {x y : Int} : cmpI x y = 0 ↔ x = y := by unfold cmpI; split <;> (try split) <;> omega
theorem r5Right (f : Fr) (lp : f.p.dl.length ≤ 200000) (lq : f.q.dl.length ≤ 200000) : ACall Tryz.prog 39 [frS f] [] (boolS (rightF f)) [] := by
  obtain ⟨p, q⟩ := f
  simp only at lp lq
  have r1 := r_bigRight p (by omega)
  have r2 := r_bigRight q (by omega)
  cases hp : rightB p with
  | false =>
    rw [hp] at r1
    (refine acall_of tab_ok Tryz.func39 rfl (by decide) ?_; (conv => whnf); repeat (first | (refine LitB.data ?_; conv => whnf) | (refine BoxB.data ?_; conv => whnf)))
    (repeat' (first | ((refine DecB.mk (fun h => ?_) (fun h => ?_)) <;> first | (exfalso; omega) | (conv => whnf)) | ((refine BoolB.mk (fun h => ?_) (fun h => ?_)) <;> first | (exact absurd h (by decide)) | (conv => whnf)) | ((first | refine ⟨_, wrap_ok (by omega) (by omega), ?_⟩ | refine and_idx (by omega) (by omega) ?_ | refine reg_ok (by decide +kernel) ?_ | refine bar_ok (by decide +kernel) (by decide +kernel) ?_ | refine late_ok rfl rfl ?_ | refine src_ok rfl ?_ | refine .inl ⟨_, _, qcall_pure (r1) rfl rfl, ?_⟩ | refine .inl ⟨_, _, qcall_pure (r2) rfl rfl, ?_⟩ | refine LitB.data ?_ | refine BoxB.own ?_); conv => whnf)))
    all_goals (first | (exfalso; simp_all; done) | (refine fin_bool ?_; unfold rightF; simp [hp]))
  | true =>
    rw [hp] at r1
    cases hq : rightB q with
    | false =>
      rw [hq] at r2
      (refine acall_of tab_ok Tryz.func39 rfl (by decide) ?_; (conv => whnf); repeat (first | (refine LitB.data ?_; conv => whnf) | (refine BoxB.data ?_; conv => whnf)))
      (repeat' (first | ((refine DecB.mk (fun h => ?_) (fun h => ?_)) <;> first | (exfalso; omega) | (conv => whnf)) | ((refine BoolB.mk (fun h => ?_) (fun h => ?_)) <;> first | (exact absurd h (by decide)) | (conv => whnf)) | ((first | refine ⟨_, wrap_ok (by omega) (by omega), ?_⟩ | refine and_idx (by omega) (by omega) ?_ | refine reg_ok (by decide +kernel) ?_ | refine bar_ok (by decide +kernel) (by decide +kernel) ?_ | refine late_ok rfl rfl ?_ | refine src_ok rfl ?_ | refine .inl ⟨_, _, qcall_pure (r1) rfl rfl, ?_⟩ | refine .inl ⟨_, _, qcall_pure (r2) rfl rfl, ?_⟩ | refine LitB.data ?_ | refine BoxB.own ?_); conv => whnf)))
      all_goals (first | (exfalso; simp_all; done) | (refine fin_bool ?_; unfold rightF; simp [hq]))
    | true =>
      rw [hq] at r2
      obtain ⟨x, rfl⟩ := bz_of hp
      obtain ⟨y, rfl⟩ := bz_of hq
      have hsg : (bz y).sg = y.sign := rfl
      have hsg2 : (Fr.mk (bz x) (bz y)).q.sg = y.sign := rfl
      have sy := sign_cases y
      have lg := bl_gcd x y lp lq
      have g := r4Gcd x y lp lq
      have o := r4Of 1 (by decide) (by decide)
      have c := r4Compare (Int.gcd x y) 1 (by omega) (by have := bl_small (x := 1) (by decide) (by decide); omega)
      have hc := cmpI_zero (x := Int.gcd x y) (y := 1)
      (refine acall_of tab_ok Tryz.func39 rfl (by decide) ?_; (conv => whnf); repeat (first | (refine LitB.data ?_; conv => whnf) | (refine BoxB.data ?_; conv => whnf)))
      (repeat' (first | ((refine DecB.mk (fun h => ?_) (fun h => ?_)) <;> first | (exfalso; omega) | (conv => whnf)) | ((refine BoolB.mk (fun h => ?_) (fun h => ?_)) <;> first | (exact absurd h (by decide)) | (conv => whnf)) | ((first | refine ⟨_, wrap_ok (by omega) (by omega), ?_⟩ | refine and_idx (by omega) (by omega) ?_ | refine reg_ok (by decide +kernel) ?_ | refine bar_ok (by decide +kernel) (by decide +kernel) ?_ | refine late_ok rfl rfl ?_ | refine src_ok rfl ?_ | refine .inl ⟨_, _, qcall_pure (r1) rfl rfl, ?_⟩ | refine .inl ⟨_, _, qcall_pure (r2) rfl rfl, ?_⟩ | refine .inl ⟨_, _, qcall_pure (g) rfl rfl, ?_⟩ | refine .inl ⟨_, _, qcall_pure (o) rfl rfl, ?_⟩ | refine .inl ⟨_, _, qcall_pure (c) rfl rfl, ?_⟩ | refine .inl ⟨_, _, qcall_pure (5) rfl rfl, ?_⟩ | refine bar_late [5] (by decide +kernel) (by decide +kernel) ?_ | refine LitB.data ?_ | refine BoxB.own ?_); conv => whnf)))
      all_goals first
        | (exfalso; simp_all; done)
        | (refine fin_bool ?_; unfold rightF; simp only [bz_right, bv_bz, Bool.true_and]; simp; omega)
theorem r5Rz (x : Rat) (lx : rl x ≤ 200000) : ACall Tryz.prog 39 [frS (fz x)] [] (boolS true) [] := by
  have h := r5Right (fz x) (Nat.le_trans (rl_num x) lx) (Nat.le_trans (rl_den x) lx)
  rw [fz_right] at h
  exact h
theorem den2_pos (x y : Rat) : 0 < (x.den : Int) * y.den := Int.mul_pos (by have := x.den_pos; omega) (by have := y.den_pos; omega)
theorem r5Add (x y : Rat) (lx : rl x ≤ 60000) (ly : rl y ≤ 60000) : ACall Tryz.prog 72 [frS (fz x), frS (fz y)] [] (.tup [frS (fz (x + y)), intS .i64 0]) [] := by
  have r1 := r5Rz x (by omega)
  have r2 := r5Rz y (by omega)
  have x1 := rl_num x
  have x2 := rl_den x
  have y1 := rl_num y
  have y2 := rl_den y
  have l1 := bl_mul x.num y.den
  have l2 := bl_mul y.num x.den
  have l3 := bl_mul x.den y.den
  have l4 := bl_add (x.num * y.den) (y.num * x.den)
  have t1 := r4Mul x.num y.den (by omega) (by omega)
  have t2 := r4Mul y.num x.den (by omega) (by omega)
  have t3 := r4Mul x.den y.den (by omega) (by omega)
  have a := r4Add (x.num * y.den) (y.num * x.den) (by omega) (by omega)
  have n := r5New (x.num * y.den + y.num * x.den) (x.den * y.den) (den2_pos x y) (by omega) (by omega)
  rw [← rat_add] at n
  (refine acall_of tab_ok Tryz.func72 rfl (by decide) ?_; (conv => whnf); repeat (first | (refine LitB.data ?_; conv => whnf) | (refine BoxB.data ?_; conv => whnf)))
  (repeat' (first | ((refine DecB.mk (fun h => ?_) (fun h => ?_)) <;> first | (exfalso; omega) | (conv => whnf)) | ((refine BoolB.mk (fun h => ?_) (fun h => ?_)) <;> first | (exact absurd h (by decide)) | (conv => whnf)) | ((first | refine ⟨_, wrap_ok (by omega) (by omega), ?_⟩ | refine and_idx (by omega) (by omega) ?_ | refine reg_ok (by decide +kernel) ?_ | refine bar_ok (by decide +kernel) (by decide +kernel) ?_ | refine late_ok rfl rfl ?_ | refine src_ok rfl ?_ | refine .inl ⟨_, _, qcall_pure (r1) rfl rfl, ?_⟩ | refine .inl ⟨_, _, qcall_pure (r2) rfl rfl, ?_⟩ | refine .inl ⟨_, _, qcall_pure (t1) rfl rfl, ?_⟩ | refine .inl ⟨_, _, qcall_pure (t2) rfl rfl, ?_⟩ | refine .inl ⟨_, _, qcall_pure (t3) rfl rfl, ?_⟩ | refine .inl ⟨_, _, qcall_pure (a) rfl rfl, ?_⟩ | refine .inl ⟨_, _, qcall_pure (n) rfl rfl, ?_⟩ | refine .inl ⟨_, _, qcall_pure (7) rfl rfl, ?_⟩ | refine .inl ⟨_, _, qcall_pure (5) rfl rfl, ?_⟩ | refine bar_late [7] (by decide +kernel) (by decide +kernel) ?_ | refine bar_late [5] (by decide +kernel) (by decide +kernel) ?_ | refine LitB.data ?_ | refine BoxB.own ?_); conv => whnf)))
  all_goals first
    | (exfalso; simp_all; done)
    | exact fin_fe rfl
theorem r5Sub (x y : Rat) (lx : rl x ≤ 60000) (ly : rl y ≤ 60000) : ACall Tryz.prog 73 [frS (fz x), frS (fz y)] [] (.tup [frS (fz (x - y)), intS .i64 0]) [] := by
  have r1 := r5Rz x (by omega)
  have r2 := r5Rz y (by omega)
  have x1 := rl_num x
  have x2 := rl_den x
  have y1 := rl_num y
  have y2 := rl_den y
  have l1 := bl_mul x.num y.den
  have l2 := bl_mul y.num x.den
  have l3 := bl_mul x.den y.den
  have l4 := bl_add (x.num * y.den) (-(y.num * x.den))
  rw [bl_neg, ← Int.sub_eq_add_neg] at l4
  have t1 := r4Mul x.num y.den (by omega) (by omega)
  have t2 := r4Mul y.num x.den (by omega) (by omega)
  have t3 := r4Mul x.den y.den (by omega) (by omega)
  have a := r4Sub (x.num * y.den) (y.num * x.den) (by omega) (by omega)
  have n := r5New (x.num * y.den - y.num * x.den) (x.den * y.den) (den2_pos x y) (by omega) (by omega)
  have e : Rat.divInt (x.num * y.den - y.num * x.den) (x.den * y.den) = x - y := by
    have := rat_add x (-y)
    rw [Rat.neg_num, Rat.neg_den, Int.neg_mul, ← Int.sub_eq_add_neg, ← Rat.sub_eq_add_neg] at this
    exact this.symm
  rw [e] at n
  (refine acall_of tab_ok Tryz.func73 rfl (by decide) ?_; (conv => whnf); repeat (first | (refine LitB.data ?_; conv => whnf) | (refine BoxB.data ?_; conv => whnf)))
  (repeat' (first | ((refine DecB.mk (fun h => ?_) (fun h => ?_)) <;> first | (exfalso; omega) | (conv => whnf)) | ((refine BoolB.mk (fun h => ?_) (fun h => ?_)) <;> first | (exact absurd h (by decide)) | (conv => whnf)) | ((first | refine ⟨_, wrap_ok (by omega) (by omega), ?_⟩ | refine and_idx (by omega) (by omega) ?_ | refine reg_ok (by decide +kernel) ?_ | refine bar_ok (by decide +kernel) (by decide +kernel) ?_ | refine late_ok rfl rfl ?_ | refine src_ok rfl ?_ | refine .inl ⟨_, _, qcall_pure (r1) rfl rfl, ?_⟩ | refine .inl ⟨_, _, qcall_pure (r2) rfl rfl, ?_⟩ | refine .inl ⟨_, _, qcall_pure (t1) rfl rfl, ?_⟩ | refine .inl ⟨_, _, qcall_pure (t2) rfl rfl, ?_⟩ | refine .inl ⟨_, _, qcall_pure (t3) rfl rfl, ?_⟩ | refine .inl ⟨_, _, qcall_pure (a) rfl rfl, ?_⟩ | refine .inl ⟨_, _, qcall_pure (n) rfl rfl, ?_⟩ | refine .inl ⟨_, _, qcall_pure (7) rfl rfl, ?_⟩ | refine .inl ⟨_, _, qcall_pure (5) rfl rfl, ?_⟩ | refine bar_late [7] (by decide +kernel) (by decide +kernel) ?_ | refine bar_late [5] (by decide +kernel) (by decide +kernel) ?_ | refine LitB.data ?_ | refine BoxB.own ?_); conv => whnf)))
  all_goals first
    | (exfalso; simp_all; done)
    | exact fin_fe rfl
theorem r5Compare (x y : Rat) (lx : rl x ≤ 60000) (ly : rl y ≤ 60000) : ACall Tryz.prog 42 [frS (fz x), frS (fz y)] [] (intS .i64 (cmpR x y)) [] := by
  have r1 := r5Rz x (by omega)
  have r2 := r5Rz y (by omega)
  have x1 := rl_num x
  have x2 := rl_den x
  have y1 := rl_num y
  have y2 := rl_den y
  have l1 := bl_mul x.num y.den
  have l2 := bl_mul y.num x.den
  have t1 := r4Mul x.num y.den (by omega) (by omega)
  have t2 := r4Mul y.num x.den (by omega) (by omega)
  have c := r4Compare (x.num * y.den) (y.num * x.den) (by omega) (by omega)
  rw [cmpR_num] at c
  (refine acall_of tab_ok Tryz.func42 rfl (by decide) ?_; (conv => whnf); repeat (first | (refine LitB.data ?_; conv => whnf) | (refine BoxB.data ?_; conv => whnf)))
  (repeat' (first | ((refine DecB.mk (fun h => ?_) (fun h => ?_)) <;> first | (exfalso; omega) | (conv => whnf)) | ((refine BoolB.mk (fun h => ?_) (fun h => ?_)) <;> first | (exact absurd h (by decide)) | (conv => whnf)) | ((first | refine ⟨_, wrap_ok (by omega) (by omega), ?_⟩ | refine and_idx (by omega) (by omega) ?_ | refine reg_ok (by decide +kernel) ?_ | refine bar_ok (by decide +kernel) (by decide +kernel) ?_ | refine late_ok rfl rfl ?_ | refine src_ok rfl ?_ | refine .inl ⟨_, _, qcall_pure (r1) rfl rfl, ?_⟩ | refine .inl ⟨_, _, qcall_pure (r2) rfl rfl, ?_⟩ | refine .inl ⟨_, _, qcall_pure (t1) rfl rfl, ?_⟩ | refine .inl ⟨_, _, qcall_pure (t2) rfl rfl, ?_⟩ | refine .inl ⟨_, _, qcall_pure (c) rfl rfl, ?_⟩ | refine .inl ⟨_, _, qcall_pure (7) rfl rfl, ?_⟩ | refine .inl ⟨_, _, qcall_pure (5) rfl rfl, ?_⟩ | refine bar_late [7] (by decide +kernel) (by decide +kernel) ?_ | refine bar_late [5] (by decide +kernel) (by decide +kernel) ?_ | refine LitB.data ?_ | refine BoxB.own ?_); conv => whnf)))
  all_goals first
    | (exfalso; simp_all; done)
    | exact fin_int rfl
theorem r5Sign (x : Rat) (lx : rl x ≤ 60000) : ACall Tryz.prog 40 [frS (fz x)] [] (intS .i64 (sgR x)) [] := by
  have r1 := r5Rz x (by omega)
  (refine acall_of tab_ok Tryz.func40 rfl (by decide) ?_; (conv => whnf); repeat (first | (refine LitB.data ?_; conv => whnf) | (refine BoxB.data ?_; conv => whnf)))
  (repeat' (first | ((refine DecB.mk (fun h => ?_) (fun h => ?_)) <;> first | (exfalso; omega) | (conv => whnf)) | ((refine BoolB.mk (fun h => ?_) (fun h => ?_)) <;> first | (exact absurd h (by decide)) | (conv => whnf)) | ((first | refine ⟨_, wrap_ok (by omega) (by omega), ?_⟩ | refine and_idx (by omega) (by omega) ?_ | refine reg_ok (by decide +kernel) ?_ | refine bar_ok (by decide +kernel) (by decide +kernel) ?_ | refine late_ok rfl rfl ?_ | refine src_ok rfl ?_ | refine .inl ⟨_, _, qcall_pure (r1) rfl rfl, ?_⟩ | refine LitB.data ?_ | refine BoxB.own ?_); conv => whnf)))
  all_goals first
    | (exfalso; simp_all; done)
    | exact fin_int (sign_num x)
end Go.Proofs.YtomfnfbijgjfeaaGreat
/- The reference's scale: Right, Find, Recalled, Error, Interval. -/
namespace Go.Proofs.YtomfnfbijgjfeaaGreat
open Go.RowKit
set_option linter.unusedVariables false
set_option linter.unusedSimpArgs false
set_option maxRecDepth 100000

theorem sgR_neg' (x : Rat) : sgR x < 0 ↔ x < ((0 : Int) : Rat) := by unfold sgR; split <;> (try split) <;> simp_all
theorem ent_fz {x y : Rat} {ρ : List (Option Nat)} {H : Hp} (h : x = y) : EntS ρ H (frS (fz x)) (frS (fz y)) := by subst h; exact ⟨rfl, rfl, rfl, rfl, trivial⟩
theorem r13in (n lo hi : Int) : ACall Tryz.prog 83 [intS .i64 n, intS .i64 lo, intS .i64 hi] [] (boolS (btw n lo hi)) [] := by
  (refine acall_of tab_ok Tryz.func83 rfl (by decide) ?_; (conv => whnf); repeat (first | (refine LitB.data ?_; conv => whnf) | (refine BoxB.own ?_; conv => whnf)))
  (repeat' (first | ((refine DecB.mk (fun h => ?_) (fun h => ?_)) <;> first | (exfalso; omega) | (conv => whnf)) | ((refine BoolB.mk (fun h => ?_) (fun h => ?_)) <;> first | (exact absurd h (by decide)) | (conv => whnf)) | ((first | refine ⟨_, wrap_ok (by omega) (by omega), ?_⟩ | refine and_idx (by omega) (by omega) ?_ | refine reg_ok (by decide +kernel) ?_ | refine bar_ok (by decide +kernel) (by decide +kernel) ?_ | refine late_ok rfl rfl ?_ | refine src_ok rfl ?_ | refine LitB.data ?_ | refine BoxB.own ?_); conv => whnf)))
  all_goals (refine fin_bool ?_; simp only [btw]; simp; omega)
theorem r13Right (c : Cert) : ACall Tryz.prog 115 [certS c] [] (boolS (certRight c)) [] := by
  have w1 := r13in c.scale 0 29
  have w2 := r13in c.grams 0 1099511627776
  have w3 := r13in c.permille 0 1000
  have w4 := r13in c.drift 0 10000000
  rw [btw_idx30] at w1
  unfold certRight
  cases h1 : idx c.scale 30 <;> cases h2 : btw c.grams 0 1099511627776 <;> cases h3 : btw c.permille 0 1000 <;> cases h4 : btw c.drift 0 10000000 <;> rw [h1] at w1 <;> rw [h2] at w2 <;> rw [h3] at w3 <;> rw [h4] at w4 <;>
  · (refine acall_of tab_ok Tryz.func115 rfl (by decide) ?_; (conv => whnf); repeat (first | (refine LitB.data ?_; conv => whnf) | (refine BoxB.own ?_; conv => whnf)))
    (repeat' (first | ((refine DecB.mk (fun h => ?_) (fun h => ?_)) <;> first | (exfalso; omega) | (conv => whnf)) | ((refine BoolB.mk (fun h => ?_) (fun h => ?_)) <;> first | (exact absurd h (by decide)) | (conv => whnf)) | ((first | refine ⟨_, wrap_ok (by omega) (by omega), ?_⟩ | refine and_idx (by omega) (by omega) ?_ | refine reg_ok (by decide +kernel) ?_ | refine bar_ok (by decide +kernel) (by decide +kernel) ?_ | refine late_ok rfl rfl ?_ | refine src_ok rfl ?_ | refine .inl ⟨_, _, qcall_pure (w1) rfl rfl, ?_⟩ | refine .inl ⟨_, _, qcall_pure (w2) rfl rfl, ?_⟩ | refine .inl ⟨_, _, qcall_pure (w3) rfl rfl, ?_⟩ | refine .inl ⟨_, _, qcall_pure (w4) rfl rfl, ?_⟩ | refine LitB.data ?_ | refine BoxB.own ?_); conv => whnf)))
    all_goals (refine fin_bool ?_; simp; try omega)
def bestI (o : Option Nat) : Int := match o with
  | none => -1
  | some b => b
set_option maxHeartbeats 2000000 in
theorem r13Find (cs : List Cert) (scale day : Int) (hl : cs.length ≤ 1000000) :
    ACall Tryz.prog 81 [.c (.t (certsT cs)), intS .i64 scale, intS .i64 day] [] (.tup [intS .i64 (bestOf (findTo cs scale day cs.length)), boolS (findTo cs scale day cs.length).isSome]) [] := by
  have l1 : (cs.map Cert.row).length = cs.length := by simp
  (refine acall_of tab_ok Tryz.func81 rfl (by decide) ?_; (conv => whnf); repeat (first | (refine LitB.data ?_; conv => whnf) | (refine BoxB.data ?_; conv => whnf)))
  (repeat' (first | ((refine DecB.mk (fun h => ?_) (fun h => ?_)) <;> first | (exfalso; omega) | (conv => whnf)) | ((refine BoolB.mk (fun h => ?_) (fun h => ?_)) <;> first | (exact absurd h (by decide)) | (conv => whnf)) | ((first | refine ⟨_, wrap_ok (by omega) (by omega), ?_⟩ | refine and_idx (by omega) (by omega) ?_ | refine reg_ok (by decide +kernel) ?_ | refine bar_ok (by decide +kernel) (by decide +kernel) ?_ | refine late_ok rfl rfl ?_ | refine src_ok rfl ?_ | refine LitB.data ?_ | refine BoxB.own ?_); conv => whnf)))
  refine awp_for tab_ok (fun k => ([S.c (C.t (certsT cs)), intS .i64 scale, intS .i64 day, J, J, J, J, J, intS .i64 (bestI (findTo cs scale day k)), intS .i64 k, J, J, J, J, J, J, J, J, J, J, J, J, J, J, J, J, J, J, J, J, J, J, J, J, J, J, J, J, J, J, J, J, J, J, J, J, J, J, J, J, J, J, J, J, J, J, J], [])) cs.length (fun _ => True) [] trivial
    ⟨rfl, rfl, trivial, ⟨rfl, rfl, rfl, rfl, rfl, trivial⟩⟩ ?_
  intro k hk _
  by_cases hlt : k < cs.length
  · obtain ⟨c, hc⟩ : ∃ c, cs[k]? = some c := ⟨_, List.getElem?_eq_getElem hlt⟩
    have cr := r13Right c
    have ci := r13in day c.since c.till
    have hst : findTo cs scale day (k + 1) = if decide (c.scale = scale) && covers c day && later cs (findTo cs scale day k) c then some k else findTo cs scale day k := by
      conv => lhs; unfold findTo
      rw [hc]
    have nxt : ∀ z : Int, bestI (findTo cs scale day (k + 1)) = z → z = bestI (findTo cs scale day (k + 1)) := fun z h => h.symm
    cases hr : certRight c with
    | false =>
      have hcv : covers c day = false := by unfold covers; rw [hr]; rfl
      rw [hcv] at hst
      simp only [Bool.and_false, Bool.false_and, Bool.false_eq_true, if_false] at hst
      rw [hr] at cr
      rw [← hst]
      conv => whnf
      (repeat' (first | ((refine DecB.mk (fun h => ?_) (fun h => ?_)) <;> first | (exfalso; omega) | (conv => whnf)) | ((refine BoolB.mk (fun h => ?_) (fun h => ?_)) <;> first | (exact absurd h (by decide)) | (conv => whnf)) | ((first | refine ⟨_, wrap_ok (by omega) (by omega), ?_⟩ | refine and_idx (by omega) (by omega) ?_ | refine reg_ok (by decide +kernel) ?_ | refine bar_ok (by decide +kernel) (by decide +kernel) ?_ | refine late_ok rfl rfl ?_ | refine src_ok rfl ?_ | refine .inl ⟨_, _, qcall_pure (cr) rfl rfl, ?_⟩ | refine ex_row hc ?_ | refine LitB.data ?_ | refine BoxB.own ?_); conv => whnf)))
      all_goals first
        | (exfalso; omega)
        | (exfalso; simp_all; done)
        | exact ⟨hlt, trivial, [], rfl, rfl, trivial, ⟨rfl, rfl, rfl, rfl, rfl, trivial⟩⟩
    | true =>
    rw [hr] at cr
    cases hb : btw day c.since c.till with
    | false =>
      have hcv : covers c day = false := by unfold covers; rw [hr, hb]; rfl
      rw [hcv] at hst
      simp only [Bool.and_false, Bool.false_and, Bool.false_eq_true, if_false] at hst
      rw [hb] at ci
      rw [← hst]
      conv => whnf
      (repeat' (first | ((refine DecB.mk (fun h => ?_) (fun h => ?_)) <;> first | (exfalso; omega) | (conv => whnf)) | ((refine BoolB.mk (fun h => ?_) (fun h => ?_)) <;> first | (exact absurd h (by decide)) | (conv => whnf)) | ((first | refine ⟨_, wrap_ok (by omega) (by omega), ?_⟩ | refine and_idx (by omega) (by omega) ?_ | refine reg_ok (by decide +kernel) ?_ | refine bar_ok (by decide +kernel) (by decide +kernel) ?_ | refine late_ok rfl rfl ?_ | refine src_ok rfl ?_ | refine .inl ⟨_, _, qcall_pure (cr) rfl rfl, ?_⟩ | refine .inl ⟨_, _, qcall_pure (ci) rfl rfl, ?_⟩ | refine ex_row hc ?_ | refine LitB.data ?_ | refine BoxB.own ?_); conv => whnf)))
      all_goals first
        | (exfalso; omega)
        | (exfalso; simp_all; done)
        | exact ⟨hlt, trivial, [], rfl, rfl, trivial, ⟨rfl, rfl, rfl, rfl, rfl, trivial⟩⟩
    | true =>
      have hcv : covers c day = true := by unfold covers; rw [hr, hb]; rfl
      rw [hcv] at hst
      rw [hb] at ci
      cases hf : findTo cs scale day k with
      | none =>
        rw [hf] at hst
        have e0 : bestI none = -1 := rfl
        rw [e0]
        by_cases hsc : c.scale = scale
        · have hst2 : (k : Int) = bestI (findTo cs scale day (k + 1)) := by rw [hst, if_pos (by simp [hsc, later])]; rfl
          clear hst hcv hr hb nxt
          conv => whnf
          (repeat' (first | ((refine DecB.mk (fun h => ?_) (fun h => ?_)) <;> first | (exfalso; omega) | (conv => whnf)) | ((refine BoolB.mk (fun h => ?_) (fun h => ?_)) <;> first | (exact absurd h (by decide)) | (conv => whnf)) | ((first | refine ⟨_, wrap_ok (by omega) (by omega), ?_⟩ | refine and_idx (by omega) (by omega) ?_ | refine reg_ok (by decide +kernel) ?_ | refine bar_ok (by decide +kernel) (by decide +kernel) ?_ | refine late_ok rfl rfl ?_ | refine src_ok rfl ?_ | refine .inl ⟨_, _, qcall_pure (cr) rfl rfl, ?_⟩ | refine .inl ⟨_, _, qcall_pure (ci) rfl rfl, ?_⟩ | refine ex_row hc ?_ | refine LitB.data ?_ | refine BoxB.own ?_); conv => whnf)))
          all_goals first
            | (exfalso; omega)
            | exact ⟨hlt, trivial, [], rfl, rfl, trivial, ⟨rfl, rfl, rfl, ent_i hst2, rfl, trivial⟩⟩
        · have hst2 : (-1 : Int) = bestI (findTo cs scale day (k + 1)) := by rw [hst, if_neg (by simp [hsc])]; rfl
          clear hst hcv hr hb nxt
          conv => whnf
          (repeat' (first | ((refine DecB.mk (fun h => ?_) (fun h => ?_)) <;> first | (exfalso; omega) | (conv => whnf)) | ((refine BoolB.mk (fun h => ?_) (fun h => ?_)) <;> first | (exact absurd h (by decide)) | (conv => whnf)) | ((first | refine ⟨_, wrap_ok (by omega) (by omega), ?_⟩ | refine and_idx (by omega) (by omega) ?_ | refine reg_ok (by decide +kernel) ?_ | refine bar_ok (by decide +kernel) (by decide +kernel) ?_ | refine late_ok rfl rfl ?_ | refine src_ok rfl ?_ | refine .inl ⟨_, _, qcall_pure (cr) rfl rfl, ?_⟩ | refine .inl ⟨_, _, qcall_pure (ci) rfl rfl, ?_⟩ | refine ex_row hc ?_ | refine LitB.data ?_ | refine BoxB.own ?_); conv => whnf)))
          all_goals first
            | (exfalso; omega)
            | exact ⟨hlt, trivial, [], rfl, rfl, trivial, ⟨rfl, rfl, rfl, ent_i hst2, rfl, trivial⟩⟩
      | some b =>
        rw [hf] at hst
        obtain ⟨hb', cb, hcb, _⟩ := findTo_some hf
        have hsb := cert_get hcb
        have e0 : bestI (some b) = (b : Int) := rfl
        have em : (if (0 : Int) > (b : Int) then 0 else (b : Int)) = (b : Int) := if_neg (by omega)
        rw [e0]
        by_cases hsc : c.scale = scale ∧ cb.since ≤ c.since
        · have hst2 : (k : Int) = bestI (findTo cs scale day (k + 1)) := by rw [hst, if_pos (by simp [hsc.1, later, hsb, hsc.2])]; rfl
          clear hst hcv hr hb nxt
          conv => whnf
          (repeat' (first | ((refine DecB.mk (fun h => ?_) (fun h => ?_)) <;> first | (exfalso; omega) | (conv => whnf)) | ((refine BoolB.mk (fun h => ?_) (fun h => ?_)) <;> first | (exact absurd h (by decide)) | (conv => whnf)) | ((first | refine ⟨_, wrap_ok (by omega) (by omega), ?_⟩ | refine and_idx (by omega) (by omega) ?_ | refine reg_ok (by decide +kernel) ?_ | refine bar_ok (by decide +kernel) (by decide +kernel) ?_ | refine late_ok rfl rfl ?_ | refine src_ok rfl ?_ | refine .inl ⟨_, _, qcall_pure (cr) rfl rfl, ?_⟩ | refine .inl ⟨_, _, qcall_pure (ci) rfl rfl, ?_⟩ | refine ex_row hc ?_ | refine ex_rowE em hcb ?_ | refine LitB.data ?_ | refine BoxB.own ?_); conv => whnf)))
          all_goals first
            | (exfalso; omega)
            | exact ⟨hlt, trivial, [], rfl, rfl, trivial, ⟨rfl, rfl, rfl, ent_i hst2, rfl, trivial⟩⟩
        · have hst2 : (b : Int) = bestI (findTo cs scale day (k + 1)) := by
            rw [hst, if_neg (by simp only [Bool.and_eq_true, decide_eq_true_eq, later, hsb]; intro h; exact hsc ⟨h.1.1, h.2⟩)]; rfl
          clear hst hcv hr hb nxt
          conv => whnf
          (repeat' (first | ((refine DecB.mk (fun h => ?_) (fun h => ?_)) <;> first | (exfalso; omega) | (conv => whnf)) | ((refine BoolB.mk (fun h => ?_) (fun h => ?_)) <;> first | (exact absurd h (by decide)) | (conv => whnf)) | ((first | refine ⟨_, wrap_ok (by omega) (by omega), ?_⟩ | refine and_idx (by omega) (by omega) ?_ | refine reg_ok (by decide +kernel) ?_ | refine bar_ok (by decide +kernel) (by decide +kernel) ?_ | refine late_ok rfl rfl ?_ | refine src_ok rfl ?_ | refine .inl ⟨_, _, qcall_pure (cr) rfl rfl, ?_⟩ | refine .inl ⟨_, _, qcall_pure (ci) rfl rfl, ?_⟩ | refine ex_row hc ?_ | refine ex_rowE em hcb ?_ | refine LitB.data ?_ | refine BoxB.own ?_); conv => whnf)))
          all_goals first
            | (exfalso; omega)
            | exact ⟨hlt, trivial, [], rfl, rfl, trivial, ⟨rfl, rfl, rfl, ent_i hst2, rfl, trivial⟩⟩
  · have hke : k = cs.length := by omega
    subst hke
    cases hf : findTo cs scale day cs.length with
    | none =>
      have e0 : bestI none = -1 := rfl
      rw [e0]
      conv => whnf
      (repeat' (first | ((refine DecB.mk (fun h => ?_) (fun h => ?_)) <;> first | (exfalso; omega) | (conv => whnf)) | ((refine BoolB.mk (fun h => ?_) (fun h => ?_)) <;> first | (exact absurd h (by decide)) | (conv => whnf)) | ((first | refine ⟨_, wrap_ok (by omega) (by omega), ?_⟩ | refine and_idx (by omega) (by omega) ?_ | refine reg_ok (by decide +kernel) ?_ | refine bar_ok (by decide +kernel) (by decide +kernel) ?_ | refine late_ok rfl rfl ?_ | refine src_ok rfl ?_ | refine LitB.data ?_ | refine BoxB.own ?_); conv => whnf)))
      all_goals first
        | (exfalso; omega)
        | exact fin_t ⟨rfl, rfl, trivial⟩
    | some b =>
      have e0 : bestI (some b) = (b : Int) := rfl
      have em : (if (0 : Int) > (b : Int) then 0 else (b : Int)) = (b : Int) := if_neg (by omega)
      rw [e0]
      conv => whnf
      (repeat' (first | ((refine DecB.mk (fun h => ?_) (fun h => ?_)) <;> first | (exfalso; omega) | (conv => whnf)) | ((refine BoolB.mk (fun h => ?_) (fun h => ?_)) <;> first | (exact absurd h (by decide)) | (conv => whnf)) | ((first | refine ⟨_, wrap_ok (by omega) (by omega), ?_⟩ | refine and_idx (by omega) (by omega) ?_ | refine reg_ok (by decide +kernel) ?_ | refine bar_ok (by decide +kernel) (by decide +kernel) ?_ | refine late_ok rfl rfl ?_ | refine src_ok rfl ?_ | refine LitB.data ?_ | refine BoxB.own ?_); conv => whnf)))
      all_goals first
        | (exfalso; omega)
        | exact fin_t ⟨ent_i em, rfl, trivial⟩
theorem r13Recalled (rs : List Recall) (hl : rs.length ≤ 1000000) (scale day : Int) : ACall Tryz.prog 82 [.c (.t (recallsT rs)), intS .i64 scale, intS .i64 day] [] (boolS (recalled rs scale day)) [] := by
  have l1 : (rs.map Recall.row).length = rs.length := by simp
  (refine acall_of tab_ok Tryz.func82 rfl (by decide) ?_; (conv => whnf); repeat (first | (refine LitB.data ?_; conv => whnf) | (refine BoxB.data ?_; conv => whnf)))
  (repeat' (first | ((refine DecB.mk (fun h => ?_) (fun h => ?_)) <;> first | (exfalso; omega) | (conv => whnf)) | ((refine BoolB.mk (fun h => ?_) (fun h => ?_)) <;> first | (exact absurd h (by decide)) | (conv => whnf)) | ((first | refine ⟨_, wrap_ok (by omega) (by omega), ?_⟩ | refine and_idx (by omega) (by omega) ?_ | refine reg_ok (by decide +kernel) ?_ | refine bar_ok (by decide +kernel) (by decide +kernel) ?_ | refine late_ok rfl rfl ?_ | refine src_ok rfl ?_ | refine LitB.data ?_ | refine BoxB.own ?_); conv => whnf)))
  refine awp_for tab_ok (fun k => ([S.c (C.t (recallsT rs)), intS .i64 scale, intS .i64 day, J, J, J, J, intS .i64 k, J, J, J, J, J, J, J, J, J, J, J, J, J, J, J, J, J, J, J, J, J, J], [])) rs.length (fun k => (rs.take k).any (fun r => decide (r.scale = scale) && decide (r.since ≤ day)) = false) [] rfl
    ⟨rfl, rfl, trivial, ⟨rfl, rfl, rfl, rfl, trivial⟩⟩ ?_
  intro k hk hI
  by_cases hlt : k < rs.length
  · obtain ⟨r, hr⟩ : ∃ r, rs[k]? = some r := ⟨_, List.getElem?_eq_getElem hlt⟩
    conv => whnf
    (repeat' (first | ((refine DecB.mk (fun h => ?_) (fun h => ?_)) <;> first | (exfalso; omega) | (conv => whnf)) | ((refine BoolB.mk (fun h => ?_) (fun h => ?_)) <;> first | (exact absurd h (by decide)) | (conv => whnf)) | ((first | refine ⟨_, wrap_ok (by omega) (by omega), ?_⟩ | refine and_idx (by omega) (by omega) ?_ | refine reg_ok (by decide +kernel) ?_ | refine bar_ok (by decide +kernel) (by decide +kernel) ?_ | refine late_ok rfl rfl ?_ | refine src_ok rfl ?_ | refine ex_row hr ?_ | refine LitB.data ?_ | refine BoxB.own ?_); conv => whnf)))
    all_goals first
      | (exfalso; omega)
      | (refine ⟨hlt, ?_, [], rfl, rfl, trivial, ⟨rfl, rfl, rfl, rfl, trivial⟩⟩; rw [any_take_succ hr, hI]; simp [*]; done)
      | (refine ⟨hlt, ?_, [], rfl, rfl, trivial, ⟨rfl, rfl, rfl, rfl, trivial⟩⟩; rw [any_take_succ hr, hI]; simp; omega)
      | (refine fin_bool ?_; unfold recalled; rw [any_of_get hr]; simp [*]; done)
      | (refine fin_bool ?_; unfold recalled; rw [any_of_get hr]; simp; omega)
  · rw [List.take_of_length_le (by omega)] at hI
    conv => whnf
    (repeat' (first | ((refine DecB.mk (fun h => ?_) (fun h => ?_)) <;> first | (exfalso; omega) | (conv => whnf)) | ((refine BoolB.mk (fun h => ?_) (fun h => ?_)) <;> first | (exact absurd h (by decide)) | (conv => whnf)) | ((first | refine ⟨_, wrap_ok (by omega) (by omega), ?_⟩ | refine and_idx (by omega) (by omega) ?_ | refine reg_ok (by decide +kernel) ?_ | refine bar_ok (by decide +kernel) (by decide +kernel) ?_ | refine late_ok rfl rfl ?_ | refine src_ok rfl ?_ | refine LitB.data ?_ | refine BoxB.own ?_); conv => whnf)))
    all_goals first
      | (exfalso; omega)
      | exact fin_bool hI.symm
theorem r13Error (c : Cert) (reading day : Int) (h : covers c day = true) (hr : btw reading 0 1099511627776 = true) : ACall Tryz.prog 84 [certS c, intS .i64 reading, intS .i64 day] []
    (.tup [frS (fz (errR c reading day)), boolS true]) [] := by
  have cr := r13Right c
  have ci := r13in day c.since c.till
  have wi := r13in reading 0 1099511627776
  have hcr : certRight c = true := by unfold covers at h; simp only [Bool.and_eq_true] at h; exact h.1
  have hci : btw day c.since c.till = true := by unfold covers at h; simp only [Bool.and_eq_true] at h; exact h.2
  rw [hcr] at cr
  rw [hci] at ci
  rw [hr] at wi
  have hc := covers_iff h
  obtain ⟨p0, p1, d0, d1⟩ := ErrI.of h hr
  rw [btw_iff] at hr
  have fo := r5Of (c.permille * reading) 1000 (by decide) (by omega) (by omega) (by decide)
  have fi := r5Int (c.grams + c.drift * (day - c.since)) (by omega) (by omega)
  have h2 : rl (Rat.divInt (c.permille * reading) 1000) ≤ 4 := Nat.le_trans (rl_divInt (by decide)) (by have := bl_int (x := c.permille * reading) (by omega) (by omega); have := bl_int (x := 1000) (by decide) (by decide); omega)
  have h3 : rl ((c.grams + c.drift * (day - c.since) : Int) : Rat) ≤ 4 := by rw [rl_int]; have := bl_int (x := c.grams + c.drift * (day - c.since)) (by omega) (by omega); omega
  have ad := r5Add ((c.grams + c.drift * (day - c.since) : Int) : Rat) (Rat.divInt (c.permille * reading) 1000) (by omega) (by omega)
  (refine acall_of tab_ok Tryz.func84 rfl (by decide) ?_; (conv => whnf); repeat (first | (refine LitB.data ?_; conv => whnf) | (refine BoxB.own ?_; conv => whnf)))
  (repeat' (first | ((refine DecB.mk (fun h => ?_) (fun h => ?_)) <;> first | (exfalso; omega) | (conv => whnf)) | ((refine BoolB.mk (fun h => ?_) (fun h => ?_)) <;> first | (exact absurd h (by decide)) | (conv => whnf)) | ((first | refine ⟨_, wrap_ok (by omega) (by omega), ?_⟩ | refine and_idx (by omega) (by omega) ?_ | refine reg_ok (by decide +kernel) ?_ | refine bar_ok (by decide +kernel) (by decide +kernel) ?_ | refine late_ok rfl rfl ?_ | refine src_ok rfl ?_ | refine .inl ⟨_, _, qcall_pure (cr) rfl rfl, ?_⟩ | refine .inl ⟨_, _, qcall_pure (ci) rfl rfl, ?_⟩ | refine .inl ⟨_, _, qcall_pure (wi) rfl rfl, ?_⟩ | refine .inl ⟨_, _, qcall_pure (fo) rfl rfl, ?_⟩ | refine .inl ⟨_, _, qcall_pure (fi) rfl rfl, ?_⟩ | refine .inl ⟨_, _, qcall_pure (ad) rfl rfl, ?_⟩ | refine .inl ⟨_, _, qcall_pure (7) rfl rfl, ?_⟩ | refine .inl ⟨_, _, qcall_pure (15) rfl rfl, ?_⟩ | refine bar_late [7] (by decide +kernel) (by decide +kernel) ?_ | refine bar_late [15] (by decide +kernel) (by decide +kernel) ?_ | refine LitB.data ?_ | refine BoxB.own ?_); conv => whnf)))
  all_goals first
    | (exfalso; simp_all; done)
    | exact fin_fb (by rw [Rat.add_comm]; rfl) rfl
theorem r13Interval (cs : List Cert) (rs : List Recall) (hl : cs.length ≤ 1000000) (hl2 : rs.length ≤ 1000000) (scale reading day : Int) :
    ACall Tryz.prog 51 [.c (.t (certsT cs)), .c (.t (recallsT rs)), intS .i64 scale, intS .i64 reading, intS .i64 day] [] (.tup (ivL (interval cs rs scale reading day))) [] := by
  have f := r13Find cs scale day hl
  have r := r13Recalled rs hl2 scale day
  have wi := r13in reading 0 1099511627776
  unfold interval
  cases hf : findTo cs scale day cs.length with
  | none =>
    rw [hf] at f
    (refine acall_of tab_ok Tryz.func51 rfl (by decide) ?_; (conv => whnf); repeat (first | (refine LitB.data ?_; conv => whnf) | (refine BoxB.own ?_; conv => whnf)))
    (repeat' (first | ((refine DecB.mk (fun h => ?_) (fun h => ?_)) <;> first | (exfalso; omega) | (conv => whnf)) | ((refine BoolB.mk (fun h => ?_) (fun h => ?_)) <;> first | (exact absurd h (by decide)) | (conv => whnf)) | ((first | refine ⟨_, wrap_ok (by omega) (by omega), ?_⟩ | refine and_idx (by omega) (by omega) ?_ | refine reg_ok (by decide +kernel) ?_ | refine bar_ok (by decide +kernel) (by decide +kernel) ?_ | refine late_ok rfl rfl ?_ | refine src_ok rfl ?_ | refine .inl ⟨_, _, qcall_pure (f) rfl rfl, ?_⟩ | refine .inl ⟨_, _, qcall_pure (r) rfl rfl, ?_⟩ | refine .inl ⟨_, _, qcall_pure (wi) rfl rfl, ?_⟩ | refine .inl ⟨_, _, qcall_pure (1) rfl rfl, ?_⟩ | refine bar_late [1] (by decide +kernel) (by decide +kernel) ?_ | refine LitB.data ?_ | refine BoxB.own ?_); conv => whnf)))
    all_goals first
      | (exfalso; simp_all; done)
      | exact fin_t ⟨⟨rfl, rfl, rfl, rfl, trivial⟩, ⟨rfl, rfl, rfl, rfl, trivial⟩, rfl, trivial⟩
  | some i =>
    rw [hf] at f
    obtain ⟨hb, c, hc, _, hcv⟩ := findTo_some hf
    have e : certAt cs i = c := by unfold certAt; rw [hc]; rfl
    simp only [e]
    cases hrec : recalled rs scale day with
    | true =>
      rw [hrec] at r
      (refine acall_of tab_ok Tryz.func51 rfl (by decide) ?_; (conv => whnf); repeat (first | (refine LitB.data ?_; conv => whnf) | (refine BoxB.own ?_; conv => whnf)))
      (repeat' (first | ((refine DecB.mk (fun h => ?_) (fun h => ?_)) <;> first | (exfalso; omega) | (conv => whnf)) | ((refine BoolB.mk (fun h => ?_) (fun h => ?_)) <;> first | (exact absurd h (by decide)) | (conv => whnf)) | ((first | refine ⟨_, wrap_ok (by omega) (by omega), ?_⟩ | refine and_idx (by omega) (by omega) ?_ | refine reg_ok (by decide +kernel) ?_ | refine bar_ok (by decide +kernel) (by decide +kernel) ?_ | refine late_ok rfl rfl ?_ | refine src_ok rfl ?_ | refine .inl ⟨_, _, qcall_pure (f) rfl rfl, ?_⟩ | refine .inl ⟨_, _, qcall_pure (r) rfl rfl, ?_⟩ | refine .inl ⟨_, _, qcall_pure (wi) rfl rfl, ?_⟩ | refine .inl ⟨_, _, qcall_pure (1) rfl rfl, ?_⟩ | refine bar_late [1] (by decide +kernel) (by decide +kernel) ?_ | refine LitB.data ?_ | refine BoxB.own ?_); conv => whnf)))
      all_goals first
        | (exfalso; simp_all; done)
        | exact fin_t ⟨⟨rfl, rfl, rfl, rfl, trivial⟩, ⟨rfl, rfl, rfl, rfl, trivial⟩, rfl, trivial⟩
    | false =>
      rw [hrec] at r
      cases hr : btw reading 0 1099511627776 with
      | false =>
        rw [hr] at wi
        (refine acall_of tab_ok Tryz.func51 rfl (by decide) ?_; (conv => whnf); repeat (first | (refine LitB.data ?_; conv => whnf) | (refine BoxB.own ?_; conv => whnf)))
        (repeat' (first | ((refine DecB.mk (fun h => ?_) (fun h => ?_)) <;> first | (exfalso; omega) | (conv => whnf)) | ((refine BoolB.mk (fun h => ?_) (fun h => ?_)) <;> first | (exact absurd h (by decide)) | (conv => whnf)) | ((first | refine ⟨_, wrap_ok (by omega) (by omega), ?_⟩ | refine and_idx (by omega) (by omega) ?_ | refine reg_ok (by decide +kernel) ?_ | refine bar_ok (by decide +kernel) (by decide +kernel) ?_ | refine late_ok rfl rfl ?_ | refine src_ok rfl ?_ | refine .inl ⟨_, _, qcall_pure (f) rfl rfl, ?_⟩ | refine .inl ⟨_, _, qcall_pure (r) rfl rfl, ?_⟩ | refine .inl ⟨_, _, qcall_pure (wi) rfl rfl, ?_⟩ | refine .inl ⟨_, _, qcall_pure (1) rfl rfl, ?_⟩ | refine bar_late [1] (by decide +kernel) (by decide +kernel) ?_ | refine LitB.data ?_ | refine BoxB.own ?_); conv => whnf)))
        all_goals first
          | exact fin_t ⟨⟨rfl, rfl, rfl, rfl, trivial⟩, ⟨rfl, rfl, rfl, rfl, trivial⟩, rfl, trivial⟩
          | (exfalso; simp_all; done)
      | true =>
        have er := r13Error c reading day hcv hr
        have l1 := rl_err hcv hr
        rw [hr] at wi
        rw [btw_iff] at hr
        have l2 : rl (reading : Rat) ≤ 4 := by rw [rl_int]; have := bl_int (x := reading) (by omega) (by omega); omega
        have fi := r5Int reading (by omega) (by omega)
        have f0 := r5Int 0 (by omega) (by omega)
        have sb := r5Sub (reading : Rat) (errR c reading day) (by omega) (by omega)
        have ad := r5Add (reading : Rat) (errR c reading day) (by omega) (by omega)
        have l4 := rl_sub (reading : Rat) (errR c reading day)
        have sg := r5Sign ((reading : Rat) - errR c reading day) (by omega)
        have hs := sgR_neg' ((reading : Rat) - errR c reading day)
        (refine acall_of tab_ok Tryz.func51 rfl (by decide) ?_; (conv => whnf); repeat (first | (refine LitB.data ?_; conv => whnf) | (refine BoxB.own ?_; conv => whnf)))
        (repeat' (first | ((refine DecB.mk (fun h => ?_) (fun h => ?_)) <;> first | (exfalso; omega) | (conv => whnf)) | ((refine BoolB.mk (fun h => ?_) (fun h => ?_)) <;> first | (exact absurd h (by decide)) | (conv => whnf)) | ((first | refine ⟨_, wrap_ok (by omega) (by omega), ?_⟩ | refine and_idx (by omega) (by omega) ?_ | refine reg_ok (by decide +kernel) ?_ | refine bar_ok (by decide +kernel) (by decide +kernel) ?_ | refine late_ok rfl rfl ?_ | refine src_ok rfl ?_ | refine .inl ⟨_, _, qcall_pure (f) rfl rfl, ?_⟩ | refine .inl ⟨_, _, qcall_pure (r) rfl rfl, ?_⟩ | refine .inl ⟨_, _, qcall_pure (wi) rfl rfl, ?_⟩ | refine .inl ⟨_, _, qcall_pure (er) rfl rfl, ?_⟩ | refine .inl ⟨_, _, qcall_pure (fi) rfl rfl, ?_⟩ | refine .inl ⟨_, _, qcall_pure (f0) rfl rfl, ?_⟩ | refine .inl ⟨_, _, qcall_pure (sb) rfl rfl, ?_⟩ | refine .inl ⟨_, _, qcall_pure (ad) rfl rfl, ?_⟩ | refine .inl ⟨_, _, qcall_pure (sg) rfl rfl, ?_⟩ | refine .inl ⟨_, _, qcall_pure (1) rfl rfl, ?_⟩ | refine .inl ⟨_, _, qcall_pure (9) rfl rfl, ?_⟩ | refine .inl ⟨_, _, qcall_pure (6) rfl rfl, ?_⟩ | refine ex_row hc ?_ | refine bar_late [1] (by decide +kernel) (by decide +kernel) ?_ | refine bar_late [9] (by decide +kernel) (by decide +kernel) ?_ | refine bar_late [6] (by decide +kernel) (by decide +kernel) ?_ | refine LitB.data ?_ | refine BoxB.own ?_); conv => whnf)))
        · have hn : (reading : Rat) - errR c reading day < ((0 : Int) : Rat) := hs.1 (by omega)
          refine fin_t ⟨ent_fz ?_, ⟨rfl, rfl, rfl, rfl, trivial⟩, rfl, trivial⟩
          unfold maxR; rw [if_pos hn]
        · have hn : ¬ (reading : Rat) - errR c reading day < ((0 : Int) : Rat) := fun h => absurd (hs.2 h) (by omega)
          refine fin_t ⟨ent_fz ?_, ⟨rfl, rfl, rfl, rfl, trivial⟩, rfl, trivial⟩
          unfold maxR; rw [if_neg hn]
        · have hq : (some i).isSome = false := by assumption
          cases hq
end Go.Proofs.YtomfnfbijgjfeaaGreat
