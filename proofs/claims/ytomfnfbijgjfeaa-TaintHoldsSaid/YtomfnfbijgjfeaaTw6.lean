/- taint: System. -/
import Derived.Deep.DeepMust
import Derived.BigQuiet
import Derived.Deep.Light
import Derived.ProofKit
import Derived.OpenShut
import Derived.Deep.Slices
import Derived.Deep.Fields
import Derived.Test.YtomfnfbijgjfeaaRows
import Derived.Test.YtomfnfbijgjfeaaTw5
namespace Go.Proofs.Ytomfnfbijgjfeaa
open Go.RowKit
set_option linter.unusedVariables false
set_option linter.unusedSimpArgs false
set_option maxRecDepth 100000

theorem a_pushF {H : Hp} {id len : Nat} {n : Int} {rows : List RowP} {rs : List (List C)} {f : Fr} {v : Rat} (hf : f = fz v) (hs : H[2]? = some (sysB n id len)) (hid : H[id]? = some { mode := .live, elem := 89, size := 6, rows := rs, box := false })
    (hlen : len = rows.length) (hrs : rs = toC (rows.map rowRow)) (hne : id ≠ 2) (hr : rows.length ≤ 1000000) (mv : Nat) (kind : Int) :
    ACall Try.prog 60 [intS .i64 mv, intS .i64 kind, frS f, .c (.ptr 2 0 0)] H (.tup []) (((H.set 2 (sysB n H.length (rows.length + 1))).set id (deadB 89 6)) ++ [rowsB (rows ++ [oneRow mv kind v])]) := by
  subst hf; subst hlen; subst hrs; exact a_push hs hid hne hr mv kind v
theorem rowsTo_len {t : Trace} {kind : Int} {k : Nat} (hk : k ≤ 200) (hf : t.finds.length ≤ 20) (hc : t.cleans.length ≤ 50) : (sysRows t kind k).length ≤ 14400 := by
  have h1 := sysRows_len (t := t) (kind := kind) k
  have h2 := Nat.mul_le_mul hk (show 2 + t.finds.length + t.cleans.length ≤ 72 by omega)
  omega
abbrev aboutB (t : Trace) (kind : Int) (i : Nat) : Blk := { mode := .live, elem := 95, size := 7, rows := [(aboutAt t kind i).map .t], box := true }
theorem entR_data {ρ : List (Option Nat)} {H : Hp} : ∀ rows : List (List T), EntR ρ H (rows.map (·.map C.t)) (rows.map (·.map C.t))
  | [] => trivial
  | r :: rs => ⟨entL_data r, entR_data rs⟩
def sysE (t : Trace) (kind : Int) : Int := if traceE t ≠ 0 ∨ kind < 0 ∨ 8 ≤ kind then 1 else 0
def sysR (t : Trace) (kind : Int) : SysP := if traceE t ≠ 0 ∨ kind < 0 ∨ 8 ≤ kind then ⟨0, []⟩ else sysOf t kind
abbrev rowFn : FuncId := 60
abbrev sysZB : Blk := { mode := .live, elem := 67, size := 2, rows := [[.t (ti 0), .t (rowsTT [])]], box := true }
set_option maxHeartbeats 4000000 in
theorem a_System (t : Trace) (kind : Int) (hs : t.Sized) : ACall Try.prog 24 [trS t, intS .i64 kind] [] (.tup [sysS (sysR t kind), intS .i64 (sysE t kind)]) [] := by
  have ck := a_TCheck t hs
  have m2 : (t.ev.moves.map Move.row).length = t.ev.moves.length := by simp
  by_cases h1 : traceE t ≠ 0 ∨ kind < 0 ∨ 8 ≤ kind
  · have e1 : sysE t kind = 1 := by unfold sysE; rw [if_pos h1]
    have e2 : sysR t kind = ⟨0, []⟩ := by unfold sysR; rw [if_pos h1]
    rw [e1, e2]
    (refine acall_of tab_ok Try.func24 rfl (by decide) ?_; (conv => whnf); repeat (first | (refine LitB.data ?_; conv => whnf) | (refine BoxB.data ?_; conv => whnf)))
    (repeat' (first | ((refine DecB.mk (fun h => ?_) (fun h => ?_)) <;> first | (exfalso; omega) | (conv => whnf)) | ((refine BoolB.mk (fun h => ?_) (fun h => ?_)) <;> first | (exact absurd h (by decide)) | (conv => whnf)) | (refine ⟨_, wrap_ok (by omega) (by omega), ?_⟩; conv => whnf) | (refine and_idx (by omega) (by omega) ?_; conv => whnf) | (refine reg_ok (by decide +kernel) ?_; conv => whnf) | (refine bar_ok (by decide +kernel) (by decide +kernel) ?_; conv => whnf) | (refine late_ok rfl rfl ?_; conv => whnf) | (refine src_ok rfl ?_; conv => whnf) | (refine .inl ⟨_, _, qcall_pure (ck) rfl rfl, ?_⟩; conv => whnf) | (refine LitB.data ?_; conv => whnf) | (refine BoxB.own ?_; conv => whnf)))
    all_goals first
      | (exfalso; omega)
      | exact fin_t ⟨⟨rfl, rfl, trivial⟩, rfl, trivial⟩
  have e1 : sysE t kind = 0 := by unfold sysE; rw [if_neg h1]
  have e2 : sysR t kind = sysOf t kind := by unfold sysR; rw [if_neg h1]
  rw [e1, e2]
  obtain ⟨k1, k2, k3⟩ : traceE t = 0 ∧ 0 ≤ kind ∧ kind < 8 := by omega
  rw [k1] at ck
  clear h1 e1 e2
  obtain ⟨q1, q2, q3, q4, q5⟩ := traceE_zero k1
  obtain ⟨b1, b2, b3, b4⟩ := check_bounds q1
  have kn := a_known t kind hs q1 (fun f hf => by have := findsE_get q4 f hf; omega) (fun c hc => cleansE_get q5 c hc)
  (refine acall_of tab_ok Try.func24 rfl (by decide) ?_; (conv => whnf); repeat (first | (refine LitB.data ?_; conv => whnf) | (refine BoxB.data ?_; conv => whnf)))
  (repeat' (first | ((refine DecB.mk (fun h => ?_) (fun h => ?_)) <;> first | (exfalso; omega) | (conv => whnf)) | ((refine BoolB.mk (fun h => ?_) (fun h => ?_)) <;> first | (exact absurd h (by decide)) | (conv => whnf)) | (refine ⟨_, wrap_ok (by omega) (by omega), ?_⟩; conv => whnf) | (refine and_idx (by omega) (by omega) ?_; conv => whnf) | (refine reg_ok (by decide +kernel) ?_; conv => whnf) | (refine bar_ok (by decide +kernel) (by decide +kernel) ?_; conv => whnf) | (refine late_ok rfl rfl ?_; conv => whnf) | (refine src_ok rfl ?_; conv => whnf) | (refine .inl ⟨_, _, qcall_pure (ck) rfl rfl, ?_⟩; conv => whnf) | (refine .inl ⟨_, _, qcall_pure (kn) rfl rfl, ?_⟩; conv => whnf) | (refine LitB.data ?_; conv => whnf) | (refine BoxB.own ?_; conv => whnf)))
  all_goals try (exfalso; omega)
  refine awp_for tab_ok (fun k => ([S.junk, S.junk, S.junk, S.junk, S.c (C.ptr 0 0 0), S.junk, S.c (C.ptr 1 0 0), S.c (C.ptr 2 0 0), S.c (C.fn (Fn.func rowFn) [C.ptr 2 0 0]), S.junk, S.junk, S.junk, S.junk, S.junk, S.junk, S.junk, S.junk, S.junk, S.junk, S.junk, S.junk, S.junk, S.junk, S.junk, S.junk, S.junk, S.junk, S.junk, S.junk, S.junk, S.junk, S.junk, S.junk, S.junk, S.c (C.t (knownT t kind)), intS .i64 t.ev.moves.length, intS .i64 k, S.junk, S.junk, S.junk, S.junk, S.junk, S.junk, S.junk, S.junk, S.junk, S.junk, S.junk, S.junk, S.junk, S.junk, S.junk, S.junk, S.junk, S.junk, S.junk, S.junk, S.junk, S.junk, S.junk, S.junk, S.junk, S.junk, S.junk, S.junk, S.junk, S.junk, S.junk, S.junk, S.junk, S.junk, S.junk, S.junk, S.junk, S.junk, S.junk, S.junk, S.junk, S.junk, S.junk, S.junk, S.junk, S.junk, S.junk], [sysZB, evB t.ev, sysB t.ev.moves.length 3 (sysRows t kind k).length, rowsB (sysRows t kind k)])) t.ev.moves.length (fun _ => True) [some 0, some 1, some 2, none] trivial ?_ ?_
  · refine ⟨rfl, rfl, ⟨⟨rfl, rfl, rfl, .inr ⟨⟨rfl, rfl, trivial⟩, trivial⟩⟩, ⟨rfl, rfl, rfl, .inl ⟨rfl, rowsT_ev _⟩⟩, ⟨rfl, rfl, rfl, .inr ⟨⟨?_, ⟨rfl, rfl, rfl⟩, trivial⟩, trivial⟩⟩, ⟨rfl, rfl⟩, trivial⟩, ⟨⟨rfl, rfl, rfl⟩, ⟨rfl, rfl, rfl⟩, ⟨rfl, rfl, rfl⟩, ⟨rfl, ⟨rfl, rfl, rfl⟩, trivial⟩, rfl, ent_i (by simp), rfl, trivial⟩⟩
    exact weak_eq (by rw [m2])
  intro k hk _
  by_cases hlt : k < t.ev.moves.length
  · obtain ⟨x, hx⟩ : ∃ x, t.ev.moves[k]? = some x := ⟨_, List.getElem?_eq_getElem hlt⟩
    have bn := a_bin t.ev q1 hx
    have st := a_stock t.ev q1 hx
    have gk : (List.range t.ev.moves.length)[k]? = some k := List.getElem?_range hlt
    have iv : ivAt t.ev k = ivOf t.ev x := ivAt_of hx
    have rl0 := rowsTo_len (t := t) (kind := kind) (k := k) (by omega) q2 q3
    have gl : (gramsOf t.finds kind k).length ≤ 20 := by unfold gramsOf; rw [List.length_map]; exact Nat.le_trans (List.length_filter_le _ _) q2
    have cl : cleansOf t.cleans kind k ≤ 50 := Nat.le_trans (List.length_filter_le _ _) q3
    have i0 := z_fInt 0 (by decide) (by decide)
    obtain ⟨R1, hR1⟩ : ∃ R1 : List RowP, R1 = sysRows t kind k ++ (if kindAt t.ev x.src = 0 then [] else [stockRow t.ev k x]) ++ capRows (ivOf t.ev x) k := ⟨_, rfl⟩
    have l5 : (sysRows t kind k).length + 1 = (sysRows t kind k ++ [stockRow t.ev k x]).length := by simp
    have r5 : List.take (sysRows t kind k).length (toC ((sysRows t kind k).map rowRow)) ++ toC [rowRow (stockRow t.ev k x)] = toC ((sysRows t kind k ++ [stockRow t.ev k x]).map rowRow) := ext_rowsN rfl
    have b5 : (sysRows t kind k ++ [stockRow t.ev k x]).length ≤ 1000000 := by simp; omega
    have b3 : (sysRows t kind k).length ≤ 1000000 := by omega
    obtain ⟨G, hG⟩ : ∃ G : Nat → List RowP, ∀ j, G j = R1 ++ ((gramsOf t.finds kind k).take j).map (fun g : Int => oneRow k 0 (g : Rat)) := ⟨_, fun _ => rfl⟩
    obtain ⟨K, hK⟩ : ∃ K : Nat → List RowP, ∀ j, K j = (R1 ++ (gramsOf t.finds kind k).map (fun g : Int => oneRow k 0 (g : Rat))) ++ List.replicate j (oneRow k 2 ((0 : Int) : Rat)) := ⟨_, fun _ => rfl⟩
    have hG0 : G 0 = R1 := by rw [hG]; simp
    have hK0 : K 0 = R1 ++ (gramsOf t.finds kind k).map (fun g : Int => oneRow k 0 (g : Rat)) := by rw [hK]; simp
    have hKe : sysRows t kind (k + 1) = K (cleansOf t.cleans kind k) := by
      rw [hK, hR1]
      show (match t.ev.moves[k]? with | none => sysRows t kind k | some x => sysRows t kind k ++ moveRows t kind k x) = _
      rw [hx]
      unfold moveRows
      simp [List.append_assoc]
    have hKs : toC ((K (cleansOf t.cleans kind k)).map rowRow) = toC ((sysRows t kind (k + 1)).map rowRow) ∧ (K (cleansOf t.cleans kind k)).length = (sysRows t kind (k + 1)).length := by rw [hKe]; exact ⟨rfl, rfl⟩
    have hgr : ∀ g ∈ gramsOf t.finds kind k, 1 ≤ g ∧ g ≤ 1099511627776 := fun g hg => by
      unfold gramsOf at hg
      obtain ⟨f, hf, rfl⟩ := List.mem_map.1 hg
      have := findsE_get q4 f (List.mem_filter.1 hf).1
      omega
    have hcr : capRows (ivOf t.ev x) k = if (ivOf t.ev x).isSome then [oneRow k 1 (hiR (ivOf t.ev x))] else [] := by cases ivOf t.ev x <;> rfl
    cases hc : (ivOf t.ev x).isSome <;> cases hb : decide (kindAt t.ev x.src = 0) <;> rw [hb] at bn
    · have hci : (ivAt t.ev k).isSome = false := by rw [iv]; exact hc
      rw [hc] at hcr
      have hcr : capRows (ivOf t.ev x) k = [] := hcr
      have eR : R1 = sysRows t kind k ++ [stockRow t.ev k x] := by rw [hR1, hcr]; simp only [decide_eq_false_iff_not, decide_eq_true_eq] at hb; simp [hb, List.append_assoc]
      have hRl : R1.length ≤ 14500 := by rw [eR]; (try simp); omega
      conv => whnf
      (repeat' (first | ((refine DecB.mk (fun h => ?_) (fun h => ?_)) <;> first | (exfalso; omega) | (conv => whnf)) | ((refine BoolB.mk (fun h => ?_) (fun h => ?_)) <;> first | (exact absurd h (by decide)) | (conv => whnf)) | (refine ⟨_, wrap_ok (by omega) (by omega), ?_⟩; conv => whnf) | (refine and_idx (by omega) (by omega) ?_; conv => whnf) | (refine reg_ok (by decide +kernel) ?_; conv => whnf) | (refine bar_ok (by decide +kernel) (by decide +kernel) ?_; conv => whnf) | (refine late_ok rfl rfl ?_; conv => whnf) | (refine src_ok rfl ?_; conv => whnf) | (refine .inl ⟨_, _, qcall_pure (bn) rfl rfl, ?_⟩; conv => whnf) | (refine .inl ⟨_, _, qcall_pure (st) rfl rfl, ?_⟩; conv => whnf) | (refine .inl ⟨_, _, qcall_pure (toC) rfl rfl, ?_⟩; conv => whnf) | (refine .inl ⟨_, _, qcall_pure (toC) rfl rfl, ?_⟩; conv => whnf) | (refine ex_row gk ?_; conv => whnf) | (refine app_ok (by simp [toC]) (by simp [toC]; omega) ?_; conv => whnf) | (refine LitB.data ?_; conv => whnf) | (refine BoxB.own ?_; conv => whnf)))
      all_goals try (exfalso; omega)
      all_goals try (rw [hci] at h; exact absurd h (by decide))
      refine awp_for tab_ok (fun j => ([S.junk, S.junk, S.junk, S.junk, S.c (C.ptr 0 0 0), S.junk, S.c (C.ptr 1 0 0), S.c (C.ptr 2 0 0), S.c (C.fn (Fn.func rowFn) [C.ptr 2 0 0]), intS .i64 k, S.c (C.ptr 4 0 0), S.junk, S.junk, S.junk, S.junk, S.junk, S.junk, S.junk, S.junk, S.junk, S.junk, S.junk, S.junk, S.junk, S.junk, S.junk, S.junk, S.junk, S.junk, S.junk, S.junk, S.junk, S.junk, S.junk, S.c (C.t (knownT t kind)), intS .i64 t.ev.moves.length, intS .i64 k, S.junk, S.junk, S.junk, S.junk, S.junk, S.junk, S.junk, S.junk, S.junk, S.junk, S.junk, S.junk, S.junk, S.junk, S.junk, S.junk, S.junk, S.junk, S.junk, S.junk, S.junk, S.junk, S.junk, S.junk, S.c (C.t (intsT (gramsOf t.finds kind k))), intS .i64 (gramsOf t.finds kind k).length, intS .i64 j, S.junk, S.junk, S.junk, S.junk, S.junk, S.junk, S.junk, S.junk, S.junk, S.junk, S.junk, S.junk, S.junk, S.junk, S.junk, S.junk, S.junk, S.junk, S.junk, S.junk], [sysZB, evB t.ev, sysB t.ev.moves.length 3 (G j).length, rowsB (G j), aboutB t kind k])) (gramsOf t.finds kind k).length (fun _ => True) [some 0, some 1, some 2, some 5, some 4] trivial ⟨rfl, rfl, ⟨⟨rfl, rfl, rfl, .inr ⟨⟨rfl, rfl, trivial⟩, trivial⟩⟩, ⟨rfl, rfl, rfl, .inl ⟨rfl, rowsT_ev _⟩⟩, ⟨rfl, rfl, rfl, .inr ⟨⟨rfl, ⟨rfl, rfl, ?_, fun h => h⟩, trivial⟩, trivial⟩⟩, entB_rows rfl rfl rfl ?_ rfl, ⟨rfl, rfl, rfl, .inr (entR_data [aboutAt t kind k])⟩, trivial⟩, ⟨⟨rfl, rfl, rfl⟩, ⟨rfl, rfl, rfl⟩, ⟨rfl, rfl, rfl⟩, ⟨rfl, ⟨rfl, rfl, rfl⟩, trivial⟩, rfl, ⟨rfl, rfl, rfl⟩, rfl, rfl, rfl, rfl, ent_i (by simp), rfl, trivial⟩⟩ ?_
      · simp [hG0, eR, toC]
      · rw [hG0, eR]; exact r5
      intro j hj _
      have hGl : (G j).length ≤ 1000000 := by rw [hG]; simp [List.length_append]; omega
      by_cases hjt : j < (gramsOf t.finds kind k).length
      · obtain ⟨g, hg⟩ : ∃ g, (gramsOf t.finds kind k)[j]? = some g := ⟨_, List.getElem?_eq_getElem hjt⟩
        have gb := hgr g (List.mem_of_getElem? hg)
        have ig := z_fInt g (by omega) (by omega)
        have eG : G (j + 1) = G j ++ [oneRow k 0 (g : Rat)] := by rw [hG, hG, List.take_add_one, hg]; simp
        conv => whnf
        (repeat' (first | ((refine DecB.mk (fun h => ?_) (fun h => ?_)) <;> first | (exfalso; omega) | (conv => whnf)) | ((refine BoolB.mk (fun h => ?_) (fun h => ?_)) <;> first | (exact absurd h (by decide)) | (conv => whnf)) | (refine ⟨_, wrap_ok (by omega) (by omega), ?_⟩; conv => whnf) | (refine and_idx (by omega) (by omega) ?_; conv => whnf) | (refine reg_ok (by decide +kernel) ?_; conv => whnf) | (refine bar_ok (by decide +kernel) (by decide +kernel) ?_; conv => whnf) | (refine late_ok rfl rfl ?_; conv => whnf) | (refine src_ok rfl ?_; conv => whnf) | (refine .inl ⟨_, _, qcall_pure (ig) rfl rfl, ?_⟩; conv => whnf) | (refine ex_row hg ?_; conv => whnf) | (refine .inr ⟨_, _, a_pushF (id := 3) rfl rfl rfl rfl rfl (by decide) hGl _ _, ?_⟩; conv => whnf) | (refine LitB.data ?_; conv => whnf) | (refine BoxB.own ?_; conv => whnf)))
        all_goals try (exfalso; omega)
        refine ⟨hjt, trivial, [some 0, some 1, some 2, some 5, some 4], rfl, rfl, ⟨⟨rfl, rfl, rfl, .inr ⟨⟨rfl, rfl, trivial⟩, trivial⟩⟩, ⟨rfl, rfl, rfl, .inl ⟨rfl, rowsT_ev _⟩⟩, ⟨rfl, rfl, rfl, .inr ⟨⟨rfl, ⟨rfl, rfl, ?_, fun h => h⟩, trivial⟩, trivial⟩⟩, entB_rows rfl rfl rfl ?_ rfl, ⟨rfl, rfl, rfl, .inr (entR_data [aboutAt t kind k])⟩, trivial⟩, ⟨⟨rfl, rfl, rfl⟩, ⟨rfl, rfl, rfl⟩, ⟨rfl, rfl, rfl⟩, ⟨rfl, ⟨rfl, rfl, rfl⟩, trivial⟩, rfl, ⟨rfl, rfl, rfl⟩, rfl, rfl, rfl, rfl, rfl, rfl, trivial⟩⟩
        · rw [eG]; simp
        · rw [eG]
      have hje : j = (gramsOf t.finds kind k).length := by omega
      subst hje
      have hGe : G (gramsOf t.finds kind k).length = R1 ++ (gramsOf t.finds kind k).map (fun g : Int => oneRow k 0 (g : Rat)) := by rw [hG, List.take_of_length_le (Nat.le_refl _)]
      conv => whnf
      (repeat' (first | ((refine DecB.mk (fun h => ?_) (fun h => ?_)) <;> first | (exfalso; omega) | (conv => whnf)) | ((refine BoolB.mk (fun h => ?_) (fun h => ?_)) <;> first | (exact absurd h (by decide)) | (conv => whnf)) | (refine ⟨_, wrap_ok (by omega) (by omega), ?_⟩; conv => whnf) | (refine and_idx (by omega) (by omega) ?_; conv => whnf) | (refine reg_ok (by decide +kernel) ?_; conv => whnf) | (refine bar_ok (by decide +kernel) (by decide +kernel) ?_; conv => whnf) | (refine late_ok rfl rfl ?_; conv => whnf) | (refine src_ok rfl ?_; conv => whnf) | (refine LitB.data ?_; conv => whnf) | (refine BoxB.own ?_; conv => whnf)))
      all_goals try (exfalso; omega)
      refine awp_for tab_ok (fun j => ([S.junk, S.junk, S.junk, S.junk, S.c (C.ptr 0 0 0), S.junk, S.c (C.ptr 1 0 0), S.c (C.ptr 2 0 0), S.c (C.fn (Fn.func rowFn) [C.ptr 2 0 0]), intS .i64 k, S.junk, S.junk, S.junk, S.junk, S.junk, S.junk, S.junk, S.junk, S.junk, S.junk, S.junk, S.junk, S.junk, S.junk, S.junk, S.junk, S.junk, S.junk, S.junk, S.junk, S.junk, S.junk, S.junk, S.junk, S.c (C.t (knownT t kind)), intS .i64 t.ev.moves.length, intS .i64 k, S.junk, S.junk, S.junk, S.junk, S.junk, S.junk, S.junk, S.junk, S.junk, S.junk, S.junk, S.junk, S.junk, S.junk, S.junk, S.junk, S.junk, S.junk, S.junk, S.junk, S.junk, S.junk, S.junk, S.junk, S.junk, S.junk, S.junk, S.junk, S.junk, S.junk, S.junk, S.junk, S.junk, S.junk, S.junk, S.junk, S.junk, intS .i64 (cleansOf t.cleans kind k), intS .i64 j, S.junk, S.junk, S.junk, S.junk, S.junk, S.junk, S.junk, S.junk], [sysZB, evB t.ev, sysB t.ev.moves.length 3 (K j).length, rowsB (K j)])) (cleansOf t.cleans kind k) (fun _ => True) [some 0, some 1, some 2, some 3] trivial ⟨rfl, rfl, ⟨⟨rfl, rfl, rfl, .inr ⟨⟨rfl, rfl, trivial⟩, trivial⟩⟩, ⟨rfl, rfl, rfl, .inl ⟨rfl, rowsT_ev _⟩⟩, ⟨rfl, rfl, rfl, .inr ⟨⟨rfl, ⟨rfl, rfl, ?_, fun h => h⟩, trivial⟩, trivial⟩⟩, entB_rows rfl rfl rfl ?_ rfl, trivial⟩, ⟨⟨rfl, rfl, rfl⟩, ⟨rfl, rfl, rfl⟩, ⟨rfl, rfl, rfl⟩, ⟨rfl, ⟨rfl, rfl, rfl⟩, trivial⟩, rfl, rfl, rfl, rfl, rfl, rfl, trivial⟩⟩ ?_
      · rw [hK0, hGe]
      · rw [hK0, hGe]
      clear hj hjt
      intro j hj _
      have hKl : (K j).length ≤ 1000000 := by rw [hK]; simp [List.length_append]; omega
      by_cases hjt : j < cleansOf t.cleans kind k
      · have eK : K (j + 1) = K j ++ [oneRow k 2 ((0 : Int) : Rat)] := by rw [hK, hK, List.replicate_succ']; simp
        conv => whnf
        (repeat' (first | ((refine DecB.mk (fun h => ?_) (fun h => ?_)) <;> first | (exfalso; omega) | (conv => whnf)) | ((refine BoolB.mk (fun h => ?_) (fun h => ?_)) <;> first | (exact absurd h (by decide)) | (conv => whnf)) | (refine ⟨_, wrap_ok (by omega) (by omega), ?_⟩; conv => whnf) | (refine and_idx (by omega) (by omega) ?_; conv => whnf) | (refine reg_ok (by decide +kernel) ?_; conv => whnf) | (refine bar_ok (by decide +kernel) (by decide +kernel) ?_; conv => whnf) | (refine late_ok rfl rfl ?_; conv => whnf) | (refine src_ok rfl ?_; conv => whnf) | (refine .inl ⟨_, _, qcall_pure (i0) rfl rfl, ?_⟩; conv => whnf) | (refine .inr ⟨_, _, a_pushF (id := 3) rfl rfl rfl rfl rfl (by decide) hKl _ _, ?_⟩; conv => whnf) | (refine LitB.data ?_; conv => whnf) | (refine BoxB.own ?_; conv => whnf)))
        all_goals try (exfalso; omega)
        refine ⟨hjt, trivial, [some 0, some 1, some 2, some 4], rfl, rfl, ⟨⟨rfl, rfl, rfl, .inr ⟨⟨rfl, rfl, trivial⟩, trivial⟩⟩, ⟨rfl, rfl, rfl, .inl ⟨rfl, rowsT_ev _⟩⟩, ⟨rfl, rfl, rfl, .inr ⟨⟨rfl, ⟨rfl, rfl, ?_, fun h => h⟩, trivial⟩, trivial⟩⟩, entB_rows rfl rfl rfl ?_ rfl, trivial⟩, ⟨⟨rfl, rfl, rfl⟩, ⟨rfl, rfl, rfl⟩, ⟨rfl, rfl, rfl⟩, ⟨rfl, ⟨rfl, rfl, rfl⟩, trivial⟩, rfl, rfl, rfl, rfl, rfl, rfl, trivial⟩⟩
        · rw [eK]; simp
        · rw [eK]
      have hje : j = cleansOf t.cleans kind k := by omega
      subst hje
      conv => whnf
      (repeat' (first | ((refine DecB.mk (fun h => ?_) (fun h => ?_)) <;> first | (exfalso; omega) | (conv => whnf)) | ((refine BoolB.mk (fun h => ?_) (fun h => ?_)) <;> first | (exact absurd h (by decide)) | (conv => whnf)) | (refine ⟨_, wrap_ok (by omega) (by omega), ?_⟩; conv => whnf) | (refine and_idx (by omega) (by omega) ?_; conv => whnf) | (refine reg_ok (by decide +kernel) ?_; conv => whnf) | (refine bar_ok (by decide +kernel) (by decide +kernel) ?_; conv => whnf) | (refine late_ok rfl rfl ?_; conv => whnf) | (refine src_ok rfl ?_; conv => whnf) | (refine LitB.data ?_; conv => whnf) | (refine BoxB.own ?_; conv => whnf)))
      all_goals try (exfalso; omega)
      exact ⟨hlt, trivial, [some 0, some 1, some 2, some 3], rfl, rfl, ⟨⟨rfl, rfl, rfl, .inr ⟨⟨rfl, rfl, trivial⟩, trivial⟩⟩, ⟨rfl, rfl, rfl, .inl ⟨rfl, rowsT_ev _⟩⟩, ⟨rfl, rfl, rfl, .inr ⟨⟨rfl, ⟨rfl, rfl, hKs.2, fun h => h⟩, trivial⟩, trivial⟩⟩, entB_rows rfl rfl rfl hKs.1 rfl, trivial⟩, ⟨⟨rfl, rfl, rfl⟩, ⟨rfl, rfl, rfl⟩, ⟨rfl, rfl, rfl⟩, ⟨rfl, ⟨rfl, rfl, rfl⟩, trivial⟩, rfl, rfl, rfl, trivial⟩⟩
    · have hci : (ivAt t.ev k).isSome = false := by rw [iv]; exact hc
      rw [hc] at hcr
      have hcr : capRows (ivOf t.ev x) k = [] := hcr
      have eR : R1 = sysRows t kind k := by rw [hR1, hcr]; simp only [decide_eq_false_iff_not, decide_eq_true_eq] at hb; simp [hb, List.append_assoc]
      have hRl : R1.length ≤ 14500 := by rw [eR]; (try simp); omega
      conv => whnf
      (repeat' (first | ((refine DecB.mk (fun h => ?_) (fun h => ?_)) <;> first | (exfalso; omega) | (conv => whnf)) | ((refine BoolB.mk (fun h => ?_) (fun h => ?_)) <;> first | (exact absurd h (by decide)) | (conv => whnf)) | (refine ⟨_, wrap_ok (by omega) (by omega), ?_⟩; conv => whnf) | (refine and_idx (by omega) (by omega) ?_; conv => whnf) | (refine reg_ok (by decide +kernel) ?_; conv => whnf) | (refine bar_ok (by decide +kernel) (by decide +kernel) ?_; conv => whnf) | (refine late_ok rfl rfl ?_; conv => whnf) | (refine src_ok rfl ?_; conv => whnf) | (refine .inl ⟨_, _, qcall_pure (bn) rfl rfl, ?_⟩; conv => whnf) | (refine .inl ⟨_, _, qcall_pure (st) rfl rfl, ?_⟩; conv => whnf) | (refine .inl ⟨_, _, qcall_pure (toC) rfl rfl, ?_⟩; conv => whnf) | (refine .inl ⟨_, _, qcall_pure (toC) rfl rfl, ?_⟩; conv => whnf) | (refine ex_row gk ?_; conv => whnf) | (refine app_ok (by simp [toC]) (by simp [toC]; omega) ?_; conv => whnf) | (refine LitB.data ?_; conv => whnf) | (refine BoxB.own ?_; conv => whnf)))
      all_goals try (exfalso; omega)
      all_goals try (rw [hci] at h; exact absurd h (by decide))
      refine awp_for tab_ok (fun j => ([S.junk, S.junk, S.junk, S.junk, S.c (C.ptr 0 0 0), S.junk, S.c (C.ptr 1 0 0), S.c (C.ptr 2 0 0), S.c (C.fn (Fn.func rowFn) [C.ptr 2 0 0]), intS .i64 k, S.c (C.ptr 4 0 0), S.junk, S.junk, S.junk, S.junk, S.junk, S.junk, S.junk, S.junk, S.junk, S.junk, S.junk, S.junk, S.junk, S.junk, S.junk, S.junk, S.junk, S.junk, S.junk, S.junk, S.junk, S.junk, S.junk, S.c (C.t (knownT t kind)), intS .i64 t.ev.moves.length, intS .i64 k, S.junk, S.junk, S.junk, S.junk, S.junk, S.junk, S.junk, S.junk, S.junk, S.junk, S.junk, S.junk, S.junk, S.junk, S.junk, S.junk, S.junk, S.junk, S.junk, S.junk, S.junk, S.junk, S.junk, S.junk, S.c (C.t (intsT (gramsOf t.finds kind k))), intS .i64 (gramsOf t.finds kind k).length, intS .i64 j, S.junk, S.junk, S.junk, S.junk, S.junk, S.junk, S.junk, S.junk, S.junk, S.junk, S.junk, S.junk, S.junk, S.junk, S.junk, S.junk, S.junk, S.junk, S.junk, S.junk], [sysZB, evB t.ev, sysB t.ev.moves.length 3 (G j).length, rowsB (G j), aboutB t kind k])) (gramsOf t.finds kind k).length (fun _ => True) [some 0, some 1, some 2, some 3, some 4] trivial ⟨rfl, rfl, ⟨⟨rfl, rfl, rfl, .inr ⟨⟨rfl, rfl, trivial⟩, trivial⟩⟩, ⟨rfl, rfl, rfl, .inl ⟨rfl, rowsT_ev _⟩⟩, ⟨rfl, rfl, rfl, .inr ⟨⟨rfl, ⟨rfl, rfl, ?_, fun h => h⟩, trivial⟩, trivial⟩⟩, entB_rows rfl rfl rfl ?_ rfl, ⟨rfl, rfl, rfl, .inr (entR_data [aboutAt t kind k])⟩, trivial⟩, ⟨⟨rfl, rfl, rfl⟩, ⟨rfl, rfl, rfl⟩, ⟨rfl, rfl, rfl⟩, ⟨rfl, ⟨rfl, rfl, rfl⟩, trivial⟩, rfl, ⟨rfl, rfl, rfl⟩, rfl, rfl, rfl, rfl, ent_i (by simp), rfl, trivial⟩⟩ ?_
      · simp [hG0, eR, toC]
      · rw [hG0, eR] <;> rfl
      intro j hj _
      have hGl : (G j).length ≤ 1000000 := by rw [hG]; simp [List.length_append]; omega
      by_cases hjt : j < (gramsOf t.finds kind k).length
      · obtain ⟨g, hg⟩ : ∃ g, (gramsOf t.finds kind k)[j]? = some g := ⟨_, List.getElem?_eq_getElem hjt⟩
        have gb := hgr g (List.mem_of_getElem? hg)
        have ig := z_fInt g (by omega) (by omega)
        have eG : G (j + 1) = G j ++ [oneRow k 0 (g : Rat)] := by rw [hG, hG, List.take_add_one, hg]; simp
        conv => whnf
        (repeat' (first | ((refine DecB.mk (fun h => ?_) (fun h => ?_)) <;> first | (exfalso; omega) | (conv => whnf)) | ((refine BoolB.mk (fun h => ?_) (fun h => ?_)) <;> first | (exact absurd h (by decide)) | (conv => whnf)) | (refine ⟨_, wrap_ok (by omega) (by omega), ?_⟩; conv => whnf) | (refine and_idx (by omega) (by omega) ?_; conv => whnf) | (refine reg_ok (by decide +kernel) ?_; conv => whnf) | (refine bar_ok (by decide +kernel) (by decide +kernel) ?_; conv => whnf) | (refine late_ok rfl rfl ?_; conv => whnf) | (refine src_ok rfl ?_; conv => whnf) | (refine .inl ⟨_, _, qcall_pure (ig) rfl rfl, ?_⟩; conv => whnf) | (refine ex_row hg ?_; conv => whnf) | (refine .inr ⟨_, _, a_pushF (id := 3) rfl rfl rfl rfl rfl (by decide) hGl _ _, ?_⟩; conv => whnf) | (refine LitB.data ?_; conv => whnf) | (refine BoxB.own ?_; conv => whnf)))
        all_goals try (exfalso; omega)
        refine ⟨hjt, trivial, [some 0, some 1, some 2, some 5, some 4], rfl, rfl, ⟨⟨rfl, rfl, rfl, .inr ⟨⟨rfl, rfl, trivial⟩, trivial⟩⟩, ⟨rfl, rfl, rfl, .inl ⟨rfl, rowsT_ev _⟩⟩, ⟨rfl, rfl, rfl, .inr ⟨⟨rfl, ⟨rfl, rfl, ?_, fun h => h⟩, trivial⟩, trivial⟩⟩, entB_rows rfl rfl rfl ?_ rfl, ⟨rfl, rfl, rfl, .inr (entR_data [aboutAt t kind k])⟩, trivial⟩, ⟨⟨rfl, rfl, rfl⟩, ⟨rfl, rfl, rfl⟩, ⟨rfl, rfl, rfl⟩, ⟨rfl, ⟨rfl, rfl, rfl⟩, trivial⟩, rfl, ⟨rfl, rfl, rfl⟩, rfl, rfl, rfl, rfl, rfl, rfl, trivial⟩⟩
        · rw [eG]; simp
        · rw [eG]
      have hje : j = (gramsOf t.finds kind k).length := by omega
      subst hje
      have hGe : G (gramsOf t.finds kind k).length = R1 ++ (gramsOf t.finds kind k).map (fun g : Int => oneRow k 0 (g : Rat)) := by rw [hG, List.take_of_length_le (Nat.le_refl _)]
      conv => whnf
      (repeat' (first | ((refine DecB.mk (fun h => ?_) (fun h => ?_)) <;> first | (exfalso; omega) | (conv => whnf)) | ((refine BoolB.mk (fun h => ?_) (fun h => ?_)) <;> first | (exact absurd h (by decide)) | (conv => whnf)) | (refine ⟨_, wrap_ok (by omega) (by omega), ?_⟩; conv => whnf) | (refine and_idx (by omega) (by omega) ?_; conv => whnf) | (refine reg_ok (by decide +kernel) ?_; conv => whnf) | (refine bar_ok (by decide +kernel) (by decide +kernel) ?_; conv => whnf) | (refine late_ok rfl rfl ?_; conv => whnf) | (refine src_ok rfl ?_; conv => whnf) | (refine LitB.data ?_; conv => whnf) | (refine BoxB.own ?_; conv => whnf)))
      all_goals try (exfalso; omega)
      refine awp_for tab_ok (fun j => ([S.junk, S.junk, S.junk, S.junk, S.c (C.ptr 0 0 0), S.junk, S.c (C.ptr 1 0 0), S.c (C.ptr 2 0 0), S.c (C.fn (Fn.func rowFn) [C.ptr 2 0 0]), intS .i64 k, S.junk, S.junk, S.junk, S.junk, S.junk, S.junk, S.junk, S.junk, S.junk, S.junk, S.junk, S.junk, S.junk, S.junk, S.junk, S.junk, S.junk, S.junk, S.junk, S.junk, S.junk, S.junk, S.junk, S.junk, S.c (C.t (knownT t kind)), intS .i64 t.ev.moves.length, intS .i64 k, S.junk, S.junk, S.junk, S.junk, S.junk, S.junk, S.junk, S.junk, S.junk, S.junk, S.junk, S.junk, S.junk, S.junk, S.junk, S.junk, S.junk, S.junk, S.junk, S.junk, S.junk, S.junk, S.junk, S.junk, S.junk, S.junk, S.junk, S.junk, S.junk, S.junk, S.junk, S.junk, S.junk, S.junk, S.junk, S.junk, S.junk, intS .i64 (cleansOf t.cleans kind k), intS .i64 j, S.junk, S.junk, S.junk, S.junk, S.junk, S.junk, S.junk, S.junk], [sysZB, evB t.ev, sysB t.ev.moves.length 3 (K j).length, rowsB (K j)])) (cleansOf t.cleans kind k) (fun _ => True) [some 0, some 1, some 2, some 3] trivial ⟨rfl, rfl, ⟨⟨rfl, rfl, rfl, .inr ⟨⟨rfl, rfl, trivial⟩, trivial⟩⟩, ⟨rfl, rfl, rfl, .inl ⟨rfl, rowsT_ev _⟩⟩, ⟨rfl, rfl, rfl, .inr ⟨⟨rfl, ⟨rfl, rfl, ?_, fun h => h⟩, trivial⟩, trivial⟩⟩, entB_rows rfl rfl rfl ?_ rfl, trivial⟩, ⟨⟨rfl, rfl, rfl⟩, ⟨rfl, rfl, rfl⟩, ⟨rfl, rfl, rfl⟩, ⟨rfl, ⟨rfl, rfl, rfl⟩, trivial⟩, rfl, rfl, rfl, rfl, rfl, rfl, trivial⟩⟩ ?_
      · rw [hK0, hGe]
      · rw [hK0, hGe]
      clear hj hjt
      intro j hj _
      have hKl : (K j).length ≤ 1000000 := by rw [hK]; simp [List.length_append]; omega
      by_cases hjt : j < cleansOf t.cleans kind k
      · have eK : K (j + 1) = K j ++ [oneRow k 2 ((0 : Int) : Rat)] := by rw [hK, hK, List.replicate_succ']; simp
        conv => whnf
        (repeat' (first | ((refine DecB.mk (fun h => ?_) (fun h => ?_)) <;> first | (exfalso; omega) | (conv => whnf)) | ((refine BoolB.mk (fun h => ?_) (fun h => ?_)) <;> first | (exact absurd h (by decide)) | (conv => whnf)) | (refine ⟨_, wrap_ok (by omega) (by omega), ?_⟩; conv => whnf) | (refine and_idx (by omega) (by omega) ?_; conv => whnf) | (refine reg_ok (by decide +kernel) ?_; conv => whnf) | (refine bar_ok (by decide +kernel) (by decide +kernel) ?_; conv => whnf) | (refine late_ok rfl rfl ?_; conv => whnf) | (refine src_ok rfl ?_; conv => whnf) | (refine .inl ⟨_, _, qcall_pure (i0) rfl rfl, ?_⟩; conv => whnf) | (refine .inr ⟨_, _, a_pushF (id := 3) rfl rfl rfl rfl rfl (by decide) hKl _ _, ?_⟩; conv => whnf) | (refine LitB.data ?_; conv => whnf) | (refine BoxB.own ?_; conv => whnf)))
        all_goals try (exfalso; omega)
        refine ⟨hjt, trivial, [some 0, some 1, some 2, some 4], rfl, rfl, ⟨⟨rfl, rfl, rfl, .inr ⟨⟨rfl, rfl, trivial⟩, trivial⟩⟩, ⟨rfl, rfl, rfl, .inl ⟨rfl, rowsT_ev _⟩⟩, ⟨rfl, rfl, rfl, .inr ⟨⟨rfl, ⟨rfl, rfl, ?_, fun h => h⟩, trivial⟩, trivial⟩⟩, entB_rows rfl rfl rfl ?_ rfl, trivial⟩, ⟨⟨rfl, rfl, rfl⟩, ⟨rfl, rfl, rfl⟩, ⟨rfl, rfl, rfl⟩, ⟨rfl, ⟨rfl, rfl, rfl⟩, trivial⟩, rfl, rfl, rfl, rfl, rfl, rfl, trivial⟩⟩
        · rw [eK]; simp
        · rw [eK]
      have hje : j = cleansOf t.cleans kind k := by omega
      subst hje
      conv => whnf
      (repeat' (first | ((refine DecB.mk (fun h => ?_) (fun h => ?_)) <;> first | (exfalso; omega) | (conv => whnf)) | ((refine BoolB.mk (fun h => ?_) (fun h => ?_)) <;> first | (exact absurd h (by decide)) | (conv => whnf)) | (refine ⟨_, wrap_ok (by omega) (by omega), ?_⟩; conv => whnf) | (refine and_idx (by omega) (by omega) ?_; conv => whnf) | (refine reg_ok (by decide +kernel) ?_; conv => whnf) | (refine bar_ok (by decide +kernel) (by decide +kernel) ?_; conv => whnf) | (refine late_ok rfl rfl ?_; conv => whnf) | (refine src_ok rfl ?_; conv => whnf) | (refine LitB.data ?_; conv => whnf) | (refine BoxB.own ?_; conv => whnf)))
      all_goals try (exfalso; omega)
      exact ⟨hlt, trivial, [some 0, some 1, some 2, some 3], rfl, rfl, ⟨⟨rfl, rfl, rfl, .inr ⟨⟨rfl, rfl, trivial⟩, trivial⟩⟩, ⟨rfl, rfl, rfl, .inl ⟨rfl, rowsT_ev _⟩⟩, ⟨rfl, rfl, rfl, .inr ⟨⟨rfl, ⟨rfl, rfl, hKs.2, fun h => h⟩, trivial⟩, trivial⟩⟩, entB_rows rfl rfl rfl hKs.1 rfl, trivial⟩, ⟨⟨rfl, rfl, rfl⟩, ⟨rfl, rfl, rfl⟩, ⟨rfl, rfl, rfl⟩, ⟨rfl, ⟨rfl, rfl, rfl⟩, trivial⟩, rfl, rfl, rfl, trivial⟩⟩
    · have hci : (ivAt t.ev k).isSome = true := by rw [iv]; exact hc
      rw [hc] at hcr
      have hcr : capRows (ivOf t.ev x) k = [oneRow k 1 (hiR (ivOf t.ev x))] := hcr
      have eR : R1 = (sysRows t kind k ++ [stockRow t.ev k x]) ++ [oneRow k 1 (hiR (ivOf t.ev x))] := by rw [hR1, hcr]; simp only [decide_eq_false_iff_not, decide_eq_true_eq] at hb; simp [hb, List.append_assoc]
      have hRl : R1.length ≤ 14500 := by rw [eR]; (try simp); omega
      have hfv : hiF (ivAt t.ev k) = fz (hiR (ivOf t.ev x)) := by rw [iv]; exact (hiF_some hc).1
      conv => whnf
      (repeat' (first | ((refine DecB.mk (fun h => ?_) (fun h => ?_)) <;> first | (exfalso; omega) | (conv => whnf)) | ((refine BoolB.mk (fun h => ?_) (fun h => ?_)) <;> first | (exact absurd h (by decide)) | (conv => whnf)) | (refine ⟨_, wrap_ok (by omega) (by omega), ?_⟩; conv => whnf) | (refine and_idx (by omega) (by omega) ?_; conv => whnf) | (refine reg_ok (by decide +kernel) ?_; conv => whnf) | (refine bar_ok (by decide +kernel) (by decide +kernel) ?_; conv => whnf) | (refine late_ok rfl rfl ?_; conv => whnf) | (refine src_ok rfl ?_; conv => whnf) | (refine .inl ⟨_, _, qcall_pure (bn) rfl rfl, ?_⟩; conv => whnf) | (refine .inl ⟨_, _, qcall_pure (st) rfl rfl, ?_⟩; conv => whnf) | (refine .inl ⟨_, _, qcall_pure (toC) rfl rfl, ?_⟩; conv => whnf) | (refine .inl ⟨_, _, qcall_pure (toC) rfl rfl, ?_⟩; conv => whnf) | (refine ex_row gk ?_; conv => whnf) | (refine app_ok (by simp [toC]) (by simp [toC]; omega) ?_; conv => whnf) | (refine .inr ⟨_, _, a_pushF (id := 5) hfv rfl rfl l5 r5 (by decide) b5 _ _, ?_⟩; conv => whnf) | (refine LitB.data ?_; conv => whnf) | (refine BoxB.own ?_; conv => whnf)))
      all_goals try (exfalso; omega)
      all_goals try (rw [hci] at h; exact absurd h (by decide))
      refine awp_for tab_ok (fun j => ([S.junk, S.junk, S.junk, S.junk, S.c (C.ptr 0 0 0), S.junk, S.c (C.ptr 1 0 0), S.c (C.ptr 2 0 0), S.c (C.fn (Fn.func rowFn) [C.ptr 2 0 0]), intS .i64 k, S.c (C.ptr 4 0 0), S.junk, S.junk, S.junk, S.junk, S.junk, S.junk, S.junk, S.junk, S.junk, S.junk, S.junk, S.junk, S.junk, S.junk, S.junk, S.junk, S.junk, S.junk, S.junk, S.junk, S.junk, S.junk, S.junk, S.c (C.t (knownT t kind)), intS .i64 t.ev.moves.length, intS .i64 k, S.junk, S.junk, S.junk, S.junk, S.junk, S.junk, S.junk, S.junk, S.junk, S.junk, S.junk, S.junk, S.junk, S.junk, S.junk, S.junk, S.junk, S.junk, S.junk, S.junk, S.junk, S.junk, S.junk, S.junk, S.c (C.t (intsT (gramsOf t.finds kind k))), intS .i64 (gramsOf t.finds kind k).length, intS .i64 j, S.junk, S.junk, S.junk, S.junk, S.junk, S.junk, S.junk, S.junk, S.junk, S.junk, S.junk, S.junk, S.junk, S.junk, S.junk, S.junk, S.junk, S.junk, S.junk, S.junk], [sysZB, evB t.ev, sysB t.ev.moves.length 3 (G j).length, rowsB (G j), aboutB t kind k])) (gramsOf t.finds kind k).length (fun _ => True) [some 0, some 1, some 2, some 6, some 4] trivial ⟨rfl, rfl, ⟨⟨rfl, rfl, rfl, .inr ⟨⟨rfl, rfl, trivial⟩, trivial⟩⟩, ⟨rfl, rfl, rfl, .inl ⟨rfl, rowsT_ev _⟩⟩, ⟨rfl, rfl, rfl, .inr ⟨⟨rfl, ⟨rfl, rfl, ?_, fun h => h⟩, trivial⟩, trivial⟩⟩, entB_rows rfl rfl rfl ?_ rfl, ⟨rfl, rfl, rfl, .inr (entR_data [aboutAt t kind k])⟩, trivial⟩, ⟨⟨rfl, rfl, rfl⟩, ⟨rfl, rfl, rfl⟩, ⟨rfl, rfl, rfl⟩, ⟨rfl, ⟨rfl, rfl, rfl⟩, trivial⟩, rfl, ⟨rfl, rfl, rfl⟩, rfl, rfl, rfl, rfl, ent_i (by simp), rfl, trivial⟩⟩ ?_
      · simp [hG0, eR, toC]
      · rw [hG0, eR] <;> rfl
      intro j hj _
      have hGl : (G j).length ≤ 1000000 := by rw [hG]; simp [List.length_append]; omega
      by_cases hjt : j < (gramsOf t.finds kind k).length
      · obtain ⟨g, hg⟩ : ∃ g, (gramsOf t.finds kind k)[j]? = some g := ⟨_, List.getElem?_eq_getElem hjt⟩
        have gb := hgr g (List.mem_of_getElem? hg)
        have ig := z_fInt g (by omega) (by omega)
        have eG : G (j + 1) = G j ++ [oneRow k 0 (g : Rat)] := by rw [hG, hG, List.take_add_one, hg]; simp
        conv => whnf
        (repeat' (first | ((refine DecB.mk (fun h => ?_) (fun h => ?_)) <;> first | (exfalso; omega) | (conv => whnf)) | ((refine BoolB.mk (fun h => ?_) (fun h => ?_)) <;> first | (exact absurd h (by decide)) | (conv => whnf)) | (refine ⟨_, wrap_ok (by omega) (by omega), ?_⟩; conv => whnf) | (refine and_idx (by omega) (by omega) ?_; conv => whnf) | (refine reg_ok (by decide +kernel) ?_; conv => whnf) | (refine bar_ok (by decide +kernel) (by decide +kernel) ?_; conv => whnf) | (refine late_ok rfl rfl ?_; conv => whnf) | (refine src_ok rfl ?_; conv => whnf) | (refine .inl ⟨_, _, qcall_pure (ig) rfl rfl, ?_⟩; conv => whnf) | (refine ex_row hg ?_; conv => whnf) | (refine .inr ⟨_, _, a_pushF (id := 3) rfl rfl rfl rfl rfl (by decide) hGl _ _, ?_⟩; conv => whnf) | (refine LitB.data ?_; conv => whnf) | (refine BoxB.own ?_; conv => whnf)))
        all_goals try (exfalso; omega)
        refine ⟨hjt, trivial, [some 0, some 1, some 2, some 5, some 4], rfl, rfl, ⟨⟨rfl, rfl, rfl, .inr ⟨⟨rfl, rfl, trivial⟩, trivial⟩⟩, ⟨rfl, rfl, rfl, .inl ⟨rfl, rowsT_ev _⟩⟩, ⟨rfl, rfl, rfl, .inr ⟨⟨rfl, ⟨rfl, rfl, ?_, fun h => h⟩, trivial⟩, trivial⟩⟩, entB_rows rfl rfl rfl ?_ rfl, ⟨rfl, rfl, rfl, .inr (entR_data [aboutAt t kind k])⟩, trivial⟩, ⟨⟨rfl, rfl, rfl⟩, ⟨rfl, rfl, rfl⟩, ⟨rfl, rfl, rfl⟩, ⟨rfl, ⟨rfl, rfl, rfl⟩, trivial⟩, rfl, ⟨rfl, rfl, rfl⟩, rfl, rfl, rfl, rfl, rfl, rfl, trivial⟩⟩
        · rw [eG]; simp
        · rw [eG]
      have hje : j = (gramsOf t.finds kind k).length := by omega
      subst hje
      have hGe : G (gramsOf t.finds kind k).length = R1 ++ (gramsOf t.finds kind k).map (fun g : Int => oneRow k 0 (g : Rat)) := by rw [hG, List.take_of_length_le (Nat.le_refl _)]
      conv => whnf
      (repeat' (first | ((refine DecB.mk (fun h => ?_) (fun h => ?_)) <;> first | (exfalso; omega) | (conv => whnf)) | ((refine BoolB.mk (fun h => ?_) (fun h => ?_)) <;> first | (exact absurd h (by decide)) | (conv => whnf)) | (refine ⟨_, wrap_ok (by omega) (by omega), ?_⟩; conv => whnf) | (refine and_idx (by omega) (by omega) ?_; conv => whnf) | (refine reg_ok (by decide +kernel) ?_; conv => whnf) | (refine bar_ok (by decide +kernel) (by decide +kernel) ?_; conv => whnf) | (refine late_ok rfl rfl ?_; conv => whnf) | (refine src_ok rfl ?_; conv => whnf) | (refine LitB.data ?_; conv => whnf) | (refine BoxB.own ?_; conv => whnf)))
      all_goals try (exfalso; omega)
      refine awp_for tab_ok (fun j => ([S.junk, S.junk, S.junk, S.junk, S.c (C.ptr 0 0 0), S.junk, S.c (C.ptr 1 0 0), S.c (C.ptr 2 0 0), S.c (C.fn (Fn.func rowFn) [C.ptr 2 0 0]), intS .i64 k, S.junk, S.junk, S.junk, S.junk, S.junk, S.junk, S.junk, S.junk, S.junk, S.junk, S.junk, S.junk, S.junk, S.junk, S.junk, S.junk, S.junk, S.junk, S.junk, S.junk, S.junk, S.junk, S.junk, S.junk, S.c (C.t (knownT t kind)), intS .i64 t.ev.moves.length, intS .i64 k, S.junk, S.junk, S.junk, S.junk, S.junk, S.junk, S.junk, S.junk, S.junk, S.junk, S.junk, S.junk, S.junk, S.junk, S.junk, S.junk, S.junk, S.junk, S.junk, S.junk, S.junk, S.junk, S.junk, S.junk, S.junk, S.junk, S.junk, S.junk, S.junk, S.junk, S.junk, S.junk, S.junk, S.junk, S.junk, S.junk, S.junk, intS .i64 (cleansOf t.cleans kind k), intS .i64 j, S.junk, S.junk, S.junk, S.junk, S.junk, S.junk, S.junk, S.junk], [sysZB, evB t.ev, sysB t.ev.moves.length 3 (K j).length, rowsB (K j)])) (cleansOf t.cleans kind k) (fun _ => True) [some 0, some 1, some 2, some 3] trivial ⟨rfl, rfl, ⟨⟨rfl, rfl, rfl, .inr ⟨⟨rfl, rfl, trivial⟩, trivial⟩⟩, ⟨rfl, rfl, rfl, .inl ⟨rfl, rowsT_ev _⟩⟩, ⟨rfl, rfl, rfl, .inr ⟨⟨rfl, ⟨rfl, rfl, ?_, fun h => h⟩, trivial⟩, trivial⟩⟩, entB_rows rfl rfl rfl ?_ rfl, trivial⟩, ⟨⟨rfl, rfl, rfl⟩, ⟨rfl, rfl, rfl⟩, ⟨rfl, rfl, rfl⟩, ⟨rfl, ⟨rfl, rfl, rfl⟩, trivial⟩, rfl, rfl, rfl, rfl, rfl, rfl, trivial⟩⟩ ?_
      · rw [hK0, hGe]
      · rw [hK0, hGe]
      clear hj hjt
      intro j hj _
      have hKl : (K j).length ≤ 1000000 := by rw [hK]; simp [List.length_append]; omega
      by_cases hjt : j < cleansOf t.cleans kind k
      · have eK : K (j + 1) = K j ++ [oneRow k 2 ((0 : Int) : Rat)] := by rw [hK, hK, List.replicate_succ']; simp
        conv => whnf
        (repeat' (first | ((refine DecB.mk (fun h => ?_) (fun h => ?_)) <;> first | (exfalso; omega) | (conv => whnf)) | ((refine BoolB.mk (fun h => ?_) (fun h => ?_)) <;> first | (exact absurd h (by decide)) | (conv => whnf)) | (refine ⟨_, wrap_ok (by omega) (by omega), ?_⟩; conv => whnf) | (refine and_idx (by omega) (by omega) ?_; conv => whnf) | (refine reg_ok (by decide +kernel) ?_; conv => whnf) | (refine bar_ok (by decide +kernel) (by decide +kernel) ?_; conv => whnf) | (refine late_ok rfl rfl ?_; conv => whnf) | (refine src_ok rfl ?_; conv => whnf) | (refine .inl ⟨_, _, qcall_pure (i0) rfl rfl, ?_⟩; conv => whnf) | (refine .inr ⟨_, _, a_pushF (id := 3) rfl rfl rfl rfl rfl (by decide) hKl _ _, ?_⟩; conv => whnf) | (refine LitB.data ?_; conv => whnf) | (refine BoxB.own ?_; conv => whnf)))
        all_goals try (exfalso; omega)
        refine ⟨hjt, trivial, [some 0, some 1, some 2, some 4], rfl, rfl, ⟨⟨rfl, rfl, rfl, .inr ⟨⟨rfl, rfl, trivial⟩, trivial⟩⟩, ⟨rfl, rfl, rfl, .inl ⟨rfl, rowsT_ev _⟩⟩, ⟨rfl, rfl, rfl, .inr ⟨⟨rfl, ⟨rfl, rfl, ?_, fun h => h⟩, trivial⟩, trivial⟩⟩, entB_rows rfl rfl rfl ?_ rfl, trivial⟩, ⟨⟨rfl, rfl, rfl⟩, ⟨rfl, rfl, rfl⟩, ⟨rfl, rfl, rfl⟩, ⟨rfl, ⟨rfl, rfl, rfl⟩, trivial⟩, rfl, rfl, rfl, rfl, rfl, rfl, trivial⟩⟩
        · rw [eK]; simp
        · rw [eK]
      have hje : j = cleansOf t.cleans kind k := by omega
      subst hje
      conv => whnf
      (repeat' (first | ((refine DecB.mk (fun h => ?_) (fun h => ?_)) <;> first | (exfalso; omega) | (conv => whnf)) | ((refine BoolB.mk (fun h => ?_) (fun h => ?_)) <;> first | (exact absurd h (by decide)) | (conv => whnf)) | (refine ⟨_, wrap_ok (by omega) (by omega), ?_⟩; conv => whnf) | (refine and_idx (by omega) (by omega) ?_; conv => whnf) | (refine reg_ok (by decide +kernel) ?_; conv => whnf) | (refine bar_ok (by decide +kernel) (by decide +kernel) ?_; conv => whnf) | (refine late_ok rfl rfl ?_; conv => whnf) | (refine src_ok rfl ?_; conv => whnf) | (refine LitB.data ?_; conv => whnf) | (refine BoxB.own ?_; conv => whnf)))
      all_goals try (exfalso; omega)
      exact ⟨hlt, trivial, [some 0, some 1, some 2, some 3], rfl, rfl, ⟨⟨rfl, rfl, rfl, .inr ⟨⟨rfl, rfl, trivial⟩, trivial⟩⟩, ⟨rfl, rfl, rfl, .inl ⟨rfl, rowsT_ev _⟩⟩, ⟨rfl, rfl, rfl, .inr ⟨⟨rfl, ⟨rfl, rfl, hKs.2, fun h => h⟩, trivial⟩, trivial⟩⟩, entB_rows rfl rfl rfl hKs.1 rfl, trivial⟩, ⟨⟨rfl, rfl, rfl⟩, ⟨rfl, rfl, rfl⟩, ⟨rfl, rfl, rfl⟩, ⟨rfl, ⟨rfl, rfl, rfl⟩, trivial⟩, rfl, rfl, rfl, trivial⟩⟩
    · have hci : (ivAt t.ev k).isSome = true := by rw [iv]; exact hc
      rw [hc] at hcr
      have hcr : capRows (ivOf t.ev x) k = [oneRow k 1 (hiR (ivOf t.ev x))] := hcr
      have eR : R1 = sysRows t kind k ++ [oneRow k 1 (hiR (ivOf t.ev x))] := by rw [hR1, hcr]; simp only [decide_eq_false_iff_not, decide_eq_true_eq] at hb; simp [hb, List.append_assoc]
      have hRl : R1.length ≤ 14500 := by rw [eR]; (try simp); omega
      have hfv : hiF (ivAt t.ev k) = fz (hiR (ivOf t.ev x)) := by rw [iv]; exact (hiF_some hc).1
      conv => whnf
      (repeat' (first | ((refine DecB.mk (fun h => ?_) (fun h => ?_)) <;> first | (exfalso; omega) | (conv => whnf)) | ((refine BoolB.mk (fun h => ?_) (fun h => ?_)) <;> first | (exact absurd h (by decide)) | (conv => whnf)) | (refine ⟨_, wrap_ok (by omega) (by omega), ?_⟩; conv => whnf) | (refine and_idx (by omega) (by omega) ?_; conv => whnf) | (refine reg_ok (by decide +kernel) ?_; conv => whnf) | (refine bar_ok (by decide +kernel) (by decide +kernel) ?_; conv => whnf) | (refine late_ok rfl rfl ?_; conv => whnf) | (refine src_ok rfl ?_; conv => whnf) | (refine .inl ⟨_, _, qcall_pure (bn) rfl rfl, ?_⟩; conv => whnf) | (refine .inl ⟨_, _, qcall_pure (st) rfl rfl, ?_⟩; conv => whnf) | (refine .inl ⟨_, _, qcall_pure (toC) rfl rfl, ?_⟩; conv => whnf) | (refine .inl ⟨_, _, qcall_pure (toC) rfl rfl, ?_⟩; conv => whnf) | (refine ex_row gk ?_; conv => whnf) | (refine app_ok (by simp [toC]) (by simp [toC]; omega) ?_; conv => whnf) | (refine .inr ⟨_, _, a_pushF (id := 3) hfv rfl rfl rfl rfl (by decide) b3 _ _, ?_⟩; conv => whnf) | (refine LitB.data ?_; conv => whnf) | (refine BoxB.own ?_; conv => whnf)))
      all_goals try (exfalso; omega)
      all_goals try (rw [hci] at h; exact absurd h (by decide))
      refine awp_for tab_ok (fun j => ([S.junk, S.junk, S.junk, S.junk, S.c (C.ptr 0 0 0), S.junk, S.c (C.ptr 1 0 0), S.c (C.ptr 2 0 0), S.c (C.fn (Fn.func rowFn) [C.ptr 2 0 0]), intS .i64 k, S.c (C.ptr 4 0 0), S.junk, S.junk, S.junk, S.junk, S.junk, S.junk, S.junk, S.junk, S.junk, S.junk, S.junk, S.junk, S.junk, S.junk, S.junk, S.junk, S.junk, S.junk, S.junk, S.junk, S.junk, S.junk, S.junk, S.c (C.t (knownT t kind)), intS .i64 t.ev.moves.length, intS .i64 k, S.junk, S.junk, S.junk, S.junk, S.junk, S.junk, S.junk, S.junk, S.junk, S.junk, S.junk, S.junk, S.junk, S.junk, S.junk, S.junk, S.junk, S.junk, S.junk, S.junk, S.junk, S.junk, S.junk, S.junk, S.c (C.t (intsT (gramsOf t.finds kind k))), intS .i64 (gramsOf t.finds kind k).length, intS .i64 j, S.junk, S.junk, S.junk, S.junk, S.junk, S.junk, S.junk, S.junk, S.junk, S.junk, S.junk, S.junk, S.junk, S.junk, S.junk, S.junk, S.junk, S.junk, S.junk, S.junk], [sysZB, evB t.ev, sysB t.ev.moves.length 3 (G j).length, rowsB (G j), aboutB t kind k])) (gramsOf t.finds kind k).length (fun _ => True) [some 0, some 1, some 2, some 5, some 4] trivial ⟨rfl, rfl, ⟨⟨rfl, rfl, rfl, .inr ⟨⟨rfl, rfl, trivial⟩, trivial⟩⟩, ⟨rfl, rfl, rfl, .inl ⟨rfl, rowsT_ev _⟩⟩, ⟨rfl, rfl, rfl, .inr ⟨⟨rfl, ⟨rfl, rfl, ?_, fun h => h⟩, trivial⟩, trivial⟩⟩, entB_rows rfl rfl rfl ?_ rfl, ⟨rfl, rfl, rfl, .inr (entR_data [aboutAt t kind k])⟩, trivial⟩, ⟨⟨rfl, rfl, rfl⟩, ⟨rfl, rfl, rfl⟩, ⟨rfl, rfl, rfl⟩, ⟨rfl, ⟨rfl, rfl, rfl⟩, trivial⟩, rfl, ⟨rfl, rfl, rfl⟩, rfl, rfl, rfl, rfl, ent_i (by simp), rfl, trivial⟩⟩ ?_
      · simp [hG0, eR, toC]
      · rw [hG0, eR] <;> rfl
      intro j hj _
      have hGl : (G j).length ≤ 1000000 := by rw [hG]; simp [List.length_append]; omega
      by_cases hjt : j < (gramsOf t.finds kind k).length
      · obtain ⟨g, hg⟩ : ∃ g, (gramsOf t.finds kind k)[j]? = some g := ⟨_, List.getElem?_eq_getElem hjt⟩
        have gb := hgr g (List.mem_of_getElem? hg)
        have ig := z_fInt g (by omega) (by omega)
        have eG : G (j + 1) = G j ++ [oneRow k 0 (g : Rat)] := by rw [hG, hG, List.take_add_one, hg]; simp
        conv => whnf
        (repeat' (first | ((refine DecB.mk (fun h => ?_) (fun h => ?_)) <;> first | (exfalso; omega) | (conv => whnf)) | ((refine BoolB.mk (fun h => ?_) (fun h => ?_)) <;> first | (exact absurd h (by decide)) | (conv => whnf)) | (refine ⟨_, wrap_ok (by omega) (by omega), ?_⟩; conv => whnf) | (refine and_idx (by omega) (by omega) ?_; conv => whnf) | (refine reg_ok (by decide +kernel) ?_; conv => whnf) | (refine bar_ok (by decide +kernel) (by decide +kernel) ?_; conv => whnf) | (refine late_ok rfl rfl ?_; conv => whnf) | (refine src_ok rfl ?_; conv => whnf) | (refine .inl ⟨_, _, qcall_pure (ig) rfl rfl, ?_⟩; conv => whnf) | (refine ex_row hg ?_; conv => whnf) | (refine .inr ⟨_, _, a_pushF (id := 3) rfl rfl rfl rfl rfl (by decide) hGl _ _, ?_⟩; conv => whnf) | (refine LitB.data ?_; conv => whnf) | (refine BoxB.own ?_; conv => whnf)))
        all_goals try (exfalso; omega)
        refine ⟨hjt, trivial, [some 0, some 1, some 2, some 5, some 4], rfl, rfl, ⟨⟨rfl, rfl, rfl, .inr ⟨⟨rfl, rfl, trivial⟩, trivial⟩⟩, ⟨rfl, rfl, rfl, .inl ⟨rfl, rowsT_ev _⟩⟩, ⟨rfl, rfl, rfl, .inr ⟨⟨rfl, ⟨rfl, rfl, ?_, fun h => h⟩, trivial⟩, trivial⟩⟩, entB_rows rfl rfl rfl ?_ rfl, ⟨rfl, rfl, rfl, .inr (entR_data [aboutAt t kind k])⟩, trivial⟩, ⟨⟨rfl, rfl, rfl⟩, ⟨rfl, rfl, rfl⟩, ⟨rfl, rfl, rfl⟩, ⟨rfl, ⟨rfl, rfl, rfl⟩, trivial⟩, rfl, ⟨rfl, rfl, rfl⟩, rfl, rfl, rfl, rfl, rfl, rfl, trivial⟩⟩
        · rw [eG]; simp
        · rw [eG]
      have hje : j = (gramsOf t.finds kind k).length := by omega
      subst hje
      have hGe : G (gramsOf t.finds kind k).length = R1 ++ (gramsOf t.finds kind k).map (fun g : Int => oneRow k 0 (g : Rat)) := by rw [hG, List.take_of_length_le (Nat.le_refl _)]
      conv => whnf
      (repeat' (first | ((refine DecB.mk (fun h => ?_) (fun h => ?_)) <;> first | (exfalso; omega) | (conv => whnf)) | ((refine BoolB.mk (fun h => ?_) (fun h => ?_)) <;> first | (exact absurd h (by decide)) | (conv => whnf)) | (refine ⟨_, wrap_ok (by omega) (by omega), ?_⟩; conv => whnf) | (refine and_idx (by omega) (by omega) ?_; conv => whnf) | (refine reg_ok (by decide +kernel) ?_; conv => whnf) | (refine bar_ok (by decide +kernel) (by decide +kernel) ?_; conv => whnf) | (refine late_ok rfl rfl ?_; conv => whnf) | (refine src_ok rfl ?_; conv => whnf) | (refine LitB.data ?_; conv => whnf) | (refine BoxB.own ?_; conv => whnf)))
      all_goals try (exfalso; omega)
      refine awp_for tab_ok (fun j => ([S.junk, S.junk, S.junk, S.junk, S.c (C.ptr 0 0 0), S.junk, S.c (C.ptr 1 0 0), S.c (C.ptr 2 0 0), S.c (C.fn (Fn.func rowFn) [C.ptr 2 0 0]), intS .i64 k, S.junk, S.junk, S.junk, S.junk, S.junk, S.junk, S.junk, S.junk, S.junk, S.junk, S.junk, S.junk, S.junk, S.junk, S.junk, S.junk, S.junk, S.junk, S.junk, S.junk, S.junk, S.junk, S.junk, S.junk, S.c (C.t (knownT t kind)), intS .i64 t.ev.moves.length, intS .i64 k, S.junk, S.junk, S.junk, S.junk, S.junk, S.junk, S.junk, S.junk, S.junk, S.junk, S.junk, S.junk, S.junk, S.junk, S.junk, S.junk, S.junk, S.junk, S.junk, S.junk, S.junk, S.junk, S.junk, S.junk, S.junk, S.junk, S.junk, S.junk, S.junk, S.junk, S.junk, S.junk, S.junk, S.junk, S.junk, S.junk, S.junk, intS .i64 (cleansOf t.cleans kind k), intS .i64 j, S.junk, S.junk, S.junk, S.junk, S.junk, S.junk, S.junk, S.junk], [sysZB, evB t.ev, sysB t.ev.moves.length 3 (K j).length, rowsB (K j)])) (cleansOf t.cleans kind k) (fun _ => True) [some 0, some 1, some 2, some 3] trivial ⟨rfl, rfl, ⟨⟨rfl, rfl, rfl, .inr ⟨⟨rfl, rfl, trivial⟩, trivial⟩⟩, ⟨rfl, rfl, rfl, .inl ⟨rfl, rowsT_ev _⟩⟩, ⟨rfl, rfl, rfl, .inr ⟨⟨rfl, ⟨rfl, rfl, ?_, fun h => h⟩, trivial⟩, trivial⟩⟩, entB_rows rfl rfl rfl ?_ rfl, trivial⟩, ⟨⟨rfl, rfl, rfl⟩, ⟨rfl, rfl, rfl⟩, ⟨rfl, rfl, rfl⟩, ⟨rfl, ⟨rfl, rfl, rfl⟩, trivial⟩, rfl, rfl, rfl, rfl, rfl, rfl, trivial⟩⟩ ?_
      · rw [hK0, hGe]
      · rw [hK0, hGe]
      clear hj hjt
      intro j hj _
      have hKl : (K j).length ≤ 1000000 := by rw [hK]; simp [List.length_append]; omega
      by_cases hjt : j < cleansOf t.cleans kind k
      · have eK : K (j + 1) = K j ++ [oneRow k 2 ((0 : Int) : Rat)] := by rw [hK, hK, List.replicate_succ']; simp
        conv => whnf
        (repeat' (first | ((refine DecB.mk (fun h => ?_) (fun h => ?_)) <;> first | (exfalso; omega) | (conv => whnf)) | ((refine BoolB.mk (fun h => ?_) (fun h => ?_)) <;> first | (exact absurd h (by decide)) | (conv => whnf)) | (refine ⟨_, wrap_ok (by omega) (by omega), ?_⟩; conv => whnf) | (refine and_idx (by omega) (by omega) ?_; conv => whnf) | (refine reg_ok (by decide +kernel) ?_; conv => whnf) | (refine bar_ok (by decide +kernel) (by decide +kernel) ?_; conv => whnf) | (refine late_ok rfl rfl ?_; conv => whnf) | (refine src_ok rfl ?_; conv => whnf) | (refine .inl ⟨_, _, qcall_pure (i0) rfl rfl, ?_⟩; conv => whnf) | (refine .inr ⟨_, _, a_pushF (id := 3) rfl rfl rfl rfl rfl (by decide) hKl _ _, ?_⟩; conv => whnf) | (refine LitB.data ?_; conv => whnf) | (refine BoxB.own ?_; conv => whnf)))
        all_goals try (exfalso; omega)
        refine ⟨hjt, trivial, [some 0, some 1, some 2, some 4], rfl, rfl, ⟨⟨rfl, rfl, rfl, .inr ⟨⟨rfl, rfl, trivial⟩, trivial⟩⟩, ⟨rfl, rfl, rfl, .inl ⟨rfl, rowsT_ev _⟩⟩, ⟨rfl, rfl, rfl, .inr ⟨⟨rfl, ⟨rfl, rfl, ?_, fun h => h⟩, trivial⟩, trivial⟩⟩, entB_rows rfl rfl rfl ?_ rfl, trivial⟩, ⟨⟨rfl, rfl, rfl⟩, ⟨rfl, rfl, rfl⟩, ⟨rfl, rfl, rfl⟩, ⟨rfl, ⟨rfl, rfl, rfl⟩, trivial⟩, rfl, rfl, rfl, rfl, rfl, rfl, trivial⟩⟩
        · rw [eK]; simp
        · rw [eK]
      have hje : j = cleansOf t.cleans kind k := by omega
      subst hje
      conv => whnf
      (repeat' (first | ((refine DecB.mk (fun h => ?_) (fun h => ?_)) <;> first | (exfalso; omega) | (conv => whnf)) | ((refine BoolB.mk (fun h => ?_) (fun h => ?_)) <;> first | (exact absurd h (by decide)) | (conv => whnf)) | (refine ⟨_, wrap_ok (by omega) (by omega), ?_⟩; conv => whnf) | (refine and_idx (by omega) (by omega) ?_; conv => whnf) | (refine reg_ok (by decide +kernel) ?_; conv => whnf) | (refine bar_ok (by decide +kernel) (by decide +kernel) ?_; conv => whnf) | (refine late_ok rfl rfl ?_; conv => whnf) | (refine src_ok rfl ?_; conv => whnf) | (refine LitB.data ?_; conv => whnf) | (refine BoxB.own ?_; conv => whnf)))
      all_goals try (exfalso; omega)
      exact ⟨hlt, trivial, [some 0, some 1, some 2, some 3], rfl, rfl, ⟨⟨rfl, rfl, rfl, .inr ⟨⟨rfl, rfl, trivial⟩, trivial⟩⟩, ⟨rfl, rfl, rfl, .inl ⟨rfl, rowsT_ev _⟩⟩, ⟨rfl, rfl, rfl, .inr ⟨⟨rfl, ⟨rfl, rfl, hKs.2, fun h => h⟩, trivial⟩, trivial⟩⟩, entB_rows rfl rfl rfl hKs.1 rfl, trivial⟩, ⟨⟨rfl, rfl, rfl⟩, ⟨rfl, rfl, rfl⟩, ⟨rfl, rfl, rfl⟩, ⟨rfl, ⟨rfl, rfl, rfl⟩, trivial⟩, rfl, rfl, rfl, trivial⟩⟩
  · have hke : k = t.ev.moves.length := by omega
    subst hke
    conv => whnf
    (repeat' (first | ((refine DecB.mk (fun h => ?_) (fun h => ?_)) <;> first | (exfalso; omega) | (conv => whnf)) | ((refine BoolB.mk (fun h => ?_) (fun h => ?_)) <;> first | (exact absurd h (by decide)) | (conv => whnf)) | (refine ⟨_, wrap_ok (by omega) (by omega), ?_⟩; conv => whnf) | (refine and_idx (by omega) (by omega) ?_; conv => whnf) | (refine reg_ok (by decide +kernel) ?_; conv => whnf) | (refine bar_ok (by decide +kernel) (by decide +kernel) ?_; conv => whnf) | (refine late_ok rfl rfl ?_; conv => whnf) | (refine src_ok rfl ?_; conv => whnf) | (refine LitB.data ?_; conv => whnf) | (refine BoxB.own ?_; conv => whnf)))
    all_goals try (exfalso; omega)
    refine fin_t ⟨⟨rfl, show VC _ (fun id => notIn [] id = true) _ _ from vc_all rfl rfl (by intro h; cases h) rfl rfl (by rw [List.length_map]; rfl), trivial⟩, rfl, trivial⟩
end Go.Proofs.Ytomfnfbijgjfeaa
/- history: Mass. -/
namespace Go.Proofs.Ytomfnfbijgjfeaa
open Go.RowKit
set_option linter.unusedVariables false
set_option linter.unusedSimpArgs false
set_option maxRecDepth 100000

structure Pick where
  mv : Int
  mat : Int
def Pick.row (p : Pick) : List T := [ti p.mv, ti p.mat]
theorem rl_fv {f : Fr} {n : Nat} (h : rightF f = true) (l1 : f.p.dl.length ≤ n) (l2 : f.q.dl.length ≤ n) : rl (fv f) ≤ n := by
  have e := fz_fv h
  have h1 : (fz (fv f)).p.dl.length ≤ n := by rw [← e]; exact l1
  have h2 : (fz (fv f)).q.dl.length ≤ n := by rw [← e]; exact l2
  exact Nat.max_le.2 ⟨h1, h2⟩
end Go.Proofs.Ytomfnfbijgjfeaa
/- Reference of big: trim, made, digit, Right, Of. -/
namespace Go.Proofs.Ytomfnfbijgjfeaa
open Go.RowKit
set_option linter.unusedVariables false
set_option linter.unusedSimpArgs false
set_option maxRecDepth 100000

theorem r_trim (l : List Int) (hl : l.length ≤ 1000000) : ACall Try.prog 133 [intsS l] [] (intsS (trimL l)) [] := by
  have l2 : (l.map intRow).length = l.length := by simp
  (refine acall_of tab_ok Try.func133 rfl (by decide) ?_; (conv => whnf); repeat (first | (refine LitB.data ?_; conv => whnf) | (refine BoxB.own ?_; conv => whnf)))
  (repeat' (first | ((refine DecB.mk (fun h => ?_) (fun h => ?_)) <;> first | (exfalso; omega) | (conv => whnf)) | ((refine BoolB.mk (fun h => ?_) (fun h => ?_)) <;> first | (exact absurd h (by decide)) | (conv => whnf)) | (refine ⟨_, wrap_ok (by omega) (by omega), ?_⟩; conv => whnf) | (refine and_idx (by omega) (by omega) ?_; conv => whnf) | (refine reg_ok (by decide +kernel) ?_; conv => whnf) | (refine bar_ok (by decide +kernel) (by decide +kernel) ?_; conv => whnf) | (refine late_ok rfl rfl ?_; conv => whnf) | (refine src_ok rfl ?_; conv => whnf) | (refine LitB.data ?_; conv => whnf) | (refine BoxB.own ?_; conv => whnf)))
  refine awp_while tab_ok (σ := Nat) (fun n => ([intsS l, S.junk, S.junk, intS .i64 n, S.junk, S.junk, S.junk, S.junk, S.junk, S.junk, S.junk, S.junk, S.junk, S.junk, S.junk, S.junk, S.junk, S.junk, S.junk, S.junk, S.junk, S.junk, S.junk], [])) (fun n => n ≤ l.length ∧ ∀ j x, n ≤ j → l[j]? = some x → x = 0) (fun n => n) l.length []
    ⟨Nat.le_refl _, fun j x hj hx => by rw [List.getElem?_eq_none hj] at hx; cases hx⟩ ⟨rfl, rfl, trivial, ⟨ent_t rfl, ent_i (by simp), trivial⟩⟩ ?_
  rintro n ⟨hn, hz⟩
  have hn : n ≤ l.length := hn
  conv => whnf
  (repeat' (first | ((refine DecB.mk (fun h => ?_) (fun h => ?_)) <;> first | (exfalso; omega) | (conv => whnf)) | ((refine BoolB.mk (fun h => ?_) (fun h => ?_)) <;> first | (exact absurd h (by decide)) | (conv => whnf)) | (refine ⟨_, wrap_ok (by omega) (by omega), ?_⟩; conv => whnf) | (refine and_idx (by omega) (by omega) ?_; conv => whnf) | (refine reg_ok (by decide +kernel) ?_; conv => whnf) | (refine bar_ok (by decide +kernel) (by decide +kernel) ?_; conv => whnf) | (refine late_ok rfl rfl ?_; conv => whnf) | (refine src_ok rfl ?_; conv => whnf) | (refine .inl ⟨_, _, qcall_pure (toC) rfl rfl, ?_⟩; conv => whnf) | (refine .inl ⟨_, _, qcall_pure (toC) rfl rfl, ?_⟩; conv => whnf) | (refine LitB.own ?_; conv => whnf) | (refine ex_rowI (by omega) (get_pred (by omega) hn) ?_; conv => whnf) | (refine sl_ok (by omega) (by omega) (by omega) ?_; conv => whnf) | (refine app_ok (by simp [toC]) (by simp [toC]; omega) ?_; conv => whnf) | (refine LitB.data ?_; conv => whnf) | (refine BoxB.own ?_; conv => whnf)))
  · have h0 : dat l (n - 1) = 0 := by assumption
    have h1 : 0 < n := by omega
    refine ⟨[], n - 1, ⟨rfl, rfl, trivial, ⟨rfl, ent_i (by omega), trivial⟩⟩, ⟨by omega, fun j x hj hxj => ?_⟩, by show n - 1 < n; omega⟩
    by_cases hj2 : j = n - 1
    · subst hj2; rw [get_dat (by omega)] at hxj; injection hxj with hx; rw [← hx]; exact h0
    · exact hz j x (by omega) hxj
  all_goals
    have e : l.take n = trimL l := trimL_take hz (fun x h0 hx => by
      first
        | (exfalso; omega)
        | (rw [get_dat (by omega)] at hx; injection hx with hx; rw [← hx]; assumption)) hn
    rw [← e]
    refine fin_own rfl (by intro h; cases h) rfl ?_ ?_
    · simp [toC, newBlk, List.map_take]
    · simp [toC]
theorem r_made (s : Int) (l : List Int) (hl : l.length ≤ 1000000) : ACall Try.prog 115 [intS .i64 s, intsS l] [] (bgS (sgn s l)) [] := by
  (refine acall_of tab_ok Try.func115 rfl (by decide) ?_; (conv => whnf); repeat (first | (refine LitB.data ?_; conv => whnf) | (refine BoxB.own ?_; conv => whnf)))
  (repeat' (first | ((refine DecB.mk (fun h => ?_) (fun h => ?_)) <;> first | (exfalso; omega) | (conv => whnf)) | ((refine BoolB.mk (fun h => ?_) (fun h => ?_)) <;> first | (exact absurd h (by decide)) | (conv => whnf)) | (refine ⟨_, wrap_ok (by omega) (by omega), ?_⟩; conv => whnf) | (refine and_idx (by omega) (by omega) ?_; conv => whnf) | (refine reg_ok (by decide +kernel) ?_; conv => whnf) | (refine bar_ok (by decide +kernel) (by decide +kernel) ?_; conv => whnf) | (refine late_ok rfl rfl ?_; conv => whnf) | (refine src_ok rfl ?_; conv => whnf) | (refine .inl ⟨_, _, qcall_pure (r_trim l hl) rfl rfl, ?_⟩; conv => whnf) | (refine LitB.data ?_; conv => whnf) | (refine BoxB.own ?_; conv => whnf)))
  · have h0 : (trimL l).length = 0 := by simp at *; assumption
    unfold sgn
    rw [if_pos h0]
    exact fin_t ⟨rfl, rfl, trivial⟩
  · have h0 : ¬ (trimL l).length = 0 := by simp at *; assumption
    unfold sgn
    rw [if_neg h0]
    exact fin_t ⟨rfl, rfl, trivial⟩
theorem r_madeD (s : Int) (k : Nat) (h : s = 1 ∨ s = -1 ∨ k = 0) (lk : (dg k).length ≤ 700000) :
    ACall Try.prog 115 [intS .i64 s, intsS (dg k)] [] (bgS (bz (s * k))) [] := by
  have e := r_made s (dg k) (by omega)
  rw [sgn_bz (okd_dg k) (by rw [val_dg]; omega), val_dg] at e
  exact e
theorem r_digit (l : List Int) (i : Nat) (hl : l.length ≤ 1000000) : ACall Try.prog 141 [intsS l, intS .i64 i] [] (intS .i64 (dat l i)) [] := by
  have l2 : (l.map intRow).length = l.length := by simp
  (refine acall_of tab_ok Try.func141 rfl (by decide) ?_; (conv => whnf); repeat (first | (refine LitB.data ?_; conv => whnf) | (refine BoxB.own ?_; conv => whnf)))
  (repeat' (first | ((refine DecB.mk (fun h => ?_) (fun h => ?_)) <;> first | (exfalso; omega) | (conv => whnf)) | ((refine BoolB.mk (fun h => ?_) (fun h => ?_)) <;> first | (exact absurd h (by decide)) | (conv => whnf)) | (refine ⟨_, wrap_ok (by omega) (by omega), ?_⟩; conv => whnf) | (refine and_idx (by omega) (by omega) ?_; conv => whnf) | (refine reg_ok (by decide +kernel) ?_; conv => whnf) | (refine bar_ok (by decide +kernel) (by decide +kernel) ?_; conv => whnf) | (refine late_ok rfl rfl ?_; conv => whnf) | (refine src_ok rfl ?_; conv => whnf) | (refine ex_row (get_dat (by omega)) ?_; conv => whnf) | (refine LitB.data ?_; conv => whnf) | (refine BoxB.own ?_; conv => whnf)))
  all_goals first
    | exact fin_int rfl
    | exact fin_int (dat_none (by omega)).symm
end Go.Proofs.Ytomfnfbijgjfeaa
/- Digits, for the reference of big: less, minus, times, over. No program is in sight. -/
namespace Go.Proofs.Ytomfnfbijgjfeaa
set_option linter.unusedVariables false
set_option linter.unusedSimpArgs false

theorem drop_dat' (l : List Int) (i : Nat) : val (l.drop i) = dat l i + 1048576 * val (l.drop (i + 1)) := by
  by_cases h : i < l.length
  · exact drop_dat h
  · rw [List.drop_of_length_le (by omega), List.drop_of_length_le (by omega), dat_none (by omega)]; rfl
theorem val_split' (l : List Int) (i : Nat) : val l = val (l.take i) + pw i * val (l.drop i) := by
  by_cases h : i ≤ l.length
  · exact val_split l i h
  · rw [List.drop_of_length_le (by omega), List.take_of_length_le (by omega)]; simp [val]
theorem val_take_rng {l : List Int} (h : Okd l) (i : Nat) : 0 ≤ val (l.take i) ∧ val (l.take i) < pw i := by
  refine ⟨val_nonneg (h.take i), ?_⟩
  have h1 := val_lt (h.take i)
  have h2 := pw_mono (i := (l.take i).length) (j := i) (by simp; omega)
  omega
theorem less_top {a b : List Int} (ha : Okd a) (hb : Okd b) {i : Nat} (h : val (a.drop (i + 1)) = val (b.drop (i + 1))) (hd : dat a i < dat b i) : val a < val b := by
  rw [val_split' a i, val_split' b i, drop_dat' a i, drop_dat' b i, h]
  have h1 := val_take_rng ha i
  have h2 := val_take_rng hb i
  have hp := pw_pos i
  have h3 := Int.mul_le_mul_of_nonneg_left (a := dat a i + 1048576 * val (b.drop (i + 1)) + 1) (b := dat b i + 1048576 * val (b.drop (i + 1))) (c := pw i) (by omega) (by omega)
  rw [Int.mul_add _ _ (1 : Int)] at h3
  omega
theorem drop_zero_val (l : List Int) : val (l.drop 0) = val l := by rw [List.drop_zero]
/-- the difference, digit by digit, appended -/
structure MinI (a b : List Int) (i : Nat) (out : List Int) (c : Int) : Prop where
  len : out.length = i
  ok : Okd out
  le : i ≤ a.length
  c0 : 0 ≤ c
  c1 : c ≤ 1
  eq : val out - pw i * c = val (a.take i) - val (b.take i)
theorem MinI.init (a b : List Int) : MinI a b 0 [] 0 := ⟨rfl, .nil, Nat.zero_le _, by decide, by decide, by simp [val]⟩
theorem MinI.step {a b out : List Int} {i : Nat} {c n c' : Int} (h : MinI a b i out c) (ha : Okd a) (hb : Okd b) (hi : i < a.length) (hn : n = dat a i - dat b i - c + 1048576 * c') (h0 : 0 ≤ n ∧ n < 1048576) (hc : 0 ≤ c' ∧ c' ≤ 1) :
    MinI a b (i + 1) (out ++ [n]) c' := by
  refine ⟨by simp [h.len], h.ok.append (Okd.cons h0 .nil), hi, hc.1, hc.2, ?_⟩
  rw [val_append, h.len, val_take_dat, val_take_dat, pw_succ]
  have := h.eq
  simp only [val]
  rw [hn]
  grind
theorem MinI.fin {a b out : List Int} {c : Int} (h : MinI a b a.length out c) (ha : Okd a) (hb : Okd b) (hl : b.length ≤ a.length) (hv : val b ≤ val a) : trimL out = dg (val a - val b).toNat := by
  have h1 := h.eq
  rw [List.take_of_length_le (Nat.le_refl _), List.take_of_length_le hl] at h1
  have h2 := val_lt h.ok
  rw [h.len] at h2
  have hc : c = 0 := by
    have := h.c0
    have := h.c1
    rcases Int.lt_or_le 0 c with h3 | h3
    · have : c = 1 := by omega
      subst this
      omega
    · omega
  subst hc
  rw [trimL_dg h.ok]
  congr 2
  simp at h1
  exact h1
/-- the reference's product, its inner loop -/
structure TimK (a b : List Int) (i k : Nat) (out : List Int) (c : Int) : Prop where
  out : (MulK a b i k out c ∧ k ≤ b.length) ∨ (k = b.length + 1 ∧ c = 0 ∧ MulI a b (i + 1) out)
theorem set_dat {l : List Int} {i : Nat} : l.set i (dat l i) = l := by
  by_cases h : i < l.length
  · apply List.ext_getElem?
    intro j
    by_cases hj : i = j
    · subst hj; rw [List.getElem?_set_self h]; unfold dat; rw [List.getD_eq_getElem?_getD, List.getElem?_eq_getElem h]; rfl
    · rw [List.getElem?_set_ne hj]
  · rw [List.set_eq_of_length_le (by omega)]
theorem TimK.exit {a b out : List Int} {i k : Nat} {c : Int} (h : TimK a b i k out c) (ha : Okd a) (hb : Okd b) (hi : i < a.length) (hk : b.length ≤ k) (hc : c ≤ 0) : MulI a b (i + 1) out := by
  rcases h.out with ⟨h1, h2⟩ | ⟨h1, h2, h3⟩
  · have hk : k = b.length := by omega
    subst hk
    have hc : c = 0 := by have := h1.c0; omega
    subst hc
    have := h1.done ha hb hi
    rw [Int.add_zero, set_dat] at this
    exact this
  · exact h3
theorem over_val {r d : Nat} {x : Int} (hx : 0 ≤ x ∧ x < 1048576) : trimL (x :: dg r) = dg (r * 1048576 + x.toNat) := by
  rw [trimL_dg (Okd.cons hx (okd_dg r))]
  congr 1
  simp only [val, val_dg]
  omega
end Go.Proofs.Ytomfnfbijgjfeaa
/- Reference of big: less, minus, times. -/
namespace Go.Proofs.Ytomfnfbijgjfeaa
open Go.RowKit
set_option linter.unusedVariables false
set_option linter.unusedSimpArgs false
set_option maxRecDepth 100000

theorem r_less (a b : List Int) (ha : Okd a) (hb : Okd b) (la : a.length ≤ 1000000) (lb : b.length ≤ 1000000) : ACall Try.prog 139 [intsS a, intsS b] [] (boolS (decide (val a < val b))) [] := by
  have l1 : (a.map intRow).length = a.length := by simp
  have l2 : (b.map intRow).length = b.length := by simp
  (refine acall_of tab_ok Try.func139 rfl (by decide) ?_; (conv => whnf); repeat (first | (refine LitB.data ?_; conv => whnf) | (refine BoxB.own ?_; conv => whnf)))
  (repeat' (first | ((refine DecB.mk (fun h => ?_) (fun h => ?_)) <;> first | (exfalso; omega) | (conv => whnf)) | ((refine BoolB.mk (fun h => ?_) (fun h => ?_)) <;> first | (exact absurd h (by decide)) | (conv => whnf)) | (refine ⟨_, wrap_ok (by omega) (by omega), ?_⟩; conv => whnf) | (refine and_idx (by omega) (by omega) ?_; conv => whnf) | (refine reg_ok (by decide +kernel) ?_; conv => whnf) | (refine bar_ok (by decide +kernel) (by decide +kernel) ?_; conv => whnf) | (refine late_ok rfl rfl ?_; conv => whnf) | (refine src_ok rfl ?_; conv => whnf) | (refine .inl ⟨_, _, qcall_pure (cond) rfl rfl, ?_⟩; conv => whnf) | (refine ⟨_, wrap_eq (y := ((max a.length b.length : Nat) : Int) - 1) (by simp only [cond]; split <;> omega) (by omega) (by omega), ?_⟩; conv => whnf) | (refine LitB.data ?_; conv => whnf) | (refine BoxB.own ?_; conv => whnf)))
  refine awp_while tab_ok (σ := Nat) (fun k => ([intsS a, intsS b, S.junk, S.junk, S.junk, intS .i64 ((k : Int) - 1), S.junk, S.junk, S.junk, S.junk, S.junk, S.junk, S.junk, S.junk, S.junk, S.junk, S.junk, S.junk, S.junk, S.junk, S.junk, S.junk, S.junk, S.junk, S.junk, S.junk, S.junk, S.junk, S.junk, S.junk], [])) (fun k => k ≤ 1000000 ∧ val (a.drop k) = val (b.drop k)) (fun k => k) (max a.length b.length) []
    ⟨by omega, by rw [List.drop_of_length_le (by omega), List.drop_of_length_le (by omega)]⟩ ⟨rfl, rfl, trivial, ⟨ent_t rfl, ent_t rfl, rfl, trivial⟩⟩ ?_
  rintro k ⟨hk, hd⟩
  have hk : k ≤ 1000000 := hk
  have hd : val (a.drop k) = val (b.drop k) := hd
  by_cases h0 : 0 < k
  · obtain ⟨i, rfl⟩ : ∃ i, k = i + 1 := ⟨k - 1, by omega⟩
    have d1 := r_digit a i la
    have d2 := r_digit b i lb
    have ei : (((i + 1 : Nat) : Int) - 1) = i := by omega
    rw [ei]
    conv => whnf
    (repeat' (first | ((refine DecB.mk (fun h => ?_) (fun h => ?_)) <;> first | (exfalso; omega) | (conv => whnf)) | ((refine BoolB.mk (fun h => ?_) (fun h => ?_)) <;> first | (exact absurd h (by decide)) | (conv => whnf)) | (refine ⟨_, wrap_ok (by omega) (by omega), ?_⟩; conv => whnf) | (refine and_idx (by omega) (by omega) ?_; conv => whnf) | (refine reg_ok (by decide +kernel) ?_; conv => whnf) | (refine bar_ok (by decide +kernel) (by decide +kernel) ?_; conv => whnf) | (refine late_ok rfl rfl ?_; conv => whnf) | (refine src_ok rfl ?_; conv => whnf) | (refine .inl ⟨_, _, qcall_pure (d1) rfl rfl, ?_⟩; conv => whnf) | (refine .inl ⟨_, _, qcall_pure (d2) rfl rfl, ?_⟩; conv => whnf) | (refine LitB.data ?_; conv => whnf) | (refine BoxB.own ?_; conv => whnf)))
    · have h := less_top ha hb hd (by assumption)
      exact fin_bool (by simp [h])
    · have h := less_top hb ha hd.symm (by omega)
      exact fin_bool (by simp; omega)
    · have he : dat a i = dat b i := by omega
      refine ⟨[], i, ⟨rfl, rfl, trivial, ⟨rfl, rfl, rfl, trivial⟩⟩, ⟨by omega, ?_⟩, by show i < i + 1; omega⟩
      rw [drop_dat' a i, drop_dat' b i, he, hd]
  · obtain rfl : k = 0 := by omega
    rw [drop_zero_val, drop_zero_val] at hd
    conv => whnf
    (repeat' (first | ((refine DecB.mk (fun h => ?_) (fun h => ?_)) <;> first | (exfalso; omega) | (conv => whnf)) | ((refine BoolB.mk (fun h => ?_) (fun h => ?_)) <;> first | (exact absurd h (by decide)) | (conv => whnf)) | (refine ⟨_, wrap_ok (by omega) (by omega), ?_⟩; conv => whnf) | (refine and_idx (by omega) (by omega) ?_; conv => whnf) | (refine reg_ok (by decide +kernel) ?_; conv => whnf) | (refine bar_ok (by decide +kernel) (by decide +kernel) ?_; conv => whnf) | (refine late_ok rfl rfl ?_; conv => whnf) | (refine src_ok rfl ?_; conv => whnf) | (refine LitB.data ?_; conv => whnf) | (refine BoxB.own ?_; conv => whnf)))
    all_goals first
      | (exfalso; omega)
      | exact fin_bool (by simp; omega)
theorem r_minus (a b : List Int) (ha : Okd a) (hb : Okd b) (la : a.length ≤ 400000) (lb : b.length ≤ a.length) (hv : val b ≤ val a) :
    ACall Try.prog 132 [intsS a, intsS b] [] (intsS (dg (val a - val b).toNat)) [] := by
  have l1 : (a.map intRow).length = a.length := by simp
  have l2 : (b.map intRow).length = b.length := by simp
  (refine acall_of tab_ok Try.func132 rfl (by decide) ?_; (conv => whnf); repeat (first | (refine LitB.data ?_; conv => whnf) | (refine BoxB.own ?_; conv => whnf)))
  (repeat' (first | ((refine DecB.mk (fun h => ?_) (fun h => ?_)) <;> first | (exfalso; omega) | (conv => whnf)) | ((refine BoolB.mk (fun h => ?_) (fun h => ?_)) <;> first | (exact absurd h (by decide)) | (conv => whnf)) | (refine ⟨_, wrap_ok (by omega) (by omega), ?_⟩; conv => whnf) | (refine and_idx (by omega) (by omega) ?_; conv => whnf) | (refine reg_ok (by decide +kernel) ?_; conv => whnf) | (refine bar_ok (by decide +kernel) (by decide +kernel) ?_; conv => whnf) | (refine late_ok rfl rfl ?_; conv => whnf) | (refine src_ok rfl ?_; conv => whnf) | (refine LitB.data ?_; conv => whnf) | (refine BoxB.own ?_; conv => whnf)))
  refine awp_while tab_ok (σ := Nat × List Int × Int) (fun | (k, out, c) => ([intsS a, intsS b, S.junk, S.junk, S.junk, ownI 0 out, intS .i64 c, intS .i64 k, S.junk, S.junk, S.junk, S.junk, S.junk, S.junk, S.junk, S.junk, S.junk, S.junk, S.junk, S.junk, S.junk, S.junk, S.junk, S.junk, S.junk, S.junk, S.junk, S.junk, S.junk, S.junk, S.junk, S.junk, S.junk, S.junk, S.junk], [intsB out])) (fun x => MinI a b x.1 x.2.1 x.2.2) (fun x => a.length - x.1) (0, [], 0) [none]
    (MinI.init a b) ⟨rfl, rfl, ⟨⟨rfl, rfl⟩, trivial⟩, ⟨ent_t rfl, ent_t rfl, ⟨rfl, rfl, rfl⟩, rfl, rfl, trivial⟩⟩ ?_
  rintro ⟨k, out, c⟩ hI
  have hI : MinI a b k out c := hI
  have hlen := hI.len
  have hle := hI.le
  have hc0 := hI.c0
  have hc1 := hI.c1
  have hda := ha.dat k
  have hdb := hb.dat k
  have d2 := r_digit b k (by omega)
  conv => whnf
  (repeat' (first | ((refine DecB.mk (fun h => ?_) (fun h => ?_)) <;> first | (exfalso; omega) | (conv => whnf)) | ((refine BoolB.mk (fun h => ?_) (fun h => ?_)) <;> first | (exact absurd h (by decide)) | (conv => whnf)) | (refine ⟨_, wrap_ok (by omega) (by omega), ?_⟩; conv => whnf) | (refine and_idx (by omega) (by omega) ?_; conv => whnf) | (refine reg_ok (by decide +kernel) ?_; conv => whnf) | (refine bar_ok (by decide +kernel) (by decide +kernel) ?_; conv => whnf) | (refine late_ok rfl rfl ?_; conv => whnf) | (refine src_ok rfl ?_; conv => whnf) | (refine .inl ⟨_, _, qcall_pure (d2) rfl rfl, ?_⟩; conv => whnf) | (refine .inl ⟨_, _, qcall_pure (toC) rfl rfl, ?_⟩; conv => whnf) | (refine .inl ⟨_, _, qcall_pure (toC) rfl rfl, ?_⟩; conv => whnf) | (refine ex_row (get_dat (by omega)) ?_; conv => whnf) | (refine app_ok (by simp [toC]) (by simp [toC]; omega) ?_; conv => whnf) | (refine LitB.data ?_; conv => whnf) | (refine BoxB.own ?_; conv => whnf)))
  · have hst := hI.step ha hb (n := dat a k - dat b k - c + 1048576) (c' := 1) (by omega) (by omega) (by omega) (by omega)
    refine ⟨[some 1], (k + 1, out ++ [dat a k - dat b k - c + 1048576], 1), ⟨rfl, rfl, ⟨entB_rows rfl rfl rfl toC_app1 rfl, trivial⟩, ⟨rfl, rfl, ent_own rfl (by simp [toC]), rfl, ent_i (by omega), trivial⟩⟩, hst, ?_⟩
    show a.length - (k + 1) < a.length - k
    omega
  · have hst := hI.step ha hb (n := dat a k - dat b k - c) (c' := 0) (by omega) (by omega) (by omega) (by omega)
    refine ⟨[some 1], (k + 1, out ++ [dat a k - dat b k - c], 0), ⟨rfl, rfl, ⟨entB_rows rfl rfl rfl toC_app1 rfl, trivial⟩, ⟨rfl, rfl, ent_own rfl (by simp [toC]), rfl, ent_i (by omega), trivial⟩⟩, hst, ?_⟩
    show a.length - (k + 1) < a.length - k
    omega
  · have hk : k = a.length := by omega
    subst hk
    have hf := hI.fin ha hb lb hv
    have t := r_trim out (by omega)
    rw [hf] at t
    refine .inr ⟨_, _, acall_freeze [0] t ⟨vs_c (vc_all (by simp) rfl (by intro h; cases h) rfl rfl (by simp)), trivial⟩ rfl, ?_⟩
    conv => whnf
    exact fin_d rfl
end Go.Proofs.Ytomfnfbijgjfeaa
/- Reference of big: times. -/
namespace Go.Proofs.Ytomfnfbijgjfeaa
open Go.RowKit
set_option linter.unusedVariables false
set_option linter.unusedSimpArgs false
set_option maxRecDepth 100000

theorem tmodB {a : Int} (h : 0 ≤ a) : a.tmod 1048576 = a % 1048576 := Int.tmod_eq_emod_of_nonneg h
set_option maxHeartbeats 1000000 in
theorem r_times (a b : List Int) (ha : Okd a) (hb : Okd b) (la : a.length ≤ 400000) (lb : b.length ≤ 400000) :
    ACall Try.prog 140 [intsS a, intsS b] [] (intsS (dg (val a * val b).toNat)) [] := by
  have l1 : (a.map intRow).length = a.length := by simp
  have l2 : (b.map intRow).length = b.length := by simp
  (refine acall_of tab_ok Try.func140 rfl (by decide) ?_; (conv => whnf); repeat (first | (refine LitB.data ?_; conv => whnf) | (refine BoxB.own ?_; conv => whnf)))
  (repeat' (first | ((refine DecB.mk (fun h => ?_) (fun h => ?_)) <;> first | (exfalso; omega) | (conv => whnf)) | ((refine BoolB.mk (fun h => ?_) (fun h => ?_)) <;> first | (exact absurd h (by decide)) | (conv => whnf)) | (refine ⟨_, wrap_ok (by omega) (by omega), ?_⟩; conv => whnf) | (refine and_idx (by omega) (by omega) ?_; conv => whnf) | (refine reg_ok (by decide +kernel) ?_; conv => whnf) | (refine bar_ok (by decide +kernel) (by decide +kernel) ?_; conv => whnf) | (refine late_ok rfl rfl ?_; conv => whnf) | (refine src_ok rfl ?_; conv => whnf) | (refine mk_ok (by omega) (by omega) (by omega) (by decide) ?_; conv => whnf) | (refine LitB.data ?_; conv => whnf) | (refine BoxB.own ?_; conv => whnf)))
  refine awp_while tab_ok (σ := Nat × List Int) (fun | (i, out) => ([intsS a, intsS b, S.junk, S.junk, S.junk, ownI 0 out, intS .i64 i, S.junk, S.junk, S.junk, S.junk, S.junk, S.junk, S.junk, S.junk, S.junk, S.junk, S.junk, S.junk, S.junk, S.junk, S.junk, S.junk, S.junk, S.junk, S.junk, S.junk, S.junk, S.junk, S.junk, S.junk, S.junk, S.junk, S.junk, S.junk, S.junk, S.junk, S.junk, S.junk, S.junk, S.junk, S.junk, S.junk, S.junk, S.junk, S.junk, S.junk, S.junk, S.junk, S.junk, S.junk, S.junk, S.junk, S.junk, S.junk, S.junk, S.junk, S.junk, S.junk, S.junk], [intsB out])) (fun x => MulI a b x.1 x.2) (fun x => a.length - x.1) (0, List.replicate (a.length + b.length) 0) [some 0]
    (MulI.init a b) ⟨rfl, rfl, ⟨entB_rows rfl rfl rfl ?_ rfl, trivial⟩, ⟨ent_t rfl, ent_t rfl, ent_own rfl (by simp; omega), rfl, trivial⟩⟩ ?_
  · show List.replicate _ _ = _
    rw [show ((((a.map intRow).length : Nat) : Int) + ((b.map intRow).length : Nat)).toNat = a.length + b.length by omega]
    simp [toC, intRow, constC]
  rintro ⟨i, out⟩ hI
  have hI : MulI a b i out := hI
  have hlen := hI.len
  have hle := hI.le
  conv => whnf
  (repeat' (first | ((refine DecB.mk (fun h => ?_) (fun h => ?_)) <;> first | (exfalso; omega) | (conv => whnf)) | ((refine BoolB.mk (fun h => ?_) (fun h => ?_)) <;> first | (exact absurd h (by decide)) | (conv => whnf)) | (refine ⟨_, wrap_ok (by omega) (by omega), ?_⟩; conv => whnf) | (refine and_idx (by omega) (by omega) ?_; conv => whnf) | (refine reg_ok (by decide +kernel) ?_; conv => whnf) | (refine bar_ok (by decide +kernel) (by decide +kernel) ?_; conv => whnf) | (refine late_ok rfl rfl ?_; conv => whnf) | (refine src_ok rfl ?_; conv => whnf) | (refine LitB.data ?_; conv => whnf) | (refine BoxB.own ?_; conv => whnf)))
  · have hi : i < a.length := by omega
    refine awp_while tab_ok (σ := Nat × List Int × Int) (fun | (k, out, c) => ([intsS a, intsS b, S.junk, S.junk, S.junk, ownI 0 out, intS .i64 i, intS .i64 c, intS .i64 k, S.junk, S.junk, S.junk, S.junk, S.junk, S.junk, S.junk, S.junk, S.junk, S.junk, S.junk, S.junk, S.junk, S.junk, S.junk, S.junk, S.junk, S.junk, S.junk, S.junk, S.junk, S.junk, S.junk, S.junk, S.junk, S.junk, S.junk, S.junk, S.junk, S.junk, S.junk, S.junk, S.junk, S.junk, S.junk, S.junk, S.junk, S.junk, S.junk, S.junk, S.junk, S.junk, S.junk, S.junk, S.junk, S.junk, S.junk, S.junk, S.junk, S.junk, S.junk], [intsB out])) (fun x => TimK a b i x.1 x.2.1 x.2.2) (fun x => b.length + 1 - x.1) (0, out, 0) [some 0]
      ⟨.inl ⟨hI.start, Nat.zero_le _⟩⟩ ⟨rfl, rfl, ⟨entB_rows rfl rfl rfl rfl rfl, trivial⟩, ⟨ent_t rfl, ent_t rfl, ent_own rfl rfl, rfl, rfl, rfl, trivial⟩⟩ ?_
    rintro ⟨k, out, c⟩ hT
    have hT : TimK a b i k out c := hT
    have hdb := hb.dat k
    have hda := ha.dat i
    have hm := mul_rng (ha.dat i) (hb.dat k)
    have d2 := r_digit b k (by omega)
    have e1 : ((i : Int) + k).toNat = i + k := by omega
    rcases hT.out with ⟨hK, hkb⟩ | ⟨hk1, hc, hM⟩
    · have hlen := hK.len
      have hc0 := hK.c0
      have hc1 := hK.c1
      have hdo := hK.ok.dat (i + k)
      have hz : k = b.length → dat out (i + k) = 0 ∧ dat b k = 0 := fun h => ⟨hK.zero _ (by omega), dat_none (by omega)⟩
      have hzm : k = b.length → dat a i * dat b k = 0 := fun h => by rw [(hz h).2, Int.mul_zero]
      conv => whnf
      (repeat' (first | ((refine DecB.mk (fun h => ?_) (fun h => ?_)) <;> first | (exfalso; omega) | (conv => whnf)) | ((refine BoolB.mk (fun h => ?_) (fun h => ?_)) <;> first | (exact absurd h (by decide)) | (conv => whnf)) | (refine ⟨_, wrap_ok (by omega) (by omega), ?_⟩; conv => whnf) | (refine and_idx (by omega) (by omega) ?_; conv => whnf) | (refine reg_ok (by decide +kernel) ?_; conv => whnf) | (refine bar_ok (by decide +kernel) (by decide +kernel) ?_; conv => whnf) | (refine late_ok rfl rfl ?_; conv => whnf) | (refine src_ok rfl ?_; conv => whnf) | (refine .inl ⟨_, _, qcall_pure (d2) rfl rfl, ?_⟩; conv => whnf) | (refine ex_row (get_dat (by omega)) ?_; conv => whnf) | (refine and_idx (by omega) (by show _ < ((out.length : Nat) : Int); omega) ?_; conv => whnf) | (refine ex_own (get_dat0 e1 (by omega)) ?_; conv => whnf) | (refine ⟨by decide, _, tdivq (by omega) (by omega) (by decide), ?_⟩; conv => whnf) | (refine ne_ok (by decide) ?_; conv => whnf) | (refine LitB.data ?_; conv => whnf) | (refine BoxB.own ?_; conv => whnf)))
      all_goals have hn : 0 ≤ dat out (i + k) + dat a i * dat b k + c := by omega
      · have hst := hK.step ha hb hi (by omega)
        refine ⟨[some 0], (k + 1, out.set (i + k) ((dat out (i + k) + dat a i * dat b k + c) % 1048576), (dat out (i + k) + dat a i * dat b k + c) / 1048576), ⟨rfl, rfl, ⟨entB_rows rfl rfl rfl ?_ rfl, trivial⟩, ⟨rfl, rfl, ent_own rfl (by simp), rfl, rfl, rfl, trivial⟩⟩, ⟨.inl ⟨hst, by omega⟩⟩, ?_⟩
        · rw [← tmodB hn]; exact toC_set (by omega)
        · show b.length + 1 - (k + 1) < b.length + 1 - k; omega
      · have hkb2 : k = b.length := by omega
        obtain ⟨z1, z2⟩ := hz hkb2
        have z3 := hzm hkb2
        have en : dat out (i + k) + dat a i * dat b k + c = c := by omega
        have hdone := hK
        rw [hkb2] at hdone
        have hdone := hdone.done ha hb hi
        rw [← hkb2] at hdone
        refine ⟨[some 0], (k + 1, out.set (i + k) ((dat out (i + k) + dat a i * dat b k + c) % 1048576), (dat out (i + k) + dat a i * dat b k + c) / 1048576), ⟨rfl, rfl, ⟨entB_rows rfl rfl rfl ?_ rfl, trivial⟩, ⟨rfl, rfl, ent_own rfl (by simp), rfl, rfl, rfl, trivial⟩⟩, ⟨.inr ⟨by show k + 1 = b.length + 1; omega, by show (dat out (i + k) + dat a i * dat b k + c) / 1048576 = 0; omega, ?_⟩⟩, ?_⟩
        · rw [← tmodB hn]; exact toC_set (by omega)
        · have e2 : (dat out (i + k) + dat a i * dat b k + c) % 1048576 = dat out (i + k) + c := by omega
          rw [e2]; exact hdone
        · show b.length + 1 - (k + 1) < b.length + 1 - k; omega
      · have hx := hT.exit ha hb hi (by omega) (by omega)
        exact ⟨[some 0], (i + 1, out), ⟨rfl, rfl, ⟨entB_rows rfl rfl rfl rfl rfl, trivial⟩, ⟨rfl, rfl, ent_own rfl rfl, ent_i (by omega), trivial⟩⟩, hx, by show a.length - (i + 1) < a.length - i; omega⟩
    · have hlen := hM.len
      have hx := hT.exit ha hb hi (by omega) (by omega)
      conv => whnf
      (repeat' (first | ((refine DecB.mk (fun h => ?_) (fun h => ?_)) <;> first | (exfalso; omega) | (conv => whnf)) | ((refine BoolB.mk (fun h => ?_) (fun h => ?_)) <;> first | (exact absurd h (by decide)) | (conv => whnf)) | (refine ⟨_, wrap_ok (by omega) (by omega), ?_⟩; conv => whnf) | (refine and_idx (by omega) (by omega) ?_; conv => whnf) | (refine reg_ok (by decide +kernel) ?_; conv => whnf) | (refine bar_ok (by decide +kernel) (by decide +kernel) ?_; conv => whnf) | (refine late_ok rfl rfl ?_; conv => whnf) | (refine src_ok rfl ?_; conv => whnf) | (refine LitB.data ?_; conv => whnf) | (refine BoxB.own ?_; conv => whnf)))
      all_goals first
        | (exfalso; omega)
        | exact ⟨[some 0], (i + 1, out), ⟨rfl, rfl, ⟨entB_rows rfl rfl rfl rfl rfl, trivial⟩, ⟨rfl, rfl, ent_own rfl rfl, ent_i (by omega), trivial⟩⟩, hx, by show a.length - (i + 1) < a.length - i; omega⟩
  · have hi : i = a.length := by omega
    subst hi
    have hf := hI.fin
    have t := r_trim out (by omega)
    rw [hf] at t
    refine .inr ⟨_, _, acall_freeze [0] t ⟨vs_c (vc_all (by simp) rfl (by intro h; cases h) rfl rfl (by simp)), trivial⟩ rfl, ?_⟩
    conv => whnf
    exact fin_d rfl
theorem r_timesD (m n : Nat) (lm : (dg m).length ≤ 300000) (ln : (dg n).length ≤ 300000) :
    ACall Try.prog 140 [intsS (dg m), intsS (dg n)] [] (intsS (dg (m * n))) [] := by
  have h := r_times (dg m) (dg n) (okd_dg m) (okd_dg n) (by omega) (by omega)
  rw [val_dg, val_dg, show ((m : Int) * n).toNat = m * n by rw [← Int.natCast_mul]; rfl] at h
  exact h
end Go.Proofs.Ytomfnfbijgjfeaa
/- Reference of big: over. -/
namespace Go.Proofs.Ytomfnfbijgjfeaa
open Go.RowKit
set_option linter.unusedVariables false
set_option linter.unusedSimpArgs false
set_option maxRecDepth 100000

set_option maxHeartbeats 1000000 in
theorem r_over (m n : Nat) (hn : 0 < n) (lm : (dg m).length ≤ 200000) (ln : (dg n).length ≤ 200000) :
    ACall Try.prog 130 [intsS (dg m), intsS (dg n)] [] (divS m n) [] := by
  have l1 : ((dg m).map intRow).length = (dg m).length := by simp
  have l2 : ((dg n).map intRow).length = (dg n).length := by simp
  (refine acall_of tab_ok Try.func130 rfl (by decide) ?_; (conv => whnf); repeat (first | (refine LitB.data ?_; conv => whnf) | (refine BoxB.own ?_; conv => whnf)))
  (repeat' (first | ((refine DecB.mk (fun h => ?_) (fun h => ?_)) <;> first | (exfalso; omega) | (conv => whnf)) | ((refine BoolB.mk (fun h => ?_) (fun h => ?_)) <;> first | (exact absurd h (by decide)) | (conv => whnf)) | (refine ⟨_, wrap_ok (by omega) (by omega), ?_⟩; conv => whnf) | (refine and_idx (by omega) (by omega) ?_; conv => whnf) | (refine reg_ok (by decide +kernel) ?_; conv => whnf) | (refine bar_ok (by decide +kernel) (by decide +kernel) ?_; conv => whnf) | (refine late_ok rfl rfl ?_; conv => whnf) | (refine src_ok rfl ?_; conv => whnf) | (refine mk_ok (by omega) (by omega) (by omega) (by decide) ?_; conv => whnf) | (refine LitB.data ?_; conv => whnf) | (refine BoxB.own ?_; conv => whnf)))
  refine awp_while tab_ok (σ := Nat × List Int × Nat) (fun | (j, q, r) => ([intsS (dg m), intsS (dg n), S.junk, S.junk, S.junk, S.junk, ownI 0 q, intsS (dg r), intS .i64 ((j : Int) - 1), S.junk, S.junk, S.junk, S.junk, S.junk, S.junk, S.junk, S.junk, S.junk, S.junk, S.junk, S.junk, S.junk, S.junk, S.junk, S.junk, S.junk, S.junk, S.junk, S.junk, S.junk, S.junk, S.junk, S.junk, S.junk, S.junk, S.junk, S.junk, S.junk, S.junk, S.junk, S.junk, S.junk, S.junk, S.junk, S.junk, S.junk, S.junk, S.junk, S.junk, S.junk, S.junk, S.junk, S.junk, S.junk, S.junk, S.junk, S.junk, S.junk, S.junk, S.junk], [intsB q])) (fun x => ShortI (dg m) n x.1 x.2.1 x.2.2) (fun x => x.1) ((dg m).length, List.replicate (dg m).length 0, 0) [some 0]
    (ShortI.init _ (by omega)) ⟨rfl, rfl, ⟨entB_rows rfl rfl rfl ?_ rfl, trivial⟩, ⟨ent_t rfl, ent_t rfl, ent_own rfl (by simp), rfl, ent_i (by omega), trivial⟩⟩ ?_
  · show List.replicate _ _ = _
    simp [toC, intRow, constC]
  rintro ⟨j, q, r⟩ hI
  have hI : ShortI (dg m) n j q r := hI
  have hlen := hI.len
  have hle := hI.le
  have hr1 := hI.r1
  by_cases hj : 0 < j
  · obtain ⟨i, rfl⟩ : ∃ i, j = i + 1 := ⟨j - 1, by omega⟩
    have ei : (((i + 1 : Nat) : Int) - 1) = i := by omega
    have hda := (okd_dg m).dat i
    obtain ⟨y, hy⟩ := Int.eq_ofNat_of_zero_le hda.1
    have lr := dg_len_mono (show r ≤ n by omega)
    have lm2 : i < (dg m).length := by omega
    generalize hR : r * 1048576 + y = R
    have hRn : R < n * 1048576 := by
      have := Nat.mul_le_mul_right 1048576 (show r + 1 ≤ n by omega)
      rw [Nat.add_mul] at this
      omega
    have lR : (dg R).length ≤ (dg n).length + 1 := dg_len_le (by
      have h1 := dg_lt_pw n
      rw [pw_succ]
      have h2 := Int.mul_le_mul_of_nonneg_right (a := (n : Int) + 1) (b := pw (dg n).length) (c := 1048576) (by omega) (by decide)
      omega)
    have tr := r_trim (dat (dg m) i :: dg r) (by simp; omega)
    rw [over_val (d := n) hda, hy, Int.toNat_natCast, hR] at tr
    conv => whnf
    (repeat' (first | ((refine DecB.mk (fun h => ?_) (fun h => ?_)) <;> first | (exfalso; omega) | (conv => whnf)) | ((refine BoolB.mk (fun h => ?_) (fun h => ?_)) <;> first | (exact absurd h (by decide)) | (conv => whnf)) | (refine ⟨_, wrap_ok (by omega) (by omega), ?_⟩; conv => whnf) | (refine and_idx (by omega) (by omega) ?_; conv => whnf) | (refine reg_ok (by decide +kernel) ?_; conv => whnf) | (refine bar_ok (by decide +kernel) (by decide +kernel) ?_; conv => whnf) | (refine late_ok rfl rfl ?_; conv => whnf) | (refine src_ok rfl ?_; conv => whnf) | (refine .inl ⟨_, _, qcall_pure (toC, newBlk) rfl rfl, ?_⟩; conv => whnf) | (refine .inl ⟨_, _, qcall_pure (toC) rfl rfl, ?_⟩; conv => whnf) | (refine .inl ⟨_, _, qcall_pure (2) rfl rfl, ?_⟩; conv => whnf) | (refine .inl ⟨_, _, qcall_pure (toC, newBlk, intRow, hy) rfl rfl, ?_⟩; conv => whnf) | (refine .inl ⟨_, _, qcall_pure (toC, Nat.add_comm) rfl rfl, ?_⟩; conv => whnf) | (refine LitB.own ?_; conv => whnf) | (refine ex_rowE ei (get_dat (by omega)) ?_; conv => whnf) | (refine app_ok (by simp [toC, newBlk]) (by simp [toC]; omega) ?_; conv => whnf) | (refine .inr ⟨_, _, acall_freeze [2] tr ⟨vs_c (vc_all (by simp) rfl (by intro h; cases h) rfl (by simp [toC, newBlk, intRow, hy]) (by simp [toC, Nat.add_comm])), trivial⟩ rfl, ?_⟩; conv => whnf) | (refine LitB.data ?_; conv => whnf) | (refine BoxB.own ?_; conv => whnf)))
    refine awp_while tab_ok (σ := Nat × Nat) (fun | (lo, hi) => ([intsS (dg m), intsS (dg n), S.junk, S.junk, S.junk, S.junk, ownI 0 q, intsS (dg R), intS .i64 i, intS .i64 lo, intS .i64 hi, S.junk, S.junk, S.junk, S.junk, S.junk, S.junk, S.junk, S.junk, S.junk, S.junk, S.junk, S.junk, S.junk, S.junk, S.junk, S.junk, S.junk, S.junk, S.junk, S.junk, S.junk, S.junk, S.junk, S.junk, S.junk, S.junk, S.junk, S.junk, S.junk, S.junk, S.junk, S.junk, S.junk, S.junk, S.junk, S.junk, S.junk, S.junk, S.junk, S.junk, S.junk, S.junk, S.junk, S.junk, S.junk, S.junk, S.junk, S.junk, S.junk], [intsB q])) (fun x => x.1 * n ≤ R ∧ R < x.2 * n ∧ x.1 < x.2 ∧ x.2 ≤ 1048576) (fun x => x.2 - x.1) (0, 1048576) [some 0]
      ⟨by simp, by show R < 1048576 * n; rw [Nat.mul_comm]; exact hRn, by decide, by decide⟩ ⟨rfl, rfl, ⟨entB_rows rfl rfl rfl rfl rfl, trivial⟩, ⟨rfl, rfl, ent_own rfl rfl, rfl, ent_i ei, rfl, rfl, trivial⟩⟩ ?_
    rintro ⟨lo, hi⟩ ⟨i1, i2, i3, i4⟩
    have i1 : lo * n ≤ R := i1
    have i2 : R < hi * n := i2
    have i3 : lo < hi := i3
    have i4 : hi ≤ 1048576 := i4
    have ln1 : (dg n).length ≤ 200000 := ln
    by_cases hc : 1 < hi - lo
    · have hmid : (((lo : Int) + hi) / 2) = (((lo + hi) / 2 : Nat) : Int) := by omega
      generalize hM : (lo + hi) / 2 = mid at hmid
      have tm := r_times (dg n) [(mid : Int)] (okd_dg n) (by intro x hx; simp at hx; omega) (by omega) (by simp)
      have e0 : val [(mid : Int)] = mid := by simp [val]
      rw [e0, val_dg, show ((n : Int) * mid).toNat = n * mid by rw [← Int.natCast_mul]; rfl] at tm
      have lnm : (dg (n * mid)).length ≤ (dg n).length + 1 := Nat.le_trans (dg_mul_len _ _) (by have := bl_small (x := (mid : Int)) (by omega) (by omega); simp only [bl, Int.natAbs_natCast] at this; omega)
      have ls := r_less (dg R) (dg (n * mid)) (okd_dg _) (okd_dg _) (by omega) (by omega)
      rw [val_dg, val_dg] at ls
      conv => whnf
      (repeat' (first | ((refine DecB.mk (fun h => ?_) (fun h => ?_)) <;> first | (exfalso; omega) | (conv => whnf)) | ((refine BoolB.mk (fun h => ?_) (fun h => ?_)) <;> first | (exact absurd h (by decide)) | (conv => whnf)) | (refine ⟨_, wrap_ok (by omega) (by omega), ?_⟩; conv => whnf) | (refine and_idx (by omega) (by omega) ?_; conv => whnf) | (refine reg_ok (by decide +kernel) ?_; conv => whnf) | (refine bar_ok (by decide +kernel) (by decide +kernel) ?_; conv => whnf) | (refine late_ok rfl rfl ?_; conv => whnf) | (refine src_ok rfl ?_; conv => whnf) | (refine .inl ⟨_, _, qcall_pure (ls) rfl rfl, ?_⟩; conv => whnf) | (refine .inl ⟨_, _, qcall_pure (Int.tdiv_eq_ediv_of_nonneg (by omega)) rfl rfl, ?_⟩; conv => whnf) | (refine ⟨by decide, _, wrap_eq (y := (mid : Int)) (by rw [Int.tdiv_eq_ediv_of_nonneg (by omega)]; exact hmid) (by omega) (by omega), ?_⟩; conv => whnf) | (refine .inl ⟨_, _, qcall_data tm ⟨vs_t, vs_c (vc_t rfl), trivial⟩ rfl, ?_⟩; conv => whnf) | (refine LitB.data ?_; conv => whnf) | (refine BoxB.own ?_; conv => whnf)))
      · have hlt : R < n * mid := Int.ofNat_lt.1 (of_decide_eq_true (by assumption))
        exact ⟨[some 0], (lo, mid), ⟨rfl, rfl, ⟨entB_rows rfl rfl rfl rfl rfl, trivial⟩, ⟨rfl, rfl, ent_own rfl rfl, rfl, rfl, rfl, rfl, trivial⟩⟩, ⟨i1, by show R < mid * n; rw [Nat.mul_comm]; exact hlt, by show lo < mid; omega, by show mid ≤ 1048576; omega⟩, by show mid - lo < hi - lo; omega⟩
      · have hlt : n * mid ≤ R := Nat.not_lt.1 (fun h => absurd (Int.ofNat_lt.2 h) (of_decide_eq_false (by assumption)))
        exact ⟨[some 0], (mid, hi), ⟨rfl, rfl, ⟨entB_rows rfl rfl rfl rfl rfl, trivial⟩, ⟨rfl, rfl, ent_own rfl rfl, rfl, rfl, rfl, rfl, trivial⟩⟩, ⟨by show mid * n ≤ R; rw [Nat.mul_comm]; exact hlt, i2, by show mid < hi; omega, i4⟩, by show hi - mid < hi - lo; omega⟩
    · obtain rfl : hi = lo + 1 := by omega
      have hq : R / n = lo := by
        rw [Nat.div_eq_iff hn]
        rw [Nat.add_mul] at i2
        omega
      have hm2 := Nat.div_add_mod R n
      rw [hq] at hm2
      have hrm := Nat.mod_lt R hn
      have tl := r_trim [(lo : Int)] (by simp)
      rw [trimL_dg (by intro x hx; simp at hx; omega), show (val [(lo : Int)]).toNat = lo by simp [val]] at tl
      have llo : (dg lo).length ≤ 1 := by have := bl_small (x := (lo : Int)) (by omega) (by omega); simpa [bl] using this
      have tt := r_timesD n lo (by omega) (by omega)
      have mi := r_minus (dg R) (dg (n * lo)) (okd_dg _) (okd_dg _) (by omega) (dg_len_mono (by omega)) (by rw [val_dg, val_dg]; omega)
      rw [val_dg, val_dg, show ((R : Int) - ((n * lo : Nat) : Int)).toNat = R % n by omega] at mi
      have hst := hI.step (okd_dg m) (by omega)
      have c1 : ((r : Int) * 1048576 + dat (dg m) i) = (R : Int) := by rw [hy, ← hR]; simp
      rw [c1] at hst
      have c2 : (R : Int) / n = (lo : Int) := by rw [← hq]; simp
      have c3 : (R : Int) % n = ((R % n : Nat) : Int) := by simp
      rw [c2, c3] at hst
      have gq : q[0 + (i : Int).toNat]? = some (dat q i) := get_dat0 (by omega) (by omega)
      conv => whnf
      (repeat' (first | ((refine DecB.mk (fun h => ?_) (fun h => ?_)) <;> first | (exfalso; omega) | (conv => whnf)) | ((refine BoolB.mk (fun h => ?_) (fun h => ?_)) <;> first | (exact absurd h (by decide)) | (conv => whnf)) | (refine ⟨_, wrap_ok (by omega) (by omega), ?_⟩; conv => whnf) | (refine and_idx (by omega) (by omega) ?_; conv => whnf) | (refine reg_ok (by decide +kernel) ?_; conv => whnf) | (refine bar_ok (by decide +kernel) (by decide +kernel) ?_; conv => whnf) | (refine late_ok rfl rfl ?_; conv => whnf) | (refine src_ok rfl ?_; conv => whnf) | (refine .inl ⟨_, _, qcall_pure (tt) rfl rfl, ?_⟩; conv => whnf) | (refine .inl ⟨_, _, qcall_pure (mi) rfl rfl, ?_⟩; conv => whnf) | (refine .inl ⟨_, _, qcall_data tl ⟨vs_c (vc_t rfl), trivial⟩ rfl, ?_⟩; conv => whnf) | (refine and_idx (by omega) (by show _ < ((q.length : Nat) : Int); omega) ?_; conv => whnf) | (refine ex_own gq ?_; conv => whnf) | (refine LitB.data ?_; conv => whnf) | (refine BoxB.own ?_; conv => whnf)))
      all_goals try (exfalso; omega)
      refine ⟨[some 0], (i, q.set i lo, R % n), ⟨rfl, rfl, ⟨entB_rows rfl rfl rfl (toC_set (by omega)) rfl, trivial⟩, ⟨rfl, rfl, ent_own rfl (by simp), rfl, ent_i (by omega), trivial⟩⟩, hst, by show i < i + 1; omega⟩
  · obtain rfl : j = 0 := by omega
    obtain ⟨f1, f2⟩ := hI.fin (okd_dg m) (by omega)
    have tq := r_trim q (by have := hI.len; omega)
    rw [f1, val_dg, show ((m : Int) / n).toNat = m / n by rw [← Int.natCast_ediv]; rfl] at tq
    rw [val_dg] at f2
    have f3 : r = m % n := by
      have : (m : Int) % n = ((m % n : Nat) : Int) := by simp
      omega
    subst f3
    conv => whnf
    (repeat' (first | ((refine DecB.mk (fun h => ?_) (fun h => ?_)) <;> first | (exfalso; omega) | (conv => whnf)) | ((refine BoolB.mk (fun h => ?_) (fun h => ?_)) <;> first | (exact absurd h (by decide)) | (conv => whnf)) | (refine ⟨_, wrap_ok (by omega) (by omega), ?_⟩; conv => whnf) | (refine and_idx (by omega) (by omega) ?_; conv => whnf) | (refine reg_ok (by decide +kernel) ?_; conv => whnf) | (refine bar_ok (by decide +kernel) (by decide +kernel) ?_; conv => whnf) | (refine late_ok rfl rfl ?_; conv => whnf) | (refine src_ok rfl ?_; conv => whnf) | (refine .inl ⟨_, _, qcall_pure (0) rfl rfl, ?_⟩; conv => whnf) | (refine .inr ⟨_, _, acall_freeze [0] tq ⟨vs_c (vc_all (by simp) rfl (by intro h; cases h) rfl rfl (by simp)), trivial⟩ rfl, ?_⟩; conv => whnf) | (refine LitB.data ?_; conv => whnf) | (refine BoxB.own ?_; conv => whnf)))
    all_goals try (exfalso; omega)
    exact fin_t ⟨rfl, rfl, trivial⟩
end Go.Proofs.Ytomfnfbijgjfeaa
/- Reference of big and frac: Of, Right, Gcd, Div (exact), New, Int. -/
namespace Go.Proofs.Ytomfnfbijgjfeaa
open Go.RowKit
set_option linter.unusedVariables false
set_option linter.unusedSimpArgs false
set_option maxRecDepth 100000

theorem r_bigRight (b : Bg) (hl : b.dl.length ≤ 1000000) : ACall Try.prog 111 [bgS b] [] (boolS (rightB b)) [] := by
  have l2 : (b.dl.map intRow).length = b.dl.length := by simp
  (refine acall_of tab_ok Try.func111 rfl (by decide) ?_; (conv => whnf); repeat (first | (refine LitB.data ?_; conv => whnf) | (refine BoxB.data ?_; conv => whnf)))
  (repeat' (first | ((refine DecB.mk (fun h => ?_) (fun h => ?_)) <;> first | (exfalso; omega) | (conv => whnf)) | ((refine BoolB.mk (fun h => ?_) (fun h => ?_)) <;> first | (exact absurd h (by decide)) | (conv => whnf)) | (refine ⟨_, wrap_ok (by omega) (by omega), ?_⟩; conv => whnf) | (refine and_idx (by omega) (by omega) ?_; conv => whnf) | (refine reg_ok (by decide +kernel) ?_; conv => whnf) | (refine bar_ok (by decide +kernel) (by decide +kernel) ?_; conv => whnf) | (refine late_ok rfl rfl ?_; conv => whnf) | (refine src_ok rfl ?_; conv => whnf) | (refine LitB.data ?_; conv => whnf) | (refine BoxB.own ?_; conv => whnf)))
  refine awp_for tab_ok (fun k => ([S.junk, S.c (C.t (T.ptr [ti b.sg, intsT b.dl])), S.junk, intS .i64 k, S.junk, S.junk, S.junk, S.junk, S.junk, S.junk, S.junk, S.junk, S.junk, S.junk, S.junk, S.junk, S.junk, S.junk, S.junk, S.junk, S.junk, S.junk, S.junk, S.junk, S.junk, S.junk, S.junk, S.junk, S.junk, S.junk, S.junk, S.junk, S.junk, S.junk, S.junk, S.junk, S.junk, S.junk, S.junk, S.junk, S.junk, S.junk, S.junk, S.junk, S.junk, S.junk, S.junk, S.junk, S.junk, S.junk, S.junk, S.junk, S.junk, S.junk, S.junk, S.junk], [])) b.dl.length (fun k => (b.dl.take k).all inD = true) [] rfl
    ⟨rfl, rfl, trivial, ⟨ent_t rfl, rfl, trivial⟩⟩ ?_
  intro k hk hI
  by_cases hlt : k < b.dl.length
  · conv => whnf
    (repeat' (first | ((refine DecB.mk (fun h => ?_) (fun h => ?_)) <;> first | (exfalso; omega) | (conv => whnf)) | ((refine BoolB.mk (fun h => ?_) (fun h => ?_)) <;> first | (exact absurd h (by decide)) | (conv => whnf)) | (refine ⟨_, wrap_ok (by omega) (by omega), ?_⟩; conv => whnf) | (refine and_idx (by omega) (by omega) ?_; conv => whnf) | (refine reg_ok (by decide +kernel) ?_; conv => whnf) | (refine bar_ok (by decide +kernel) (by decide +kernel) ?_; conv => whnf) | (refine late_ok rfl rfl ?_; conv => whnf) | (refine src_ok rfl ?_; conv => whnf) | (refine ex_row (get_dat (by omega)) ?_; conv => whnf) | (refine LitB.data ?_; conv => whnf) | (refine BoxB.own ?_; conv => whnf)))
    all_goals first
      | (exfalso; omega)
      | exact ⟨hlt, by rw [all_take_succ (get_dat hlt), hI]; simp [inD]; omega, [], rfl, rfl, trivial, ⟨rfl, rfl, trivial⟩⟩
      | (refine fin_bool ?_; unfold rightB; rw [all_of_get (get_dat hlt) (by simp [inD]; omega)]; rfl)
  · have hke : k = b.dl.length := by omega
    subst hke
    have ha : b.dl.all inD = true := by rw [← hI, List.take_of_length_le (by omega)]
    have hgl : 0 < b.dl.length → b.dl[((((b.dl.map intRow).length : Nat) : Int) - 1).toNat]? = some (dat b.dl (b.dl.length - 1)) := fun h => by rw [l2]; exact get_last h
    conv => whnf
    (repeat' (first | ((refine DecB.mk (fun h => ?_) (fun h => ?_)) <;> first | (exfalso; omega) | (conv => whnf)) | ((refine BoolB.mk (fun h => ?_) (fun h => ?_)) <;> first | (exact absurd h (by decide)) | (conv => whnf)) | (refine ⟨_, wrap_ok (by omega) (by omega), ?_⟩; conv => whnf) | (refine and_idx (by omega) (by omega) ?_; conv => whnf) | (refine reg_ok (by decide +kernel) ?_; conv => whnf) | (refine bar_ok (by decide +kernel) (by decide +kernel) ?_; conv => whnf) | (refine late_ok rfl rfl ?_; conv => whnf) | (refine src_ok rfl ?_; conv => whnf) | (refine ex_rowI (by omega) (hgl (by omega)) ?_; conv => whnf) | (refine LitB.data ?_; conv => whnf) | (refine BoxB.own ?_; conv => whnf)))
    all_goals first
      | (exfalso; omega)
      | (exfalso; simp_all; done)
      | (exfalso; simp_all; omega)
      | skip
    all_goals
      refine fin_bool ?_
      unfold rightB
      rw [ha]
      by_cases hz : b.dl.length = 0
      · rw [if_pos hz]; simp_all <;> omega
      · rw [if_neg hz]; simp_all <;> omega
theorem r4Right (x : Int) (lx : bl x ≤ 300000) : ACall Try.prog 111 [bgS (bz x)] [] (boolS true) [] := by
  have := r_bigRight (bz x) (show bl x ≤ 1000000 by omega)
  rw [bz_right] at this
  exact this
theorem r4Of (n : Int) (h0 : -9223372036854775808 ≤ n) (h1 : n ≤ 9223372036854775807) : ACall Try.prog 88 [intS .i64 n] [] (bgS (bz n)) [] := by
  rcases Int.lt_trichotomy n 0 with hn | hn | hn
  · (refine acall_of tab_ok Try.func88 rfl (by decide) ?_; (conv => whnf); repeat (first | (refine LitB.data ?_; conv => whnf) | (refine BoxB.own ?_; conv => whnf)))
    (repeat' (first | ((refine DecB.mk (fun h => ?_) (fun h => ?_)) <;> first | (exfalso; omega) | (conv => whnf)) | ((refine BoolB.mk (fun h => ?_) (fun h => ?_)) <;> first | (exact absurd h (by decide)) | (conv => whnf)) | (refine ⟨_, wrap_ok (by omega) (by omega), ?_⟩; conv => whnf) | (refine and_idx (by omega) (by omega) ?_; conv => whnf) | (refine reg_ok (by decide +kernel) ?_; conv => whnf) | (refine bar_ok (by decide +kernel) (by decide +kernel) ?_; conv => whnf) | (refine late_ok rfl rfl ?_; conv => whnf) | (refine src_ok rfl ?_; conv => whnf) | (refine LitB.data ?_; conv => whnf) | (refine BoxB.own ?_; conv => whnf)))
    all_goals try (exfalso; omega)
    refine awp_while tab_ok (σ := List Int × Nat) (fun | (acc, u) => ([intS .i64 (- (u : Int)), S.junk, S.c (C.ptr 0 0 0), intS .i64 (-1), ownI 1 acc, S.junk, S.junk, S.junk, S.junk, S.junk, S.junk, S.junk, S.junk, S.junk, S.junk, S.junk, S.junk, S.junk, S.junk, S.junk, S.junk, S.junk, S.junk, S.junk, S.junk, S.junk, S.junk, S.junk], [zBox, intsB acc])) (fun s => OfI n s.1 s.2) (fun s => s.2) ([], n.natAbs) [some 0, none]
      ⟨rfl⟩ ⟨rfl, rfl, ⟨⟨rfl, rfl, rfl, .inl ⟨rfl, rowsT_z⟩⟩, ⟨rfl, rfl⟩, trivial⟩, ⟨ent_i (by omega), ⟨rfl, rfl, rfl⟩, rfl, ⟨rfl, rfl, rfl⟩, trivial⟩⟩ ?_
    rintro ⟨acc, u⟩ hI
    have hI : OfI n acc u := hI
    have hl := hI.len h0 h1
    have hu := hI.le
    have hm : (- (u : Int)).tmod 1048576 = - ((u : Int) % 1048576) := by
      first
        | exact Int.tmod_eq_emod_of_nonneg (by omega)
        | (rw [Int.neg_tmod, Int.tmod_eq_emod_of_nonneg (by omega)])
    have hd : (- (u : Int)).tdiv 1048576 = - ((u / 1048576 : Nat) : Int) := by
      first
        | (rw [Int.tdiv_eq_ediv_of_nonneg (by omega)]; simp; done)
        | (rw [Int.neg_tdiv, Int.tdiv_eq_ediv_of_nonneg (by omega)]; simp)
    by_cases hu0 : 0 < u
    · have hst := hI.step hu0
      conv => whnf
      (repeat' (first | ((refine DecB.mk (fun h => ?_) (fun h => ?_)) <;> first | (exfalso; omega) | (conv => whnf)) | ((refine BoolB.mk (fun h => ?_) (fun h => ?_)) <;> first | (exact absurd h (by decide)) | (conv => whnf)) | (refine ⟨_, wrap_ok (by omega) (by omega), ?_⟩; conv => whnf) | (refine and_idx (by omega) (by omega) ?_; conv => whnf) | (refine reg_ok (by decide +kernel) ?_; conv => whnf) | (refine bar_ok (by decide +kernel) (by decide +kernel) ?_; conv => whnf) | (refine late_ok rfl rfl ?_; conv => whnf) | (refine src_ok rfl ?_; conv => whnf) | (refine .inl ⟨_, _, qcall_pure (toC) rfl rfl, ?_⟩; conv => whnf) | (refine .inl ⟨_, _, qcall_pure (toC) rfl rfl, ?_⟩; conv => whnf) | (refine app_ok (by simp [toC]) (by simp [toC]; omega) ?_; conv => whnf) | (refine ⟨by decide, _, wrap_eq hd (by omega) (by omega), ?_⟩; conv => whnf) | (refine ne_ok (by decide) ?_; conv => whnf) | (refine LitB.data ?_; conv => whnf) | (refine BoxB.own ?_; conv => whnf)))
      all_goals try (exfalso; omega)
      all_goals
        refine ⟨[some 0, some 2], (acc ++ [(u : Int) % 1048576], u / 1048576), ⟨rfl, rfl, ⟨⟨rfl, rfl, rfl, .inl ⟨rfl, rowsT_z⟩⟩, entB_rows rfl rfl rfl ?_ rfl, trivial⟩, ⟨ent_i rfl, ⟨rfl, rfl, rfl⟩, rfl, ent_own rfl (by simp [toC]), trivial⟩⟩, hst, by show u / 1048576 < u; omega⟩
        have e : ∀ y : Int, y = (u : Int) % 1048576 → (toC (acc.map intRow)).take acc.length ++ toC [[ti y]] = toC ((acc ++ [(u : Int) % 1048576]).map intRow) := fun y hy => by rw [hy]; exact toC_app1
        exact e _ (by omega)
    · have h0u : u = 0 := by omega
      subst h0u
      have e : acc = dg n.natAbs := by have := hI.eq; rw [dg_zero, List.append_nil] at this; exact this
      have sg := r_madeD (-1) n.natAbs (by omega) (by rw [← e]; omega)
      rw [← e, show (-1) * (n.natAbs : Int) = n by omega] at sg
      conv => whnf
      (repeat' (first | ((refine DecB.mk (fun h => ?_) (fun h => ?_)) <;> first | (exfalso; omega) | (conv => whnf)) | ((refine BoolB.mk (fun h => ?_) (fun h => ?_)) <;> first | (exact absurd h (by decide)) | (conv => whnf)) | (refine ⟨_, wrap_ok (by omega) (by omega), ?_⟩; conv => whnf) | (refine and_idx (by omega) (by omega) ?_; conv => whnf) | (refine reg_ok (by decide +kernel) ?_; conv => whnf) | (refine bar_ok (by decide +kernel) (by decide +kernel) ?_; conv => whnf) | (refine late_ok rfl rfl ?_; conv => whnf) | (refine src_ok rfl ?_; conv => whnf) | (refine .inl ⟨_, _, qcall_pure (1) rfl rfl, ?_⟩; conv => whnf) | (refine .inr ⟨_, _, acall_freeze [1] sg ⟨vs_t, vs_c (vc_all (by simp) rfl (by intro h; cases h) rfl rfl (by simp)), trivial⟩ rfl, ?_⟩; conv => whnf) | (refine LitB.data ?_; conv => whnf) | (refine BoxB.own ?_; conv => whnf)))
      all_goals try (exfalso; omega)
      exact fin_t ⟨rfl, rfl, trivial⟩
  · subst hn
    (refine acall_of tab_ok Try.func88 rfl (by decide) ?_; (conv => whnf); repeat (first | (refine LitB.data ?_; conv => whnf) | (refine BoxB.own ?_; conv => whnf)))
    (repeat' (first | ((refine DecB.mk (fun h => ?_) (fun h => ?_)) <;> first | (exfalso; omega) | (conv => whnf)) | ((refine BoolB.mk (fun h => ?_) (fun h => ?_)) <;> first | (exact absurd h (by decide)) | (conv => whnf)) | (refine ⟨_, wrap_ok (by omega) (by omega), ?_⟩; conv => whnf) | (refine and_idx (by omega) (by omega) ?_; conv => whnf) | (refine reg_ok (by decide +kernel) ?_; conv => whnf) | (refine bar_ok (by decide +kernel) (by decide +kernel) ?_; conv => whnf) | (refine late_ok rfl rfl ?_; conv => whnf) | (refine src_ok rfl ?_; conv => whnf) | (refine LitB.data ?_; conv => whnf) | (refine BoxB.own ?_; conv => whnf)))
    all_goals first
      | (exfalso; omega)
      | exact fin_t ⟨rfl, rfl, trivial⟩
  · (refine acall_of tab_ok Try.func88 rfl (by decide) ?_; (conv => whnf); repeat (first | (refine LitB.data ?_; conv => whnf) | (refine BoxB.own ?_; conv => whnf)))
    (repeat' (first | ((refine DecB.mk (fun h => ?_) (fun h => ?_)) <;> first | (exfalso; omega) | (conv => whnf)) | ((refine BoolB.mk (fun h => ?_) (fun h => ?_)) <;> first | (exact absurd h (by decide)) | (conv => whnf)) | (refine ⟨_, wrap_ok (by omega) (by omega), ?_⟩; conv => whnf) | (refine and_idx (by omega) (by omega) ?_; conv => whnf) | (refine reg_ok (by decide +kernel) ?_; conv => whnf) | (refine bar_ok (by decide +kernel) (by decide +kernel) ?_; conv => whnf) | (refine late_ok rfl rfl ?_; conv => whnf) | (refine src_ok rfl ?_; conv => whnf) | (refine LitB.data ?_; conv => whnf) | (refine BoxB.own ?_; conv => whnf)))
    all_goals try (exfalso; omega)
    refine awp_while tab_ok (σ := List Int × Nat) (fun | (acc, u) => ([intS .i64 ((u : Int)), S.junk, S.c (C.ptr 0 0 0), intS .i64 (1), ownI 1 acc, S.junk, S.junk, S.junk, S.junk, S.junk, S.junk, S.junk, S.junk, S.junk, S.junk, S.junk, S.junk, S.junk, S.junk, S.junk, S.junk, S.junk, S.junk, S.junk, S.junk, S.junk, S.junk, S.junk], [zBox, intsB acc])) (fun s => OfI n s.1 s.2) (fun s => s.2) ([], n.natAbs) [some 0, none]
      ⟨rfl⟩ ⟨rfl, rfl, ⟨⟨rfl, rfl, rfl, .inl ⟨rfl, rowsT_z⟩⟩, ⟨rfl, rfl⟩, trivial⟩, ⟨ent_i (by omega), ⟨rfl, rfl, rfl⟩, rfl, ⟨rfl, rfl, rfl⟩, trivial⟩⟩ ?_
    rintro ⟨acc, u⟩ hI
    have hI : OfI n acc u := hI
    have hl := hI.len h0 h1
    have hu := hI.le
    have hm : ((u : Int)).tmod 1048576 = ((u : Int) % 1048576) := by
      first
        | exact Int.tmod_eq_emod_of_nonneg (by omega)
        | (rw [Int.neg_tmod, Int.tmod_eq_emod_of_nonneg (by omega)])
    have hd : ((u : Int)).tdiv 1048576 = ((u / 1048576 : Nat) : Int) := by
      first
        | (rw [Int.tdiv_eq_ediv_of_nonneg (by omega)]; simp; done)
        | (rw [Int.neg_tdiv, Int.tdiv_eq_ediv_of_nonneg (by omega)]; simp)
    by_cases hu0 : 0 < u
    · have hst := hI.step hu0
      conv => whnf
      (repeat' (first | ((refine DecB.mk (fun h => ?_) (fun h => ?_)) <;> first | (exfalso; omega) | (conv => whnf)) | ((refine BoolB.mk (fun h => ?_) (fun h => ?_)) <;> first | (exact absurd h (by decide)) | (conv => whnf)) | (refine ⟨_, wrap_ok (by omega) (by omega), ?_⟩; conv => whnf) | (refine and_idx (by omega) (by omega) ?_; conv => whnf) | (refine reg_ok (by decide +kernel) ?_; conv => whnf) | (refine bar_ok (by decide +kernel) (by decide +kernel) ?_; conv => whnf) | (refine late_ok rfl rfl ?_; conv => whnf) | (refine src_ok rfl ?_; conv => whnf) | (refine .inl ⟨_, _, qcall_pure (toC) rfl rfl, ?_⟩; conv => whnf) | (refine .inl ⟨_, _, qcall_pure (toC) rfl rfl, ?_⟩; conv => whnf) | (refine app_ok (by simp [toC]) (by simp [toC]; omega) ?_; conv => whnf) | (refine ⟨by decide, _, wrap_eq hd (by omega) (by omega), ?_⟩; conv => whnf) | (refine ne_ok (by decide) ?_; conv => whnf) | (refine LitB.data ?_; conv => whnf) | (refine BoxB.own ?_; conv => whnf)))
      all_goals try (exfalso; omega)
      all_goals
        refine ⟨[some 0, some 2], (acc ++ [(u : Int) % 1048576], u / 1048576), ⟨rfl, rfl, ⟨⟨rfl, rfl, rfl, .inl ⟨rfl, rowsT_z⟩⟩, entB_rows rfl rfl rfl ?_ rfl, trivial⟩, ⟨ent_i rfl, ⟨rfl, rfl, rfl⟩, rfl, ent_own rfl (by simp [toC]), trivial⟩⟩, hst, by show u / 1048576 < u; omega⟩
        have e : ∀ y : Int, y = (u : Int) % 1048576 → (toC (acc.map intRow)).take acc.length ++ toC [[ti y]] = toC ((acc ++ [(u : Int) % 1048576]).map intRow) := fun y hy => by rw [hy]; exact toC_app1
        exact e _ (by omega)
    · have h0u : u = 0 := by omega
      subst h0u
      have e : acc = dg n.natAbs := by have := hI.eq; rw [dg_zero, List.append_nil] at this; exact this
      have sg := r_madeD (1) n.natAbs (by omega) (by rw [← e]; omega)
      rw [← e, show (1) * (n.natAbs : Int) = n by omega] at sg
      conv => whnf
      (repeat' (first | ((refine DecB.mk (fun h => ?_) (fun h => ?_)) <;> first | (exfalso; omega) | (conv => whnf)) | ((refine BoolB.mk (fun h => ?_) (fun h => ?_)) <;> first | (exact absurd h (by decide)) | (conv => whnf)) | (refine ⟨_, wrap_ok (by omega) (by omega), ?_⟩; conv => whnf) | (refine and_idx (by omega) (by omega) ?_; conv => whnf) | (refine reg_ok (by decide +kernel) ?_; conv => whnf) | (refine bar_ok (by decide +kernel) (by decide +kernel) ?_; conv => whnf) | (refine late_ok rfl rfl ?_; conv => whnf) | (refine src_ok rfl ?_; conv => whnf) | (refine .inl ⟨_, _, qcall_pure (1) rfl rfl, ?_⟩; conv => whnf) | (refine .inr ⟨_, _, acall_freeze [1] sg ⟨vs_t, vs_c (vc_all (by simp) rfl (by intro h; cases h) rfl rfl (by simp)), trivial⟩ rfl, ?_⟩; conv => whnf) | (refine LitB.data ?_; conv => whnf) | (refine BoxB.own ?_; conv => whnf)))
      all_goals try (exfalso; omega)
      exact fin_t ⟨rfl, rfl, trivial⟩
theorem r4Gcd (x y : Int) (lx : bl x ≤ 200000) (ly : bl y ≤ 200000) : ACall Try.prog 113 [bgS (bz x), bgS (bz y)] [] (.tup [bgS (bz (Int.gcd x y)), intS .i64 0]) [] := by
  have r1 := r4Right x (by omega)
  have r2 := r4Right y (by omega)
  (refine acall_of tab_ok Try.func113 rfl (by decide) ?_; (conv => whnf); repeat (first | (refine LitB.data ?_; conv => whnf) | (refine BoxB.own ?_; conv => whnf)))
  (repeat' (first | ((refine DecB.mk (fun h => ?_) (fun h => ?_)) <;> first | (exfalso; omega) | (conv => whnf)) | ((refine BoolB.mk (fun h => ?_) (fun h => ?_)) <;> first | (exact absurd h (by decide)) | (conv => whnf)) | (refine ⟨_, wrap_ok (by omega) (by omega), ?_⟩; conv => whnf) | (refine and_idx (by omega) (by omega) ?_; conv => whnf) | (refine reg_ok (by decide +kernel) ?_; conv => whnf) | (refine bar_ok (by decide +kernel) (by decide +kernel) ?_; conv => whnf) | (refine late_ok rfl rfl ?_; conv => whnf) | (refine src_ok rfl ?_; conv => whnf) | (refine .inl ⟨_, _, qcall_pure (r1) rfl rfl, ?_⟩; conv => whnf) | (refine .inl ⟨_, _, qcall_pure (r2) rfl rfl, ?_⟩; conv => whnf) | (refine LitB.data ?_; conv => whnf) | (refine BoxB.own ?_; conv => whnf)))
  all_goals first
    | (exfalso; simp_all; done)
    | skip
  refine awp_while tab_ok (σ := Nat × Nat) (fun | (X, Y) => ([S.junk, S.junk, S.junk, S.junk, S.c (C.ptr 0 0 0), S.junk, intsS (dg X), intsS (dg Y), S.junk, S.junk, S.junk, S.junk, S.junk, S.junk, S.junk, S.junk, S.junk, S.junk, S.junk, S.junk, S.junk, S.junk, S.junk, S.junk, S.junk, S.junk, S.junk, S.junk, S.junk, S.junk, S.junk, S.junk, S.junk, S.junk, S.junk, S.junk], [zBox])) (fun s => GcdI x y s.1 s.2) (fun s => s.2) (x.natAbs, y.natAbs) [some 2]
    ⟨rfl, lx, ly⟩ ⟨rfl, rfl, ⟨⟨rfl, rfl, rfl, .inl ⟨rfl, rowsT_z⟩⟩, trivial⟩, ⟨⟨rfl, rfl, rfl⟩, rfl, rfl, trivial⟩⟩ ?_
  rintro ⟨X, Y⟩ hI
  have hI : GcdI x y X Y := hI
  obtain ⟨g1, g2, g3⟩ := hI
  have l2 : ((dg Y).map intRow).length = (dg Y).length := by simp
  by_cases hY : 0 < Y
  · have hp : (dg Y).length ≠ 0 := by rw [Ne, List.length_eq_zero_iff, dg_eq_nil]; omega
    have dv := r_over X Y hY (by omega) (by omega)
    conv => whnf
    (repeat' (first | ((refine DecB.mk (fun h => ?_) (fun h => ?_)) <;> first | (exfalso; omega) | (conv => whnf)) | ((refine BoolB.mk (fun h => ?_) (fun h => ?_)) <;> first | (exact absurd h (by decide)) | (conv => whnf)) | (refine ⟨_, wrap_ok (by omega) (by omega), ?_⟩; conv => whnf) | (refine and_idx (by omega) (by omega) ?_; conv => whnf) | (refine reg_ok (by decide +kernel) ?_; conv => whnf) | (refine bar_ok (by decide +kernel) (by decide +kernel) ?_; conv => whnf) | (refine late_ok rfl rfl ?_; conv => whnf) | (refine src_ok rfl ?_; conv => whnf) | (refine .inl ⟨_, _, qcall_pure (dv) rfl rfl, ?_⟩; conv => whnf) | (refine LitB.data ?_; conv => whnf) | (refine BoxB.own ?_; conv => whnf)))
    all_goals first
      | (exfalso; omega)
      | exact ⟨[some 0], (Y, X % Y), ⟨rfl, rfl, ⟨⟨rfl, rfl, rfl, .inl ⟨rfl, rowsT_z⟩⟩, trivial⟩, ⟨⟨rfl, rfl, rfl⟩, rfl, rfl, trivial⟩⟩, ⟨by rw [← g1, Nat.gcd_comm Y, ← Nat.gcd_rec, Nat.gcd_comm], g3, Nat.le_trans (dg_len_mono (Nat.le_of_lt (Nat.mod_lt X hY))) g3⟩, Nat.mod_lt X hY⟩
  · have hY : Y = 0 := by omega
    subst hY
    have hp : (dg 0).length = 0 := rfl
    have s1 := r_madeD 1 X (by simp) (by omega)
    conv => whnf
    (repeat' (first | ((refine DecB.mk (fun h => ?_) (fun h => ?_)) <;> first | (exfalso; omega) | (conv => whnf)) | ((refine BoolB.mk (fun h => ?_) (fun h => ?_)) <;> first | (exact absurd h (by decide)) | (conv => whnf)) | (refine ⟨_, wrap_ok (by omega) (by omega), ?_⟩; conv => whnf) | (refine and_idx (by omega) (by omega) ?_; conv => whnf) | (refine reg_ok (by decide +kernel) ?_; conv => whnf) | (refine bar_ok (by decide +kernel) (by decide +kernel) ?_; conv => whnf) | (refine late_ok rfl rfl ?_; conv => whnf) | (refine src_ok rfl ?_; conv => whnf) | (refine .inl ⟨_, _, qcall_pure (s1) rfl rfl, ?_⟩; conv => whnf) | (refine LitB.data ?_; conv => whnf) | (refine BoxB.own ?_; conv => whnf)))
    all_goals first
      | (exfalso; omega)
      | skip
    refine fin_be ?_
    rw [Int.one_mul, show X = Int.gcd x y by rw [Int.gcd, ← g1, Nat.gcd_zero_right]]
theorem r4Div (x y : Int) (hy : 0 < y) (hxy : x % y = 0) (lx : bl x ≤ 200000) (ly : bl y ≤ 200000) : ACall Try.prog 114 [bgS (bz x), bgS (bz y)] [] (.tup [bgS (bz (x / y)), bgS (bz 0), intS .i64 0]) [] := by
  have r1 := r4Right x (by omega)
  have r2 := r4Right y (by omega)
  have hys : (bz y).sg = 1 := by rw [bz_sg, Int.sign_eq_one_of_pos hy]
  have ov := r_over x.natAbs y.natAbs (by omega) lx ly
  have hmod : x.natAbs % y.natAbs = 0 := by
    have := Int.natAbs_dvd_natAbs.2 (Int.dvd_of_emod_eq_zero hxy)
    exact Nat.mod_eq_zero_of_dvd this
  have lq := dg_len_mono (Nat.div_le_self x.natAbs y.natAbs)
  have hsg : (bz x).sg = x.sign := rfl
  have hs := sign_cases x
  have hq : x.sign * ((x.natAbs / y.natAbs : Nat) : Int) = x / y := by
    obtain ⟨k, hk⟩ := Int.dvd_of_emod_eq_zero hxy
    subst hk
    have hk2 : (y * k) / y = k := Int.mul_ediv_cancel_left _ (by omega)
    rw [hk2, Int.natAbs_mul, Nat.mul_div_cancel_left _ (by omega), Int.sign_mul, Int.sign_eq_one_of_pos hy, Int.one_mul]
    exact Int.sign_mul_natAbs k
  have s1 := r_madeD x.sign (x.natAbs / y.natAbs) (by
    rcases hs with ⟨h, h1⟩ | ⟨h, h1⟩ | ⟨h, h1⟩
    · right; right; subst h1; simp
    · exact .inl h
    · exact .inr (.inl h)) (by unfold bl at lx; omega)
  rw [hq] at s1
  have s2 := r_madeD x.sign 0 (by simp) (by rw [dg_zero]; simp)
  rw [show x.sign * ((0 : Nat) : Int) = 0 by simp] at s2
  have hmul : x.sign * 1 = x.sign := Int.mul_one _
  have hd0 : ((dg (x.natAbs % y.natAbs)).map intRow).length = 0 := by rw [hmod, dg_zero]; rfl
  unfold divS at ov
  rw [hmod] at ov hd0
  (refine acall_of tab_ok Try.func114 rfl (by decide) ?_; (conv => whnf); repeat (first | (refine LitB.data ?_; conv => whnf) | (refine BoxB.own ?_; conv => whnf)))
  (repeat' (first | ((refine DecB.mk (fun h => ?_) (fun h => ?_)) <;> first | (exfalso; omega) | (conv => whnf)) | ((refine BoolB.mk (fun h => ?_) (fun h => ?_)) <;> first | (exact absurd h (by decide)) | (conv => whnf)) | (refine ⟨_, wrap_ok (by omega) (by omega), ?_⟩; conv => whnf) | (refine and_idx (by omega) (by omega) ?_; conv => whnf) | (refine reg_ok (by decide +kernel) ?_; conv => whnf) | (refine bar_ok (by decide +kernel) (by decide +kernel) ?_; conv => whnf) | (refine late_ok rfl rfl ?_; conv => whnf) | (refine src_ok rfl ?_; conv => whnf) | (refine .inl ⟨_, _, qcall_pure (r1) rfl rfl, ?_⟩; conv => whnf) | (refine .inl ⟨_, _, qcall_pure (r2) rfl rfl, ?_⟩; conv => whnf) | (refine .inl ⟨_, _, qcall_pure (ov) rfl rfl, ?_⟩; conv => whnf) | (refine .inl ⟨_, _, qcall_pure (s1) rfl rfl, ?_⟩; conv => whnf) | (refine .inl ⟨_, _, qcall_pure (s2) rfl rfl, ?_⟩; conv => whnf) | (refine .inl ⟨_, _, qcall_pure (hys, hsg) rfl rfl, ?_⟩; conv => whnf) | (refine ⟨_, wrap_eq (y := x.sign) (by rw [hys, hsg]; exact hmul) (by omega) (by omega), ?_⟩; conv => whnf) | (refine LitB.data ?_; conv => whnf) | (refine BoxB.own ?_; conv => whnf)))
  all_goals first
    | (exfalso; omega)
    | (exfalso; simp_all; done)
    | exact fin_be2 rfl rfl
theorem r5New (p q : Int) (hq : 0 < q) (lp : bl p ≤ 200000) (lq : bl q ≤ 200000) : ACall Try.prog 87 [bgS (bz p), bgS (bz q)] [] (.tup [frS (fz (Rat.divInt p q)), intS .i64 0]) [] := by
  have r1 := r4Right p (by omega)
  have r2 := r4Right q (by omega)
  have hsg : (bz q).sg = 1 := by rw [bz_sg, Int.sign_eq_one_of_pos hq]
  have lg := bl_gcd p q lp lq
  have hg : 0 < (Int.gcd p q : Int) := by have := Int.gcd_pos_of_ne_zero_right p (b := q) (by omega); omega
  have g := r4Gcd p q lp lq
  have d1 := r4Div p _ hg (Int.emod_eq_zero_of_dvd (Int.gcd_dvd_left ..)) lp lg
  have d2 := r4Div q _ hg (Int.emod_eq_zero_of_dvd (Int.gcd_dvd_right ..)) lq lg
  have e := fz_divInt (p := p) (q := q) (by omega) rfl
  (refine acall_of tab_ok Try.func87 rfl (by decide) ?_; (conv => whnf); repeat (first | (refine LitB.data ?_; conv => whnf) | (refine BoxB.own ?_; conv => whnf)))
  (repeat' (first | ((refine DecB.mk (fun h => ?_) (fun h => ?_)) <;> first | (exfalso; omega) | (conv => whnf)) | ((refine BoolB.mk (fun h => ?_) (fun h => ?_)) <;> first | (exact absurd h (by decide)) | (conv => whnf)) | (refine ⟨_, wrap_ok (by omega) (by omega), ?_⟩; conv => whnf) | (refine and_idx (by omega) (by omega) ?_; conv => whnf) | (refine reg_ok (by decide +kernel) ?_; conv => whnf) | (refine bar_ok (by decide +kernel) (by decide +kernel) ?_; conv => whnf) | (refine late_ok rfl rfl ?_; conv => whnf) | (refine src_ok rfl ?_; conv => whnf) | (refine .inl ⟨_, _, qcall_pure (r1) rfl rfl, ?_⟩; conv => whnf) | (refine .inl ⟨_, _, qcall_pure (r2) rfl rfl, ?_⟩; conv => whnf) | (refine .inl ⟨_, _, qcall_pure (g) rfl rfl, ?_⟩; conv => whnf) | (refine .inl ⟨_, _, qcall_pure (d1) rfl rfl, ?_⟩; conv => whnf) | (refine .inl ⟨_, _, qcall_pure (d2) rfl rfl, ?_⟩; conv => whnf) | (refine LitB.data ?_; conv => whnf) | (refine BoxB.own ?_; conv => whnf)))
  all_goals first
    | (exfalso; omega)
    | (exfalso; simp_all; done)
    | exact fin_fe e.symm
theorem r5Of (p q : Int) (hq : 0 < q) (p0 : -9223372036854775808 ≤ p) (p1 : p ≤ 9223372036854775807) (q1 : q ≤ 9223372036854775807) :
    ACall Try.prog 49 [intS .i64 p, intS .i64 q] [] (.tup [frS (fz (Rat.divInt p q)), intS .i64 0]) [] := by
  have l1 := bl_int p0 p1
  have l2 := bl_int (x := q) (by omega) q1
  have o1 := r4Of p p0 p1
  have o2 := r4Of q (by omega) q1
  have n := r5New p q hq (by omega) (by omega)
  (refine acall_of tab_ok Try.func49 rfl (by decide) ?_; (conv => whnf); repeat (first | (refine LitB.data ?_; conv => whnf) | (refine BoxB.own ?_; conv => whnf)))
  (repeat' (first | ((refine DecB.mk (fun h => ?_) (fun h => ?_)) <;> first | (exfalso; omega) | (conv => whnf)) | ((refine BoolB.mk (fun h => ?_) (fun h => ?_)) <;> first | (exact absurd h (by decide)) | (conv => whnf)) | (refine ⟨_, wrap_ok (by omega) (by omega), ?_⟩; conv => whnf) | (refine and_idx (by omega) (by omega) ?_; conv => whnf) | (refine reg_ok (by decide +kernel) ?_; conv => whnf) | (refine bar_ok (by decide +kernel) (by decide +kernel) ?_; conv => whnf) | (refine late_ok rfl rfl ?_; conv => whnf) | (refine src_ok rfl ?_; conv => whnf) | (refine .inl ⟨_, _, qcall_pure (o1) rfl rfl, ?_⟩; conv => whnf) | (refine .inl ⟨_, _, qcall_pure (o2) rfl rfl, ?_⟩; conv => whnf) | (refine .inl ⟨_, _, qcall_pure (n) rfl rfl, ?_⟩; conv => whnf) | (refine LitB.data ?_; conv => whnf) | (refine BoxB.own ?_; conv => whnf)))
  all_goals exact fin_fe rfl
theorem r5Int (n : Int) (p0 : -9223372036854775808 ≤ n) (p1 : n ≤ 9223372036854775807) : ACall Try.prog 14 [intS .i64 n] [] (frS (fz (n : Rat))) [] := by
  have o := r5Of n 1 (by decide) p0 p1 (by decide)
  have e : Rat.divInt n 1 = (n : Rat) := by rw [Rat.divInt_eq_div]; simp; grind
  rw [e] at o
  (refine acall_of tab_ok Try.func14 rfl (by decide) ?_; (conv => whnf); repeat (first | (refine LitB.data ?_; conv => whnf) | (refine BoxB.own ?_; conv => whnf)))
  (repeat' (first | ((refine DecB.mk (fun h => ?_) (fun h => ?_)) <;> first | (exfalso; omega) | (conv => whnf)) | ((refine BoolB.mk (fun h => ?_) (fun h => ?_)) <;> first | (exact absurd h (by decide)) | (conv => whnf)) | (refine ⟨_, wrap_ok (by omega) (by omega), ?_⟩; conv => whnf) | (refine and_idx (by omega) (by omega) ?_; conv => whnf) | (refine reg_ok (by decide +kernel) ?_; conv => whnf) | (refine bar_ok (by decide +kernel) (by decide +kernel) ?_; conv => whnf) | (refine late_ok rfl rfl ?_; conv => whnf) | (refine src_ok rfl ?_; conv => whnf) | (refine .inl ⟨_, _, qcall_pure (o) rfl rfl, ?_⟩; conv => whnf) | (refine LitB.data ?_; conv => whnf) | (refine BoxB.own ?_; conv => whnf)))
  all_goals exact fin_t ⟨rfl, rfl, rfl, rfl, trivial⟩
end Go.Proofs.Ytomfnfbijgjfeaa
/- Small references: Few, Little, Same; few. -/
namespace Go.Proofs.Ytomfnfbijgjfeaa
open Go.RowKit
set_option linter.unusedVariables false
set_option linter.unusedSimpArgs false
set_option maxRecDepth 100000

theorem a_SameBig (b : Bg) (hl : b.dl.length ≤ 1000000) : ACall Try.prog 83 [bgS b, bgS b] [] (boolS true) [] := by
  have l2 : (b.dl.map intRow).length = b.dl.length := by simp
  (refine acall_of tab_ok Try.func83 rfl (by decide) ?_; (conv => whnf); repeat (first | (refine LitB.data ?_; conv => whnf) | (refine BoxB.data ?_; conv => whnf)))
  (repeat' (first | ((refine DecB.mk (fun h => ?_) (fun h => ?_)) <;> first | (exfalso; omega) | (conv => whnf)) | ((refine BoolB.mk (fun h => ?_) (fun h => ?_)) <;> first | (exact absurd h (by decide)) | (conv => whnf)) | (refine ⟨_, wrap_ok (by omega) (by omega), ?_⟩; conv => whnf) | (refine and_idx (by omega) (by omega) ?_; conv => whnf) | (refine reg_ok (by decide +kernel) ?_; conv => whnf) | (refine bar_ok (by decide +kernel) (by decide +kernel) ?_; conv => whnf) | (refine late_ok rfl rfl ?_; conv => whnf) | (refine src_ok rfl ?_; conv => whnf) | (refine LitB.data ?_; conv => whnf) | (refine BoxB.own ?_; conv => whnf)))
  all_goals try (exfalso; omega)
  refine awp_for tab_ok (fun k => ([S.junk, S.junk, S.c (C.t (T.ptr [ti b.sg, intsT b.dl])), S.c (C.t (T.ptr [ti b.sg, intsT b.dl])), S.junk, intS .i64 k, S.junk, S.junk, S.junk, S.junk, S.junk, S.junk, S.junk, S.junk, S.junk, S.junk, S.junk, S.junk, S.junk, S.junk, S.junk, S.junk, S.junk, S.junk, S.junk, S.junk, S.junk, S.junk, S.junk, S.junk, S.junk, S.junk, S.junk, S.junk, S.junk, S.junk, S.junk, S.junk], [])) b.dl.length (fun _ => True) [] trivial
    ⟨rfl, rfl, trivial, ⟨rfl, rfl, rfl, trivial⟩⟩ ?_
  intro k hk _
  by_cases hlt : k < b.dl.length
  · conv => whnf
    (repeat' (first | ((refine DecB.mk (fun h => ?_) (fun h => ?_)) <;> first | (exfalso; omega) | (conv => whnf)) | ((refine BoolB.mk (fun h => ?_) (fun h => ?_)) <;> first | (exact absurd h (by decide)) | (conv => whnf)) | (refine ⟨_, wrap_ok (by omega) (by omega), ?_⟩; conv => whnf) | (refine and_idx (by omega) (by omega) ?_; conv => whnf) | (refine reg_ok (by decide +kernel) ?_; conv => whnf) | (refine bar_ok (by decide +kernel) (by decide +kernel) ?_; conv => whnf) | (refine late_ok rfl rfl ?_; conv => whnf) | (refine src_ok rfl ?_; conv => whnf) | (refine ex_row (get_dat (by omega)) ?_; conv => whnf) | (refine LitB.data ?_; conv => whnf) | (refine BoxB.own ?_; conv => whnf)))
    all_goals first
      | (exfalso; omega)
      | exact ⟨hlt, trivial, [], rfl, rfl, trivial, ⟨rfl, rfl, rfl, trivial⟩⟩
  · conv => whnf
    (repeat' (first | ((refine DecB.mk (fun h => ?_) (fun h => ?_)) <;> first | (exfalso; omega) | (conv => whnf)) | ((refine BoolB.mk (fun h => ?_) (fun h => ?_)) <;> first | (exact absurd h (by decide)) | (conv => whnf)) | (refine ⟨_, wrap_ok (by omega) (by omega), ?_⟩; conv => whnf) | (refine and_idx (by omega) (by omega) ?_; conv => whnf) | (refine reg_ok (by decide +kernel) ?_; conv => whnf) | (refine bar_ok (by decide +kernel) (by decide +kernel) ?_; conv => whnf) | (refine late_ok rfl rfl ?_; conv => whnf) | (refine src_ok rfl ?_; conv => whnf) | (refine LitB.data ?_; conv => whnf) | (refine BoxB.own ?_; conv => whnf)))
    all_goals first
      | (exfalso; omega)
      | exact fin_bool rfl
theorem a_SameF (f : Fr) (lp : f.p.dl.length ≤ 1000000) (lq : f.q.dl.length ≤ 1000000) : ACall Try.prog 38 [frS f, frS f] [] (boolS true) [] := by
  have s1 := a_SameBig f.p lp
  have s2 := a_SameBig f.q lq
  (refine acall_of tab_ok Try.func38 rfl (by decide) ?_; (conv => whnf); repeat (first | (refine LitB.data ?_; conv => whnf) | (refine BoxB.data ?_; conv => whnf)))
  (repeat' (first | ((refine DecB.mk (fun h => ?_) (fun h => ?_)) <;> first | (exfalso; omega) | (conv => whnf)) | ((refine BoolB.mk (fun h => ?_) (fun h => ?_)) <;> first | (exact absurd h (by decide)) | (conv => whnf)) | (refine ⟨_, wrap_ok (by omega) (by omega), ?_⟩; conv => whnf) | (refine and_idx (by omega) (by omega) ?_; conv => whnf) | (refine reg_ok (by decide +kernel) ?_; conv => whnf) | (refine bar_ok (by decide +kernel) (by decide +kernel) ?_; conv => whnf) | (refine late_ok rfl rfl ?_; conv => whnf) | (refine src_ok rfl ?_; conv => whnf) | (refine .inl ⟨_, _, qcall_pure (s1) rfl rfl, ?_⟩; conv => whnf) | (refine .inl ⟨_, _, qcall_pure (s2) rfl rfl, ?_⟩; conv => whnf) | (refine LitB.data ?_; conv => whnf) | (refine BoxB.own ?_; conv => whnf)))
  all_goals first
    | (exfalso; simp_all; done)
    | exact fin_bool rfl
def fewF (n : Int) (f : Fr) : Bool := decide ((f.p.dl.length : Int) ≤ n) && decide ((f.q.dl.length : Int) ≤ n)
theorem a_FewF (f : Fr) (n : Int) : ACall Try.prog 19 [frS f, intS .i64 n] [] (boolS (fewF n f)) [] := by
  have l1 : (f.p.dl.map intRow).length = f.p.dl.length := by simp
  have l2 : (f.q.dl.map intRow).length = f.q.dl.length := by simp
  (refine acall_of tab_ok Try.func19 rfl (by decide) ?_; (conv => whnf); repeat (first | (refine LitB.data ?_; conv => whnf) | (refine BoxB.data ?_; conv => whnf)))
  (repeat' (first | ((refine DecB.mk (fun h => ?_) (fun h => ?_)) <;> first | (exfalso; omega) | (conv => whnf)) | ((refine BoolB.mk (fun h => ?_) (fun h => ?_)) <;> first | (exact absurd h (by decide)) | (conv => whnf)) | (refine ⟨_, wrap_ok (by omega) (by omega), ?_⟩; conv => whnf) | (refine and_idx (by omega) (by omega) ?_; conv => whnf) | (refine reg_ok (by decide +kernel) ?_; conv => whnf) | (refine bar_ok (by decide +kernel) (by decide +kernel) ?_; conv => whnf) | (refine late_ok rfl rfl ?_; conv => whnf) | (refine src_ok rfl ?_; conv => whnf) | (refine LitB.data ?_; conv => whnf) | (refine BoxB.own ?_; conv => whnf)))
  all_goals (refine fin_bool ?_; unfold fewF; simp; omega)
def little (e : Ev) : Bool := decide (e.moves.length ≤ 14) && decide (e.places.length ≤ 14) && decide (e.certs.length ≤ 20) && decide (e.purities.length ≤ 20) && decide (e.recalls.length ≤ 10) && (decide (e.mats ≤ 6) || decide (e.mats > 6))
theorem a_Little (e : Ev) : ACall Try.prog 65 [evS e] [] (boolS (little e)) [] := by
  have l1 : (e.moves.map Move.row).length = e.moves.length := by simp
  have l2 : (e.places.map Place.row).length = e.places.length := by simp
  have l3 : (e.certs.map Cert.row).length = e.certs.length := by simp
  have l4 : (e.purities.map Purity.row).length = e.purities.length := by simp
  have l5 : (e.recalls.map Recall.row).length = e.recalls.length := by simp
  (refine acall_of tab_ok Try.func65 rfl (by decide) ?_; (conv => whnf); repeat (first | (refine LitB.data ?_; conv => whnf) | (refine BoxB.data ?_; conv => whnf)))
  (repeat' (first | ((refine DecB.mk (fun h => ?_) (fun h => ?_)) <;> first | (exfalso; omega) | (conv => whnf)) | ((refine BoolB.mk (fun h => ?_) (fun h => ?_)) <;> first | (exact absurd h (by decide)) | (conv => whnf)) | (refine ⟨_, wrap_ok (by omega) (by omega), ?_⟩; conv => whnf) | (refine and_idx (by omega) (by omega) ?_; conv => whnf) | (refine reg_ok (by decide +kernel) ?_; conv => whnf) | (refine bar_ok (by decide +kernel) (by decide +kernel) ?_; conv => whnf) | (refine late_ok rfl rfl ?_; conv => whnf) | (refine src_ok rfl ?_; conv => whnf) | (refine LitB.data ?_; conv => whnf) | (refine BoxB.own ?_; conv => whnf)))
  all_goals (refine fin_bool ?_; unfold little; simp; omega)
def fewL (l : List Fr) : Bool := decide (l.length ≤ 8) && l.all (fewF 3)
def fewH (hh : List (List Fr)) : Bool := (hh.take 20).all fewL && decide (hh.length ≤ 14)
theorem a_FewH (hh : List (List Fr)) : ACall Try.prog 28 [histS hh] [] (boolS (fewH hh)) [] := by
  have m1 : (hh.map fracsRow).length = hh.length := by simp
  (refine acall_of tab_ok Try.func28 rfl (by decide) ?_; (conv => whnf); repeat (first | (refine LitB.data ?_; conv => whnf) | (refine BoxB.data ?_; conv => whnf)))
  (repeat' (first | ((refine DecB.mk (fun h => ?_) (fun h => ?_)) <;> first | (exfalso; omega) | (conv => whnf)) | ((refine BoolB.mk (fun h => ?_) (fun h => ?_)) <;> first | (exact absurd h (by decide)) | (conv => whnf)) | (refine ⟨_, wrap_ok (by omega) (by omega), ?_⟩; conv => whnf) | (refine and_idx (by omega) (by omega) ?_; conv => whnf) | (refine reg_ok (by decide +kernel) ?_; conv => whnf) | (refine bar_ok (by decide +kernel) (by decide +kernel) ?_; conv => whnf) | (refine late_ok rfl rfl ?_; conv => whnf) | (refine src_ok rfl ?_; conv => whnf) | (refine LitB.data ?_; conv => whnf) | (refine BoxB.own ?_; conv => whnf)))
  refine awp_for tab_ok (fun k => ([histS hh, S.junk, S.junk, intS .i64 k, S.junk, S.junk, S.junk, S.junk, S.junk, S.junk, S.junk, S.junk, S.junk, S.junk, S.junk, S.junk, S.junk, S.junk, S.junk, S.junk, S.junk, S.junk, S.junk, S.junk, S.junk, S.junk, S.junk, S.junk, S.junk, S.junk, S.junk, S.junk, S.junk, S.junk, S.junk, S.junk, S.junk, S.junk, S.junk, S.junk, S.junk, S.junk], [])) 20 (fun k => k ≤ hh.length ∧ (hh.take k).all fewL = true) [] ⟨Nat.zero_le _, rfl⟩
    ⟨rfl, rfl, trivial, ⟨ent_t rfl, rfl, trivial⟩⟩ ?_
  rintro k hk ⟨hle, hI⟩
  by_cases hlt : k < hh.length ∧ k < 20
  · obtain ⟨l, hl⟩ : ∃ l, hh[k]? = some l := ⟨_, List.getElem?_eq_getElem hlt.1⟩
    have m3 : (l.map frRow).length = l.length := by simp
    have hlt20 : (hh.take 20)[k]? = some l := by rw [List.getElem?_take, if_pos hlt.2]; exact hl
    have bad : fewL l = false → fewH hh = false := fun h => by unfold fewH; rw [all_of_get hlt20 h]; rfl
    conv => whnf
    (repeat' (first | ((refine DecB.mk (fun h => ?_) (fun h => ?_)) <;> first | (exfalso; omega) | (conv => whnf)) | ((refine BoolB.mk (fun h => ?_) (fun h => ?_)) <;> first | (exact absurd h (by decide)) | (conv => whnf)) | (refine ⟨_, wrap_ok (by omega) (by omega), ?_⟩; conv => whnf) | (refine and_idx (by omega) (by omega) ?_; conv => whnf) | (refine reg_ok (by decide +kernel) ?_; conv => whnf) | (refine bar_ok (by decide +kernel) (by decide +kernel) ?_; conv => whnf) | (refine late_ok rfl rfl ?_; conv => whnf) | (refine src_ok rfl ?_; conv => whnf) | (refine ex_row hl ?_; conv => whnf) | (refine LitB.data ?_; conv => whnf) | (refine BoxB.own ?_; conv => whnf)))
    all_goals try (exfalso; omega)
    · refine fin_bool ?_
      rw [bad (by unfold fewL; simp; omega)]
    · refine awp_for tab_ok (fun j => ([histS hh, S.junk, S.junk, intS .i64 k, intS .i64 j, S.junk, S.junk, S.junk, S.junk, S.junk, S.junk, S.junk, S.junk, S.junk, S.junk, S.junk, S.junk, S.junk, S.junk, S.junk, S.junk, S.junk, S.junk, S.junk, S.junk, S.junk, S.junk, S.junk, S.junk, S.junk, S.junk, S.junk, S.junk, S.junk, S.junk, S.junk, S.junk, S.junk, S.junk, S.junk, S.junk, S.junk], [])) l.length (fun j => (l.take j).all (fewF 3) = true) [] rfl
        ⟨rfl, rfl, trivial, ⟨rfl, rfl, rfl, trivial⟩⟩ ?_
      intro j hj hJ
      by_cases hjt : j < l.length
      · obtain ⟨f, hf⟩ : ∃ f, l[j]? = some f := ⟨_, List.getElem?_eq_getElem hjt⟩
        have r := a_FewF f 3
        cases hff : fewF 3 f with
        | true =>
          rw [hff] at r
          conv => whnf
          (repeat' (first | ((refine DecB.mk (fun h => ?_) (fun h => ?_)) <;> first | (exfalso; omega) | (conv => whnf)) | ((refine BoolB.mk (fun h => ?_) (fun h => ?_)) <;> first | (exact absurd h (by decide)) | (conv => whnf)) | (refine ⟨_, wrap_ok (by omega) (by omega), ?_⟩; conv => whnf) | (refine and_idx (by omega) (by omega) ?_; conv => whnf) | (refine reg_ok (by decide +kernel) ?_; conv => whnf) | (refine bar_ok (by decide +kernel) (by decide +kernel) ?_; conv => whnf) | (refine late_ok rfl rfl ?_; conv => whnf) | (refine src_ok rfl ?_; conv => whnf) | (refine .inl ⟨_, _, qcall_pure (r) rfl rfl, ?_⟩; conv => whnf) | (refine ex_row hl ?_; conv => whnf) | (refine ex_row hf ?_; conv => whnf) | (refine LitB.data ?_; conv => whnf) | (refine BoxB.own ?_; conv => whnf)))
          all_goals first
            | (exfalso; omega)
            | exact ⟨hjt, by rw [all_take_succ hf, hJ, hff]; rfl, [], rfl, rfl, trivial, ⟨rfl, rfl, rfl, trivial⟩⟩
        | false =>
          rw [hff] at r
          conv => whnf
          (repeat' (first | ((refine DecB.mk (fun h => ?_) (fun h => ?_)) <;> first | (exfalso; omega) | (conv => whnf)) | ((refine BoolB.mk (fun h => ?_) (fun h => ?_)) <;> first | (exact absurd h (by decide)) | (conv => whnf)) | (refine ⟨_, wrap_ok (by omega) (by omega), ?_⟩; conv => whnf) | (refine and_idx (by omega) (by omega) ?_; conv => whnf) | (refine reg_ok (by decide +kernel) ?_; conv => whnf) | (refine bar_ok (by decide +kernel) (by decide +kernel) ?_; conv => whnf) | (refine late_ok rfl rfl ?_; conv => whnf) | (refine src_ok rfl ?_; conv => whnf) | (refine .inl ⟨_, _, qcall_pure (r) rfl rfl, ?_⟩; conv => whnf) | (refine ex_row hl ?_; conv => whnf) | (refine ex_row hf ?_; conv => whnf) | (refine LitB.data ?_; conv => whnf) | (refine BoxB.own ?_; conv => whnf)))
          all_goals first
            | (exfalso; omega)
            | (refine fin_bool ?_; rw [bad (by unfold fewL; rw [all_of_get hf hff, Bool.and_false])])
      · have hje : j = l.length := by omega
        subst hje
        have hlf : fewL l = true := by
          unfold fewL
          rw [all_take_full hJ]; simp; omega
        conv => whnf
        (repeat' (first | ((refine DecB.mk (fun h => ?_) (fun h => ?_)) <;> first | (exfalso; omega) | (conv => whnf)) | ((refine BoolB.mk (fun h => ?_) (fun h => ?_)) <;> first | (exact absurd h (by decide)) | (conv => whnf)) | (refine ⟨_, wrap_ok (by omega) (by omega), ?_⟩; conv => whnf) | (refine and_idx (by omega) (by omega) ?_; conv => whnf) | (refine reg_ok (by decide +kernel) ?_; conv => whnf) | (refine bar_ok (by decide +kernel) (by decide +kernel) ?_; conv => whnf) | (refine late_ok rfl rfl ?_; conv => whnf) | (refine src_ok rfl ?_; conv => whnf) | (refine ex_row hl ?_; conv => whnf) | (refine LitB.data ?_; conv => whnf) | (refine BoxB.own ?_; conv => whnf)))
        all_goals first
          | (exfalso; omega)
          | exact ⟨by omega, ⟨by omega, by rw [all_take_succ hl, hI, hlf]; rfl⟩, [], rfl, rfl, trivial, ⟨rfl, ent_i (by omega), trivial⟩⟩
  · have hk2 : hh.length = k ∨ k = 20 := by omega
    have hall : (hh.take 20).all fewL = true := by
      rcases hk2 with h | h
      · have e : hh.take 20 = hh.take k := by rw [List.take_of_length_le (by omega), List.take_of_length_le (by omega)]
        rw [e]; exact hI
      · rw [← h]; exact hI
    conv => whnf
    (repeat' (first | ((refine DecB.mk (fun h => ?_) (fun h => ?_)) <;> first | (exfalso; omega) | (conv => whnf)) | ((refine BoolB.mk (fun h => ?_) (fun h => ?_)) <;> first | (exact absurd h (by decide)) | (conv => whnf)) | (refine ⟨_, wrap_ok (by omega) (by omega), ?_⟩; conv => whnf) | (refine and_idx (by omega) (by omega) ?_; conv => whnf) | (refine reg_ok (by decide +kernel) ?_; conv => whnf) | (refine bar_ok (by decide +kernel) (by decide +kernel) ?_; conv => whnf) | (refine late_ok rfl rfl ?_; conv => whnf) | (refine src_ok rfl ?_; conv => whnf) | (refine LitB.data ?_; conv => whnf) | (refine BoxB.own ?_; conv => whnf)))
    all_goals first
      | (exfalso; omega)
      | (refine fin_bool ?_; unfold fewH; rw [hall]; simp; omega)
theorem few_small {hh : List (List Fr)} (h : fewH hh = true) : SmallH 3 hh ∧ hh.length ≤ 14 ∧ ∀ l ∈ hh, l.length ≤ 8 := by
  unfold fewH at h
  simp only [Bool.and_eq_true, decide_eq_true_eq] at h
  obtain ⟨h1, h2⟩ := h
  rw [List.take_of_length_le (by omega), List.all_eq_true] at h1
  have h3 : ∀ l ∈ hh, l.length ≤ 8 ∧ ∀ f ∈ l, f.p.dl.length ≤ 3 ∧ f.q.dl.length ≤ 3 := fun l hl => by
    have := h1 l hl
    unfold fewL at this
    simp only [Bool.and_eq_true, decide_eq_true_eq, List.all_eq_true] at this
    refine ⟨this.1, fun f hf => ?_⟩
    have := this.2 f hf
    unfold fewF at this
    simp only [Bool.and_eq_true, decide_eq_true_eq] at this
    omega
  exact ⟨⟨by omega, fun l hl => by have := (h3 l hl).1; omega, fun l hl => (h3 l hl).2⟩, h2, fun l hl => (h3 l hl).1⟩
theorem SmallH.mono {m n : Nat} {hh : List (List Fr)} (h : SmallH m hh) (hmn : m ≤ n) : SmallH n hh := ⟨h.l1, h.l2, fun l hl f hf => by have := h.l3 l hl f hf; omega⟩
theorem little_sized {e : Ev} (h : little e = true) : e.Sized := by
  unfold little at h
  simp only [Bool.and_eq_true, decide_eq_true_eq] at h
  exact ⟨by omega, by omega, by omega, by omega, by omega⟩
end Go.Proofs.Ytomfnfbijgjfeaa
/- The examples of law 21: example, grams, small; what is little. -/
namespace Go.Proofs.Ytomfnfbijgjfeaa
open Go.RowKit
set_option linter.unusedVariables false
set_option linter.unusedSimpArgs false
set_option maxRecDepth 100000

abbrev ir (n : Int) : Rat := ((n : Int) : Rat)
def exT21 : Trace := ⟨⟨1, 2, 1, [⟨0, 0, 0⟩, ⟨0, 1, 0⟩, ⟨1, -1, -1⟩, ⟨6, -1, -1⟩], [⟨1, 0, 2, 0, 100, false⟩, ⟨1, 1, 2, -1, 0, false⟩, ⟨2, 2, 3, -1, 0, true⟩], [⟨0, 0, 9, 10, 0, 0⟩], [], []⟩, [⟨2, 0, 150⟩], []⟩
def grams3 (a b c : Int) : List Fr := [fz (ir a), fz (ir b), fz (ir c)]
theorem a_grams21 (a b c : Int) (ha : -1000 ≤ a ∧ a ≤ 1000) (hb : -1000 ≤ b ∧ b ≤ 1000) (hc : -1000 ≤ c ∧ c ≤ 1000) :
    ACall Try.prog 39 [intS .i64 a, intS .i64 b, intS .i64 c] [] (fracsS (grams3 a b c)) [] := by
  have i1 := r5Int a (by omega) (by omega)
  have i2 := r5Int b (by omega) (by omega)
  have i3 := r5Int c (by omega) (by omega)
  (refine acall_of tab_ok Try.func39 rfl (by decide) ?_; (conv => whnf); repeat (first | (refine LitB.data ?_; conv => whnf) | (refine BoxB.own ?_; conv => whnf)))
  (repeat' (first | ((refine DecB.mk (fun h => ?_) (fun h => ?_)) <;> first | (exfalso; omega) | (conv => whnf)) | ((refine BoolB.mk (fun h => ?_) (fun h => ?_)) <;> first | (exact absurd h (by decide)) | (conv => whnf)) | (refine ⟨_, wrap_ok (by omega) (by omega), ?_⟩; conv => whnf) | (refine and_idx (by omega) (by omega) ?_; conv => whnf) | (refine reg_ok (by decide +kernel) ?_; conv => whnf) | (refine bar_ok (by decide +kernel) (by decide +kernel) ?_; conv => whnf) | (refine late_ok rfl rfl ?_; conv => whnf) | (refine src_ok rfl ?_; conv => whnf) | (refine .inl ⟨_, _, qcall_pure (i1) rfl rfl, ?_⟩; conv => whnf) | (refine .inl ⟨_, _, qcall_pure (i2) rfl rfl, ?_⟩; conv => whnf) | (refine .inl ⟨_, _, qcall_pure (i3) rfl rfl, ?_⟩; conv => whnf) | (refine LitB.weak ?_; conv => whnf) | (refine LitB.data ?_; conv => whnf) | (refine BoxB.own ?_; conv => whnf)))
  exact fin_t rfl
theorem a_example21 : ACall Try.prog 37 [] [] (trS exT21) [] := by
  (refine acall_of tab_ok Try.func37 rfl (by decide) ?_; (conv => whnf); repeat (first | (refine LitB.data ?_; conv => whnf) | (refine BoxB.own ?_; conv => whnf)))
  (repeat' (first | ((refine DecB.mk (fun h => ?_) (fun h => ?_)) <;> first | (exfalso; omega) | (conv => whnf)) | ((refine BoolB.mk (fun h => ?_) (fun h => ?_)) <;> first | (exact absurd h (by decide)) | (conv => whnf)) | (refine ⟨_, wrap_ok (by omega) (by omega), ?_⟩; conv => whnf) | (refine and_idx (by omega) (by omega) ?_; conv => whnf) | (refine reg_ok (by decide +kernel) ?_; conv => whnf) | (refine bar_ok (by decide +kernel) (by decide +kernel) ?_; conv => whnf) | (refine late_ok rfl rfl ?_; conv => whnf) | (refine src_ok rfl ?_; conv => whnf) | (refine LitB.weak ?_; conv => whnf) | (refine LitB.data ?_; conv => whnf) | (refine BoxB.own ?_; conv => whnf)))
  exact fin_t ⟨rfl, rfl, rfl, rfl, rfl, rfl, rfl, rfl, rfl, rfl, trivial⟩
theorem ex21_sized : exT21.Sized := ⟨⟨by simp [exT21], by simp [exT21], by simp [exT21], by simp [exT21], by simp [exT21]⟩, by simp [exT21], by simp [exT21]⟩
theorem a_Short9 (f : Fr) : ACall Try.prog 55 [frS f] [] (boolS (fewF 6 f)) [] := by
  have l1 : (f.p.dl.map intRow).length = f.p.dl.length := by simp
  have l2 : (f.q.dl.map intRow).length = f.q.dl.length := by simp
  (refine acall_of tab_ok Try.func55 rfl (by decide) ?_; (conv => whnf); repeat (first | (refine LitB.data ?_; conv => whnf) | (refine BoxB.data ?_; conv => whnf)))
  (repeat' (first | ((refine DecB.mk (fun h => ?_) (fun h => ?_)) <;> first | (exfalso; omega) | (conv => whnf)) | ((refine BoolB.mk (fun h => ?_) (fun h => ?_)) <;> first | (exact absurd h (by decide)) | (conv => whnf)) | (refine ⟨_, wrap_ok (by omega) (by omega), ?_⟩; conv => whnf) | (refine and_idx (by omega) (by omega) ?_; conv => whnf) | (refine reg_ok (by decide +kernel) ?_; conv => whnf) | (refine bar_ok (by decide +kernel) (by decide +kernel) ?_; conv => whnf) | (refine late_ok rfl rfl ?_; conv => whnf) | (refine src_ok rfl ?_; conv => whnf) | (refine LitB.data ?_; conv => whnf) | (refine BoxB.own ?_; conv => whnf)))
  all_goals (refine fin_bool ?_; unfold fewF; simp; omega)
def shortsB (l : List Fr) (n : Nat) : Bool := (l.take (n + 1)).all (fewF 6) && decide (l.length ≤ n)
theorem a_Shorts9 (l : List Fr) (n : Nat) (hn : n ≤ 1000) : ACall Try.prog 18 [fracsS l, intS .i64 n] [] (boolS (shortsB l n)) [] := by
  have m1 : (l.map frRow).length = l.length := by simp
  (refine acall_of tab_ok Try.func18 rfl (by decide) ?_; (conv => whnf); repeat (first | (refine LitB.data ?_; conv => whnf) | (refine BoxB.data ?_; conv => whnf)))
  (repeat' (first | ((refine DecB.mk (fun h => ?_) (fun h => ?_)) <;> first | (exfalso; omega) | (conv => whnf)) | ((refine BoolB.mk (fun h => ?_) (fun h => ?_)) <;> first | (exact absurd h (by decide)) | (conv => whnf)) | (refine ⟨_, wrap_ok (by omega) (by omega), ?_⟩; conv => whnf) | (refine and_idx (by omega) (by omega) ?_; conv => whnf) | (refine reg_ok (by decide +kernel) ?_; conv => whnf) | (refine bar_ok (by decide +kernel) (by decide +kernel) ?_; conv => whnf) | (refine late_ok rfl rfl ?_; conv => whnf) | (refine src_ok rfl ?_; conv => whnf) | (refine LitB.data ?_; conv => whnf) | (refine BoxB.own ?_; conv => whnf)))
  refine awp_for tab_ok (fun k => ([fracsS l, intS .i64 n, S.junk, S.junk, S.junk, intS .i64 k, S.junk, S.junk, S.junk, S.junk, S.junk, S.junk, S.junk, S.junk, S.junk, S.junk, S.junk, S.junk, S.junk, S.junk, S.junk, S.junk, S.junk, S.junk, S.junk, S.junk, S.junk], [])) (n + 1) (fun k => k ≤ l.length ∧ (l.take k).all (fewF 6) = true) [] ⟨Nat.zero_le _, rfl⟩
    ⟨rfl, rfl, trivial, ⟨rfl, rfl, rfl, trivial⟩⟩ ?_
  rintro k hk ⟨hle, hI⟩
  by_cases hlt : k < l.length ∧ k < n + 1
  · obtain ⟨f, hf⟩ : ∃ f, l[k]? = some f := ⟨_, List.getElem?_eq_getElem hlt.1⟩
    have hf2 : (l.take (n + 1))[k]? = some f := by rw [List.getElem?_take, if_pos hlt.2]; exact hf
    have r := a_Short9 f
    cases hff : fewF 6 f with
    | true =>
      rw [hff] at r
      conv => whnf
      (repeat' (first | ((refine DecB.mk (fun h => ?_) (fun h => ?_)) <;> first | (exfalso; omega) | (conv => whnf)) | ((refine BoolB.mk (fun h => ?_) (fun h => ?_)) <;> first | (exact absurd h (by decide)) | (conv => whnf)) | (refine ⟨_, wrap_ok (by omega) (by omega), ?_⟩; conv => whnf) | (refine and_idx (by omega) (by omega) ?_; conv => whnf) | (refine reg_ok (by decide +kernel) ?_; conv => whnf) | (refine bar_ok (by decide +kernel) (by decide +kernel) ?_; conv => whnf) | (refine late_ok rfl rfl ?_; conv => whnf) | (refine src_ok rfl ?_; conv => whnf) | (refine .inl ⟨_, _, qcall_pure (r) rfl rfl, ?_⟩; conv => whnf) | (refine ex_row hf ?_; conv => whnf) | (refine LitB.data ?_; conv => whnf) | (refine BoxB.own ?_; conv => whnf)))
      all_goals first
        | (exfalso; omega)
        | exact ⟨hlt.2, ⟨by omega, by rw [all_take_succ hf, hI, hff]; rfl⟩, [], rfl, rfl, trivial, ⟨rfl, rfl, rfl, trivial⟩⟩
    | false =>
      rw [hff] at r
      have e1 : shortsB l n = false := by unfold shortsB; rw [all_of_get hf2 hff]; rfl
      rw [e1]
      conv => whnf
      (repeat' (first | ((refine DecB.mk (fun h => ?_) (fun h => ?_)) <;> first | (exfalso; omega) | (conv => whnf)) | ((refine BoolB.mk (fun h => ?_) (fun h => ?_)) <;> first | (exact absurd h (by decide)) | (conv => whnf)) | (refine ⟨_, wrap_ok (by omega) (by omega), ?_⟩; conv => whnf) | (refine and_idx (by omega) (by omega) ?_; conv => whnf) | (refine reg_ok (by decide +kernel) ?_; conv => whnf) | (refine bar_ok (by decide +kernel) (by decide +kernel) ?_; conv => whnf) | (refine late_ok rfl rfl ?_; conv => whnf) | (refine src_ok rfl ?_; conv => whnf) | (refine .inl ⟨_, _, qcall_pure (r) rfl rfl, ?_⟩; conv => whnf) | (refine ex_row hf ?_; conv => whnf) | (refine LitB.data ?_; conv => whnf) | (refine BoxB.own ?_; conv => whnf)))
      all_goals first
        | (exfalso; omega)
        | exact fin_bool rfl
  · have hk2 : l.length = k ∨ k = n + 1 := by omega
    have hall : (l.take (n + 1)).all (fewF 6) = true := by
      rcases hk2 with h | h
      · have e : l.take (n + 1) = l.take k := by rw [List.take_of_length_le (by omega), List.take_of_length_le (by omega)]
        rw [e]; exact hI
      · rw [← h]; exact hI
    conv => whnf
    (repeat' (first | ((refine DecB.mk (fun h => ?_) (fun h => ?_)) <;> first | (exfalso; omega) | (conv => whnf)) | ((refine BoolB.mk (fun h => ?_) (fun h => ?_)) <;> first | (exact absurd h (by decide)) | (conv => whnf)) | (refine ⟨_, wrap_ok (by omega) (by omega), ?_⟩; conv => whnf) | (refine and_idx (by omega) (by omega) ?_; conv => whnf) | (refine reg_ok (by decide +kernel) ?_; conv => whnf) | (refine bar_ok (by decide +kernel) (by decide +kernel) ?_; conv => whnf) | (refine late_ok rfl rfl ?_; conv => whnf) | (refine src_ok rfl ?_; conv => whnf) | (refine LitB.data ?_; conv => whnf) | (refine BoxB.own ?_; conv => whnf)))
    all_goals first
      | (exfalso; omega)
      | (refine fin_bool ?_; unfold shortsB; rw [hall]; simp; omega)
def littleT (t : Trace) : Bool := little t.ev && decide (t.finds.length ≤ 10) && decide (t.cleans.length ≤ 10)
theorem a_LittleT (t : Trace) : ACall Try.prog 27 [trS t] [] (boolS (littleT t)) [] := by
  have r := a_Little t.ev
  have m1 : (t.finds.map Find.row).length = t.finds.length := by simp
  have m2 : (t.cleans.map Clean.row).length = t.cleans.length := by simp
  cases hq : little t.ev <;> rw [hq] at r <;>
  · (refine acall_of tab_ok Try.func27 rfl (by decide) ?_; (conv => whnf); repeat (first | (refine LitB.data ?_; conv => whnf) | (refine BoxB.data ?_; conv => whnf)))
    (repeat' (first | ((refine DecB.mk (fun h => ?_) (fun h => ?_)) <;> first | (exfalso; omega) | (conv => whnf)) | ((refine BoolB.mk (fun h => ?_) (fun h => ?_)) <;> first | (exact absurd h (by decide)) | (conv => whnf)) | (refine ⟨_, wrap_ok (by omega) (by omega), ?_⟩; conv => whnf) | (refine and_idx (by omega) (by omega) ?_; conv => whnf) | (refine reg_ok (by decide +kernel) ?_; conv => whnf) | (refine bar_ok (by decide +kernel) (by decide +kernel) ?_; conv => whnf) | (refine late_ok rfl rfl ?_; conv => whnf) | (refine src_ok rfl ?_; conv => whnf) | (refine .inl ⟨_, _, qcall_pure (r) rfl rfl, ?_⟩; conv => whnf) | (refine LitB.data ?_; conv => whnf) | (refine BoxB.own ?_; conv => whnf)))
    all_goals (refine fin_bool ?_; unfold littleT; rw [hq]; simp; try omega)
def fewT (t : Trace) (z : List Fr) : Bool := littleT t && shortsB z 14
theorem a_few21 (t : Trace) (z : List Fr) : ACall Try.prog 10 [trS t, fracsS z] [] (boolS (fewT t z)) [] := by
  have r1 := a_LittleT t
  have r2 := a_Shorts9 z 14 (by decide)
  cases h1 : littleT t <;> cases h2 : shortsB z 14 <;> rw [h1] at r1 <;> rw [h2] at r2 <;>
  · (refine acall_of tab_ok Try.func10 rfl (by decide) ?_; (conv => whnf); repeat (first | (refine LitB.data ?_; conv => whnf) | (refine BoxB.data ?_; conv => whnf)))
    (repeat' (first | ((refine DecB.mk (fun h => ?_) (fun h => ?_)) <;> first | (exfalso; omega) | (conv => whnf)) | ((refine BoolB.mk (fun h => ?_) (fun h => ?_)) <;> first | (exact absurd h (by decide)) | (conv => whnf)) | (refine ⟨_, wrap_ok (by omega) (by omega), ?_⟩; conv => whnf) | (refine and_idx (by omega) (by omega) ?_; conv => whnf) | (refine reg_ok (by decide +kernel) ?_; conv => whnf) | (refine bar_ok (by decide +kernel) (by decide +kernel) ?_; conv => whnf) | (refine late_ok rfl rfl ?_; conv => whnf) | (refine src_ok rfl ?_; conv => whnf) | (refine .inl ⟨_, _, qcall_pure (r1) rfl rfl, ?_⟩; conv => whnf) | (refine .inl ⟨_, _, qcall_pure (r2) rfl rfl, ?_⟩; conv => whnf) | (refine LitB.data ?_; conv => whnf) | (refine BoxB.own ?_; conv => whnf)))
    all_goals first
      | (exfalso; simp_all; done)
      | (refine fin_bool ?_; unfold fewT; rw [h1, h2]; rfl)
theorem littleT_sized {t : Trace} (h : littleT t = true) : t.Sized ∧ t.ev.moves.length ≤ 14 ∧ t.ev.recalls.length ≤ 10 ∧ t.finds.length ≤ 10 ∧ t.cleans.length ≤ 10 := by
  unfold littleT at h
  simp only [Bool.and_eq_true, decide_eq_true_eq] at h
  have h1 := h.1.1
  unfold little at h1
  simp only [Bool.and_eq_true, decide_eq_true_eq] at h1
  exact ⟨⟨little_sized h.1.1, by omega, by omega⟩, by omega, by omega, by omega, by omega⟩
theorem shorts_small {z : List Fr} {n : Nat} (h : shortsB z n = true) : z.length ≤ n ∧ ∀ f ∈ z, f.p.dl.length ≤ 6 ∧ f.q.dl.length ≤ 6 := by
  unfold shortsB at h
  simp only [Bool.and_eq_true, decide_eq_true_eq] at h
  obtain ⟨h1, h2⟩ := h
  rw [List.take_of_length_le (by omega), List.all_eq_true] at h1
  refine ⟨h2, fun f hf => ?_⟩
  have := h1 f hf
  unfold fewF at this
  simp only [Bool.and_eq_true, decide_eq_true_eq] at this
  omega
theorem rl_ir {n : Int} (h : -1000 ≤ n ∧ n ≤ 1000) : rl (ir n) ≤ 1 := by rw [rl_int]; have := bl_small (x := n) (by omega) (by omega); omega
theorem fz_lenI {n : Int} (h : -1000 ≤ n ∧ n ≤ 1000) {m : Nat} (hm : 1 ≤ m) : (fz (ir n)).p.dl.length ≤ m ∧ (fz (ir n)).q.dl.length ≤ m := by
  have h3 := rl_ir h
  have h4 := rl_num (ir n)
  have h5 := rl_den (ir n)
  exact ⟨show bl (ir n).num ≤ m by omega, show bl (ir n).den ≤ m by omega⟩
theorem ex21_m (kind a b c : Int) (v : Int) (h : matterE exT21 kind (grams3 a b c) = v) (ha : -1000 ≤ a ∧ a ≤ 1000) (hb : -1000 ≤ b ∧ b ≤ 1000) (hc : -1000 ≤ c ∧ c ≤ 1000) :
    ACall Try.prog 11 [trS exT21, intS .i64 kind, fracsS (grams3 a b c)] [] (intS .i64 v) [] := by
  have := a_Matter exT21 kind (grams3 a b c) ex21_sized (by simp [grams3]) (by
    intro f hf
    simp only [grams3, List.mem_cons, List.not_mem_nil, or_false] at hf
    rcases hf with rfl | rfl | rfl
    · exact fz_lenI ha (by decide)
    · exact fz_lenI hb (by decide)
    · exact fz_lenI hc (by decide))
  rw [h] at this
  exact this
instance : DecidableEq RowP := fun a b => decidable_of_iff (a.terms = b.terms ∧ a.kind = b.kind ∧ a.value = b.value) ⟨fun ⟨h1, h2, h3⟩ => by cases a; cases b; simp_all, fun h => by subst h; exact ⟨rfl, rfl, rfl⟩⟩
instance : DecidableEq SysP := fun a b => decidable_of_iff (a.n = b.n ∧ a.rows = b.rows) ⟨fun ⟨h1, h2⟩ => by cases a; cases b; simp_all, fun h => by subst h; exact ⟨rfl, rfl⟩⟩
def exS21 : SysP := ⟨3, [⟨[((0 : Int), ir 1)], 1, ir 110⟩, ⟨[((0 : Int), ir 1), ((1 : Int), ir 1), ((2 : Int), ir (-1))], 2, ir 0⟩, ⟨[((2 : Int), ir 1)], 0, ir 150⟩]⟩
theorem ex21_sys : sysR exT21 0 = exS21 := by decide +kernel
theorem ex21_e0 : sysE exT21 0 = 0 := by decide +kernel
theorem ex21_e8 : sysE exT21 8 = 1 := by decide +kernel
theorem ex21_t : traceE exT21 = 0 := by decide +kernel
set_option maxHeartbeats 4000000 in
theorem a_small21 : ACall Try.prog 9 [] [] (boolS true) [] := by
  have s1 := a_System exT21 0 ex21_sized
  rw [ex21_sys, ex21_e0] at s1
  have s2 := a_System exT21 8 ex21_sized
  rw [ex21_e8] at s2
  have ck := a_TCheck exT21 ex21_sized
  rw [ex21_t] at ck
  have g1 := a_grams21 100 50 150 (by decide) (by decide) (by decide)
  have g2 := a_grams21 150 0 150 (by decide) (by decide) (by decide)
  have g3 := a_grams21 40 40 80 (by decide) (by decide) (by decide)
  have g4 := a_grams21 100 50 140 (by decide) (by decide) (by decide)
  have g5 := a_grams21 100 40 150 (by decide) (by decide) (by decide)
  have g6 := a_grams21 0 0 0 (by decide) (by decide) (by decide)
  have c1 := ex21_m 0 100 50 150 0 (by decide +kernel) (by decide) (by decide) (by decide)
  have c2 := ex21_m 0 150 0 150 20 (by decide +kernel) (by decide) (by decide) (by decide)
  have c3 := ex21_m 0 40 40 80 24 (by decide +kernel) (by decide) (by decide) (by decide)
  have c4 := ex21_m 0 100 50 140 7 (by decide +kernel) (by decide) (by decide) (by decide)
  have c5 := ex21_m 0 100 40 150 4 (by decide +kernel) (by decide) (by decide) (by decide)
  have c6 := ex21_m 1 0 0 0 0 (by decide +kernel) (by decide) (by decide) (by decide)
  have i1 := r5Int 110 (by decide) (by decide)
  have i2 := r5Int 150 (by decide) (by decide)
  have f1 := a_SameF (fz (ir 110)) (fz_lenI (by decide) (by decide)).1 (fz_lenI (by decide) (by decide)).2
  have f2 := a_SameF (fz (ir 150)) (fz_lenI (by decide) (by decide)).1 (fz_lenI (by decide) (by decide)).2
  (refine acall_of tab_ok Try.func9 rfl (by decide) ?_; (conv => whnf); repeat (first | (refine LitB.data ?_; conv => whnf) | (refine BoxB.own ?_; conv => whnf)))
  (repeat' (first | ((refine DecB.mk (fun h => ?_) (fun h => ?_)) <;> first | (exfalso; omega) | (conv => whnf)) | ((refine BoolB.mk (fun h => ?_) (fun h => ?_)) <;> first | (exact absurd h (by decide)) | (conv => whnf)) | (refine ⟨_, wrap_ok (by omega) (by omega), ?_⟩; conv => whnf) | (refine and_idx (by omega) (by omega) ?_; conv => whnf) | (refine reg_ok (by decide +kernel) ?_; conv => whnf) | (refine bar_ok (by decide +kernel) (by decide +kernel) ?_; conv => whnf) | (refine late_ok rfl rfl ?_; conv => whnf) | (refine src_ok rfl ?_; conv => whnf) | (refine .inl ⟨_, _, qcall_pure (a_example21) rfl rfl, ?_⟩; conv => whnf) | (refine .inl ⟨_, _, qcall_pure (s1) rfl rfl, ?_⟩; conv => whnf) | (refine .inl ⟨_, _, qcall_pure (s2) rfl rfl, ?_⟩; conv => whnf) | (refine .inl ⟨_, _, qcall_pure (ck) rfl rfl, ?_⟩; conv => whnf) | (refine .inl ⟨_, _, qcall_pure (g1) rfl rfl, ?_⟩; conv => whnf) | (refine .inl ⟨_, _, qcall_pure (g2) rfl rfl, ?_⟩; conv => whnf) | (refine .inl ⟨_, _, qcall_pure (g3) rfl rfl, ?_⟩; conv => whnf) | (refine .inl ⟨_, _, qcall_pure (g4) rfl rfl, ?_⟩; conv => whnf) | (refine .inl ⟨_, _, qcall_pure (g5) rfl rfl, ?_⟩; conv => whnf) | (refine .inl ⟨_, _, qcall_pure (g6) rfl rfl, ?_⟩; conv => whnf) | (refine .inl ⟨_, _, qcall_pure (c1) rfl rfl, ?_⟩; conv => whnf) | (refine .inl ⟨_, _, qcall_pure (c2) rfl rfl, ?_⟩; conv => whnf) | (refine .inl ⟨_, _, qcall_pure (c3) rfl rfl, ?_⟩; conv => whnf) | (refine .inl ⟨_, _, qcall_pure (c4) rfl rfl, ?_⟩; conv => whnf) | (refine .inl ⟨_, _, qcall_pure (c5) rfl rfl, ?_⟩; conv => whnf) | (refine .inl ⟨_, _, qcall_pure (c6) rfl rfl, ?_⟩; conv => whnf) | (refine .inl ⟨_, _, qcall_pure (i1) rfl rfl, ?_⟩; conv => whnf) | (refine .inl ⟨_, _, qcall_pure (i2) rfl rfl, ?_⟩; conv => whnf) | (refine .inl ⟨_, _, qcall_pure (f1) rfl rfl, ?_⟩; conv => whnf) | (refine .inl ⟨_, _, qcall_pure (f2) rfl rfl, ?_⟩; conv => whnf) | (refine .inl ⟨_, _, qcall_pure (4) rfl rfl, ?_⟩; conv => whnf) | (refine bar_late [4] (by decide +kernel) (by decide +kernel) ?_; conv => whnf) | (refine ex_row (xs := exS21.rows) (k := 0) rfl ?_; conv => whnf) | (refine ex_row (xs := exS21.rows) (k := 1) rfl ?_; conv => whnf) | (refine ex_row (xs := exS21.rows) (k := 2) rfl ?_; conv => whnf) | (refine LitB.data ?_; conv => whnf) | (refine BoxB.own ?_; conv => whnf)))
  all_goals first
    | (exfalso; exact h rfl)
    | (exfalso; exact absurd h (by decide))
    | exact fin_bool rfl
    | (exfalso; clear s1 s2 ck g1 g2 g3 g4 g5 g6 c1 c2 c3 c4 c5 c6 i1 i2 f1 f2; simp_all [exS21]; done)
end Go.Proofs.Ytomfnfbijgjfeaa
/- TaintHolds: its walk. -/
namespace Go.Proofs.Ytomfnfbijgjfeaa
open Go.RowKit
set_option linter.unusedVariables false
set_option linter.unusedSimpArgs false
set_option maxRecDepth 100000

theorem rl_pm1 : rl ((1 : Int) : Rat) ≤ 200 ∧ rl ((-1 : Int) : Rat) ≤ 200 ∧ rl ((0 : Int) : Rat) ≤ 200 := by
  refine ⟨?_, ?_, ?_⟩
  · have := rl_ir (n := 1) (by decide); unfold ir at this; omega
  · have := rl_ir (n := -1) (by decide); unfold ir at this; omega
  · have := rl_ir (n := 0) (by decide); unfold ir at this; omega
def rowSm (w : RowP) : Bool := decide (w.terms.length ≤ 100) && w.terms.all (fun t => decide (rl t.2 ≤ 200)) && decide (rl w.value ≤ 200)
theorem termsTo_sm {e : Ev} {p : Int} : ∀ k, (termsTo e p k).all (fun t => decide (rl t.2 ≤ 200)) = true
  | 0 => rfl
  | k + 1 => by
    have ih := termsTo_sm (e := e) (p := p) k
    unfold termsTo
    obtain ⟨p1, p2, p3⟩ := rl_pm1
    split
    · exact ih
    · split
      · rw [List.all_append, ih]; simpa using p1
      · split
        · rw [List.all_append, ih]; simpa using p2
        · exact ih
theorem one_sm {i : Nat} {kind : Int} {v : Rat} (h : rl v ≤ 200) : rowSm (oneRow i kind v) = true := by
  obtain ⟨p1, p2, p3⟩ := rl_pm1
  unfold rowSm oneRow
  simp [h]; simpa using p1
theorem move_sm {t : Trace} {kind : Int} {i : Nat} {x : Move} (hx : t.ev.moves[i]? = some x) (hf : findsE t.ev t.finds = 0) (hm : t.ev.moves.length ≤ 14) : (moveRows t kind i x).all rowSm = true := by
  obtain ⟨p1, p2, p3⟩ := rl_pm1
  have hi : i < t.ev.moves.length := (List.getElem?_eq_some_iff.1 hx).1
  unfold moveRows
  rw [List.all_append, List.all_append, List.all_append]
  simp only [Bool.and_eq_true]
  refine ⟨⟨⟨?_, ?_⟩, ?_⟩, ?_⟩
  · split
    · rfl
    · simp only [List.all_cons, List.all_nil, Bool.and_true]
      unfold rowSm stockRow
      simp only [Bool.and_eq_true, decide_eq_true_eq]
      have hl := termsTo_len (e := t.ev) (p := x.src) i
      refine ⟨⟨?_, ?_⟩, p3⟩
      · rw [List.length_append]; simp; omega
      · rw [List.all_append, termsTo_sm]; simpa using p2
  · unfold capRows
    split
    · rfl
    · rename_i lo hi' hiv
      have h := hiF_some (e := t.ev) (x := x) (by rw [hiv]; rfl)
      have e : hiR (ivOf t.ev x) = hi' := by rw [hiv]; rfl
      rw [e] at h
      simpa using one_sm h.2
  · rw [List.all_map, List.all_eq_true]
    intro g hg
    unfold gramsOf at hg
    obtain ⟨f, hf', rfl⟩ := List.mem_map.1 hg
    have := findsE_get hf f (List.mem_filter.1 hf').1
    have hb := bl_int (x := f.grams) (by omega) (by omega)
    exact one_sm (by rw [rl_int]; omega)
  · rw [List.all_eq_true]
    intro w hw
    rw [List.mem_replicate] at hw
    rw [hw.2]
    exact one_sm p3
theorem sys_B {t : Trace} {kind : Int} (ht : traceE t = 0) (hm : t.ev.moves.length ≤ 14) : SysB (sysOf t kind) := by
  obtain ⟨q1, q2, q3, q4, q5⟩ := traceE_zero ht
  have hall : (sysRows t kind t.ev.moves.length).all rowSm = true := (sysRows_all _ (Nat.le_refl _)).2 fun i x hi hx => move_sm hx q4 hm
  refine ⟨?_, fun w hw => ?_⟩
  · have := rowsTo_len (t := t) (kind := kind) (k := t.ev.moves.length) (by omega) q2 q3
    show (sysRows t kind t.ev.moves.length).length ≤ _
    omega
  · have := List.all_eq_true.1 hall w hw
    unfold rowSm at this
    simp only [Bool.and_eq_true, decide_eq_true_eq, List.all_eq_true] at this
    exact ⟨this.1.1, this.1.2, this.2⟩
theorem sol_matter {t : Trace} {kind : Int} {z : List Fr} (ht : traceE t = 0) (k0 : 0 ≤ kind) (k1 : kind < 8) (hm : t.ev.moves.length ≤ 14) : solB (sysOf t kind) z = true ↔ matterE t kind z = 0 := by
  rw [matter_zero]
  unfold solB
  simp only [Bool.and_eq_true]
  constructor
  · rintro ⟨h1, h2⟩
    obtain ⟨Z, rfl⟩ := right_rats h1
    rw [fv_map] at h2
    exact ⟨Z, rfl, (sys_holds ht k0 k1 hm).1 h2⟩
  · rintro ⟨Z, rfl, h⟩
    refine ⟨List.all_eq_true.2 fun f hf => by obtain ⟨x, _, rfl⟩ := List.mem_map.1 hf; exact fz_right x, ?_⟩
    rw [fv_map]; exact (sys_holds ht k0 k1 hm).2 h
set_option maxHeartbeats 4000000 in
theorem a_TaintHolds (t : Trace) (kind : Int) (z : List Fr) : ACall Try.prog 6 [trS t, intS .i64 kind, fracsS z] [] (boolS true) [] := by
  have sm := a_small21
  have fw := a_few21 t z
  have m2 : (t.ev.moves.map Move.row).length = t.ev.moves.length := by simp
  cases hf : fewT t z with
  | false =>
    rw [hf] at fw
    (refine acall_of tab_ok Try.func6 rfl (by decide) ?_; (conv => whnf); repeat (first | (refine LitB.data ?_; conv => whnf) | (refine BoxB.data ?_; conv => whnf)))
    (repeat' (first | ((refine DecB.mk (fun h => ?_) (fun h => ?_)) <;> first | (exfalso; omega) | (conv => whnf)) | ((refine BoolB.mk (fun h => ?_) (fun h => ?_)) <;> first | (exact absurd h (by decide)) | (conv => whnf)) | (refine ⟨_, wrap_ok (by omega) (by omega), ?_⟩; conv => whnf) | (refine and_idx (by omega) (by omega) ?_; conv => whnf) | (refine reg_ok (by decide +kernel) ?_; conv => whnf) | (refine bar_ok (by decide +kernel) (by decide +kernel) ?_; conv => whnf) | (refine late_ok rfl rfl ?_; conv => whnf) | (refine src_ok rfl ?_; conv => whnf) | (refine .inl ⟨_, _, qcall_pure (sm) rfl rfl, ?_⟩; conv => whnf) | (refine .inl ⟨_, _, qcall_pure (fw) rfl rfl, ?_⟩; conv => whnf) | (refine LitB.data ?_; conv => whnf) | (refine BoxB.own ?_; conv => whnf)))
    all_goals first
      | (exfalso; omega)
      | exact fin_bool rfl
  | true =>
    rw [hf] at fw
    unfold fewT at hf
    simp only [Bool.and_eq_true] at hf
    obtain ⟨hs, l1, l2, l3, l4⟩ := littleT_sized hf.1
    obtain ⟨z1, z2⟩ := shorts_small hf.2
    have sy := a_System t kind hs
    have ma := a_Matter t kind z hs (by omega) (fun f hf => by have := z2 f hf; omega)
    by_cases h1 : traceE t ≠ 0 ∨ kind < 0 ∨ 8 ≤ kind
    · have e1 : sysE t kind = 1 := by unfold sysE; rw [if_pos h1]
      have e2 : matterE t kind z = 1 := by unfold matterE; rw [if_pos h1]
      rw [e1] at sy
      rw [e2] at ma
      (refine acall_of tab_ok Try.func6 rfl (by decide) ?_; (conv => whnf); repeat (first | (refine LitB.data ?_; conv => whnf) | (refine BoxB.data ?_; conv => whnf)))
      (repeat' (first | ((refine DecB.mk (fun h => ?_) (fun h => ?_)) <;> first | (exfalso; omega) | (conv => whnf)) | ((refine BoolB.mk (fun h => ?_) (fun h => ?_)) <;> first | (exact absurd h (by decide)) | (conv => whnf)) | (refine ⟨_, wrap_ok (by omega) (by omega), ?_⟩; conv => whnf) | (refine and_idx (by omega) (by omega) ?_; conv => whnf) | (refine reg_ok (by decide +kernel) ?_; conv => whnf) | (refine bar_ok (by decide +kernel) (by decide +kernel) ?_; conv => whnf) | (refine late_ok rfl rfl ?_; conv => whnf) | (refine src_ok rfl ?_; conv => whnf) | (refine .inl ⟨_, _, qcall_pure (sm) rfl rfl, ?_⟩; conv => whnf) | (refine .inl ⟨_, _, qcall_pure (fw) rfl rfl, ?_⟩; conv => whnf) | (refine .inl ⟨_, _, qcall_pure (sy) rfl rfl, ?_⟩; conv => whnf) | (refine .inl ⟨_, _, qcall_pure (ma) rfl rfl, ?_⟩; conv => whnf) | (refine .inl ⟨_, _, qcall_pure (4) rfl rfl, ?_⟩; conv => whnf) | (refine bar_late [4] (by decide +kernel) (by decide +kernel) ?_; conv => whnf) | (refine LitB.data ?_; conv => whnf) | (refine BoxB.own ?_; conv => whnf)))
      all_goals first
        | (exfalso; omega)
        | exact fin_bool rfl
    · have e1 : sysE t kind = 0 := by unfold sysE; rw [if_neg h1]
      have e2 : sysR t kind = sysOf t kind := by unfold sysR; rw [if_neg h1]
      obtain ⟨k1, k2, k3⟩ : traceE t = 0 ∧ 0 ≤ kind ∧ kind < 8 := by omega
      rw [e1, e2] at sy
      obtain ⟨q1, q2, q3, q4, q5⟩ := traceE_zero k1
      have hB := sys_B (kind := kind) k1 l1
      have hr := sys_right (kind := kind) l1 q2 q3
      have lr := a_LRight (sysOf t kind) hB
      rw [hr] at lr
      have lh := a_Holds (sysOf t kind) hB hr z (by omega) (fun f hf => by have := z2 f hf; omega)
      have key := sol_matter (z := z) k1 k2 k3 l1
      have hn : (sysOf t kind).n = t.ev.moves.length := rfl
      cases hsb : solB (sysOf t kind) z with
      | true =>
        rw [hsb] at lh
        rw [key.1 hsb] at ma
        (refine acall_of tab_ok Try.func6 rfl (by decide) ?_; (conv => whnf); repeat (first | (refine LitB.data ?_; conv => whnf) | (refine BoxB.data ?_; conv => whnf)))
        (repeat' (first | ((refine DecB.mk (fun h => ?_) (fun h => ?_)) <;> first | (exfalso; omega) | (conv => whnf)) | ((refine BoolB.mk (fun h => ?_) (fun h => ?_)) <;> first | (exact absurd h (by decide)) | (conv => whnf)) | (refine ⟨_, wrap_ok (by omega) (by omega), ?_⟩; conv => whnf) | (refine and_idx (by omega) (by omega) ?_; conv => whnf) | (refine reg_ok (by decide +kernel) ?_; conv => whnf) | (refine bar_ok (by decide +kernel) (by decide +kernel) ?_; conv => whnf) | (refine late_ok rfl rfl ?_; conv => whnf) | (refine src_ok rfl ?_; conv => whnf) | (refine .inl ⟨_, _, qcall_pure (sm) rfl rfl, ?_⟩; conv => whnf) | (refine .inl ⟨_, _, qcall_pure (fw) rfl rfl, ?_⟩; conv => whnf) | (refine .inl ⟨_, _, qcall_pure (sy) rfl rfl, ?_⟩; conv => whnf) | (refine .inl ⟨_, _, qcall_pure (ma) rfl rfl, ?_⟩; conv => whnf) | (refine .inl ⟨_, _, qcall_pure (lr) rfl rfl, ?_⟩; conv => whnf) | (refine .inl ⟨_, _, qcall_pure (lh) rfl rfl, ?_⟩; conv => whnf) | (refine .inl ⟨_, _, qcall_pure (4) rfl rfl, ?_⟩; conv => whnf) | (refine bar_late [4] (by decide +kernel) (by decide +kernel) ?_; conv => whnf) | (refine LitB.data ?_; conv => whnf) | (refine BoxB.own ?_; conv => whnf)))
        all_goals first
          | (exfalso; omega)
          | exact fin_bool rfl
      | false =>
        rw [hsb] at lh
        have hne : matterE t kind z ≠ 0 := fun h => by rw [key.2 h] at hsb; cases hsb
        (refine acall_of tab_ok Try.func6 rfl (by decide) ?_; (conv => whnf); repeat (first | (refine LitB.data ?_; conv => whnf) | (refine BoxB.data ?_; conv => whnf)))
        (repeat' (first | ((refine DecB.mk (fun h => ?_) (fun h => ?_)) <;> first | (exfalso; omega) | (conv => whnf)) | ((refine BoolB.mk (fun h => ?_) (fun h => ?_)) <;> first | (exact absurd h (by decide)) | (conv => whnf)) | (refine ⟨_, wrap_ok (by omega) (by omega), ?_⟩; conv => whnf) | (refine and_idx (by omega) (by omega) ?_; conv => whnf) | (refine reg_ok (by decide +kernel) ?_; conv => whnf) | (refine bar_ok (by decide +kernel) (by decide +kernel) ?_; conv => whnf) | (refine late_ok rfl rfl ?_; conv => whnf) | (refine src_ok rfl ?_; conv => whnf) | (refine .inl ⟨_, _, qcall_pure (sm) rfl rfl, ?_⟩; conv => whnf) | (refine .inl ⟨_, _, qcall_pure (fw) rfl rfl, ?_⟩; conv => whnf) | (refine .inl ⟨_, _, qcall_pure (sy) rfl rfl, ?_⟩; conv => whnf) | (refine .inl ⟨_, _, qcall_pure (ma) rfl rfl, ?_⟩; conv => whnf) | (refine .inl ⟨_, _, qcall_pure (lr) rfl rfl, ?_⟩; conv => whnf) | (refine .inl ⟨_, _, qcall_pure (lh) rfl rfl, ?_⟩; conv => whnf) | (refine .inl ⟨_, _, qcall_pure (4) rfl rfl, ?_⟩; conv => whnf) | (refine bar_late [4] (by decide +kernel) (by decide +kernel) ?_; conv => whnf) | (refine LitB.data ?_; conv => whnf) | (refine BoxB.own ?_; conv => whnf)))
        all_goals first
          | (exfalso; omega)
          | exact fin_bool rfl
end Go.Proofs.Ytomfnfbijgjfeaa
/- TaintMixes: its walk. -/
namespace Go.Proofs.Ytomfnfbijgjfeaa
open Go.RowKit
set_option linter.unusedVariables false
set_option linter.unusedSimpArgs false
set_option maxRecDepth 100000

abbrev fracsB (l : List Fr) : Blk := { mode := .live, elem := 51, size := 4, rows := toC (l.map frRow), box := false }
theorem take_snocF {α : Type} {l : List α} {k : Nat} {x : α} (h : l[k]? = some x) : l.take (k + 1) = l.take k ++ [x] := by
  rw [List.take_add_one, h]; rfl
theorem ext_fracs {l : List Fr} {i n : Nat} {x : Fr} (hx : l[i]? = some x) (hn : n = i) : List.take n (toC ((l.take i).map frRow)) ++ toC [frRow x] = toC ((l.take (i + 1)).map frRow) := by
  have hi := (List.getElem?_eq_some_iff.1 hx).1
  rw [take_snocF hx, List.take_of_length_le (by simp [toC]; omega)]
  simp [toC]
theorem vs_tr (t : Trace) {H : Hp} {p : Nat → Prop} : VS H p (trS t) (trS t) := vs_ts (trT t)
def mixZ (Z Y : List Rat) (s : Rat) : List Rat := (List.range Z.length).map fun i => Z.getD i 0 + (Y.getD i 0 - Z.getD i 0) * s
def partZ (Z : List Rat) (s : Rat) : List Rat := (List.range Z.length).map fun i => Z.getD i 0 * s
theorem mixZ_get {Z Y : List Rat} {s : Rat} {i : Nat} (h : i < Z.length) : (mixZ Z Y s)[i]? = some (Z.getD i 0 + (Y.getD i 0 - Z.getD i 0) * s) := by unfold mixZ; rw [List.getElem?_map, List.getElem?_range h]; rfl
theorem partZ_get {Z : List Rat} {s : Rat} {i : Nat} (h : i < Z.length) : (partZ Z s)[i]? = some (Z.getD i 0 * s) := by unfold partZ; rw [List.getElem?_map, List.getElem?_range h]; rfl
theorem mixZ_len {Z Y : List Rat} {s : Rat} : (mixZ Z Y s).length = Z.length := by simp [mixZ]
theorem partZ_len {Z : List Rat} {s : Rat} : (partZ Z s).length = Z.length := by simp [partZ]
theorem getD_of {l : List Rat} {i : Nat} {v : Rat} (h : l[i]? = some v) : l.getD i 0 = v := by rw [List.getD_eq_getElem?_getD, h]; rfl
theorem fz_small {x : Rat} {n : Nat} (h : rl x ≤ n) : (fz x).p.dl.length ≤ n ∧ (fz x).q.dl.length ≤ n := by
  have h4 := rl_num x
  have h5 := rl_den x
  exact ⟨show bl x.num ≤ n by omega, show bl x.den ≤ n by omega⟩
set_option maxHeartbeats 4000000 in
theorem a_TaintMixes (t : Trace) (kind : Int) (z y : List Fr) (k : Fr) : ACall Try.prog 5 [trS t, intS .i64 kind, fracsS z, fracsS y, frS k] [] (boolS true) [] := by
  have sm := a_small21
  have fw := a_few21 t z
  have fy := a_Shorts9 y 14 (by decide)
  have fk := a_FewF k 2
  have m1 : (z.map frRow).length = z.length := by simp
  cases h1 : fewT t z with
  | false =>
    rw [h1] at fw
    (refine acall_of tab_ok Try.func5 rfl (by decide) ?_; (conv => whnf); repeat (first | (refine LitB.data ?_; conv => whnf) | (refine BoxB.data ?_; conv => whnf)))
    (repeat' (first | ((refine DecB.mk (fun h => ?_) (fun h => ?_)) <;> first | (exfalso; omega) | (conv => whnf)) | ((refine BoolB.mk (fun h => ?_) (fun h => ?_)) <;> first | (exact absurd h (by decide)) | (conv => whnf)) | (refine ⟨_, wrap_ok (by omega) (by omega), ?_⟩; conv => whnf) | (refine and_idx (by omega) (by omega) ?_; conv => whnf) | (refine reg_ok (by decide +kernel) ?_; conv => whnf) | (refine bar_ok (by decide +kernel) (by decide +kernel) ?_; conv => whnf) | (refine late_ok rfl rfl ?_; conv => whnf) | (refine src_ok rfl ?_; conv => whnf) | (refine .inl ⟨_, _, qcall_pure (sm) rfl rfl, ?_⟩; conv => whnf) | (refine .inl ⟨_, _, qcall_pure (fw) rfl rfl, ?_⟩; conv => whnf) | (refine LitB.data ?_; conv => whnf) | (refine BoxB.own ?_; conv => whnf)))
    all_goals first
      | (exfalso; omega)
      | exact fin_bool rfl
  | true =>
  rw [h1] at fw
  cases h2 : shortsB y 14 with
  | false =>
    rw [h2] at fy
    (refine acall_of tab_ok Try.func5 rfl (by decide) ?_; (conv => whnf); repeat (first | (refine LitB.data ?_; conv => whnf) | (refine BoxB.data ?_; conv => whnf)))
    (repeat' (first | ((refine DecB.mk (fun h => ?_) (fun h => ?_)) <;> first | (exfalso; omega) | (conv => whnf)) | ((refine BoolB.mk (fun h => ?_) (fun h => ?_)) <;> first | (exact absurd h (by decide)) | (conv => whnf)) | (refine ⟨_, wrap_ok (by omega) (by omega), ?_⟩; conv => whnf) | (refine and_idx (by omega) (by omega) ?_; conv => whnf) | (refine reg_ok (by decide +kernel) ?_; conv => whnf) | (refine bar_ok (by decide +kernel) (by decide +kernel) ?_; conv => whnf) | (refine late_ok rfl rfl ?_; conv => whnf) | (refine src_ok rfl ?_; conv => whnf) | (refine .inl ⟨_, _, qcall_pure (sm) rfl rfl, ?_⟩; conv => whnf) | (refine .inl ⟨_, _, qcall_pure (fw) rfl rfl, ?_⟩; conv => whnf) | (refine .inl ⟨_, _, qcall_pure (fy) rfl rfl, ?_⟩; conv => whnf) | (refine LitB.data ?_; conv => whnf) | (refine BoxB.own ?_; conv => whnf)))
    all_goals first
      | (exfalso; omega)
      | exact fin_bool rfl
  | true =>
  rw [h2] at fy
  cases h3 : fewF 2 k with
  | false =>
    rw [h3] at fk
    (refine acall_of tab_ok Try.func5 rfl (by decide) ?_; (conv => whnf); repeat (first | (refine LitB.data ?_; conv => whnf) | (refine BoxB.data ?_; conv => whnf)))
    (repeat' (first | ((refine DecB.mk (fun h => ?_) (fun h => ?_)) <;> first | (exfalso; omega) | (conv => whnf)) | ((refine BoolB.mk (fun h => ?_) (fun h => ?_)) <;> first | (exact absurd h (by decide)) | (conv => whnf)) | (refine ⟨_, wrap_ok (by omega) (by omega), ?_⟩; conv => whnf) | (refine and_idx (by omega) (by omega) ?_; conv => whnf) | (refine reg_ok (by decide +kernel) ?_; conv => whnf) | (refine bar_ok (by decide +kernel) (by decide +kernel) ?_; conv => whnf) | (refine late_ok rfl rfl ?_; conv => whnf) | (refine src_ok rfl ?_; conv => whnf) | (refine .inl ⟨_, _, qcall_pure (sm) rfl rfl, ?_⟩; conv => whnf) | (refine .inl ⟨_, _, qcall_pure (fw) rfl rfl, ?_⟩; conv => whnf) | (refine .inl ⟨_, _, qcall_pure (fy) rfl rfl, ?_⟩; conv => whnf) | (refine .inl ⟨_, _, qcall_pure (fk) rfl rfl, ?_⟩; conv => whnf) | (refine LitB.data ?_; conv => whnf) | (refine BoxB.own ?_; conv => whnf)))
    all_goals first
      | (exfalso; omega)
      | exact fin_bool rfl
  | true =>
  rw [h3] at fk
  have h3' : k.p.dl.length ≤ 2 ∧ k.q.dl.length ≤ 2 := by unfold fewF at h3; simp at h3; omega
  have fr := a_fRight k (by omega) (by omega)
  cases h5 : rightF k with
  | false =>
    rw [h5] at fr
    (refine acall_of tab_ok Try.func5 rfl (by decide) ?_; (conv => whnf); repeat (first | (refine LitB.data ?_; conv => whnf) | (refine BoxB.data ?_; conv => whnf)))
    (repeat' (first | ((refine DecB.mk (fun h => ?_) (fun h => ?_)) <;> first | (exfalso; omega) | (conv => whnf)) | ((refine BoolB.mk (fun h => ?_) (fun h => ?_)) <;> first | (exact absurd h (by decide)) | (conv => whnf)) | (refine ⟨_, wrap_ok (by omega) (by omega), ?_⟩; conv => whnf) | (refine and_idx (by omega) (by omega) ?_; conv => whnf) | (refine reg_ok (by decide +kernel) ?_; conv => whnf) | (refine bar_ok (by decide +kernel) (by decide +kernel) ?_; conv => whnf) | (refine late_ok rfl rfl ?_; conv => whnf) | (refine src_ok rfl ?_; conv => whnf) | (refine .inl ⟨_, _, qcall_pure (sm) rfl rfl, ?_⟩; conv => whnf) | (refine .inl ⟨_, _, qcall_pure (fw) rfl rfl, ?_⟩; conv => whnf) | (refine .inl ⟨_, _, qcall_pure (fy) rfl rfl, ?_⟩; conv => whnf) | (refine .inl ⟨_, _, qcall_pure (fk) rfl rfl, ?_⟩; conv => whnf) | (refine .inl ⟨_, _, qcall_pure (fr) rfl rfl, ?_⟩; conv => whnf) | (refine LitB.data ?_; conv => whnf) | (refine BoxB.own ?_; conv => whnf)))
    all_goals first
      | (exfalso; omega)
      | exact fin_bool rfl
  | true =>
  rw [h5] at fr
  have ht := rl_fv h5 (n := 2) (by omega) (by omega)
  obtain ⟨s, rfl⟩ : ∃ s, k = fz s := ⟨_, fz_fv h5⟩
  rw [fv_fz] at ht
  have sg := z_fSign s (by omega)
  have i1 := r5Int 1 (by decide) (by decide)
  have b1 : rl ((1 : Int) : Rat) ≤ 1 := rl_ir (by decide)
  have cm := z_fCompare s ((1 : Int) : Rat) (by omega) (by omega)
  by_cases h6 : ¬ (¬ sgR s < 0 ∧ ¬ cmpR s ((1 : Int) : Rat) > 0)
  · (refine acall_of tab_ok Try.func5 rfl (by decide) ?_; (conv => whnf); repeat (first | (refine LitB.data ?_; conv => whnf) | (refine BoxB.data ?_; conv => whnf)))
    (repeat' (first | ((refine DecB.mk (fun h => ?_) (fun h => ?_)) <;> first | (exfalso; omega) | (conv => whnf)) | ((refine BoolB.mk (fun h => ?_) (fun h => ?_)) <;> first | (exact absurd h (by decide)) | (conv => whnf)) | (refine ⟨_, wrap_ok (by omega) (by omega), ?_⟩; conv => whnf) | (refine and_idx (by omega) (by omega) ?_; conv => whnf) | (refine reg_ok (by decide +kernel) ?_; conv => whnf) | (refine bar_ok (by decide +kernel) (by decide +kernel) ?_; conv => whnf) | (refine late_ok rfl rfl ?_; conv => whnf) | (refine src_ok rfl ?_; conv => whnf) | (refine .inl ⟨_, _, qcall_pure (sm) rfl rfl, ?_⟩; conv => whnf) | (refine .inl ⟨_, _, qcall_pure (fw) rfl rfl, ?_⟩; conv => whnf) | (refine .inl ⟨_, _, qcall_pure (fy) rfl rfl, ?_⟩; conv => whnf) | (refine .inl ⟨_, _, qcall_pure (fk) rfl rfl, ?_⟩; conv => whnf) | (refine .inl ⟨_, _, qcall_pure (fr) rfl rfl, ?_⟩; conv => whnf) | (refine .inl ⟨_, _, qcall_pure (sg) rfl rfl, ?_⟩; conv => whnf) | (refine .inl ⟨_, _, qcall_pure (i1) rfl rfl, ?_⟩; conv => whnf) | (refine .inl ⟨_, _, qcall_pure (cm) rfl rfl, ?_⟩; conv => whnf) | (refine LitB.data ?_; conv => whnf) | (refine BoxB.own ?_; conv => whnf)))
    all_goals first
      | (exfalso; omega)
      | exact fin_bool rfl
  have h6 : ¬ sgR s < 0 ∧ ¬ cmpR s ((1 : Int) : Rat) > 0 := Decidable.not_not.1 h6
  have t0 : 0 ≤ s := by have := h6.1; rw [sgR_neg] at this; exact Rat.not_lt.1 this
  have t1 : s ≤ 1 := by have := h6.2; rw [cmpR_lt'] at this; exact Rat.not_lt.1 this
  unfold fewT at h1
  simp only [Bool.and_eq_true] at h1
  obtain ⟨hs, l1, l2, l3, l4⟩ := littleT_sized h1.1
  obtain ⟨z1, z2⟩ := shorts_small h1.2
  obtain ⟨y1, y2⟩ := shorts_small h2
  have ma := a_Matter t kind z hs (by omega) (fun f hf => by have := z2 f hf; omega)
  have mb := a_Matter t kind y hs (by omega) (fun f hf => by have := y2 f hf; omega)
  by_cases h7 : ¬ (matterE t kind z = 0 ∧ matterE t kind y = 0)
  · (refine acall_of tab_ok Try.func5 rfl (by decide) ?_; (conv => whnf); repeat (first | (refine LitB.data ?_; conv => whnf) | (refine BoxB.data ?_; conv => whnf)))
    (repeat' (first | ((refine DecB.mk (fun h => ?_) (fun h => ?_)) <;> first | (exfalso; omega) | (conv => whnf)) | ((refine BoolB.mk (fun h => ?_) (fun h => ?_)) <;> first | (exact absurd h (by decide)) | (conv => whnf)) | (refine ⟨_, wrap_ok (by omega) (by omega), ?_⟩; conv => whnf) | (refine and_idx (by omega) (by omega) ?_; conv => whnf) | (refine reg_ok (by decide +kernel) ?_; conv => whnf) | (refine bar_ok (by decide +kernel) (by decide +kernel) ?_; conv => whnf) | (refine late_ok rfl rfl ?_; conv => whnf) | (refine src_ok rfl ?_; conv => whnf) | (refine .inl ⟨_, _, qcall_pure (sm) rfl rfl, ?_⟩; conv => whnf) | (refine .inl ⟨_, _, qcall_pure (fw) rfl rfl, ?_⟩; conv => whnf) | (refine .inl ⟨_, _, qcall_pure (fy) rfl rfl, ?_⟩; conv => whnf) | (refine .inl ⟨_, _, qcall_pure (fk) rfl rfl, ?_⟩; conv => whnf) | (refine .inl ⟨_, _, qcall_pure (fr) rfl rfl, ?_⟩; conv => whnf) | (refine .inl ⟨_, _, qcall_pure (sg) rfl rfl, ?_⟩; conv => whnf) | (refine .inl ⟨_, _, qcall_pure (i1) rfl rfl, ?_⟩; conv => whnf) | (refine .inl ⟨_, _, qcall_pure (cm) rfl rfl, ?_⟩; conv => whnf) | (refine .inl ⟨_, _, qcall_pure (ma) rfl rfl, ?_⟩; conv => whnf) | (refine .inl ⟨_, _, qcall_pure (mb) rfl rfl, ?_⟩; conv => whnf) | (refine LitB.data ?_; conv => whnf) | (refine BoxB.own ?_; conv => whnf)))
    all_goals first
      | (exfalso; omega)
      | exact fin_bool rfl
  have h7 : matterE t kind z = 0 ∧ matterE t kind y = 0 := Decidable.not_not.1 h7
  rw [h7.1] at ma
  rw [h7.2] at mb
  obtain ⟨Z, rfl, pZ⟩ := matter_zero.1 h7.1
  obtain ⟨Y, rfl, pY⟩ := matter_zero.1 h7.2
  have zl := pZ.len
  have yl := pY.len
  have rZ : ∀ v ∈ Z, rl v ≤ 6 := fun v hv => by
    have := z2 (fz v) (List.mem_map.2 ⟨v, hv, rfl⟩)
    exact Nat.max_le.2 this
  have rY : ∀ v ∈ Y, rl v ≤ 6 := fun v hv => by
    have := y2 (fz v) (List.mem_map.2 ⟨v, hv, rfl⟩)
    exact Nat.max_le.2 this
  have pM : Poss t kind (mixZ Z Y s) := poss_mix pZ pY t0 t1 mixZ_len (fun i hi => by rw [getD_of (mixZ_get (by omega))]; grind)
  have pP : Poss (bareT t) kind (partZ Z s) := poss_part pZ t0 t1 partZ_len (fun i hi => by rw [getD_of (partZ_get (by omega))]; grind)
  have bM : ∀ i, i < Z.length → rl (Z.getD i 0 + (Y.getD i 0 - Z.getD i 0) * s) ≤ 30 ∧ rl ((Y.getD i 0 - Z.getD i 0) * s) ≤ 20 ∧ rl (Y.getD i 0 - Z.getD i 0) ≤ 13 ∧ rl (Z.getD i 0 * s) ≤ 10 ∧ rl (Z.getD i 0) ≤ 6 ∧ rl (Y.getD i 0) ≤ 6 := fun i hi => by
    have q1 := rZ _ (List.mem_of_getElem? (getD_some hi))
    have q2 := rY _ (List.mem_of_getElem? (getD_some (l := Y) (m := i) (by omega)))
    have q3 := rl_sub (Y.getD i 0) (Z.getD i 0)
    have q4 := rl_mul (Y.getD i 0 - Z.getD i 0) s
    have q5 := rl_add (Z.getD i 0) ((Y.getD i 0 - Z.getD i 0) * s)
    have q6 := rl_mul (Z.getD i 0) s
    omega
  have hs2 : (bareT t).Sized := ⟨hs.ev, by simp [bareT], hs.c⟩
  have mM := a_Matter t kind ((mixZ Z Y s).map fz) hs (by simp [mixZ_len]; omega) (fun f hf => by
    obtain ⟨v, hv, rfl⟩ := List.mem_map.1 hf
    obtain ⟨i, hi, rfl⟩ := List.mem_map.1 hv
    exact fz_small (Nat.le_trans (bM i (List.mem_range.1 hi)).1 (by decide)))
  have mP := a_Matter (bareT t) kind ((partZ Z s).map fz) hs2 (by simp [partZ_len]; omega) (fun f hf => by
    obtain ⟨v, hv, rfl⟩ := List.mem_map.1 hf
    obtain ⟨i, hi, rfl⟩ := List.mem_map.1 hv
    exact fz_small (Nat.le_trans (bM i (List.mem_range.1 hi)).2.2.2.1 (by decide)))
  rw [matter_map.2 pM] at mM
  rw [matter_map.2 pP] at mP
  have m3 : (Z.map fz).length = Z.length := by simp
  have lM : ((mixZ Z Y s).map fz).length = Z.length := by rw [List.length_map, mixZ_len]
  have lP : ((partZ Z s).map fz).length = Z.length := by rw [List.length_map, partZ_len]
  (refine acall_of tab_ok Try.func5 rfl (by decide) ?_; (conv => whnf); repeat (first | (refine LitB.data ?_; conv => whnf) | (refine BoxB.data ?_; conv => whnf)))
  (repeat' (first | ((refine DecB.mk (fun h => ?_) (fun h => ?_)) <;> first | (exfalso; omega) | (conv => whnf)) | ((refine BoolB.mk (fun h => ?_) (fun h => ?_)) <;> first | (exact absurd h (by decide)) | (conv => whnf)) | (refine ⟨_, wrap_ok (by omega) (by omega), ?_⟩; conv => whnf) | (refine and_idx (by omega) (by omega) ?_; conv => whnf) | (refine reg_ok (by decide +kernel) ?_; conv => whnf) | (refine bar_ok (by decide +kernel) (by decide +kernel) ?_; conv => whnf) | (refine late_ok rfl rfl ?_; conv => whnf) | (refine src_ok rfl ?_; conv => whnf) | (refine .inl ⟨_, _, qcall_pure (sm) rfl rfl, ?_⟩; conv => whnf) | (refine .inl ⟨_, _, qcall_pure (fw) rfl rfl, ?_⟩; conv => whnf) | (refine .inl ⟨_, _, qcall_pure (fy) rfl rfl, ?_⟩; conv => whnf) | (refine .inl ⟨_, _, qcall_pure (fk) rfl rfl, ?_⟩; conv => whnf) | (refine .inl ⟨_, _, qcall_pure (fr) rfl rfl, ?_⟩; conv => whnf) | (refine .inl ⟨_, _, qcall_pure (sg) rfl rfl, ?_⟩; conv => whnf) | (refine .inl ⟨_, _, qcall_pure (i1) rfl rfl, ?_⟩; conv => whnf) | (refine .inl ⟨_, _, qcall_pure (cm) rfl rfl, ?_⟩; conv => whnf) | (refine .inl ⟨_, _, qcall_pure (ma) rfl rfl, ?_⟩; conv => whnf) | (refine .inl ⟨_, _, qcall_pure (mb) rfl rfl, ?_⟩; conv => whnf) | (refine LitB.own ?_; conv => whnf) | (refine LitB.data ?_; conv => whnf) | (refine BoxB.own ?_; conv => whnf)))
  all_goals try (exfalso; omega)
  refine awp_for tab_ok (fun i => ([S.junk, intS .i64 kind, fracsS (Z.map fz), fracsS (Y.map fz), S.junk, S.c (C.t (T.ptr (trT t))), S.junk, S.junk, S.junk, S.c (C.t (T.ptr (frRow (fz s)))), S.junk, boolS true, S.c (C.own 0 0 i true), S.c (C.own 1 0 i true), intS .i64 i, S.junk, S.junk, S.junk, S.junk, S.junk, S.junk, S.junk, S.junk, S.junk, S.junk, S.junk, S.junk, S.junk, S.junk, S.junk, S.junk, S.junk, S.junk, S.junk, S.junk, S.junk, S.junk, S.junk, S.junk, S.junk, S.junk, S.junk, S.junk, S.junk, S.junk, S.junk, S.junk, S.junk, S.junk, S.junk, S.junk, S.junk, S.junk, S.junk, S.junk, S.junk, S.junk, S.junk, S.junk, S.junk, S.junk, S.junk, S.junk, S.junk, S.junk, S.junk, S.junk, S.junk, S.junk, S.junk, S.junk, S.junk, S.junk, S.junk, S.junk, S.junk, S.junk, S.junk, S.junk, S.junk, S.junk, S.junk, S.junk, S.junk, S.junk, S.junk, S.junk, S.junk, S.junk, S.junk, S.junk, S.junk, S.junk, S.junk, S.junk, S.junk, S.junk, S.junk, S.junk, S.junk, S.junk, S.junk, S.junk, S.junk, S.junk, S.junk, S.junk, S.junk, S.junk, S.junk, S.junk, S.junk, S.junk, S.junk, S.junk, S.junk, S.junk, S.junk, S.junk, S.junk, S.junk, S.junk, S.junk, S.junk, S.junk, S.junk, S.junk, S.junk, S.junk, S.junk, S.junk, S.junk, S.junk, S.junk], [fracsB (((mixZ Z Y s).map fz).take i), fracsB (((partZ Z s).map fz).take i)])) Z.length (fun _ => True) [some 0, some 1] trivial
    ⟨rfl, rfl, ⟨entB_rows (rows := []) rfl rfl rfl rfl rfl, entB_rows (rows := []) rfl rfl rfl rfl rfl, trivial⟩, ⟨rfl, rfl, rfl, rfl, rfl, rfl, ⟨rfl, rfl, rfl, fun h => h⟩, ⟨rfl, rfl, rfl, fun h => h⟩, rfl, trivial⟩⟩ ?_
  intro i hi _
  by_cases hlt : i < Z.length
  · obtain ⟨n1, n2, n3, n4, n5, n6⟩ := bM i hlt
    have za : (Z.map fz)[i]? = some (fz (Z.getD i 0)) := zero_get Z (getD_some hlt)
    have ya : (Y.map fz)[i]? = some (fz (Y.getD i 0)) := zero_get Y (getD_some (by omega))
    have xa := zero_get _ (mixZ_get (Y := Y) (s := s) hlt)
    have xp := zero_get _ (partZ_get (s := s) hlt)
    have c1 := z_fSub (Y.getD i 0) (Z.getD i 0) (by omega) (by omega)
    have c2 := z_fMul (Y.getD i 0 - Z.getD i 0) s (by omega) (by omega)
    have c3 := z_fAdd (Z.getD i 0) ((Y.getD i 0 - Z.getD i 0) * s) (by omega) (by omega)
    have c4 := z_fMul (Z.getD i 0) s (by omega) (by omega)
    have lt1 : (((mixZ Z Y s).map fz).take i).length = i := by rw [List.length_take]; omega
    have lt2 : (((partZ Z s).map fz).take i).length = i := by rw [List.length_take]; omega
    have lA : i ≤ (fracsB (((mixZ Z Y s).map fz).take i)).rows.length := by show i ≤ (toC _).length; simp only [toC, List.length_map, lt1]; omega
    have lB : i ≤ (fracsB (((partZ Z s).map fz).take i)).rows.length := by show i ≤ (toC _).length; simp only [toC, List.length_map, lt2]; omega
    have lC : (i + 1) * 65 ≤ 140737488355328 := by omega
    conv => whnf
    (repeat' (first | ((refine DecB.mk (fun h => ?_) (fun h => ?_)) <;> first | (exfalso; omega) | (conv => whnf)) | ((refine BoolB.mk (fun h => ?_) (fun h => ?_)) <;> first | (exact absurd h (by decide)) | (conv => whnf)) | (refine ⟨_, wrap_ok (by omega) (by omega), ?_⟩; conv => whnf) | (refine and_idx (by omega) (by omega) ?_; conv => whnf) | (refine reg_ok (by decide +kernel) ?_; conv => whnf) | (refine bar_ok (by decide +kernel) (by decide +kernel) ?_; conv => whnf) | (refine late_ok rfl rfl ?_; conv => whnf) | (refine src_ok rfl ?_; conv => whnf) | (refine .inl ⟨_, _, qcall_pure (c1) rfl rfl, ?_⟩; conv => whnf) | (refine .inl ⟨_, _, qcall_pure (c2) rfl rfl, ?_⟩; conv => whnf) | (refine .inl ⟨_, _, qcall_pure (c3) rfl rfl, ?_⟩; conv => whnf) | (refine .inl ⟨_, _, qcall_pure (c4) rfl rfl, ?_⟩; conv => whnf) | (refine .inl ⟨_, _, qcall_pure (11) rfl rfl, ?_⟩; conv => whnf) | (refine .inl ⟨_, _, qcall_pure (8) rfl rfl, ?_⟩; conv => whnf) | (refine ex_row za ?_; conv => whnf) | (refine ex_row ya ?_; conv => whnf) | (refine bar_late [11] (by decide +kernel) (by decide +kernel) ?_; conv => whnf) | (refine bar_late [8] (by decide +kernel) (by decide +kernel) ?_; conv => whnf) | (refine app_ok lA lC ?_; conv => whnf) | (refine app_ok lB lC ?_; conv => whnf) | (refine LitB.data ?_; conv => whnf) | (refine BoxB.own ?_; conv => whnf)))
    all_goals try (exfalso; omega)
    exact ⟨hlt, trivial, [some 4, some 5], rfl, rfl, ⟨entB_rows rfl rfl rfl (ext_fracs xa rfl) rfl, entB_rows rfl rfl rfl (ext_fracs xp rfl) rfl, trivial⟩, ⟨rfl, rfl, rfl, rfl, rfl, rfl, ⟨rfl, rfl, rfl, fun h => h⟩, ⟨rfl, rfl, rfl, fun h => h⟩, rfl, trivial⟩⟩
  · have hie : i = Z.length := by omega
    subst hie
    have hM : ((mixZ Z Y s).map fz).take Z.length = (mixZ Z Y s).map fz := List.take_of_length_le (by omega)
    have hP : ((partZ Z s).map fz).take Z.length = (partZ Z s).map fz := List.take_of_length_le (by omega)
    rw [hM, hP]
    conv => whnf
    (repeat' (first | ((refine DecB.mk (fun h => ?_) (fun h => ?_)) <;> first | (exfalso; omega) | (conv => whnf)) | ((refine BoolB.mk (fun h => ?_) (fun h => ?_)) <;> first | (exact absurd h (by decide)) | (conv => whnf)) | (refine ⟨_, wrap_ok (by omega) (by omega), ?_⟩; conv => whnf) | (refine and_idx (by omega) (by omega) ?_; conv => whnf) | (refine reg_ok (by decide +kernel) ?_; conv => whnf) | (refine bar_ok (by decide +kernel) (by decide +kernel) ?_; conv => whnf) | (refine late_ok rfl rfl ?_; conv => whnf) | (refine src_ok rfl ?_; conv => whnf) | (refine .inl ⟨_, _, qcall_pure (List.length_map) rfl rfl, ?_⟩; conv => whnf) | (refine .inl ⟨_, _, qcall_pure (List.length_map) rfl rfl, ?_⟩; conv => whnf) | (refine .inl ⟨_, _, qcall_view mM ⟨vs_tr t, vs_t, vs_c (vc_all trivial rfl (by intro h; cases h) rfl rfl (by rw [List.length_map]; exact lM.symm)), trivial⟩ rfl, ?_⟩; conv => whnf) | (refine .inl ⟨_, _, qcall_view mP ⟨vs_agg (ts := trT (bareT t)) (vl_cons (vc_t rfl) (vl_cons (vc_t rfl) (vl_cons (vc_t rfl) (vl_cons (vc_t rfl) (vl_cons (vc_t rfl) (vl_cons (vc_t rfl) (vl_cons (vc_t rfl) (vl_cons (vc_t rfl) (vl_cons (vc_t rfl) (vl_cons (vc_t rfl) vl_nil)))))))))), vs_t, vs_c (vc_all trivial rfl (by intro h; cases h) rfl rfl (by rw [List.length_map]; exact lP.symm)), trivial⟩ rfl, ?_⟩; conv => whnf) | (refine LitB.data ?_; conv => whnf) | (refine BoxB.own ?_; conv => whnf)))
    all_goals first
      | (exfalso; omega)
      | exact fin_bool rfl
end Go.Proofs.Ytomfnfbijgjfeaa
/- Statement by statement: what one statement leaves may be weakened before the next (cuts). -/
namespace Go.Proofs.Ytomfnfbijgjfeaa
open Go.RowKit
set_option linter.unusedVariables false
set_option linter.unusedSimpArgs false

theorem acall_ofW {P : Program} {τ : Tab} (hτ : TabOK P τ) {f : FuncId} {fn : Func} {c : Code} {args : List S} {H : Hp} {s : S} {H' : Hp} (hf : P.funcs[f]? = some fn) (hb : fn.body = some c) (hn : fn.name ≠ "runtime.NumGoroutine")
    (h : Awp P H.length c (args ++ List.replicate (fn.ntmps - args.length) .junk) H fun x env' H1 => match x with
      | .exit _ => False
      | _ => aresult τ fn env' H1 fun r => Fin H.length r H1 s H') : ACall P f args H s H' := by
  refine ⟨⟨fn, hf, by rw [hb]; rfl, hn⟩, fun w ι M vals hl hr hH hM hF => ?_⟩
  refine calls_of_wp hf hb ?_
  have hi := Sim.init hl hr hH hM hF (fn.ntmps - args.length)
  have := h.out w ι M H _ w rfl hM hi
  have e : vals.toArray.size = args.length := by simpa using hl
  rw [e]
  refine wp_mono this ?_
  rintro e a' w' ⟨x, env', H1, rfl, hq, ι', M', hd, hsz, he, hH', hM', hF', hst⟩
  have key : (aresult τ fn env' H1 fun r => Fin H.length r H1 s H') → a'.defers = [] ∧ ∃ v, (results fn a'.tmps).run P w' = .ok v w' ∧ ∃ v', Ending.returned v = .returned v' ∧ GPost w ι M H s H' v' w' := by
    intro hq
    refine ⟨hd, ?_⟩
    obtain ⟨l, hk, vs, h1, h2, h3⟩ := ares_run hτ he hH' fn.results.toList hq
    have hrun : ∃ v, (results fn a'.tmps).run P w' = .ok v w' ∧ v = (if h : vs.length = 1 then vs[0] else .tuple vs.toArray) := by
      refine ⟨_, ?_, rfl⟩
      unfold results
      rw [Array.mapM_eq_mapM_toList, Sem.run_bind, Sem.run_map]
      refine (congrArg (fun r => Result.andThen (Result.andThen r _) _) h1).trans ?_
      simp
    obtain ⟨v, hv1, rfl⟩ := hrun
    refine ⟨_, hv1, _, rfl, ?_⟩
    have hsr : ∃ r, RS w' ι' M' r (if h : vs.length = 1 then vs[0] else .tuple vs.toArray) ∧ Fin H.length r H1 s H' := by
      match l, hk, h2, h3 with
      | [s1], hk, h2, h3 =>
        refine ⟨s1, ?_, hk⟩
        rw [dif_pos (by simpa using h2)]
        have := h3 0 s1 rfl
        rw [List.getD_eq_getElem?_getD, List.getElem?_eq_getElem (by simp at h2; omega)] at this
        exact this
      | [], hk, h2, h3 =>
        refine ⟨_, ?_, hk⟩
        rw [dif_neg (by simp at h2; simp [h2])]
        exact .tup vs h2 h3
      | s1 :: s2 :: r, hk, h2, h3 =>
        refine ⟨_, ?_, hk⟩
        rw [dif_neg (by simp at h2; omega)]
        exact .tup vs h2 h3
    obtain ⟨r, h4, ρ, f1, f2, f3, f4⟩ := hsr
    obtain ⟨g1, g2, g3⟩ := EntH.all f1 f2 f3 rfl hM hH' hst
    exact ⟨renIo ρ ι', _, f4.rs hH' h4, g1, fun b hb => hM' b hb.1, g2, g3⟩
  cases x with
  | normal => exact key hq
  | ret => exact key hq
  | exit id => exact hq.elim
theorem awp_seq {P : Program} {τ : Tab} (hτ : TabOK P τ) {n0 : Nat} {x y : Code} {env : Env} {H : Hp} {Q : AX → Env → Hp → Prop}
    (h : acode P τ n0 x env H fun a env' H' => match a with
      | .normal => Awp P n0 y env' H' Q
      | a => Q a env' H') : Awp P n0 (.seq x y) env H Q := by
  refine ⟨fun w0 ι0 M0 H0 a w hn hM hs => ?_⟩
  refine wp_seq (wp_mono ((acode_sound hτ x h).out w0 ι0 M0 H0 a w hn hM hs) ?_)
  rintro e a' w' ⟨x, env', H', rfl, hq, hs'⟩
  cases x with
  | normal => exact hq.out w0 ι0 M0 H0 a' w' hn hM hs'
  | exit id => exact ⟨_, env', H', rfl, hq, hs'⟩
  | ret => exact ⟨_, env', H', rfl, hq, hs'⟩
/-- all ways through one statement end in a state that this one stands for -/
theorem awp_cut {P : Program} {τ : Tab} (hτ : TabOK P τ) {n0 : Nat} {x y : Code} {env : Env} {H : Hp} {Q : AX → Env → Hp → Prop} (E2 : Env) (H2 : Hp)
    (h : acode P τ n0 x env H fun a env' H' => match a with
      | .normal => ∃ ρ, Ent n0 ρ env' H' E2 H2
      | a => Q a env' H') (h2 : Awp P n0 y E2 H2 Q) : Awp P n0 (.seq x y) env H Q := by
  refine ⟨fun w0 ι0 M0 H0 a w hn hM hs => ?_⟩
  refine wp_seq (wp_mono ((acode_sound hτ x h).out w0 ι0 M0 H0 a w hn hM hs) ?_)
  rintro e a' w' ⟨x, env', H', rfl, hq, hs'⟩
  cases x with
  | normal => obtain ⟨ρ, he⟩ := hq; exact h2.out w0 ι0 M0 H0 a' w' hn hM (he.sim hn hM hs')
  | exit id => exact ⟨_, env', H', rfl, hq, hs'⟩
  | ret => exact ⟨_, env', H', rfl, hq, hs'⟩
end Go.Proofs.Ytomfnfbijgjfeaa
/- TaintMore: its walk. -/
namespace Go.Proofs.Ytomfnfbijgjfeaa
open Go.RowKit
set_option linter.unusedVariables false
set_option linter.unusedSimpArgs false
set_option maxRecDepth 100000

theorem vs_moreF {t : Trace} {f : Find} {H : Hp} {id n : Nat} {app : Bool} {k : Blk} (hk : H[id]? = some k) (hd : ¬ k.mode.gone) (hs : k.size = 3) (hc : k.rows = toC ((t.finds ++ [f]).map Find.row)) (hl : n = t.finds.length + 1) :
    VS H (fun _ => True) (.agg [.t (ti t.ev.mats), .t (ti t.ev.hhs), .t (ti t.ev.scs), .t (placesT t.ev.places), .t (movesT t.ev.moves), .t (certsT t.ev.certs), .t (recallsT t.ev.recalls), .t (puritiesT t.ev.purities), .own id 0 n app, .t (cleansT t.cleans)]) (trS (moreF t f)) :=
  vs_agg (ts := trT (moreF t f)) (vl_cons (vc_t rfl) (vl_cons (vc_t rfl) (vl_cons (vc_t rfl) (vl_cons (vc_t rfl) (vl_cons (vc_t rfl) (vl_cons (vc_t rfl) (vl_cons (vc_t rfl) (vl_cons (vc_t rfl) (vl_cons (vc_all trivial hk hd hs hc (by rw [hl]; simp [moreF])) (vl_cons (vc_t rfl) vl_nil))))))))))
theorem vs_moreC {t : Trace} {f : Clean} {H : Hp} {id n : Nat} {app : Bool} {k : Blk} (hk : H[id]? = some k) (hd : ¬ k.mode.gone) (hs : k.size = 2) (hc : k.rows = toC ((t.cleans ++ [f]).map Clean.row)) (hl : n = t.cleans.length + 1) :
    VS H (fun _ => True) (.agg [.t (ti t.ev.mats), .t (ti t.ev.hhs), .t (ti t.ev.scs), .t (placesT t.ev.places), .t (movesT t.ev.moves), .t (certsT t.ev.certs), .t (recallsT t.ev.recalls), .t (puritiesT t.ev.purities), .t (findsT t.finds), .own id 0 n app]) (trS (moreC t f)) :=
  vs_agg (ts := trT (moreC t f)) (vl_cons (vc_t rfl) (vl_cons (vc_t rfl) (vl_cons (vc_t rfl) (vl_cons (vc_t rfl) (vl_cons (vc_t rfl) (vl_cons (vc_t rfl) (vl_cons (vc_t rfl) (vl_cons (vc_t rfl) (vl_cons (vc_t rfl) (vl_cons (vc_all trivial hk hd hs hc (by rw [hl]; simp [moreC])) vl_nil))))))))))
theorem vs_moreRt {t : Trace} {r : Recall} {H : Hp} {id n : Nat} {app : Bool} {k : Blk} (hk : H[id]? = some k) (hd : ¬ k.mode.gone) (hs : k.size = 2) (hc : k.rows = toC ((t.ev.recalls ++ [r]).map Recall.row)) (hl : n = t.ev.recalls.length + 1) :
    VS H (fun _ => True) (.agg [.t (ti t.ev.mats), .t (ti t.ev.hhs), .t (ti t.ev.scs), .t (placesT t.ev.places), .t (movesT t.ev.moves), .t (certsT t.ev.certs), .own id 0 n app, .t (puritiesT t.ev.purities), .t (findsT t.finds), .t (cleansT t.cleans)]) (trS (moreRc t r)) :=
  vs_agg (ts := trT (moreRc t r)) (vl_cons (vc_t rfl) (vl_cons (vc_t rfl) (vl_cons (vc_t rfl) (vl_cons (vc_t rfl) (vl_cons (vc_t rfl) (vl_cons (vc_t rfl) (vl_cons (vc_all trivial hk hd hs hc (by rw [hl]; simp [moreRc, moreR])) (vl_cons (vc_t rfl) (vl_cons (vc_t rfl) (vl_cons (vc_t rfl) vl_nil))))))))))
theorem vs_moreRe {e : Ev} {r : Recall} {H : Hp} {id n : Nat} {app : Bool} {k : Blk} (hk : H[id]? = some k) (hd : ¬ k.mode.gone) (hs : k.size = 2) (hc : k.rows = toC ((e.recalls ++ [r]).map Recall.row)) (hl : n = e.recalls.length + 1) :
    VS H (fun _ => True) (.agg [.t (ti e.mats), .t (ti e.hhs), .t (ti e.scs), .t (placesT e.places), .t (movesT e.moves), .t (certsT e.certs), .own id 0 n app, .t (puritiesT e.purities)]) (evS (moreR e r)) :=
  vs_agg (ts := evT (moreR e r)) (vl_cons (vc_t rfl) (vl_cons (vc_t rfl) (vl_cons (vc_t rfl) (vl_cons (vc_t rfl) (vl_cons (vc_t rfl) (vl_cons (vc_t rfl) (vl_cons (vc_all trivial hk hd hs hc (by rw [hl]; simp [moreR])) (vl_cons (vc_t rfl) vl_nil))))))))
theorem more_find {t : Trace} {f : Find} {kind : Int} {z : List Fr} : traceE t ≠ 0 ∨ traceE (moreF t f) ≠ 0 ∨ ((matterE (moreF t f) kind z ≠ 0 ∨ matterE t kind z = 0) ∧ (f.kind = kind ∨ matterE (moreF t f) kind z = matterE t kind z)) := by
  by_cases h0 : traceE t = 0
  · by_cases h1 : traceE (moreF t f) = 0
    · refine .inr (.inr ⟨?_, ?_⟩)
      · by_cases h2 : matterE (moreF t f) kind z = 0
        · obtain ⟨Z, rfl, p⟩ := matter_zero.1 h2
          exact .inr (matter_map.2 (poss_moreF h0 p))
        · exact .inl h2
      · by_cases h2 : f.kind = kind
        · exact .inl h2
        · refine .inr (matter_congr h0 h1 rfl (fun i => ?_) (fun i => rfl))
          show gramsOf (t.finds ++ [f]) kind i = _
          rw [gramsOf_more, if_neg (fun h => h2 h.1), List.append_nil]
    · exact .inr (.inl h1)
  · exact .inl h0
theorem more_clean {t : Trace} {f : Clean} {kind : Int} {z : List Fr} : traceE t ≠ 0 ∨ traceE (moreC t f) ≠ 0 ∨ ((matterE (moreC t f) kind z ≠ 0 ∨ matterE t kind z = 0) ∧ (f.kind = kind ∨ matterE (moreC t f) kind z = matterE t kind z)) := by
  by_cases h0 : traceE t = 0
  · by_cases h1 : traceE (moreC t f) = 0
    · refine .inr (.inr ⟨?_, ?_⟩)
      · by_cases h2 : matterE (moreC t f) kind z = 0
        · obtain ⟨Z, rfl, p⟩ := matter_zero.1 h2
          exact .inr (matter_map.2 (poss_moreC h0 p))
        · exact .inl h2
      · by_cases h2 : f.kind = kind
        · exact .inl h2
        · refine .inr (matter_congr h0 h1 rfl (fun i => rfl) (fun i => ?_))
          show cleansOf (t.cleans ++ [f]) kind i = _
          rw [cleansOf_more, if_neg (fun h => h2 h.1), Nat.add_zero]
    · exact .inr (.inl h1)
  · exact .inl h0
theorem more_recall {t : Trace} {r : Recall} {kind : Int} {z : List Fr} (h : check (moreR t.ev r) = 0) : matterE t kind z ≠ 0 ∨ matterE (moreRc t r) kind z = 0 := by
  by_cases h2 : matterE t kind z = 0
  · obtain ⟨Z, rfl, p⟩ := matter_zero.1 h2
    exact .inr (matter_map.2 (poss_moreR h p))
  · exact .inl h2
abbrev trB (t : Trace) : Blk := { mode := .live, elem := 32, size := 10, rows := [(trT t).map .t], box := true }
set_option maxHeartbeats 4000000 in
theorem a_TaintMore (t : Trace) (kind : Int) (z : List Fr) (f : Find) (c : Clean) (r : Recall) : ACall Try.prog 3 [trS t, intS .i64 kind, fracsS z, .agg (f.row.map .t), .agg (c.row.map .t), recS r] [] (boolS true) [] := by
  have sm := a_small21
  have fw := a_few21 t z
  have m1 : (t.finds.map Find.row).length = t.finds.length := by simp
  have m2 : (t.cleans.map Clean.row).length = t.cleans.length := by simp
  have m3 : (t.ev.recalls.map Recall.row).length = t.ev.recalls.length := by simp
  cases h1 : fewT t z with
  | false =>
    rw [h1] at fw
    (refine acall_of tab_ok Try.func3 rfl (by decide) ?_; (conv => whnf); repeat (first | (refine LitB.data ?_; conv => whnf) | (refine BoxB.data ?_; conv => whnf)))
    (repeat' (first | ((refine DecB.mk (fun h => ?_) (fun h => ?_)) <;> first | (exfalso; omega) | (conv => whnf)) | ((refine BoolB.mk (fun h => ?_) (fun h => ?_)) <;> first | (exact absurd h (by decide)) | (conv => whnf)) | (refine ⟨_, wrap_ok (by omega) (by omega), ?_⟩; conv => whnf) | (refine and_idx (by omega) (by omega) ?_; conv => whnf) | (refine reg_ok (by decide +kernel) ?_; conv => whnf) | (refine bar_ok (by decide +kernel) (by decide +kernel) ?_; conv => whnf) | (refine late_ok rfl rfl ?_; conv => whnf) | (refine src_ok rfl ?_; conv => whnf) | (refine .inl ⟨_, _, qcall_pure (sm) rfl rfl, ?_⟩; conv => whnf) | (refine .inl ⟨_, _, qcall_pure (fw) rfl rfl, ?_⟩; conv => whnf) | (refine LitB.data ?_; conv => whnf) | (refine BoxB.own ?_; conv => whnf)))
    all_goals first
      | (exfalso; omega)
      | exact fin_bool rfl
  | true =>
  rw [h1] at fw
  unfold fewT at h1
  simp only [Bool.and_eq_true] at h1
  obtain ⟨hs, l1, l2, l3, l4⟩ := littleT_sized h1.1
  obtain ⟨z1, z2⟩ := shorts_small h1.2
  have zb : ∀ f ∈ z, f.p.dl.length ≤ 200 ∧ f.q.dl.length ≤ 200 := fun f hf => by have := z2 f hf; omega
  have sF : (moreF t f).Sized := ⟨hs.ev, by simp [moreF]; omega, hs.c⟩
  have sC : (moreC t c).Sized := ⟨hs.ev, hs.f, by simp [moreC]; omega⟩
  have eR : (moreR t.ev r).Sized := ⟨hs.ev.s1, hs.ev.s2, hs.ev.s3, by simp [moreR]; omega, hs.ev.s5⟩
  have sR : (moreRc t r).Sized := ⟨eR, hs.f, hs.c⟩
  have ma := a_Matter t kind z hs (by omega) zb
  have mF := a_Matter (moreF t f) kind z sF (by omega) zb
  have mC := a_Matter (moreC t c) kind z sC (by omega) zb
  have mR := a_Matter (moreRc t r) kind z sR (by omega) zb
  have ct := a_TCheck t hs
  have cF := a_TCheck (moreF t f) sF
  have cC := a_TCheck (moreC t c) sC
  have cR := a_Check (moreR t.ev r) eR
  have k1 := more_find (t := t) (f := f) (kind := kind) (z := z)
  have k2 := more_clean (t := t) (f := c) (kind := kind) (z := z)
  have k3 : check (moreR t.ev r) ≠ 0 ∨ matterE t kind z ≠ 0 ∨ matterE (moreRc t r) kind z = 0 := by
    by_cases h : check (moreR t.ev r) = 0
    · exact .inr (more_recall h)
    · exact .inl h
  (refine acall_ofW tab_ok Try.func3 rfl (by decide) ?_; refine awp_seq tab_ok ?_; (conv => whnf); repeat (first | (refine LitB.data ?_; conv => whnf) | (refine BoxB.data ?_; conv => whnf)))
  (refine awp_seq tab_ok ?_; conv => whnf)
  (repeat' (first | ((refine DecB.mk (fun h => ?_) (fun h => ?_)) <;> first | (exfalso; omega) | (conv => whnf)) | ((refine BoolB.mk (fun h => ?_) (fun h => ?_)) <;> first | (exact absurd h (by decide)) | (conv => whnf)) | (refine ⟨_, wrap_ok (by omega) (by omega), ?_⟩; conv => whnf) | (refine and_idx (by omega) (by omega) ?_; conv => whnf) | (refine reg_ok (by decide +kernel) ?_; conv => whnf) | (refine bar_ok (by decide +kernel) (by decide +kernel) ?_; conv => whnf) | (refine late_ok rfl rfl ?_; conv => whnf) | (refine src_ok rfl ?_; conv => whnf) | (refine .inl ⟨_, _, qcall_pure (sm) rfl rfl, ?_⟩; conv => whnf) | (refine LitB.data ?_; conv => whnf) | (refine BoxB.own ?_; conv => whnf)))
  (refine awp_seq tab_ok ?_; conv => whnf)
  (repeat' (first | ((refine DecB.mk (fun h => ?_) (fun h => ?_)) <;> first | (exfalso; omega) | (conv => whnf)) | ((refine BoolB.mk (fun h => ?_) (fun h => ?_)) <;> first | (exact absurd h (by decide)) | (conv => whnf)) | (refine ⟨_, wrap_ok (by omega) (by omega), ?_⟩; conv => whnf) | (refine and_idx (by omega) (by omega) ?_; conv => whnf) | (refine reg_ok (by decide +kernel) ?_; conv => whnf) | (refine bar_ok (by decide +kernel) (by decide +kernel) ?_; conv => whnf) | (refine late_ok rfl rfl ?_; conv => whnf) | (refine src_ok rfl ?_; conv => whnf) | (refine .inl ⟨_, _, qcall_pure (fw) rfl rfl, ?_⟩; conv => whnf) | (refine LitB.data ?_; conv => whnf) | (refine BoxB.own ?_; conv => whnf)))
  all_goals try (exfalso; omega)
  (refine awp_seq tab_ok ?_; conv => whnf)
  (repeat' (first | ((refine DecB.mk (fun h => ?_) (fun h => ?_)) <;> first | (exfalso; omega) | (conv => whnf)) | ((refine BoolB.mk (fun h => ?_) (fun h => ?_)) <;> first | (exact absurd h (by decide)) | (conv => whnf)) | (refine ⟨_, wrap_ok (by omega) (by omega), ?_⟩; conv => whnf) | (refine and_idx (by omega) (by omega) ?_; conv => whnf) | (refine reg_ok (by decide +kernel) ?_; conv => whnf) | (refine bar_ok (by decide +kernel) (by decide +kernel) ?_; conv => whnf) | (refine late_ok rfl rfl ?_; conv => whnf) | (refine src_ok rfl ?_; conv => whnf) | (refine .inl ⟨_, _, qcall_pure (ma) rfl rfl, ?_⟩; conv => whnf) | (refine LitB.data ?_; conv => whnf) | (refine BoxB.own ?_; conv => whnf)))
  (refine awp_seq tab_ok ?_; conv => whnf)
  (repeat' (first | ((refine DecB.mk (fun h => ?_) (fun h => ?_)) <;> first | (exfalso; omega) | (conv => whnf)) | ((refine BoolB.mk (fun h => ?_) (fun h => ?_)) <;> first | (exact absurd h (by decide)) | (conv => whnf)) | (refine ⟨_, wrap_ok (by omega) (by omega), ?_⟩; conv => whnf) | (refine and_idx (by omega) (by omega) ?_; conv => whnf) | (refine reg_ok (by decide +kernel) ?_; conv => whnf) | (refine bar_ok (by decide +kernel) (by decide +kernel) ?_; conv => whnf) | (refine late_ok rfl rfl ?_; conv => whnf) | (refine src_ok rfl ?_; conv => whnf) | (refine LitB.data ?_; conv => whnf) | (refine BoxB.own ?_; conv => whnf)))
  (refine awp_seq tab_ok ?_; conv => whnf)
  (repeat' (first | ((refine DecB.mk (fun h => ?_) (fun h => ?_)) <;> first | (exfalso; omega) | (conv => whnf)) | ((refine BoolB.mk (fun h => ?_) (fun h => ?_)) <;> first | (exact absurd h (by decide)) | (conv => whnf)) | (refine ⟨_, wrap_ok (by omega) (by omega), ?_⟩; conv => whnf) | (refine and_idx (by omega) (by omega) ?_; conv => whnf) | (refine reg_ok (by decide +kernel) ?_; conv => whnf) | (refine bar_ok (by decide +kernel) (by decide +kernel) ?_; conv => whnf) | (refine late_ok rfl rfl ?_; conv => whnf) | (refine src_ok rfl ?_; conv => whnf) | (refine .inl ⟨_, _, qcall_pure (toC) rfl rfl, ?_⟩; conv => whnf) | (refine .inl ⟨_, _, qcall_pure (toC, newBlk) rfl rfl, ?_⟩; conv => whnf) | (refine .inl ⟨_, _, qcall_pure (toC) rfl rfl, ?_⟩; conv => whnf) | (refine app_nil rfl (by simp [toC]; omega) ?_; conv => whnf) | (refine app_ok (by simp [toC, newBlk]) (by simp [toC]; omega) ?_; conv => whnf) | (refine LitB.data ?_; conv => whnf) | (refine BoxB.own ?_; conv => whnf)))
  (refine awp_seq tab_ok ?_; conv => whnf)
  (repeat' (first | ((refine DecB.mk (fun h => ?_) (fun h => ?_)) <;> first | (exfalso; omega) | (conv => whnf)) | ((refine BoolB.mk (fun h => ?_) (fun h => ?_)) <;> first | (exact absurd h (by decide)) | (conv => whnf)) | (refine ⟨_, wrap_ok (by omega) (by omega), ?_⟩; conv => whnf) | (refine and_idx (by omega) (by omega) ?_; conv => whnf) | (refine reg_ok (by decide +kernel) ?_; conv => whnf) | (refine bar_ok (by decide +kernel) (by decide +kernel) ?_; conv => whnf) | (refine late_ok rfl rfl ?_; conv => whnf) | (refine src_ok rfl ?_; conv => whnf) | (refine .inl ⟨_, _, qcall_pure (toC, newBlk) rfl rfl, ?_⟩; conv => whnf) | (refine .inl ⟨_, _, qcall_pure (toC) rfl rfl, ?_⟩; conv => whnf) | (refine .inl ⟨_, _, qcall_view mF ⟨vs_moreF rfl (by intro h; cases h) rfl (by simp [toC, newBlk]; exact ⟨List.take_of_length_le (by simp), rfl⟩) (by simp [toC]), vs_t, vs_t, trivial⟩ rfl, ?_⟩; conv => whnf) | (refine LitB.data ?_; conv => whnf) | (refine BoxB.own ?_; conv => whnf)))
  refine awp_cut tab_ok ([S.junk, intS .i64 kind, fracsS z, S.junk, S.junk, S.junk, S.c (C.t (T.ptr (trT t))), S.junk, S.junk, S.c (C.t (T.ptr f.row)), S.c (C.t (T.ptr c.row)), S.c (C.t (T.ptr r.row)), S.junk, boolS true, intS .i64 (matterE t kind z), S.c (C.ptr 0 0 0), S.junk, S.junk, S.junk, S.junk, S.junk, S.junk, S.junk, S.junk, S.junk, S.junk, S.junk, S.junk, S.junk, S.junk, S.junk, S.junk, S.junk, S.junk, S.junk, S.junk, S.junk, S.junk, S.junk, S.junk, S.junk, S.junk, S.junk, S.junk, S.junk, S.junk, S.junk, S.junk, S.junk, S.junk, S.junk, S.junk, S.junk, S.junk, S.junk, S.junk, S.junk, S.junk, S.junk, S.junk, S.junk, S.junk, S.junk, S.junk, S.junk, S.junk, S.junk, S.junk, S.junk, S.junk, S.junk, S.junk, S.junk, S.junk, S.junk, S.junk, S.junk, S.junk, S.junk, S.junk, S.junk, S.junk, S.junk, S.junk, S.junk, S.junk, S.junk, S.junk, S.junk, S.junk, S.junk, S.junk, S.junk, S.junk, S.junk, S.junk, S.junk, S.junk, S.junk, S.junk, S.junk, S.junk, S.junk, S.junk, S.junk, S.junk, S.junk, S.junk, S.junk, S.junk, S.junk, S.junk, S.junk, S.junk, S.junk, S.junk, S.junk, S.junk, S.junk, S.junk, S.junk, S.junk, S.junk, S.junk, S.junk, S.junk, S.junk, S.junk, S.junk, S.junk, S.junk, S.junk, S.junk, S.junk, S.junk, S.junk]) [trB (moreF t f)] ?_ ?_
  · conv => whnf
    (repeat' (first | ((refine DecB.mk (fun h => ?_) (fun h => ?_)) <;> first | (exfalso; omega) | (conv => whnf)) | ((refine BoolB.mk (fun h => ?_) (fun h => ?_)) <;> first | (exact absurd h (by decide)) | (conv => whnf)) | (refine ⟨_, wrap_ok (by omega) (by omega), ?_⟩; conv => whnf) | (refine and_idx (by omega) (by omega) ?_; conv => whnf) | (refine reg_ok (by decide +kernel) ?_; conv => whnf) | (refine bar_ok (by decide +kernel) (by decide +kernel) ?_; conv => whnf) | (refine late_ok rfl rfl ?_; conv => whnf) | (refine src_ok rfl ?_; conv => whnf) | (refine .inl ⟨_, _, qcall_pure (ct) rfl rfl, ?_⟩; conv => whnf) | (refine .inl ⟨_, _, qcall_pure (toC, newBlk) rfl rfl, ?_⟩; conv => whnf) | (refine .inl ⟨_, _, qcall_pure (toC) rfl rfl, ?_⟩; conv => whnf) | (refine .inl ⟨_, _, qcall_view cF ⟨vs_moreF rfl (by intro h; cases h) rfl (by simp [toC, newBlk]; exact ⟨List.take_of_length_le (by simp), rfl⟩) (by simp [toC]), trivial⟩ rfl, ?_⟩; conv => whnf) | (refine LitB.data ?_; conv => whnf) | (refine BoxB.own ?_; conv => whnf)))
    all_goals first
      | (exfalso; omega)
      | exact ⟨[some 0], rfl, rfl, ⟨⟨rfl, rfl, rfl, .inr ⟨⟨rfl, rfl, rfl, rfl, rfl, rfl, rfl, rfl, show EntC [some 0] _ _ _ from show VC _ (fun id => notIn [some 0] id = true) _ _ from vc_all (rows := (t.finds ++ [f]).map Find.row) rfl rfl (by intro h; cases h) rfl (by simp [toC, newBlk]; exact ⟨List.take_of_length_le (by simp), rfl⟩) (by simp [toC]), rfl, trivial⟩, trivial⟩⟩, trivial⟩, ⟨rfl, rfl, rfl, rfl, rfl, rfl, rfl, rfl, ⟨rfl, rfl, rfl⟩, trivial⟩⟩
  (refine awp_seq tab_ok ?_; conv => whnf)
  (repeat' (first | ((refine DecB.mk (fun h => ?_) (fun h => ?_)) <;> first | (exfalso; omega) | (conv => whnf)) | ((refine BoolB.mk (fun h => ?_) (fun h => ?_)) <;> first | (exact absurd h (by decide)) | (conv => whnf)) | (refine ⟨_, wrap_ok (by omega) (by omega), ?_⟩; conv => whnf) | (refine and_idx (by omega) (by omega) ?_; conv => whnf) | (refine reg_ok (by decide +kernel) ?_; conv => whnf) | (refine bar_ok (by decide +kernel) (by decide +kernel) ?_; conv => whnf) | (refine late_ok rfl rfl ?_; conv => whnf) | (refine src_ok rfl ?_; conv => whnf) | (refine LitB.data ?_; conv => whnf) | (refine BoxB.own ?_; conv => whnf)))
  (refine awp_seq tab_ok ?_; conv => whnf)
  (repeat' (first | ((refine DecB.mk (fun h => ?_) (fun h => ?_)) <;> first | (exfalso; omega) | (conv => whnf)) | ((refine BoolB.mk (fun h => ?_) (fun h => ?_)) <;> first | (exact absurd h (by decide)) | (conv => whnf)) | (refine ⟨_, wrap_ok (by omega) (by omega), ?_⟩; conv => whnf) | (refine and_idx (by omega) (by omega) ?_; conv => whnf) | (refine reg_ok (by decide +kernel) ?_; conv => whnf) | (refine bar_ok (by decide +kernel) (by decide +kernel) ?_; conv => whnf) | (refine late_ok rfl rfl ?_; conv => whnf) | (refine src_ok rfl ?_; conv => whnf) | (refine .inl ⟨_, _, qcall_pure (toC) rfl rfl, ?_⟩; conv => whnf) | (refine .inl ⟨_, _, qcall_pure (toC, newBlk) rfl rfl, ?_⟩; conv => whnf) | (refine .inl ⟨_, _, qcall_pure (toC) rfl rfl, ?_⟩; conv => whnf) | (refine app_nil rfl (by simp [toC]; omega) ?_; conv => whnf) | (refine app_ok (by simp [toC, newBlk]) (by simp [toC]; omega) ?_; conv => whnf) | (refine LitB.data ?_; conv => whnf) | (refine BoxB.own ?_; conv => whnf)))
  (refine awp_seq tab_ok ?_; conv => whnf)
  (repeat' (first | ((refine DecB.mk (fun h => ?_) (fun h => ?_)) <;> first | (exfalso; omega) | (conv => whnf)) | ((refine BoolB.mk (fun h => ?_) (fun h => ?_)) <;> first | (exact absurd h (by decide)) | (conv => whnf)) | (refine ⟨_, wrap_ok (by omega) (by omega), ?_⟩; conv => whnf) | (refine and_idx (by omega) (by omega) ?_; conv => whnf) | (refine reg_ok (by decide +kernel) ?_; conv => whnf) | (refine bar_ok (by decide +kernel) (by decide +kernel) ?_; conv => whnf) | (refine late_ok rfl rfl ?_; conv => whnf) | (refine src_ok rfl ?_; conv => whnf) | (refine .inl ⟨_, _, qcall_pure (toC, newBlk) rfl rfl, ?_⟩; conv => whnf) | (refine .inl ⟨_, _, qcall_pure (toC) rfl rfl, ?_⟩; conv => whnf) | (refine .inl ⟨_, _, qcall_view mC ⟨vs_moreC rfl (by intro h; cases h) rfl (by simp [toC, newBlk]; exact ⟨List.take_of_length_le (by simp), rfl⟩) (by simp [toC]), vs_t, vs_t, trivial⟩ rfl, ?_⟩; conv => whnf) | (refine LitB.data ?_; conv => whnf) | (refine BoxB.own ?_; conv => whnf)))
  refine awp_cut tab_ok ([S.junk, intS .i64 kind, fracsS z, S.junk, S.junk, S.junk, S.c (C.t (T.ptr (trT t))), S.junk, S.junk, S.c (C.t (T.ptr f.row)), S.c (C.t (T.ptr c.row)), S.c (C.t (T.ptr r.row)), S.junk, boolS true, intS .i64 (matterE t kind z), S.c (C.ptr 0 0 0), S.junk, S.junk, S.junk, S.junk, S.junk, S.junk, S.junk, S.junk, S.junk, S.junk, S.junk, S.junk, S.junk, S.junk, S.junk, S.junk, S.junk, S.junk, S.junk, S.junk, S.junk, S.junk, S.junk, S.junk, S.junk, S.junk, S.junk, S.junk, S.junk, S.junk, S.junk, S.junk, S.junk, S.junk, S.junk, S.junk, S.junk, S.junk, S.junk, S.junk, S.junk, S.junk, S.junk, S.junk, S.junk, S.junk, S.junk, S.junk, S.junk, S.junk, S.junk, S.junk, S.junk, S.junk, S.junk, S.junk, S.junk, S.junk, S.junk, S.junk, S.junk, S.junk, S.junk, S.junk, S.junk, S.junk, S.junk, S.junk, S.junk, S.junk, S.junk, S.junk, S.junk, S.junk, S.junk, S.junk, S.junk, S.junk, S.junk, S.junk, S.junk, S.junk, S.junk, S.junk, S.junk, S.junk, S.junk, S.junk, S.junk, S.junk, S.junk, S.junk, S.junk, S.junk, S.junk, S.junk, S.junk, S.junk, S.junk, S.junk, S.junk, S.junk, S.junk, S.junk, S.junk, S.junk, S.junk, S.junk, S.junk, S.junk, S.junk, S.junk, S.junk, S.junk, S.junk, S.junk, S.junk, S.junk, S.junk, S.junk]) [trB (moreC t c)] ?_ ?_
  · conv => whnf
    (repeat' (first | ((refine DecB.mk (fun h => ?_) (fun h => ?_)) <;> first | (exfalso; omega) | (conv => whnf)) | ((refine BoolB.mk (fun h => ?_) (fun h => ?_)) <;> first | (exact absurd h (by decide)) | (conv => whnf)) | (refine ⟨_, wrap_ok (by omega) (by omega), ?_⟩; conv => whnf) | (refine and_idx (by omega) (by omega) ?_; conv => whnf) | (refine reg_ok (by decide +kernel) ?_; conv => whnf) | (refine bar_ok (by decide +kernel) (by decide +kernel) ?_; conv => whnf) | (refine late_ok rfl rfl ?_; conv => whnf) | (refine src_ok rfl ?_; conv => whnf) | (refine .inl ⟨_, _, qcall_pure (ct) rfl rfl, ?_⟩; conv => whnf) | (refine .inl ⟨_, _, qcall_pure (toC, newBlk) rfl rfl, ?_⟩; conv => whnf) | (refine .inl ⟨_, _, qcall_pure (toC) rfl rfl, ?_⟩; conv => whnf) | (refine .inl ⟨_, _, qcall_view cC ⟨vs_moreC rfl (by intro h; cases h) rfl (by simp [toC, newBlk]; exact ⟨List.take_of_length_le (by simp), rfl⟩) (by simp [toC]), trivial⟩ rfl, ?_⟩; conv => whnf) | (refine LitB.data ?_; conv => whnf) | (refine BoxB.own ?_; conv => whnf)))
    all_goals first
      | (exfalso; omega)
      | exact ⟨[some 0], rfl, rfl, ⟨⟨rfl, rfl, rfl, .inr ⟨⟨rfl, rfl, rfl, rfl, rfl, rfl, rfl, rfl, rfl, show EntC [some 0] _ _ _ from show VC _ (fun id => notIn [some 0] id = true) _ _ from vc_all (rows := (t.cleans ++ [c]).map Clean.row) rfl rfl (by intro h; cases h) rfl (by simp [toC, newBlk]; exact ⟨List.take_of_length_le (by simp), rfl⟩) (by simp [toC]), trivial⟩, trivial⟩⟩, trivial⟩, ⟨rfl, rfl, rfl, rfl, rfl, rfl, rfl, rfl, ⟨rfl, rfl, rfl⟩, trivial⟩⟩
  (refine awp_seq tab_ok ?_; conv => whnf)
  (repeat' (first | ((refine DecB.mk (fun h => ?_) (fun h => ?_)) <;> first | (exfalso; omega) | (conv => whnf)) | ((refine BoolB.mk (fun h => ?_) (fun h => ?_)) <;> first | (exact absurd h (by decide)) | (conv => whnf)) | (refine ⟨_, wrap_ok (by omega) (by omega), ?_⟩; conv => whnf) | (refine and_idx (by omega) (by omega) ?_; conv => whnf) | (refine reg_ok (by decide +kernel) ?_; conv => whnf) | (refine bar_ok (by decide +kernel) (by decide +kernel) ?_; conv => whnf) | (refine late_ok rfl rfl ?_; conv => whnf) | (refine src_ok rfl ?_; conv => whnf) | (refine LitB.data ?_; conv => whnf) | (refine BoxB.own ?_; conv => whnf)))
  (refine awp_seq tab_ok ?_; conv => whnf)
  (repeat' (first | ((refine DecB.mk (fun h => ?_) (fun h => ?_)) <;> first | (exfalso; omega) | (conv => whnf)) | ((refine BoolB.mk (fun h => ?_) (fun h => ?_)) <;> first | (exact absurd h (by decide)) | (conv => whnf)) | (refine ⟨_, wrap_ok (by omega) (by omega), ?_⟩; conv => whnf) | (refine and_idx (by omega) (by omega) ?_; conv => whnf) | (refine reg_ok (by decide +kernel) ?_; conv => whnf) | (refine bar_ok (by decide +kernel) (by decide +kernel) ?_; conv => whnf) | (refine late_ok rfl rfl ?_; conv => whnf) | (refine src_ok rfl ?_; conv => whnf) | (refine .inl ⟨_, _, qcall_pure (toC) rfl rfl, ?_⟩; conv => whnf) | (refine .inl ⟨_, _, qcall_pure (toC, newBlk) rfl rfl, ?_⟩; conv => whnf) | (refine .inl ⟨_, _, qcall_pure (toC) rfl rfl, ?_⟩; conv => whnf) | (refine app_nil rfl (by simp [toC]; omega) ?_; conv => whnf) | (refine app_ok (by simp [toC, newBlk]) (by simp [toC]; omega) ?_; conv => whnf) | (refine LitB.data ?_; conv => whnf) | (refine BoxB.own ?_; conv => whnf)))
  (refine awp_seq tab_ok ?_; conv => whnf)
  (repeat' (first | ((refine DecB.mk (fun h => ?_) (fun h => ?_)) <;> first | (exfalso; omega) | (conv => whnf)) | ((refine BoolB.mk (fun h => ?_) (fun h => ?_)) <;> first | (exact absurd h (by decide)) | (conv => whnf)) | (refine ⟨_, wrap_ok (by omega) (by omega), ?_⟩; conv => whnf) | (refine and_idx (by omega) (by omega) ?_; conv => whnf) | (refine reg_ok (by decide +kernel) ?_; conv => whnf) | (refine bar_ok (by decide +kernel) (by decide +kernel) ?_; conv => whnf) | (refine late_ok rfl rfl ?_; conv => whnf) | (refine src_ok rfl ?_; conv => whnf) | (refine .inl ⟨_, _, qcall_pure (toC, newBlk) rfl rfl, ?_⟩; conv => whnf) | (refine .inl ⟨_, _, qcall_pure (toC) rfl rfl, ?_⟩; conv => whnf) | (refine .inl ⟨_, _, qcall_view cR ⟨vs_moreRe rfl (by intro h; cases h) rfl (by simp [toC, newBlk]; exact ⟨List.take_of_length_le (by simp), rfl⟩) (by simp [toC]), trivial⟩ rfl, ?_⟩; conv => whnf) | (refine LitB.data ?_; conv => whnf) | (refine BoxB.own ?_; conv => whnf)))
  all_goals try (exact fin_bool rfl)
  (refine awp_seq tab_ok ?_; conv => whnf)
  (repeat' (first | ((refine DecB.mk (fun h => ?_) (fun h => ?_)) <;> first | (exfalso; omega) | (conv => whnf)) | ((refine BoolB.mk (fun h => ?_) (fun h => ?_)) <;> first | (exact absurd h (by decide)) | (conv => whnf)) | (refine ⟨_, wrap_ok (by omega) (by omega), ?_⟩; conv => whnf) | (refine and_idx (by omega) (by omega) ?_; conv => whnf) | (refine reg_ok (by decide +kernel) ?_; conv => whnf) | (refine bar_ok (by decide +kernel) (by decide +kernel) ?_; conv => whnf) | (refine late_ok rfl rfl ?_; conv => whnf) | (refine src_ok rfl ?_; conv => whnf) | (refine .inl ⟨_, _, qcall_pure (toC, newBlk) rfl rfl, ?_⟩; conv => whnf) | (refine .inl ⟨_, _, qcall_pure (toC) rfl rfl, ?_⟩; conv => whnf) | (refine .inl ⟨_, _, qcall_view mR ⟨vs_moreRt rfl (by intro h; cases h) rfl (by simp [toC, newBlk]; exact ⟨List.take_of_length_le (by simp), rfl⟩) (by simp [toC]), vs_t, vs_t, trivial⟩ rfl, ?_⟩; conv => whnf) | (refine LitB.data ?_; conv => whnf) | (refine BoxB.own ?_; conv => whnf)))
  refine acode_sound tab_ok _ ?_
  conv => whnf
  (repeat' (first | ((refine DecB.mk (fun h => ?_) (fun h => ?_)) <;> first | (exfalso; omega) | (conv => whnf)) | ((refine BoolB.mk (fun h => ?_) (fun h => ?_)) <;> first | (exact absurd h (by decide)) | (conv => whnf)) | (refine ⟨_, wrap_ok (by omega) (by omega), ?_⟩; conv => whnf) | (refine and_idx (by omega) (by omega) ?_; conv => whnf) | (refine reg_ok (by decide +kernel) ?_; conv => whnf) | (refine bar_ok (by decide +kernel) (by decide +kernel) ?_; conv => whnf) | (refine late_ok rfl rfl ?_; conv => whnf) | (refine src_ok rfl ?_; conv => whnf) | (refine LitB.data ?_; conv => whnf) | (refine BoxB.own ?_; conv => whnf)))
  all_goals first
    | (exfalso; omega)
    | exact fin_bool rfl
end Go.Proofs.Ytomfnfbijgjfeaa
/- Laws on appending to a slice that the call itself made, in the form that my walks use. Over any program. -/
namespace Go.Proofs.Ytomfnfbijgjfeaa
open Go.RowKit

/-- what an append leaves of older worlds -/
def Later (base : Nat) (w w' : World) : Prop := w.heap.size ≤ w'.heap.size ∧ ∀ (w0 : World) (B : Nat), Below B w0 w → B ≤ base → Below B w0 w'
theorem Later.below {base B : Nat} {w w' w0 : World} (h : Later base w w') (hb : Below B w0 w) (hB : B ≤ base) : Below B w0 w' := h.2 w0 B hb hB
theorem Later.size {base : Nat} {w w' : World} (h : Later base w w') : w.heap.size ≤ w'.heap.size := h.1

end Go.Proofs.Ytomfnfbijgjfeaa
/- More words on memory: boxes of evidence; an append whose value is written out. -/
namespace Go.Proofs.Ytomfnfbijgjfeaa
open Go.RowKit

/-- Block b holds evidence of these parts. -/
structure EvBox (w : World) (b : Nat) (m h s : Int) (A1 : Option Addr) (n1 c1 : Nat) (A2 : Option Addr) (n2 c2 : Nat) (A3 : Option Addr) (n3 c3 : Nat) (A4 : Option Addr) (n4 c4 : Nat) (A5 : Option Addr) (n5 c5 : Nat) : Prop where
  b0 : w.cell? ⟨b, 0, none⟩ = some (vi m)
  b1 : w.cell? ⟨b, 1, none⟩ = some (vi h)
  b2 : w.cell? ⟨b, 2, none⟩ = some (vi s)
  b3 : w.cell? ⟨b, 3, none⟩ = some (.slice A1 n1 c1)
  b4 : w.cell? ⟨b, 4, none⟩ = some (.slice A2 n2 c2)
  b5 : w.cell? ⟨b, 5, none⟩ = some (.slice A3 n3 c3)
  b6 : w.cell? ⟨b, 6, none⟩ = some (.slice A4 n4 c4)
  b7 : w.cell? ⟨b, 7, none⟩ = some (.slice A5 n5 c5)
section
variable {w w' : World} {b : Nat} {m h s : Int} {A1 A2 A3 A4 A5 : Option Addr} {n1 n2 n3 n4 n5 c1 c2 c3 c4 c5 : Nat}
theorem EvBox.lt (h0 : EvBox w b m h s A1 n1 c1 A2 n2 c2 A3 n3 c3 A4 n4 c4 A5 n5 c5) : b < w.heap.size := lt_of_cell h0.b0
theorem EvBox.keep {B : Nat} (h0 : EvBox w b m h s A1 n1 c1 A2 n2 c2 A3 n3 c3 A4 n4 c4 A5 n5 c5) (hb : Below B w w') (hB : b < B) : EvBox w' b m h s A1 n1 c1 A2 n2 c2 A3 n3 c3 A4 n4 c4 A5 n5 c5 :=
  ⟨(hb.cell (p := ⟨b, 0, none⟩) hB).trans h0.b0, (hb.cell (p := ⟨b, 1, none⟩) hB).trans h0.b1, (hb.cell (p := ⟨b, 2, none⟩) hB).trans h0.b2, (hb.cell (p := ⟨b, 3, none⟩) hB).trans h0.b3,
   (hb.cell (p := ⟨b, 4, none⟩) hB).trans h0.b4, (hb.cell (p := ⟨b, 5, none⟩) hB).trans h0.b5, (hb.cell (p := ⟨b, 6, none⟩) hB).trans h0.b6, (hb.cell (p := ⟨b, 7, none⟩) hB).trans h0.b7⟩
theorem EvBox.later (h0 : EvBox w b m h s A1 n1 c1 A2 n2 c2 A3 n3 c3 A4 n4 c4 A5 n5 c5) (hb : Below w.heap.size w w') : EvBox w' b m h s A1 n1 c1 A2 n2 c2 A3 n3 c3 A4 n4 c4 A5 n5 c5 := h0.keep hb h0.lt
theorem EvBox.new (w : World) (m h s : Int) (A1 : Option Addr) (n1 c1 : Nat) (A2 : Option Addr) (n2 c2 : Nat) (A3 : Option Addr) (n3 c3 : Nat) (A4 : Option Addr) (n4 c4 : Nat) (A5 : Option Addr) (n5 c5 : Nat) (t : TypeId) :
    EvBox (w.alloc (.cells #[.int .i64 m, .int .i64 h, .int .i64 s, .slice A1 n1 c1, .slice A2 n2 c2, .slice A3 n3 c3, .slice A4 n4 c4, .slice A5 n5 c5] t)) w.heap.size m h s A1 n1 c1 A2 n2 c2 A3 n3 c3 A4 n4 c4 A5 n5 c5 := by
  have hc := fun i => cell_of_row (w.alloc (.cells #[.int .i64 m, .int .i64 h, .int .i64 s, .slice A1 n1 c1, .slice A2 n2 c2, .slice A3 n3 c3, .slice A4 n4 c4, .slice A5 n5 c5] t)) w.heap.size i _ t (0, 0) (heap_alloc_new w _)
  exact ⟨hc 0, hc 1, hc 2, hc 3, hc 4, hc 5, hc 6, hc 7⟩
end
end Go.Proofs.Ytomfnfbijgjfeaa
/- From a walk to a row: every law of the seat is closed by these, over any program. And: arguments opened to cells. -/
namespace Go.Proofs.Ytomfnfbijgjfeaa
open Go.RowKit Go.ChangeShapes Go.WideShapes Go.Deep

section
variable {H : Type} {enc : TypeId × Value → H} {P : Program}
theorem trodAll_stays (hl : laidOutB P = true) {W W' : World} {sp : Nat → Bool} : ∀ {ts : List TypeId} {vs : List Value} {ds : List (DataW H)} {ps : List MemPlace}, (∀ t ∈ ts, P.readableRec t = true ∧ t < P.types.size) →
    DataW.TrodAll enc P W 0 (fun _ => true) true ts vs ds ps → (∀ p ∈ ps, W.sameAt W' p) → (∀ p ∈ ps, sp p.block = true) → DataW.TrodAll enc P W' 0 sp true ts vs ds ps := by
  intro ts
  induction ts with
  | nil =>
    intro vs ds ps _ h _ _
    obtain ⟨rfl, rfl, rfl⟩ := trodAll_nil h
    exact trodAll_mk0
  | cons t ts ih =>
    intro vs ds ps hr h hsame hs
    obtain ⟨v, vs', d, ds', p, q, rfl, rfl, rfl, h1, h2⟩ := trodAll_cons h
    obtain ⟨ht, hlt⟩ := hr t (by simp)
    exact trodAll_cons_mk (WideElems.Trod_stays hl ht hlt h1 (fun x hx => hsame x (by simp [hx])) (fun x hx => hs x (by simp [hx]))) (ih (fun t ht => hr t (by simp [ht])) h2 (fun x hx => hsame x (by simp [hx])) (fun x hx => hs x (by simp [hx])))

/-- A law's post: it returned true, and old memory is as it was. -/
theorem law_post {f : Func} {s : ChangeSpec} {fresh handsOn : Bool} {W W' : World} {args : Array Value} {ds gs : List (DataW H)} {before : List MemPlace} {tb : TypeId}
    (hW : DataW.Whole enc P f.params.toList s.vars false W args.toList ds gs before) (hl : laidOutB P = true) (hr : ∀ t ∈ f.params.toList, P.readableRec t = true ∧ t < P.types.size) (hv : s.vars = [])
    (hfn : s.fn H (ds ++ gs) = { results := [.lit (.bool true)], args := ds }) (hres : f.resultTypes = #[tb]) (hbool : P.underlying tb = some .bool) (hb : Below W.heap.size W W') :
    s.post enc P f false fresh handsOn false W args (.bool true) W' := by
  have hW' := hW
  obtain ⟨p, q, hA, hV, rfl, hfz, hnd⟩ := hW
  rw [hv] at hV
  obtain ⟨rfl, rfl⟩ := trodVars_none hV
  have hlt : ∀ x ∈ p, x.block < W.heap.size := fun x hx => by have := hW'.lt x (by simpa using hx); simpa using this
  refine ⟨ds, [], p ++ [], [], p, [], hW', ?_, ?_, ?_, hb.frame _, fun h => by cases h⟩
  · rw [hfn, hres]
    exact trodAll_mk1 (shut_bool hbool true)
  · rw [hfn]
    exact trodAll_stays hl hr hA (fun x hx => hb.same (hlt x hx)) (fun x hx => by simpa using hlt x hx)
  · rw [hv, hfn]
    exact rfl

variable {w : World} {base : Nat} {spare : Nat → Bool} {held : Bool}
end
end Go.Proofs.Ytomfnfbijgjfeaa
/- An argument 'e api.Evidence' opened to its parts. -/
namespace Go.Proofs.Ytomfnfbijgjfeaa
open Go.RowKit Go.ChangeShapes Go.WideShapes Go.Deep

set_option maxRecDepth 100000
section
variable {H : Type} {enc : TypeId × Value → H} {w : World} {base : Nat} {spare : Nat → Bool} {held : Bool}
end
theorem law_own : ownKnob Try.prog.godebug = none := by kernel_rfl
theorem law_laid : laidOutB Try.prog = true := by kernel_rfl
end Go.Proofs.Ytomfnfbijgjfeaa
/- From a call's contract to what a law's row asks for. -/
namespace Go.Proofs.Ytomfnfbijgjfeaa
open Go.RowKit
set_option linter.unusedVariables false
set_option linter.unusedSimpArgs false

theorem wf_rangeU {n : Int} (h : (Lit.int .u8 n).wf = true) : 0 ≤ n ∧ n ≤ 255 := by
  simp only [Lit.wf, Bool.and_eq_true, decide_eq_true_eq] at h
  exact h
theorem rs_u8 {w : World} {n : Int} : RS w (fun _ => none) (fun _ => False) (intS .u8 n) (.int .u8 n) := RS.int
theorem rs_int {w : World} {n : Int} : RS w (fun _ => none) (fun _ => False) (intS .i64 n) (.int .i64 n) := RS.int

/-- arguments one by one -/
inductive RArgs (w : World) : List S → List Value → Prop
  | nil : RArgs w [] []
  | cons {s : S} {v : Value} {ss : List S} {vs : List Value} (h : RS w (fun _ => none) (fun _ => False) s v) (hs : RArgs w ss vs) : RArgs w (s :: ss) (v :: vs)
theorem RArgs.get {w : World} {ss : List S} {vs : List Value} (h : RArgs w ss vs) : vs.length = ss.length ∧ ∀ (j : Nat) (s : S), ss[j]? = some s → RS w (fun _ => none) (fun _ => False) s (vs.getD j undef) := by
  induction h with
  | nil => exact ⟨rfl, by simp⟩
  | cons h hs ih =>
    refine ⟨by simp [ih.1], fun j s hj => ?_⟩
    cases j with
    | zero => simp at hj; subst hj; exact h
    | succ j => simpa using ih.2 j s (by simpa using hj)

theorem law_of_acall {P : Program} {g : FuncId} {ss : List S} {b : Bool} (h : ACall P g ss [] (boolS b) []) {w : World} {vs : List Value} (ha : RArgs w ss vs) :
    Calls P g vs.toArray w fun e w' => e = .returned (.bool b) ∧ Below w.heap.size w w' := by
  obtain ⟨h1, h2⟩ := ha.get
  refine Calls.mono (h.2 w (fun _ => none) (fun _ => False) vs h1 h2 ⟨by simp, by simp, by simp, by simp, by simp⟩ (fun _ h => h.elim) (fun _ _ => rfl)) ?_
  rintro e w' ⟨v, rfl, ι', M', q1, q2, q3, q4, q5⟩
  rw [q1.inv_atm]
  exact ⟨rfl, q5.os, q5.tape, q5.output, q5.size, fun k hk => q5.keep k hk (by rintro ⟨id, k, _, _, hk, _⟩; simp at hk)⟩
end Go.Proofs.Ytomfnfbijgjfeaa
