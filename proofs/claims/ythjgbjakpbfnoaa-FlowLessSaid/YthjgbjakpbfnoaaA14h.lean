/- The law FlowLess, walked. -/
import Derived.Test.YthjgbjakpbfnoaaA14f
import Derived.Test.YthjgbjakpbfnoaaPlain14f
namespace Go.Proofs.Ythjgbjakpbfnoaa
open Go.RowKit
set_option linter.unusedVariables false
set_option linter.unusedSimpArgs false
set_option maxRecDepth 100000

theorem few_sized' {e : Ev} (h : few e = true) : e.Sized := by
  simp [few] at h
  exact ⟨by omega, by omega, by omega, by omega, by omega⟩
def purTo (e : Ev) (n k : Nat) : List Purity := (e.purities.take k).filter fun q => decide (q.move < (n : Int))
theorem purTo_yes {e : Ev} {n k : Nat} {x : Purity} (h : e.purities[k]? = some x) (hx : x.move < (n : Int)) : purTo e n (k + 1) = purTo e n k ++ [x] := by
  unfold purTo; rw [take_snoc h, List.filter_append]; simp [hx]
theorem purTo_no {e : Ev} {n k : Nat} {x : Purity} (h : e.purities[k]? = some x) (hx : ¬ x.move < (n : Int)) : purTo e n (k + 1) = purTo e n k := by
  unfold purTo; rw [take_snoc h, List.filter_append]; simp [hx]
abbrev lessB (e : Ev) (n : Nat) (m : Nat) : Blk := newBlk 28 8 [[.t (ti e.mats), .t (ti e.hhs), .t (ti e.scs), .t (placesT e.places), .t (.sl 6 .any ((e.moves.map Move.row).take n)), .t (certsT e.certs), .t (recallsT e.recalls), .own 2 0 m true]] true
abbrev purB (l : List Purity) : Blk := { mode := .live, elem := 46, size := 4, rows := toC (l.map Purity.row), box := false }
def lessE (e : Ev) (n : Nat) : Ev := { e with moves := e.moves.take n, purities := e.purities.filter fun q => decide (q.move < (n : Int)) }
theorem vs_less {e : Ev} {n : Nat} {ps : List Purity} (hp : ps = (lessE e n).purities) {p : Nat → Prop} {H0 : Blk} {H1 : Blk} {r : Hp} (h2 : p 2) {k : Blk} (hk : (H0 :: H1 :: k :: r)[2]? = some k) (hd : k.mode ≠ .dead) (hs : k.size = 4) (hr : k.rows = toC (ps.map Purity.row)) :
    VS (H0 :: H1 :: k :: r) p (.agg [.t (ti e.mats), .t (ti e.hhs), .t (ti e.scs), .t (placesT e.places), .t (.sl 6 .any ((e.moves.map Move.row).take n)), .t (certsT e.certs), .t (recallsT e.recalls), .own 2 0 ps.length true]) (evS (lessE e n)) := by
  subst hp
  refine vs_agg (ts := evT (lessE e n)) (vl_cons (vc_t rfl) (vl_cons (vc_t rfl) (vl_cons (vc_t rfl) (vl_cons (vc_t rfl) (vl_cons (vc_t ?_) (vl_cons (vc_t rfl) (vl_cons (vc_t rfl) (vl_cons (vc_all h2 hk hd hs hr (by simp)) vl_nil))))))))
  exact congrArg (T.sl 6 .any) (by simp [lessE])
theorem entc_own {ρ : List (Option Nat)} {H : Hp} {id len : Nat} {app : Bool} {size : Nat} {k : Blk} {rows : List (List T)} (hn : notIn ρ id = true) (hk : H[id]? = some k) (hd : k.mode ≠ .dead) (hs : k.size = size) (hc : k.rows = toC rows) (hl : len = rows.length) :
    EntC ρ H (.own id 0 len app) (.t (.sl size .any rows)) := show VC H _ _ _ from vc_all hn hk hd hs hc hl
def bareE (e : Ev) : Ev := { e with certs := [], recalls := [], purities := [] }
def moreE (e : Ev) : Ev := { e with mats := if e.mats + 1 < 6 then e.mats + 1 else 6, hhs := if e.hhs + 1 < 100 then e.hhs + 1 else 100, scs := if e.scs + 1 < 30 then e.scs + 1 else 30 }
theorem vs_bare {e : Ev} {H : Hp} {p : Nat → Prop} : VS H p (.agg [.t (ti e.mats), .t (ti e.hhs), .t (ti e.scs), .t (placesT e.places), .t (movesT e.moves), .t (.sl 0 .nil []), .t (.sl 0 .nil []), .t (.sl 0 .nil [])]) (evS (bareE e)) :=
  vs_agg (ts := evT (bareE e)) (vl_cons (vc_t rfl) (vl_cons (vc_t rfl) (vl_cons (vc_t rfl) (vl_cons (vc_t rfl) (vl_cons (vc_t rfl) (vl_cons (vc_t rfl) (vl_cons (vc_t rfl) (vl_cons (vc_t rfl) vl_nil))))))))
theorem a_FlowLess (e : Ev) (keep p : Int) (hk0 : 0 ≤ keep) (hk1 : keep ≤ 255) :
    ACall Try.prog 6 [evS e, intS .u8 keep, intS .i64 p] [] (boolS true) [] := by
  cases hf : few e with
  | false =>
    have f0 := a_Few e
    rw [hf] at f0
    (refine acall_of tab_ok Try.func6 rfl (by decide) ?_; conv => whnf)
    (repeat' (first | ((refine DecB.mk (fun h => ?_) (fun h => ?_)) <;> first | (exfalso; omega) | (conv => whnf)) | ((refine BoolB.mk (fun h => ?_) (fun h => ?_)) <;> first | (exact absurd h (by decide)) | (conv => whnf)) | (refine ⟨_, wrap_ok (by omega) (by omega), ?_⟩; conv => whnf) | (refine and_idx (by omega) (by omega) ?_; conv => whnf) | (refine reg_ok (by decide +kernel) ?_; conv => whnf) | (refine bar_ok (by decide +kernel) ?_; conv => whnf) | (refine src_ok rfl ?_; conv => whnf) | (refine .inl ⟨_, _, qcall_pure (a_small) rfl rfl, ?_⟩; conv => whnf) | (refine .inl ⟨_, _, qcall_pure (f0) rfl rfl, ?_⟩; conv => whnf)))
    all_goals first | exact fin_bool rfl | (exfalso; simp_all; done)
  | true =>
    have hs := few_sized' hf
    have f0 := a_Few e
    rw [hf] at f0
    by_cases h0 : check e = 0
    · have c0 := a_Check e hs
      rw [h0] at c0
      have l7 := hs.s2
      have l8 : (e.moves.map Move.row).length = e.moves.length := by simp
      have l9 : (e.purities.map Purity.row).length = e.purities.length := by simp
      obtain ⟨n, hn⟩ : ∃ n : Nat, keep.tmod ((e.moves.map Move.row).length + 1) = n := Int.eq_ofNat_of_zero_le (Int.tmod_nonneg _ hk0)
      have hn1 : n ≤ e.moves.length := by
        have := Int.tmod_lt_of_pos keep (b := (((e.moves.map Move.row).length : Int) + 1)) (by omega)
        omega
      have ⟨b1, b2, b3⟩ : e.mats ≤ 6 ∧ e.hhs ≤ 100 ∧ e.scs ≤ 30 := by
        have := (check_zero h0).1
        simp [fullB] at this
        omega
      (refine acall_of tab_ok Try.func6 rfl (by decide) ?_; conv => whnf)
      (repeat' (first | ((refine DecB.mk (fun h => ?_) (fun h => ?_)) <;> first | (exfalso; omega) | (conv => whnf)) | ((refine BoolB.mk (fun h => ?_) (fun h => ?_)) <;> first | (exact absurd h (by decide)) | (conv => whnf)) | (refine ⟨_, wrap_ok (by omega) (by omega), ?_⟩; conv => whnf) | (refine and_idx (by omega) (by omega) ?_; conv => whnf) | (refine reg_ok (by decide +kernel) ?_; conv => whnf) | (refine bar_ok (by decide +kernel) ?_; conv => whnf) | (refine src_ok rfl ?_; conv => whnf) | (refine .inl ⟨_, _, qcall_pure (a_small) rfl rfl, ?_⟩; conv => whnf) | (refine .inl ⟨_, _, qcall_pure (f0) rfl rfl, ?_⟩; conv => whnf) | (refine .inl ⟨_, _, qcall_pure (c0) rfl rfl, ?_⟩; conv => whnf) | (refine .inl ⟨_, _, qcall_pure (hn) rfl rfl, ?_⟩; conv => whnf) | (refine ne_ok (by omega) ?_; rw [hn]; conv => whnf) | (refine sl_ok (by omega) (by omega) (by omega) ?_; conv => whnf)))
      refine awp_weak ?_
      refine awp_for tab_ok (fun k => ([S.junk, S.junk, intS .i64 p, S.c (C.ptr 0 0 0), S.junk, S.junk, S.junk, boolS true, intS .i64 n, S.c (C.ptr 1 0 0), intS .i64 k, S.junk, S.junk, S.junk, S.junk, S.junk, S.junk, S.junk, S.junk, S.junk, S.junk, S.junk, S.junk, S.junk, S.junk, S.junk, S.junk, S.junk, S.junk, S.junk, S.junk, S.junk, S.junk, S.junk, S.junk, S.junk, S.junk, S.junk, S.junk, S.junk, S.junk, S.junk, S.junk, S.junk, S.junk, S.junk, S.junk, S.junk, S.junk, S.junk, S.junk, S.junk, S.junk, S.junk, S.junk, S.junk, S.junk, S.junk, S.junk, S.junk, S.junk, S.junk, S.junk, S.junk, S.junk, S.junk, S.junk, S.junk, S.junk, S.junk, S.junk, S.junk, S.junk, S.junk, S.junk, S.junk, S.junk, S.junk, S.junk, S.junk, S.junk, S.junk, S.junk, S.junk, S.junk, S.junk, S.junk, S.junk, S.junk, S.junk, S.junk, S.junk, S.junk, S.junk, S.junk, S.junk, S.junk, S.junk, S.junk, S.junk, S.junk, S.junk, S.junk, S.junk, S.junk, S.junk, S.junk, S.junk, S.junk, S.junk, S.junk, S.junk, S.junk, S.junk, S.junk, S.junk, S.junk, S.junk, S.junk, S.junk, S.junk, S.junk], [evB e, lessB e n (purTo e n k).length, purB (purTo e n k)])) e.purities.length (fun k => True) [some 0, some 1, none] trivial
        ⟨rfl, rfl, ⟨⟨rfl, rfl, rfl, .inl ⟨rfl, rowsT_ev e⟩⟩, ⟨rfl, rfl, rfl, .inr ⟨⟨rfl, rfl, rfl, rfl, rfl, rfl, rfl, ⟨rfl, rfl, rfl⟩, trivial⟩, trivial⟩⟩, ⟨rfl, rfl⟩, trivial⟩, ⟨rfl, ⟨rfl, rfl, rfl⟩, rfl, rfl, ⟨rfl, rfl, rfl⟩, rfl, trivial⟩⟩ ?_
      intro k hk hI
      have hpl : (purTo e n k).length ≤ e.purities.length := by
        unfold purTo
        exact Nat.le_trans (List.length_filter_le _ _) (by simp; omega)
      have hs5 := hs.s5
      conv => whnf
      (repeat' (first | ((refine DecB.mk (fun h => ?_) (fun h => ?_)) <;> first | (exfalso; omega) | (conv => whnf)) | ((refine BoolB.mk (fun h => ?_) (fun h => ?_)) <;> first | (exact absurd h (by decide)) | (conv => whnf)) | (refine ⟨_, wrap_ok (by omega) (by omega), ?_⟩; conv => whnf) | (refine and_idx (by omega) (by omega) ?_; conv => whnf) | (refine reg_ok (by decide +kernel) ?_; conv => whnf) | (refine bar_ok (by decide +kernel) ?_; conv => whnf) | (refine src_ok rfl ?_; conv => whnf)))
      · have hlt : k < e.purities.length := by omega
        obtain ⟨x, hx⟩ : ∃ x, e.purities[k]? = some x := ⟨_, List.getElem?_eq_getElem hlt⟩
        (repeat' (first | ((refine DecB.mk (fun h => ?_) (fun h => ?_)) <;> first | (exfalso; omega) | (conv => whnf)) | ((refine BoolB.mk (fun h => ?_) (fun h => ?_)) <;> first | (exact absurd h (by decide)) | (conv => whnf)) | (refine ⟨_, wrap_ok (by omega) (by omega), ?_⟩; conv => whnf) | (refine and_idx (by omega) (by omega) ?_; conv => whnf) | (refine reg_ok (by decide +kernel) ?_; conv => whnf) | (refine bar_ok (by decide +kernel) ?_; conv => whnf) | (refine src_ok rfl ?_; conv => whnf) | (refine .inl ⟨_, _, qcall_pure (toC, newBlk) rfl rfl, ?_⟩; conv => whnf) | (refine .inl ⟨_, _, qcall_pure (toC) rfl rfl, ?_⟩; conv => whnf) | (refine ex_row hx ?_; conv => whnf) | (refine app_ok (by simp [toC, newBlk]) (by simp [toC] at *; omega) ?_; conv => whnf)))
        · have hb : x.move < (n : Int) := by omega
          refine ⟨hlt, trivial, [some 0, some 1, some 3], rfl, rfl, ⟨⟨rfl, rfl, rfl, .inl ⟨rfl, rowsT_ev e⟩⟩, ⟨rfl, rfl, rfl, .inr ⟨⟨rfl, rfl, rfl, rfl, rfl, rfl, rfl, ⟨rfl, rfl, ?_, fun h => h⟩, trivial⟩, trivial⟩⟩, entB_rows rfl rfl rfl ?_ rfl, trivial⟩, ⟨rfl, ⟨rfl, rfl, rfl⟩, rfl, rfl, ⟨rfl, rfl, rfl⟩, rfl, trivial⟩⟩
          · rw [purTo_yes hx hb]; simp [toC]
          · rw [purTo_yes hx hb, List.map_append]
            exact (congrArg (fun n' => List.take n' (toC ((purTo e n k).map Purity.row)) ++ toC [x.row]) (by simp)).trans toC_snoc
        · have hb : ¬ x.move < (n : Int) := by omega
          refine ⟨hlt, trivial, [some 0, some 1, some 2], rfl, rfl, ⟨⟨rfl, rfl, rfl, .inl ⟨rfl, rowsT_ev e⟩⟩, ⟨rfl, rfl, rfl, .inr ⟨⟨rfl, rfl, rfl, rfl, rfl, rfl, rfl, ⟨rfl, rfl, ?_, fun h => h⟩, trivial⟩, trivial⟩⟩, entB_rows rfl rfl rfl ?_ rfl, trivial⟩, ⟨rfl, ⟨rfl, rfl, rfl⟩, rfl, rfl, ⟨rfl, rfl, rfl⟩, rfl, trivial⟩⟩
          · rw [purTo_no hx hb]
          · rw [purTo_no hx hb]
      · have hc1 : check (lessE e n) = 0 := check_mono (n := n) h0 rfl (Int.le_refl _) b1 (Int.le_refl _) b2 (Int.le_refl _) b3 rfl (.inl rfl) (.inl rfl) (fun q hq => by
            have := List.mem_filter.1 hq
            refine ⟨this.1, ?_⟩
            have h2 := this.2
            simp [lessE] at h2 ⊢
            omega) (List.length_filter_le _ _)
        have hkk : purTo e n k = (lessE e n).purities := by
          unfold purTo lessE
          rw [List.take_of_length_le (by omega)]
        have hsl : (lessE e n).Sized := ⟨hs.s1, by simp [lessE]; omega, hs.s3, hs.s4, Nat.le_trans (List.length_filter_le _ _) hs.s5⟩
        have cl := a_Check (lessE e n) hsl
        rw [hc1] at cl
        have il := a_Into (lessE e n) hsl p n
        rw [into_less h0 hc1 rfl hn1] at il
        have ol := a_Out (lessE e n) hsl p (e.moves.map Move.row).length
        rw [l8, outOf_less h0 hc1 rfl hn1] at ol
        rw [← l8] at ol
        have ie := a_Into e hs p n
        have oe := a_Out e hs p n
        have li : (into e p n).length ≤ 1000000 := by
          unfold into
          split
          all_goals first | exact Nat.le_trans (length_pickFrom _ _ _) hs.s2 | exact Nat.zero_le _
        have lo : (outOf e p n).length ≤ 1000000 := by
          unfold outOf
          split
          all_goals first | exact Nat.le_trans (length_pickFrom _ _ _) hs.s2 | exact Nat.zero_le _
        have s1 := a_SameInts (into e p n) (into e p n) li li
        rw [decide_eq_true rfl] at s1
        have s2 := a_SameInts (outOf e p n) (outOf e p n) lo lo
        rw [decide_eq_true rfl] at s2
        refine .inr ⟨[some 0, some 1], [S.junk, S.junk, intS .i64 p, S.c (C.ptr 0 0 0), S.junk, S.junk, S.junk, boolS true, intS .i64 n, S.c (C.ptr 1 0 0), S.junk, S.junk, S.junk, S.junk, S.junk, S.junk, S.junk, S.junk, S.junk, S.junk, S.junk, S.junk, S.junk, S.junk, S.junk, S.junk, S.junk, S.junk, S.junk, S.junk, S.junk, S.junk, S.junk, S.junk, S.junk, S.junk, S.junk, S.junk, S.junk, S.junk, S.junk, S.junk, S.junk, S.junk, S.junk, S.junk, S.junk, S.junk, S.junk, S.junk, S.junk, S.junk, S.junk, S.junk, S.junk, S.junk, S.junk, S.junk, S.junk, S.junk, S.junk, S.junk, S.junk, S.junk, S.junk, S.junk, S.junk, S.junk, S.junk, S.junk, S.junk, S.junk, S.junk, S.junk, S.junk, S.junk, S.junk, S.junk, S.junk, S.junk, S.junk, S.junk, S.junk, S.junk, S.junk, S.junk, S.junk, S.junk, S.junk, S.junk, S.junk, S.junk, S.junk, S.junk, S.junk, S.junk, S.junk, S.junk, S.junk, S.junk, S.junk, S.junk, S.junk, S.junk, S.junk, S.junk, S.junk, S.junk, S.junk, S.junk, S.junk, S.junk, S.junk, S.junk, S.junk, S.junk, S.junk, S.junk, S.junk, S.junk, S.junk, S.junk], [evB e, evB (lessE e n)],
          ⟨rfl, rfl, ⟨⟨rfl, rfl, rfl, .inl ⟨rfl, rowsT_ev e⟩⟩, ⟨rfl, rfl, rfl, .inr ⟨⟨rfl, rfl, rfl, rfl, ?_, rfl, rfl, ?_, trivial⟩, trivial⟩⟩, trivial⟩, ⟨rfl, ⟨rfl, rfl, rfl⟩, rfl, rfl, ⟨rfl, rfl, rfl⟩, trivial⟩⟩, ?_⟩
        · exact congrArg (T.sl 6 .any) (by simp [lessE])
        · exact entc_own (k := purB (purTo e n k)) rfl rfl (by intro h; cases h) rfl (by rw [← hkk]) (by rw [← hkk]; simp)
        conv => whnf
        have ⟨_, b4, b5, b6, _⟩ := check_zero h0
        have hc2 : check (bareE e) = 0 := check_mono (n := e.moves.length) h0 rfl (Int.le_refl _) b1 (Int.le_refl _) b2 (Int.le_refl _) b3 (List.take_length).symm (.inr rfl) (.inr rfl) (fun q hq => by cases hq) (Nat.zero_le _)
        have hc3 : check (moreE e) = 0 := by
          have hpm : ∀ q ∈ e.purities, q ∈ e.purities ∧ q.move < e.moves.length := fun q hq => by
            have := (check_zero h0).2.2.2.2.2.2
            simp only [saidOk, Bool.and_eq_true, List.all_eq_true] at this
            have := this.2 q hq
            simp only [purityOk, Bool.and_eq_true, decide_eq_true_eq, idx_iff] at this
            exact ⟨hq, this.1.1.1.1.2⟩
          refine check_mono (n := e.moves.length) h0 rfl ?_ ?_ ?_ ?_ ?_ ?_ (List.take_length).symm (.inl rfl) (.inl rfl) hpm (Nat.le_refl _)
          all_goals (simp only [moreE]; split <;> omega)
        have cb := a_Check (bareE e) ⟨hs.s1, hs.s2, Nat.zero_le _, Nat.zero_le _, Nat.zero_le _⟩
        rw [hc2] at cb
        have cm := a_Check (moreE e) ⟨hs.s1, hs.s2, hs.s3, hs.s4, hs.s5⟩
        rw [hc3] at cm
        (repeat' (first | ((refine DecB.mk (fun h => ?_) (fun h => ?_)) <;> first | (exfalso; omega) | (conv => whnf)) | ((refine BoolB.mk (fun h => ?_) (fun h => ?_)) <;> first | (exact absurd h (by decide)) | (conv => whnf)) | (refine ⟨_, wrap_ok (by omega) (by omega), ?_⟩; conv => whnf) | (refine and_idx (by omega) (by omega) ?_; conv => whnf) | (refine reg_ok (by decide +kernel) ?_; conv => whnf) | (refine bar_ok (by decide +kernel) ?_; conv => whnf) | (refine src_ok rfl ?_; conv => whnf) | (refine .inl ⟨_, _, qcall_pure (cl) rfl rfl, ?_⟩; conv => whnf) | (refine .inl ⟨_, _, qcall_pure (il) rfl rfl, ?_⟩; conv => whnf) | (refine .inl ⟨_, _, qcall_pure (ol) rfl rfl, ?_⟩; conv => whnf) | (refine .inl ⟨_, _, qcall_pure (s1) rfl rfl, ?_⟩; conv => whnf) | (refine .inl ⟨_, _, qcall_pure (s2) rfl rfl, ?_⟩; conv => whnf) | (refine .inl ⟨_, _, qcall_pure (ie) rfl rfl, ?_⟩; conv => whnf) | (refine .inl ⟨_, _, qcall_pure (oe) rfl rfl, ?_⟩; conv => whnf) | (refine .inl ⟨_, _, qcall_pure (cm) rfl rfl, ?_⟩; conv => whnf) | (refine .inl ⟨_, _, qcall_data cb ⟨vs_bare, trivial⟩ rfl, ?_⟩; conv => whnf)))
        all_goals first | exact fin_bool rfl | (exfalso; simp_all; done)
    · (refine acall_of tab_ok Try.func6 rfl (by decide) ?_; conv => whnf)
      (repeat' (first | ((refine DecB.mk (fun h => ?_) (fun h => ?_)) <;> first | (exfalso; omega) | (conv => whnf)) | ((refine BoolB.mk (fun h => ?_) (fun h => ?_)) <;> first | (exact absurd h (by decide)) | (conv => whnf)) | (refine ⟨_, wrap_ok (by omega) (by omega), ?_⟩; conv => whnf) | (refine and_idx (by omega) (by omega) ?_; conv => whnf) | (refine reg_ok (by decide +kernel) ?_; conv => whnf) | (refine bar_ok (by decide +kernel) ?_; conv => whnf) | (refine src_ok rfl ?_; conv => whnf) | (refine .inl ⟨_, _, qcall_pure (a_small) rfl rfl, ?_⟩; conv => whnf) | (refine .inl ⟨_, _, qcall_pure (f0) rfl rfl, ?_⟩; conv => whnf) | (refine .inl ⟨_, _, qcall_pure (a_Check e hs) rfl rfl, ?_⟩; conv => whnf)))
      all_goals first | exact fin_bool rfl | (exfalso; simp_all; done)
end Go.Proofs.Ythjgbjakpbfnoaa
