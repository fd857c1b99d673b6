/- FlowOnce: the walk. -/
import Derived.Test.YthjgbjakpbfnoaaLaw14T
import Derived.Test.YthjgbjakpbfnoaaLaw14b
import Derived.Test.YthjgbjakpbfnoaaPlain14d
import Derived.Deep.DeepCutAuto
namespace Go.Proofs.Ythjgbjakpbfnoaa
open Go.RowKit
set_option linter.unusedSimpArgs false
set_option linter.unusedVariables false

theorem Rd.set_far {α : Type} {k : Nat} {f : α → List Value} {w : World} {A : Option Addr} {n c i : Nat} {xs : List α} (h : Rd k f w A n xs) (hne : ∀ ad, A = some ad → ad.block ≠ c) (u : Value) : Rd k f (w.setCell ⟨c, i, none⟩ u) A n xs :=
  ⟨h.1, fun hn => by
    obtain ⟨b, off, e, hc⟩ := h.2 hn
    refine ⟨b, off, e, fun i' x hx j u' hu => ?_⟩
    have hb := hne _ e
    rw [World.cell?_setCell_other _ _ _ _ (by intro e1; injection e1 with e2 _ _; exact hb e2.symm)]
    exact hc i' x hx j u' hu⟩

theorem Rd.drewed {α : Type} {k : Nat} {f : α → List Value} {w : World} {A : Option Addr} {n : Nat} {xs : List α} (h : Rd k f w A n xs) : Rd k f w.drew A n xs := h
theorem hown_lt {w : World} {base : Nat} {t : TypeId} {size n cap g : Nat} {xs : List Value} (h : w.ownsRow base t size (.slice (some ⟨g, 0, none⟩) n cap) n xs) : g < w.heap.size := (h.lt g rfl).2

section
variable {w : World} {m h s : Int} {A1 A2 A3 A4 A5 : Option Addr} {n1 n2 n3 n4 n5 c1 c2 c3 c4 c5 : Nat} {e : Ev}

set_option maxRecDepth 100000 in
set_option maxHeartbeats 2000000 in
theorem law14_FlowOnce (up : Int) (hr : EvR w m h s A1 n1 A2 n2 A3 n3 A4 n4 A5 n5 e) :
    Calls Try.prog 4 #[.agg #[.int .i64 m, .int .i64 h, .int .i64 s, .slice A1 n1 c1, .slice A2 n2 c2, .slice A3 n3 c3, .slice A4 n4 c4, .slice A5 n5 c5], .int .i64 up] w fun r w' => r = .returned (.bool true) ∧ Below w.heap.size w w' := by
  obtain ⟨rfl, rfl, rfl, r1, r2, r3, r4, r5⟩ := hr
  obtain rfl := r1.len
  obtain rfl := r2.len
  obtain rfl := r3.len
  obtain rfl := r4.len
  obtain rfl := r5.len
  have hr : EvR w e.mats e.hhs e.scs A1 e.places.length A2 e.moves.length A3 e.certs.length A4 e.recalls.length A5 e.purities.length e := ⟨rfl, rfl, rfl, r1, r2, r3, r4, r5⟩
  have HR := Lib.hid hr
  clear hr
  by_cases hf : few e = true
  case neg =>
    have hff : few e = false := by simpa using hf
    have HF := Lib.hid hff
    clear hf hff r1 r2 r3 r4 r5
    go_enter Try.func4, Try.ntmps4
    go_wp2_with (first
      | (go_at_call 10; refine (law14_small _).mono ?_; rintro r wr ⟨rfl, hb0⟩; have hb : Below (w.heap.size + 1) (w.alloc (.cells #[.int .i64 e.mats, .int .i64 e.hhs, .int .i64 e.scs, .slice A1 e.places.length c1, .slice A2 e.moves.length c2, .slice A3 e.certs.length c3, .slice A4 e.recalls.length c4, .slice A5 e.purities.length c5] 28)) wr := hb0.mono (by simp); clear hb0; have hz := below_old_lt hb; have d0 : wr.cell? ⟨w.heap.size, 0, none⟩ = some (vi e.mats) := below_box hb 0; have d1 : wr.cell? ⟨w.heap.size, 1, none⟩ = some (vi e.hhs) := below_box hb 1; have d2 : wr.cell? ⟨w.heap.size, 2, none⟩ = some (vi e.scs) := below_box hb 2; have d3 : wr.cell? ⟨w.heap.size, 3, none⟩ = some (.slice A1 e.places.length c1) := below_box hb 3; have d4 : wr.cell? ⟨w.heap.size, 4, none⟩ = some (.slice A2 e.moves.length c2) := below_box hb 4; have d5 : wr.cell? ⟨w.heap.size, 5, none⟩ = some (.slice A3 e.certs.length c3) := below_box hb 5; have d6 : wr.cell? ⟨w.heap.size, 6, none⟩ = some (.slice A4 e.recalls.length c4) := below_box hb 6; have d7 : wr.cell? ⟨w.heap.size, 7, none⟩ = some (.slice A5 e.purities.length c5) := below_box hb 7; have HB := Lib.hid (below_old hb); clear hb)
      | (go_at_call 11; refine (ref14_Few (e := e) (HR.out.keep HB.out)).mono ?_; rintro r wx ⟨hr0, hb0⟩; rw [HF.out] at hr0; subst hr0; have HB2 := Lib.hid (HB.out.trans (hb0.mono (by omega))); clear hb0))
    go_ret
    exact ⟨rfl, HB2.out⟩
  have hn := few_sized hf
  have HF := Lib.hid hf
  clear hf
  by_cases hck : check e = 0
  case neg =>
    have hne : (check e != 0) = true := by simpa using hck
    have HN := Lib.hid hck
    clear hck r1 r2 r3 r4 r5
    go_enter Try.func4, Try.ntmps4
    go_wp2_with (first
      | (go_at_call 10; refine (law14_small _).mono ?_; rintro r wr ⟨rfl, hb0⟩; have hb : Below (w.heap.size + 1) (w.alloc (.cells #[.int .i64 e.mats, .int .i64 e.hhs, .int .i64 e.scs, .slice A1 e.places.length c1, .slice A2 e.moves.length c2, .slice A3 e.certs.length c3, .slice A4 e.recalls.length c4, .slice A5 e.purities.length c5] 28)) wr := hb0.mono (by simp); clear hb0; have hz := below_old_lt hb; have d0 : wr.cell? ⟨w.heap.size, 0, none⟩ = some (vi e.mats) := below_box hb 0; have d1 : wr.cell? ⟨w.heap.size, 1, none⟩ = some (vi e.hhs) := below_box hb 1; have d2 : wr.cell? ⟨w.heap.size, 2, none⟩ = some (vi e.scs) := below_box hb 2; have d3 : wr.cell? ⟨w.heap.size, 3, none⟩ = some (.slice A1 e.places.length c1) := below_box hb 3; have d4 : wr.cell? ⟨w.heap.size, 4, none⟩ = some (.slice A2 e.moves.length c2) := below_box hb 4; have d5 : wr.cell? ⟨w.heap.size, 5, none⟩ = some (.slice A3 e.certs.length c3) := below_box hb 5; have d6 : wr.cell? ⟨w.heap.size, 6, none⟩ = some (.slice A4 e.recalls.length c4) := below_box hb 6; have d7 : wr.cell? ⟨w.heap.size, 7, none⟩ = some (.slice A5 e.purities.length c5) := below_box hb 7; have HB := Lib.hid (below_old hb); clear hb)
      | (go_at_call 11; refine (ref14_Few (e := e) (HR.out.keep HB.out)).mono ?_; rintro r wx ⟨hr0, hb0⟩; rw [HF.out] at hr0; subst hr0; have HB2 := Lib.hid (HB.out.trans (hb0.mono (by omega))); have HX := Lib.hid ((EvBox.mk d0 d1 d2 d3 d4 d5 d6 d7).later hb0); clear hb0 d0 d1 d2 d3 d4 d5 d6 d7; obtain ⟨d0, d1, d2, d3, d4, d5, d6, d7⟩ := HX.out)
      | (go_at_call 12; refine (flow_Check (e := e) hn (HR.out.keep HB2.out)).mono ?_; rintro r wy ⟨rfl, hb0⟩; have HB3 := Lib.hid (HB2.out.trans (hb0.mono HB2.out.size)); clear hb0))
    go_ret
    exact ⟨rfl, HB3.out⟩
  have H0 := Lib.hid hck
  clear hck
  obtain ⟨i0, hi, hz0, hz1, hz2⟩ := info_parts rint_info
  have hm2 := hn.s2
  have hm1 := hn.s1
  go_enter Try.func4, Try.ntmps4
  go_wp2_with (first
    | (go_at_call 10; refine (law14_small _).mono ?_; rintro r wr ⟨rfl, hb0⟩; have hb : Below (w.heap.size + 1) (w.alloc (.cells #[.int .i64 e.mats, .int .i64 e.hhs, .int .i64 e.scs, .slice A1 e.places.length c1, .slice A2 e.moves.length c2, .slice A3 e.certs.length c3, .slice A4 e.recalls.length c4, .slice A5 e.purities.length c5] 28)) wr := hb0.mono (by simp); clear hb0; have hz := below_old_lt hb; have d0 : wr.cell? ⟨w.heap.size, 0, none⟩ = some (vi e.mats) := below_box hb 0; have d1 : wr.cell? ⟨w.heap.size, 1, none⟩ = some (vi e.hhs) := below_box hb 1; have d2 : wr.cell? ⟨w.heap.size, 2, none⟩ = some (vi e.scs) := below_box hb 2; have d3 : wr.cell? ⟨w.heap.size, 3, none⟩ = some (.slice A1 e.places.length c1) := below_box hb 3; have d4 : wr.cell? ⟨w.heap.size, 4, none⟩ = some (.slice A2 e.moves.length c2) := below_box hb 4; have d5 : wr.cell? ⟨w.heap.size, 5, none⟩ = some (.slice A3 e.certs.length c3) := below_box hb 5; have d6 : wr.cell? ⟨w.heap.size, 6, none⟩ = some (.slice A4 e.recalls.length c4) := below_box hb 6; have d7 : wr.cell? ⟨w.heap.size, 7, none⟩ = some (.slice A5 e.purities.length c5) := below_box hb 7; have HB := Lib.hid hb; clear hb)
    | (go_at_call 11; refine (ref14_Few (e := e) (HR.out.keep (below_old HB.out))).mono ?_; rintro r wx ⟨hr0, hb0⟩; rw [HF.out] at hr0; subst hr0; have HB2 := Lib.hid (HB.out.trans (hb0.mono hz)); have HX := Lib.hid ((EvBox.mk d0 d1 d2 d3 d4 d5 d6 d7).later hb0); clear hb0 hz d0 d1 d2 d3 d4 d5 d6 d7; obtain ⟨d0, d1, d2, d3, d4, d5, d6, d7⟩ := HX.out)
    | (go_at_call 12; refine (flow_Check (e := e) hn (HR.out.keep (below_old HB2.out))).mono ?_; rintro r wy ⟨hr0, hb0⟩; rw [H0.out] at hr0; subst hr0; have HB3 := Lib.hid (HB2.out.trans (hb0.mono (below_old_lt HB2.out))); clear hb0 HX d0 d1 d2 d3 d4 d5 d6 d7; have hz3 := below_old_lt HB3.out; obtain ⟨d0, d1, d2, d3, d4, d5, d6, d7⟩ := (EvBox.new w _ _ _ _ _ _ _ _ _ _ _ _ _ _ _ _ _ _ _).keep HB3.out (Nat.lt_succ_self _))
    | (at_make; refine wpList_make_full _ rfl (.tmp 27) (.tmp 27) 35 rfl (w.heap.size + 1) 3 i0 (.int .i64 0) 1 Try.underlying35 hi hz0 hz1 .i64 .i64 e.moves.length e.moves.length e.moves.length rfl rfl rfl rfl (by rw [hz2]; omega) (by unfold maxLen; omega) hz3 ?_; intro w6 hown6 hgr6; have HO6 := Lib.hid hown6; have HB6 := Lib.hid (HB3.out.grown hgr6 hz3 (by intro k hk; cases hk)); clear hown6 hgr6 d0 d1 d2 d3 d4 d5 d6 d7; have hz6 := below_old_lt HB6.out; have hz36 := hown_lt HO6.out; obtain ⟨d0, d1, d2, d3, d4, d5, d6, d7⟩ := (EvBox.new w _ _ _ _ _ _ _ _ _ _ _ _ _ _ _ _ _ _ _).keep HB6.out (Nat.lt_succ_self _))
    | (at_make; refine wpList_make_full _ rfl (.tmp 31) (.tmp 31) 35 rfl (w.heap.size + 1) 3 i0 (.int .i64 0) 1 Try.underlying35 hi hz0 hz1 .i64 .i64 e.moves.length e.moves.length e.moves.length rfl rfl rfl rfl (by rw [hz2]; omega) (by unfold maxLen; omega) hz6 ?_; intro w7 hown7 hgr7; have HO7 := Lib.hid hown7; have HO6' := Lib.hid (HO6.out.kept hgr7 (Or.inr (by simp [Value.ownBlock]))); have HB7 := Lib.hid (HB6.out.grown hgr7 hz6 (by intro k hk; cases hk)); clear hown7 hgr7 d0 d1 d2 d3 d4 d5 d6 d7; have hz7 := below_old_lt HB7.out; have hz67 := hown_lt HO7.out; obtain ⟨d0, d1, d2, d3, d4, d5, d6, d7⟩ := (EvBox.new w _ _ _ _ _ _ _ _ _ _ _ _ _ _ _ _ _ _ _).keep HB7.out (Nat.lt_succ_self _)))
  generalize wy.heap.size = g6 at *
  generalize w6.heap.size = g7 at *
  have hL0 : (madeCells (Value.int .i64 0).cells (e.moves.length * 1)).toList = Ints (List.replicate e.moves.length 0) := by
    rw [Nat.mul_one, Ints_replicate]; exact toList_madeCells_one _ _
  rw [hL0] at HO6' HO7
  clear HO6 hL0 HB HB2 HB3 HB6 r3 r4 r5
  go_loopw [8] (fun t8 wr => ∃ (p : Nat) (L6 L7 : List Int), p ≤ e.places.length ∧ t8 = .int .i64 p ∧ Cnt e.moves (·.dst) up p [] L6 ∧ Cnt e.moves (·.src) up p [] L7 ∧
      wr.ownsRow (w.heap.size + 1) 3 1 (.slice (some ⟨g6, 0, none⟩) e.moves.length e.moves.length) e.moves.length (Ints L6) ∧ wr.ownsRow (w.heap.size + 1) 3 1 (.slice (some ⟨g7, 0, none⟩) e.moves.length e.moves.length) e.moves.length (Ints L7) ∧
      Below (w.heap.size + 1) (w.alloc (.cells #[.int .i64 e.mats, .int .i64 e.hhs, .int .i64 e.scs, .slice A1 e.places.length c1, .slice A2 e.moves.length c2, .slice A3 e.certs.length c3, .slice A4 e.recalls.length c4, .slice A5 e.purities.length c5] 28)) wr) (fun t8 _ => e.places.length - (intOf t8).toNat)
  case atStart =>
    exact ⟨0, _, _, Nat.zero_le _, rfl, Cnt.zero (fun m hm => (moveOk_dst (check_move H0.out hm)).1), Cnt.zero (fun m hm => (moveOk_src (check_move H0.out hm)).1), HO6'.out, HO7.out, HB7.out⟩
  case round =>
    clear HO6' HO7 HB7 hz7 hz67 d0 d1 d2 d3 d4 d5 d6 d7
    obtain ⟨p, L6, L7, hp, rfl, hc6, hc7, ho6, ho7, hb⟩ := hrel
    have hbo := below_old hb
    have hz := below_old_lt hb
    have d0 : wr.cell? ⟨w.heap.size, 0, none⟩ = some (vi e.mats) := below_box hb 0
    have d1 : wr.cell? ⟨w.heap.size, 1, none⟩ = some (vi e.hhs) := below_box hb 1
    have d2 : wr.cell? ⟨w.heap.size, 2, none⟩ = some (vi e.scs) := below_box hb 2
    have d3 : wr.cell? ⟨w.heap.size, 3, none⟩ = some (.slice A1 e.places.length c1) := below_box hb 3
    have d4 : wr.cell? ⟨w.heap.size, 4, none⟩ = some (.slice A2 e.moves.length c2) := below_box hb 4
    have d5 : wr.cell? ⟨w.heap.size, 5, none⟩ = some (.slice A3 e.certs.length c3) := below_box hb 5
    have d6 : wr.cell? ⟨w.heap.size, 6, none⟩ = some (.slice A4 e.recalls.length c4) := below_box hb 6
    have d7 : wr.cell? ⟨w.heap.size, 7, none⟩ = some (.slice A5 e.purities.length c5) := below_box hb 7
    have hg7l := hown_lt ho7
    have HC6 := Lib.hid hc6
    have HC7 := Lib.hid hc7
    have HO6 := Lib.hid ho6
    have HO7 := Lib.hid ho7
    have HB := Lib.hid hb
    clear hc6 hc7 ho6 ho7
    by_cases hlt : p < e.places.length
    · obtain ⟨b, off, x, rfl, hbl, hpk, q0, q1, q2⟩ := r1.place hlt hbo
      have hkd := kindAt_of hpk
      have hsrc : source e p = (x.kind == 0) := by rw [Bool.eq_iff_iff]; simp [source, H0.out, idx_iff.2 (show 0 ≤ (p : Int) ∧ (p : Int) < e.places.length by omega), hkd]
      have HS := Lib.hid hsrc
      have HK := Lib.hid hkd
      clear hb hbo hpk hsrc hkd
      go_wp2_with (first
        | (go_at_call 19; refine (flow_Into (e := e) hn (HR.out.keep (below_old HB.out)) p up).mono ?_; rintro r w1 ⟨AA, na, ca, rfl, hri, hfr, hb0⟩; have HRA := Lib.hid hri; have HFA := Lib.hid hfr; have HD1 := Lib.hid hb0; have HBN := Lib.hid (HB.out.trans (hb0.mono hz)); have u0 := (hb0.cell (p := ⟨b, off + p * 3, none⟩) (by simp; omega)).trans q0; have hzw : wr.heap.size ≤ w1.heap.size := hb0.size; clear hri hfr hb0 d0 d1 d2 d3 d4 d5 d6 d7 q0 q1 q2; obtain ⟨d0, d1, d2, d3, d4, d5, d6, d7⟩ := (EvBox.new w _ _ _ _ _ _ _ _ _ _ _ _ _ _ _ _ _ _ _).keep HBN.out (Nat.lt_succ_self _))
        | (go_at_call 21; refine (flow_Out (e := e) hn (HR.out.keep (below_old HBN.out)) p up).mono ?_; rintro r w2 ⟨AB, nb, cb, rfl, hri, hfr, hb0⟩; have HRB := Lib.hid hri; have HFB := Lib.hid hfr; have HD2 := Lib.hid hb0; have HBM := Lib.hid (HBN.out.trans (hb0.mono (below_old_lt HBN.out))); have v0 := (hb0.cell (p := ⟨b, off + p * 3, none⟩) (by simp; omega)).trans u0; have hzv : w1.heap.size ≤ w2.heap.size := hb0.size; clear hri hfr hb0 d0 d1 d2 d3 d4 d5 d6 d7 u0; obtain ⟨d0, d1, d2, d3, d4, d5, d6, d7⟩ := (EvBox.new w _ _ _ _ _ _ _ _ _ _ _ _ _ _ _ _ _ _ _).keep HBM.out (Nat.lt_succ_self _)))
      go_region_held3 (fun w' => w'.cell? ⟨w.heap.size, 0, none⟩ = some (vi e.mats) ∧ w'.cell? ⟨w.heap.size, 1, none⟩ = some (vi e.hhs) ∧ w'.cell? ⟨w.heap.size, 2, none⟩ = some (vi e.scs) ∧ w'.cell? ⟨w.heap.size, 3, none⟩ = some (.slice (some ⟨b, off, none⟩) e.places.length c1) ∧ w'.cell? ⟨w.heap.size, 4, none⟩ = some (.slice A2 e.moves.length c2) ∧ w'.cell? ⟨w.heap.size, 5, none⟩ = some (.slice A3 e.certs.length c3) ∧ w'.cell? ⟨w.heap.size, 6, none⟩ = some (.slice A4 e.recalls.length c4) ∧ w'.cell? ⟨w.heap.size, 7, none⟩ = some (.slice A5 e.purities.length c5) ∧ w'.cell? ⟨b, off + p * 3, none⟩ = some (vi x.kind))
        (go_keep)
        (first
          | (go_at_call 23; ((with_reducible refine (law14_ascending (HRA.out.keep HD2.out.drew) (by have h1 := HRA.out.len; have h2 := length_into e p up; omega) (into_asc e p up)).mono ?_)); rintro r w3 ⟨rfl, hb0⟩; have hz3' : w2.heap.size ≤ w3.heap.size := hb0.size; have HE3 := Lib.hid (HBM.out.drew.trans (hb0.mono (below_old_lt HBM.out.drew))); have k3 := (hb0.cell (p := ⟨b, off + p * 3, none⟩) (by show b < w2.heap.size; omega)).trans (show w2.drew.cell? ⟨b, off + p * 3, none⟩ = _ from v0); have HD3 := Lib.hid hb0; clear hb0; obtain ⟨d0, d1, d2, d3, d4, d5, d6, d7⟩ := (EvBox.new w _ _ _ _ _ _ _ _ _ _ _ _ _ _ _ _ _ _ _).keep HE3.out (Nat.lt_succ_self _))
          | (go_at_call 23; ((with_reducible refine (law14_ascending (HRB.out.drewed.keep HD3.out) (by have h1 := HRB.out.len; have h2 := length_outOf e p up; omega) (outOf_asc e p up)).mono ?_)); rintro r w4 ⟨rfl, hb0⟩; have hz4' : w3.heap.size ≤ w4.heap.size := hb0.size; have HE4 := Lib.hid (HE3.out.trans (hb0.mono (below_old_lt HE3.out))); have k4 := (hb0.cell (p := ⟨b, off + p * 3, none⟩) (by show b < w3.heap.size; omega)).trans k3; have HD4 := Lib.hid (hb0); clear hb0; obtain ⟨d0, d1, d2, d3, d4, d5, d6, d7⟩ := (EvBox.new w _ _ _ _ _ _ _ _ _ _ _ _ _ _ _ _ _ _ _).keep HE4.out (Nat.lt_succ_self _))
          | (go_at_call 14; refine (flow_Source (e := e) hn (HR.out.keep (below_old HE4.out)) p).mono ?_; rintro r w5 ⟨hr0, hb0⟩; rw [HS.out] at hr0; subst hr0; have hz5' : w4.heap.size ≤ w5.heap.size := hb0.size; have HE5 := Lib.hid (HE4.out.trans (hb0.mono (below_old_lt HE4.out))); have k5 := (hb0.cell (p := ⟨b, off + p * 3, none⟩) (by show b < w4.heap.size; omega)).trans k4; have HD5 := Lib.hid (hb0); clear hb0; obtain ⟨d0, d1, d2, d3, d4, d5, d6, d7⟩ := (EvBox.new w _ _ _ _ _ _ _ _ _ _ _ _ _ _ _ _ _ _ _).keep HE5.out (Nat.lt_succ_self _)))
      go_upto_region 13 with (fail)
      go_cut [105] (fun s wx => s = .bool false ∧ Below w5.heap.size w5 wx)
      case first =>
        have hna : x.kind = 0 → na ≤ 0 := by
          intro h
          have h1 := HRA.out.len
          rw [into_bin H0.out (by rw [HK.out]; exact h)] at h1
          simp at h1; omega
        have hnb : x.kind = 5 ∨ x.kind = 6 → nb ≤ 0 := by
          intro h
          have h1 := HRB.out.len
          rw [outOf_end H0.out (by rw [HK.out]; exact h)] at h1
          simp at h1; omega
        go_wp2_with (first | (go_at_call 14; refine (flow_Source (e := e) hn (HR.out.keep (below_old HE5.out)) p).mono ?_; rintro r w8 ⟨hr0, hb0⟩; rw [HS.out] at hr0; subst hr0; have k8 := (hb0.cell (p := ⟨b, off + p * 3, none⟩) (by show b < w5.heap.size; omega)).trans k5; have HD8 := Lib.hid hb0; have HE8 := Lib.hid (HE5.out.trans (hb0.mono (below_old_lt HE5.out))); clear hb0 d0 d1 d2 d3 d4 d5 d6 d7; obtain ⟨d0, d1, d2, d3, d4, d5, d6, d7⟩ := (EvBox.new w _ _ _ _ _ _ _ _ _ _ _ _ _ _ _ _ _ _ _).keep HE8.out (Nat.lt_succ_self _)))
        all_goals go_meet
        all_goals refine ⟨?_, HD8.out⟩
        all_goals go_light
        all_goals first
          | rfl
          | (simp_all; done)
          | (congr 1; simp_all; omega)
      case rest =>
        obtain ⟨rfl, hcb⟩ := hcut
        have HBC := Lib.hid (HE5.out.trans (hcb.mono (below_old_lt HE5.out)))
        have HRAc := Lib.hid (((((HRA.out.keep HD2.out).drewed.keep HD3.out).keep HD4.out).keep HD5.out).keep hcb)
        have HRBc := Lib.hid ((((HRB.out.drewed.keep HD3.out).keep HD4.out).keep HD5.out).keep hcb)
        have x6 := own_below (own_below HO6.out HD1.out) HD2.out
        have x7 := own_below (own_below HO7.out HD1.out) HD2.out
        have HO6c := Lib.hid (own_below (own_below (own_below (own_below (w := w2.drew) x6 HD3.out) HD4.out) HD5.out) hcb)
        have HO7c := Lib.hid (own_below (own_below (own_below (own_below (w := w2.drew) x7 HD3.out) HD4.out) HD5.out) hcb)
        clear x6 x7
        obtain rfl : na = (into e p up).length := HRA.out.len
        obtain rfl : nb = (outOf e p up).length := HRB.out.len
        have hla := length_into e p up
        have hlb := length_outOf e p up
        have hfa : ∀ ad, AA = some ad → ad.block ≠ g6 ∧ ad.block ≠ g7 := fun ad h => by have := HFA.out ad h; omega
        have hfb : ∀ ad, AB = some ad → ad.block ≠ g6 ∧ ad.block ≠ g7 := fun ad h => by have := HFB.out ad h; omega
        clear hcb HRA HRB HFA HFB HO6 HO7 HD1 HD2 HD3 HD4 HD5 HE3 HE4 HE5 HBN HBM HB HS HK k3 k4 k5 v0 d0 d1 d2 d3 d4 d5 d6 d7
        generalize hva : into e p up = va at *
        generalize hvb : outOf e p up = vb at *
        have HVA := Lib.hid hva
        have HVB := Lib.hid hvb
        have HFA := Lib.hid hfa
        have HFB := Lib.hid hfb
        clear hva hvb hfa hfb
        go_wp2_with (fail)
        go_loopw [11] (fun t11 wx => ∃ (i : Nat) (L : List Int), i ≤ va.length ∧ t11 = .int .i64 i ∧ Cnt e.moves (·.dst) up p (va.take i) L ∧
            wx.ownsRow (w.heap.size + 1) 3 1 (.slice (some ⟨g6, 0, none⟩) e.moves.length e.moves.length) e.moves.length (Ints L) ∧ wx.ownsRow (w.heap.size + 1) 3 1 (.slice (some ⟨g7, 0, none⟩) e.moves.length e.moves.length) e.moves.length (Ints L7) ∧
            Below (w.heap.size + 1) (w.alloc (.cells #[.int .i64 e.mats, .int .i64 e.hhs, .int .i64 e.scs, .slice (some ⟨b, off, none⟩) e.places.length c1, .slice A2 e.moves.length c2, .slice A3 e.certs.length c3, .slice A4 e.recalls.length c4, .slice A5 e.purities.length c5] 28)) wx ∧ Ri wx AA va.length va ∧ Ri wx AB vb.length vb) (fun t11 _ => va.length - (intOf t11).toNat)
        case atStart => exact ⟨0, L6, Nat.zero_le _, rfl, by simpa using HC6.out, HO6c.out, HO7c.out, HBC.out, HRAc.out, HRBc.out⟩
        case round =>
          clear HO6c HO7c HBC HRAc HRBc
          obtain ⟨i, L, hi', rfl, hc, ho6, ho7, hb, hra, hrb⟩ := hrel
          have d4 : wr.cell? ⟨w.heap.size, 4, none⟩ = some (.slice A2 e.moves.length c2) := below_box hb 4
          by_cases hlt2 : i < va.length
          · obtain ⟨j, m, hx, hm, hdj, hjj⟩ : ∃ (j : Nat) (m : Move), va[i]? = some (j : Int) ∧ e.moves[j]? = some m ∧ m.dst = (p : Int) ∧ j < e.moves.length := by
              obtain ⟨j, m, h1, h2, h3, h4⟩ := (into_mem H0.out).1 (by rw [HVA.out]; exact List.getElem_mem hlt2)
              exact ⟨j, m, by rw [List.getElem?_eq_getElem hlt2, h4], h1, h3, (List.getElem?_eq_some_iff.1 h1).1⟩
            obtain ⟨hz, hc2⟩ := hc.step (by rw [← HVA.out]; exact into_sorted _ _ _) hx hm hdj
            have qz := (ho6.cellAt j (by omega)).trans (show (Ints L)[j]? = some (vi 0) by rw [Ints_at, hz]; rfl)
            obtain ⟨ba, offa, xx, rfl, hbla, hxx, qa⟩ := hra.int hlt2 (Below.refl _ _)
            rw [hx] at hxx
            injection hxx with hxx
            subst hxx
            obtain ⟨bm, offm, mm, rfl, hblm, hmm, _, _, qd, _, _, _⟩ := r2.move hjj (below_old hb)
            rw [hm] at hmm
            injection hmm with hmm
            subst hmm
            rw [hdj] at qd
            have qf := ho6.frozenAt j
            have HX1 := Lib.hid hc2
            have HX2 := Lib.hid ho6
            have HX3 := Lib.hid ho7
            have HX4 := Lib.hid hra
            have HX5 := Lib.hid hrb
            have HX6 := Lib.hid hb
            clear hc ho6 ho7 hb hra hrb hx hm hdj hc2 hz r1 r2
            go_wp2_with (fail)
            go_quiet (fail)
            go_wp2_with (fail)
            have hq := below_drewN (Below.refl wr.heap.size wr) nq
            obtain ⟨ho6s, hgr⟩ := (own_below HX2.out hq).stored j (vi 1)
            rw [← Ints_set] at ho6s
            have hzz := below_old_lt HX6.out
            go_roundw
            case rel => exact ⟨i + 1, L.set j 1, by omega, by go_num, HX1.out, ho6s, own_set (b := g6) (i := j) (own_below HX3.out hq) (by simp [Value.ownBlock]; omega) (vi 1), (HX6.out.trans (hq.mono (by omega))).grown hgr (by have := hq.size; omega) (by intro k hk; cases hk; omega), (HX4.out.keep hq).set_far (fun ad h => (HFA.out ad h).1) (vi 1), (HX5.out.keep hq).set_far (fun ad h => (HFB.out ad h).1) (vi 1)⟩
            case measure => simp [intOf]; omega
          · rw [List.take_of_length_le (by omega)] at hc
            have hc' := hc.next (by rw [← HVA.out]; exact into_cnt H0.out p)
            have HX1 := Lib.hid hc'
            have HX2 := Lib.hid ho6
            have HX3 := Lib.hid ho7
            have HX5 := Lib.hid hrb
            have HX6 := Lib.hid hb
            clear hc hc' ho6 ho7 hb hra hrb HC6 HVA HFA L6
            obtain ⟨wo, rfl⟩ : ∃ wo : World, wo = wr := ⟨_, rfl⟩
            obtain ⟨M6, rfl⟩ : ∃ M6 : List Int, M6 = L := ⟨_, rfl⟩
            go_wp2_with (fail)
            go_loopw [12] (fun t12 wr => ∃ (i : Nat) (L : List Int), i ≤ vb.length ∧ t12 = .int .i64 i ∧ Cnt e.moves (·.src) up p (vb.take i) L ∧
                wr.ownsRow (w.heap.size + 1) 3 1 (.slice (some ⟨g6, 0, none⟩) e.moves.length e.moves.length) e.moves.length (Ints M6) ∧ wr.ownsRow (w.heap.size + 1) 3 1 (.slice (some ⟨g7, 0, none⟩) e.moves.length e.moves.length) e.moves.length (Ints L) ∧
                Below (w.heap.size + 1) (w.alloc (.cells #[.int .i64 e.mats, .int .i64 e.hhs, .int .i64 e.scs, .slice (some ⟨b, off, none⟩) e.places.length c1, .slice A2 e.moves.length c2, .slice A3 e.certs.length c3, .slice A4 e.recalls.length c4, .slice A5 e.purities.length c5] 28)) wr ∧ Ri wr AB vb.length vb) (fun t12 _ => vb.length - (intOf t12).toNat)
            case atStart => exact ⟨0, L7, Nat.zero_le _, rfl, by simpa using HC7.out, HX2.out, HX3.out, HX6.out, HX5.out⟩
            case round =>
              clear d4 HX2 HX3 HX5 HX6 hi' hlt2
              obtain ⟨i, L, hi', rfl, hc, ho6, ho7, hb, hrb⟩ := hrel
              have d4 : wr.cell? ⟨w.heap.size, 4, none⟩ = some (.slice A2 e.moves.length c2) := below_box hb 4
              by_cases hlt2 : i < vb.length
              · obtain ⟨j, m, hx, hm, hdj, hjj⟩ : ∃ (j : Nat) (m : Move), vb[i]? = some (j : Int) ∧ e.moves[j]? = some m ∧ m.src = (p : Int) ∧ j < e.moves.length := by
                  obtain ⟨j, m, h1, h2, h3, h4⟩ := (outOf_mem H0.out).1 (by rw [HVB.out]; exact List.getElem_mem hlt2)
                  exact ⟨j, m, by rw [List.getElem?_eq_getElem hlt2, h4], h1, h3, (List.getElem?_eq_some_iff.1 h1).1⟩
                obtain ⟨hz, hc2⟩ := hc.step (by rw [← HVB.out]; exact outOf_sorted _ _ _) hx hm hdj
                have qz := (ho7.cellAt j (by omega)).trans (show (Ints L)[j]? = some (vi 0) by rw [Ints_at, hz]; rfl)
                obtain ⟨ba, offa, xx, rfl, hbla, hxx, qa⟩ := hrb.int hlt2 (Below.refl _ _)
                rw [hx] at hxx
                injection hxx with hxx
                subst hxx
                obtain ⟨bm, offm, mm, rfl, hblm, hmm, _, qd, _, _, _, _⟩ := r2.move hjj (below_old hb)
                rw [hm] at hmm
                injection hmm with hmm
                subst hmm
                rw [hdj] at qd
                have qf := ho7.frozenAt j
                have HX2 := Lib.hid ho6
                have HX3 := Lib.hid ho7
                have HX4 := Lib.hid hc2
                have HX5 := Lib.hid hrb
                have HX6 := Lib.hid hb
                clear hc ho6 ho7 hb hrb hx hm hdj hc2 hz r1 r2
                go_wp2_with (fail)
                go_quiet (fail)
                go_wp2_with (fail)
                have hq := below_drewN (Below.refl wr.heap.size wr) nq
                obtain ⟨ho7s, hgr⟩ := (own_below HX3.out hq).stored j (vi 1)
                rw [← Ints_set] at ho7s
                have hzz := below_old_lt HX6.out
                go_roundw
                case rel => exact ⟨i + 1, L.set j 1, by omega, by go_num, HX4.out, own_set (b := g7) (i := j) (own_below HX2.out hq) (by simp [Value.ownBlock]; omega) (vi 1), ho7s, (HX6.out.trans (hq.mono (by omega))).grown hgr (by have := hq.size; omega) (by intro k hk; cases hk; omega), (HX5.out.keep hq).set_far (fun ad h => (HFB.out ad h).2) (vi 1)⟩
                case measure => simp [intOf]; omega
              · rw [List.take_of_length_le (by omega)] at hc
                have hc' := hc.next (by rw [← HVB.out]; exact outOf_cnt H0.out p)
                have HX2 := Lib.hid ho6
                have HX3 := Lib.hid ho7
                have HX4 := Lib.hid hc'
                have HX6 := Lib.hid hb
                clear hc hc' ho6 ho7 hb hrb HC7 HVB HFB
                go_wp2_with (fail)
                go_roundw
                case rel => exact ⟨p + 1, M6, L, by omega, by go_num, HX1.out, HX4.out, HX2.out, HX3.out, HX6.out⟩
                case measure => simp [intOf]; omega
    · obtain rfl : p = e.places.length := by omega
      have ha6 : ∀ (j : Nat), j < e.moves.length → L6[j]? = some (if (j : Int) < up then 1 else 0) := fun j hj => HC6.out.last (fun m hm => (moveOk_dst (check_move H0.out hm)).2) (List.getElem?_eq_getElem hj)
      have ha7 : ∀ (j : Nat), j < e.moves.length → L7[j]? = some (if (j : Int) < up then 1 else 0) := fun j hj => HC7.out.last (fun m hm => (moveOk_src (check_move H0.out hm)).2) (List.getElem?_eq_getElem hj)
      have HA6 := Lib.hid ha6
      have HA7 := Lib.hid ha7
      obtain ⟨wo, rfl⟩ : ∃ wo : World, wo = wr := ⟨_, rfl⟩
      clear ha6 ha7 HC6 HC7 hbo hb hz
      go_wp2_with (fail)
      go_loopw [13] (fun t13 wr => ∃ i : Nat, i ≤ e.moves.length ∧ t13 = .int .i64 i ∧
          wr.ownsRow (w.heap.size + 1) 3 1 (.slice (some ⟨g6, 0, none⟩) e.moves.length e.moves.length) e.moves.length (Ints L6) ∧ wr.ownsRow (w.heap.size + 1) 3 1 (.slice (some ⟨g7, 0, none⟩) e.moves.length e.moves.length) e.moves.length (Ints L7) ∧
          Below (w.heap.size + 1) (w.alloc (.cells #[.int .i64 e.mats, .int .i64 e.hhs, .int .i64 e.scs, .slice A1 e.places.length c1, .slice A2 e.moves.length c2, .slice A3 e.certs.length c3, .slice A4 e.recalls.length c4, .slice A5 e.purities.length c5] 28)) wr) (fun t13 _ => e.moves.length - (intOf t13).toNat)
      case atStart => exact ⟨0, Nat.zero_le _, rfl, HO6.out, HO7.out, HB.out⟩
      case round =>
        clear HO6 HO7 HB d0 d1 d2 d3 d4 d5 d6 d7
        obtain ⟨i, hi', rfl, ho6, ho7, hb⟩ := hrel
        have d0 : wr.cell? ⟨w.heap.size, 0, none⟩ = some (vi e.mats) := below_box hb 0
        have d1 : wr.cell? ⟨w.heap.size, 1, none⟩ = some (vi e.hhs) := below_box hb 1
        have d2 : wr.cell? ⟨w.heap.size, 2, none⟩ = some (vi e.scs) := below_box hb 2
        have d3 : wr.cell? ⟨w.heap.size, 3, none⟩ = some (.slice A1 e.places.length c1) := below_box hb 3
        have d4 : wr.cell? ⟨w.heap.size, 4, none⟩ = some (.slice A2 e.moves.length c2) := below_box hb 4
        have d5 : wr.cell? ⟨w.heap.size, 5, none⟩ = some (.slice A3 e.certs.length c3) := below_box hb 5
        have d6 : wr.cell? ⟨w.heap.size, 6, none⟩ = some (.slice A4 e.recalls.length c4) := below_box hb 6
        have d7 : wr.cell? ⟨w.heap.size, 7, none⟩ = some (.slice A5 e.purities.length c5) := below_box hb 7
        have HO6 := Lib.hid ho6
        have HO7 := Lib.hid ho7
        have HB := Lib.hid hb
        by_cases hlt2 : i < e.moves.length
        · have q6 := (ho6.cellAt i (by omega)).trans (show (Ints L6)[i]? = some (vi (if (i : Int) < up then 1 else 0)) by rw [Ints_at, HA6.out i hlt2]; rfl)
          have q7 := (ho7.cellAt i (by omega)).trans (show (Ints L7)[i]? = some (vi (if (i : Int) < up then 1 else 0)) by rw [Ints_at, HA7.out i hlt2]; rfl)
          clear ho6 ho7 hb
          by_cases hup : (i : Int) < up
          · rw [if_pos hup] at q6 q7
            go_wp2_with (fail)
            go_roundw
            case rel => exact ⟨i + 1, by omega, by go_num, HO6.out, HO7.out, HB.out⟩
            case measure => simp [intOf]; omega
          · rw [if_neg hup] at q6 q7
            go_wp2_with (fail)
            go_roundw
            case rel => exact ⟨i + 1, by omega, by go_num, HO6.out, HO7.out, HB.out⟩
            case measure => simp [intOf]; omega
        · clear ho6 ho7 hb
          have hin := into_neg (up := up) H0.out (pl := -1) (.inl (by omega))
          have hon := outOf_neg (up := up) H0.out (pl := e.places.length) (.inr (by omega))
          have HI := Lib.hid hin
          have HN := Lib.hid hon
          clear hin hon HO6 HO7 HA6 HA7
          go_wp2_with (first
            | (go_at_call 19; refine (flow_Into (e := e) hn (HR.out.keep (below_old HB.out)) (-1) up).mono ?_; rintro r w1 ⟨AA, na, ca, rfl, hri, hfr, hb0⟩; rw [HI.out] at hri; obtain rfl : na = 0 := hri.len; have HBN := Lib.hid (HB.out.trans (hb0.mono (below_old_lt HB.out))); clear hri hfr hb0 d0 d1 d2 d3 d4 d5 d6 d7; obtain ⟨d0, d1, d2, d3, d4, d5, d6, d7⟩ := (EvBox.new w _ _ _ _ _ _ _ _ _ _ _ _ _ _ _ _ _ _ _).keep HBN.out (Nat.lt_succ_self _))
            | (go_at_call 21; refine (flow_Out (e := e) hn (HR.out.keep (below_old HBN.out)) e.places.length up).mono ?_; rintro r w2 ⟨AB, nb, cb, rfl, hri, hfr, hb0⟩; rw [HN.out] at hri; obtain rfl : nb = 0 := hri.len; have HBM := Lib.hid (HBN.out.trans (hb0.mono (below_old_lt HBN.out))); clear hri hfr hb0))
          go_ret
          exact ⟨rfl, below_old HBM.out⟩
end
end Go.Proofs.Ythjgbjakpbfnoaa
