/- FlowTells: the walk. -/
import Derived.Test.YthjgbjakpbfnoaaLaw14
import Derived.Deep.RegionHeld3
namespace Go.Proofs.Ythjgbjakpbfnoaa
open Go.RowKit
set_option linter.unusedSimpArgs false
set_option linter.unusedVariables false

theorem few_sized {e : Ev} (h : few e = true) : e.Sized := by
  simp [few] at h
  exact ⟨by omega, by omega, by omega, by omega, by omega⟩
theorem length_into (e : Ev) (pl up : Int) : (into e pl up).length ≤ e.moves.length := by
  unfold into; split
  · exact length_pickFrom _ _ _
  · simp
theorem length_outOf (e : Ev) (pl up : Int) : (outOf e pl up).length ≤ e.moves.length := by
  unfold outOf; split
  · exact length_pickFrom _ _ _
  · simp
theorem length_lifts (e : Ev) (hh mat lo hi : Int) : (lifts e hh mat lo hi).length ≤ e.moves.length := by
  unfold lifts; split
  · exact length_pickFrom _ _ _
  · simp

section
variable {w : World} {m h s : Int} {A1 A2 A3 A4 A5 : Option Addr} {n1 n2 n3 n4 n5 c1 c2 c3 c4 c5 : Nat} {e : Ev}
set_option maxHeartbeats 400000 in
theorem law14_FlowTells (pl up hh mat lo hi : Int) (hr : EvR w m h s A1 n1 A2 n2 A3 n3 A4 n4 A5 n5 e) :
    Calls Try.prog 3 #[.agg #[.int .i64 m, .int .i64 h, .int .i64 s, .slice A1 n1 c1, .slice A2 n2 c2, .slice A3 n3 c3, .slice A4 n4 c4, .slice A5 n5 c5], .int .i64 pl, .int .i64 up, .int .i64 hh, .int .i64 mat, .int .i64 lo, .int .i64 hi] w fun r w' => r = .returned (.bool true) ∧ Below w.heap.size w w' := by
  obtain ⟨rfl, rfl, rfl, r1, r2, r3, r4, r5⟩ := hr
  obtain rfl := r1.len
  obtain rfl := r2.len
  obtain rfl := r3.len
  obtain rfl := r4.len
  obtain rfl := r5.len
  have hr : EvR w e.mats e.hhs e.scs A1 e.places.length A2 e.moves.length A3 e.certs.length A4 e.recalls.length A5 e.purities.length e := ⟨rfl, rfl, rfl, r1, r2, r3, r4, r5⟩
  have HR := Lib.hid hr
  clear hr r1 r2 r3 r4 r5
  by_cases hf : few e = true
  case neg =>
    have hff : few e = false := by simpa using hf
    have HF := Lib.hid hff
    clear hf hff
    go_enter Try.func3, Try.ntmps3
    go_wp2_with (first
      | (go_at_call 10; refine (law14_small _).mono ?_; rintro r wr ⟨rfl, hb0⟩; have hb : Below (w.heap.size + 1) (w.alloc (.cells #[.int .i64 e.mats, .int .i64 e.hhs, .int .i64 e.scs, .slice A1 e.places.length c1, .slice A2 e.moves.length c2, .slice A3 e.certs.length c3, .slice A4 e.recalls.length c4, .slice A5 e.purities.length c5] 28)) wr := hb0.mono (by simp); clear hb0; have hz := below_old_lt hb; have d0 : wr.cell? ⟨w.heap.size, 0, none⟩ = some (vi e.mats) := below_box hb 0; have d1 : wr.cell? ⟨w.heap.size, 1, none⟩ = some (vi e.hhs) := below_box hb 1; have d2 : wr.cell? ⟨w.heap.size, 2, none⟩ = some (vi e.scs) := below_box hb 2; have d3 : wr.cell? ⟨w.heap.size, 3, none⟩ = some (.slice A1 e.places.length c1) := below_box hb 3; have d4 : wr.cell? ⟨w.heap.size, 4, none⟩ = some (.slice A2 e.moves.length c2) := below_box hb 4; have d5 : wr.cell? ⟨w.heap.size, 5, none⟩ = some (.slice A3 e.certs.length c3) := below_box hb 5; have d6 : wr.cell? ⟨w.heap.size, 6, none⟩ = some (.slice A4 e.recalls.length c4) := below_box hb 6; have d7 : wr.cell? ⟨w.heap.size, 7, none⟩ = some (.slice A5 e.purities.length c5) := below_box hb 7; have HB := Lib.hid (below_old hb); clear hb)
      | (go_at_call 11; refine (ref14_Few (e := e) (HR.out.keep HB.out)).mono ?_; rintro r wx ⟨hr0, hb0⟩; rw [HF.out] at hr0; subst hr0; have HB2 := Lib.hid (HB.out.trans (hb0.mono (by omega))); clear hb0))
    go_ret
    exact ⟨rfl, HB2.out⟩
  have hn := few_sized hf
  have HF := Lib.hid hf
  clear hf
  go_enter Try.func3, Try.ntmps3
  go_wp2_with (first
    | (go_at_call 10; refine (law14_small _).mono ?_; rintro r wr ⟨rfl, hb0⟩; have hb : Below (w.heap.size + 1) (w.alloc (.cells #[.int .i64 e.mats, .int .i64 e.hhs, .int .i64 e.scs, .slice A1 e.places.length c1, .slice A2 e.moves.length c2, .slice A3 e.certs.length c3, .slice A4 e.recalls.length c4, .slice A5 e.purities.length c5] 28)) wr := hb0.mono (by simp); clear hb0; have hz := below_old_lt hb; have d0 : wr.cell? ⟨w.heap.size, 0, none⟩ = some (vi e.mats) := below_box hb 0; have d1 : wr.cell? ⟨w.heap.size, 1, none⟩ = some (vi e.hhs) := below_box hb 1; have d2 : wr.cell? ⟨w.heap.size, 2, none⟩ = some (vi e.scs) := below_box hb 2; have d3 : wr.cell? ⟨w.heap.size, 3, none⟩ = some (.slice A1 e.places.length c1) := below_box hb 3; have d4 : wr.cell? ⟨w.heap.size, 4, none⟩ = some (.slice A2 e.moves.length c2) := below_box hb 4; have d5 : wr.cell? ⟨w.heap.size, 5, none⟩ = some (.slice A3 e.certs.length c3) := below_box hb 5; have d6 : wr.cell? ⟨w.heap.size, 6, none⟩ = some (.slice A4 e.recalls.length c4) := below_box hb 6; have d7 : wr.cell? ⟨w.heap.size, 7, none⟩ = some (.slice A5 e.purities.length c5) := below_box hb 7; have HB := Lib.hid (below_old hb); clear hb)
    | (go_at_call 11; refine (ref14_Few (e := e) (HR.out.keep HB.out)).mono ?_; rintro r wx ⟨hr0, hb0⟩; rw [HF.out] at hr0; subst hr0; have HB2 := Lib.hid (HB.out.trans (hb0.mono (by omega))); have HX := Lib.hid ((EvBox.mk d0 d1 d2 d3 d4 d5 d6 d7).later hb0); clear hb0 d0 d1 d2 d3 d4 d5 d6 d7; obtain ⟨d0, d1, d2, d3, d4, d5, d6, d7⟩ := HX.out))
  go_region_held3 (fun w' => w'.cell? ⟨w.heap.size, 0, none⟩ = some (vi e.mats) ∧ w'.cell? ⟨w.heap.size, 1, none⟩ = some (vi e.hhs) ∧ w'.cell? ⟨w.heap.size, 2, none⟩ = some (vi e.scs) ∧ w'.cell? ⟨w.heap.size, 3, none⟩ = some (.slice A1 e.places.length c1) ∧ w'.cell? ⟨w.heap.size, 4, none⟩ = some (.slice A2 e.moves.length c2) ∧ w'.cell? ⟨w.heap.size, 5, none⟩ = some (.slice A3 e.certs.length c3) ∧ w'.cell? ⟨w.heap.size, 6, none⟩ = some (.slice A4 e.recalls.length c4) ∧ w'.cell? ⟨w.heap.size, 7, none⟩ = some (.slice A5 e.purities.length c5))
    (go_keep)
    (first
      | (go_at_call 12; refine (flow_Check (e := e) hn (HR.out.keep HB2.out.drew)).mono ?_; rintro r wn1 ⟨rfl, hb0⟩; have HC1 := Lib.hid (HB2.out.drew.trans (hb0.mono (HB2.out.drew.size))); have HX1 := Lib.hid (HX.out.later ((Below.refl _ _).drew.trans hb0)); obtain ⟨d0, d1, d2, d3, d4, d5, d6, d7⟩ := HX1.out; have HD1 := Lib.hid hb0; clear hb0)
      | (go_at_call 13; refine (ref14_Check (e := e) hn (HR.out.keep HC1.out)).mono ?_; rintro r wn2 ⟨rfl, hb0⟩; have HC2 := Lib.hid (HC1.out.trans (hb0.mono (HC1.out.size))); have HX2 := Lib.hid (HX1.out.later (hb0)); obtain ⟨d0, d1, d2, d3, d4, d5, d6, d7⟩ := HX2.out; have HD2 := Lib.hid hb0; clear hb0)
      | (go_at_call 14; refine (flow_Source (e := e) hn (HR.out.keep HC2.out) pl).mono ?_; rintro r wn3 ⟨rfl, hb0⟩; have HC3 := Lib.hid (HC2.out.trans (hb0.mono (HC2.out.size))); have HX3 := Lib.hid (HX2.out.later (hb0)); obtain ⟨d0, d1, d2, d3, d4, d5, d6, d7⟩ := HX3.out; have HD3 := Lib.hid hb0; clear hb0)
      | (go_at_call 15; refine (ref14_Source (e := e) hn (HR.out.keep HC3.out) pl).mono ?_; rintro r wn4 ⟨rfl, hb0⟩; have HC4 := Lib.hid (HC3.out.trans (hb0.mono (HC3.out.size))); have HX4 := Lib.hid (HX3.out.later (hb0)); obtain ⟨d0, d1, d2, d3, d4, d5, d6, d7⟩ := HX4.out; have HD4 := Lib.hid hb0; clear hb0)
      | (go_at_call 17; refine (flow_Lifts (e := e) hn (HR.out.keep HC4.out) hh mat lo hi).mono ?_; rintro r wn5 ⟨AA5, nn5, cc5, rfl, hri, -, hb0⟩; have HL5 := Lib.hid hri; clear hri; have HC5 := Lib.hid (HC4.out.trans (hb0.mono (HC4.out.size))); have HX5 := Lib.hid (HX4.out.later (hb0)); obtain ⟨d0, d1, d2, d3, d4, d5, d6, d7⟩ := HX5.out; have HD5 := Lib.hid hb0; clear hb0)
      | (go_at_call 18; refine (ref14_Lifts (e := e) hn (HR.out.keep HC5.out) hh mat lo hi).mono ?_; rintro r wn6 ⟨AA6, nn6, cc6, rfl, hri, -, hb0⟩; have HL6 := Lib.hid hri; clear hri; have HC6 := Lib.hid (HC5.out.trans (hb0.mono (HC5.out.size))); have HX6 := Lib.hid (HX5.out.later (hb0)); obtain ⟨d0, d1, d2, d3, d4, d5, d6, d7⟩ := HX6.out; have HD6 := Lib.hid hb0; clear hb0)
      | (go_at_call 16; refine (ref14_SameInts (HL5.out.keep HD6.out) HL6.out (by have h1 := HL5.out.len; have h2 := length_lifts e hh mat lo hi; have h3 := hn.s2; omega) (by have h1 := HL6.out.len; have h2 := length_lifts e hh mat lo hi; have h3 := hn.s2; omega)).mono ?_; rintro r wn7 ⟨hr0, hb0⟩; rw [decide_eq_true rfl] at hr0; subst hr0; have HC7 := Lib.hid (HC6.out.trans (hb0.mono (HC6.out.size))); have HX7 := Lib.hid (HX6.out.later (hb0)); obtain ⟨d0, d1, d2, d3, d4, d5, d6, d7⟩ := HX7.out; have HD7 := Lib.hid hb0; clear hb0))
  go_wp2
  obtain ⟨d0, d1, d2, d3, d4, d5, d6, d7⟩ := HX7.out
  go_region_held3 (fun w' => w'.cell? ⟨w.heap.size, 0, none⟩ = some (vi e.mats) ∧ w'.cell? ⟨w.heap.size, 1, none⟩ = some (vi e.hhs) ∧ w'.cell? ⟨w.heap.size, 2, none⟩ = some (vi e.scs) ∧ w'.cell? ⟨w.heap.size, 3, none⟩ = some (.slice A1 e.places.length c1) ∧ w'.cell? ⟨w.heap.size, 4, none⟩ = some (.slice A2 e.moves.length c2) ∧ w'.cell? ⟨w.heap.size, 5, none⟩ = some (.slice A3 e.certs.length c3) ∧ w'.cell? ⟨w.heap.size, 6, none⟩ = some (.slice A4 e.recalls.length c4) ∧ w'.cell? ⟨w.heap.size, 7, none⟩ = some (.slice A5 e.purities.length c5))
    (go_keep)
    (first
      | (go_at_call 19; refine (flow_Into (e := e) hn (HR.out.keep HC7.out.drew) pl up).mono ?_; rintro r wn8 ⟨AA8, nn8, cc8, rfl, hri, -, hb0⟩; have HL8 := Lib.hid hri; clear hri; have HC8 := Lib.hid (HC7.out.drew.trans (hb0.mono (HC7.out.drew.size))); have HX8 := Lib.hid (HX7.out.later ((Below.refl _ _).drew.trans hb0)); obtain ⟨d0, d1, d2, d3, d4, d5, d6, d7⟩ := HX8.out; have HD8 := Lib.hid hb0; clear hb0)
      | (go_at_call 20; refine (ref14_Into (e := e) hn (HR.out.keep HC8.out) pl up).mono ?_; rintro r wn9 ⟨AA9, nn9, cc9, rfl, hri, -, hb0⟩; have HL9 := Lib.hid hri; clear hri; have HC9 := Lib.hid (HC8.out.trans (hb0.mono (HC8.out.size))); have HX9 := Lib.hid (HX8.out.later (hb0)); obtain ⟨d0, d1, d2, d3, d4, d5, d6, d7⟩ := HX9.out; have HD9 := Lib.hid hb0; clear hb0)
      | (go_at_call 16; (with_reducible refine (ref14_SameInts (HL8.out.keep HD9.out) HL9.out (by have h1 := HL8.out.len; have h2 := length_into e pl up; have h3 := hn.s2; omega) (by have h1 := HL9.out.len; have h2 := length_into e pl up; have h3 := hn.s2; omega)).mono ?_); rintro r wn10 ⟨hr0, hb0⟩; rw [decide_eq_true rfl] at hr0; subst hr0; have HC10 := Lib.hid (HC9.out.trans (hb0.mono (HC9.out.size))); have HX10 := Lib.hid (HX9.out.later (hb0)); obtain ⟨d0, d1, d2, d3, d4, d5, d6, d7⟩ := HX10.out; have HD10 := Lib.hid hb0; clear hb0)
      | (go_at_call 21; refine (flow_Out (e := e) hn (HR.out.keep HC10.out) pl up).mono ?_; rintro r wn11 ⟨AA11, nn11, cc11, rfl, hri, -, hb0⟩; have HL11 := Lib.hid hri; clear hri; have HC11 := Lib.hid (HC10.out.trans (hb0.mono (HC10.out.size))); have HX11 := Lib.hid (HX10.out.later (hb0)); obtain ⟨d0, d1, d2, d3, d4, d5, d6, d7⟩ := HX11.out; have HD11 := Lib.hid hb0; clear hb0)
      | (go_at_call 22; refine (ref14_Out (e := e) hn (HR.out.keep HC11.out) pl up).mono ?_; rintro r wn12 ⟨AA12, nn12, cc12, rfl, hri, -, hb0⟩; have HL12 := Lib.hid hri; clear hri; have HC12 := Lib.hid (HC11.out.trans (hb0.mono (HC11.out.size))); have HX12 := Lib.hid (HX11.out.later (hb0)); obtain ⟨d0, d1, d2, d3, d4, d5, d6, d7⟩ := HX12.out; have HD12 := Lib.hid hb0; clear hb0)
      | (go_at_call 16; (with_reducible refine (ref14_SameInts (HL11.out.keep HD12.out) HL12.out (by have h1 := HL11.out.len; have h2 := length_outOf e pl up; have h3 := hn.s2; omega) (by have h1 := HL12.out.len; have h2 := length_outOf e pl up; have h3 := hn.s2; omega)).mono ?_); rintro r wn13 ⟨hr0, hb0⟩; rw [decide_eq_true rfl] at hr0; subst hr0; have HC13 := Lib.hid (HC12.out.trans (hb0.mono (HC12.out.size))); have HX13 := Lib.hid (HX12.out.later (hb0)); obtain ⟨d0, d1, d2, d3, d4, d5, d6, d7⟩ := HX13.out; have HD13 := Lib.hid hb0; clear hb0))
  go_wp2
  go_ret
  exact ⟨rfl, HC13.out⟩
end
end Go.Proofs.Ythjgbjakpbfnoaa
