/- flow.Check, Source, moves, Lifts, Into, Out. -/
import Derived.Test.YthjgbjakpbfnoaaFlow
import Derived.Deep.DeepMust
import Derived.Test.YthjgbjakpbfnoaaSized
namespace Go.Proofs.Ythjgbjakpbfnoaa
open Go.RowKit
set_option linter.unusedSimpArgs false
set_option linter.unusedVariables false

section
variable {w : World} {m h s : Int} {A1 A2 A3 A4 A5 : Option Addr} {n1 n2 n3 n4 n5 c1 c2 c3 c4 c5 : Nat} {e : Ev}

theorem check_bad (hf : fullB e = false) (h : e.mats < 1 ∨ e.hhs < 0 ∨ e.scs < 0 ∨ e.places.all (placeOk e) = false) : check e = 1 := by
  unfold check; rw [if_neg (by simp [hf]), if_pos h]
theorem check_good (hf : fullB e = false) (h : ¬ (e.mats < 1 ∨ e.hhs < 0 ∨ e.scs < 0 ∨ e.places.all (placeOk e) = false)) : check e = if movesErr e 0 e.moves ≠ 0 then movesErr e 0 e.moves else if saidOk e then 0 else 1 := by
  unfold check; rw [if_neg (by simp [hf]), if_neg h]

set_option maxHeartbeats 400000 in
theorem flow_Check (hn : e.Sized) (hr : EvR w m h s A1 n1 A2 n2 A3 n3 A4 n4 A5 n5 e) :
    Calls Try.prog 12 #[.agg #[.int .i64 m, .int .i64 h, .int .i64 s, .slice A1 n1 c1, .slice A2 n2 c2, .slice A3 n3 c3, .slice A4 n4 c4, .slice A5 n5 c5]] w fun r w' => r = .returned (.int .i64 (check e)) ∧ Below w.heap.size w w' := by
  obtain ⟨rfl, rfl, rfl, r1, r2, r3, r4, r5⟩ := hr
  obtain rfl := r1.len
  obtain rfl := r2.len
  obtain rfl := r3.len
  obtain rfl := r4.len
  obtain rfl := r5.len
  have hr : EvR w e.mats e.hhs e.scs A1 e.places.length A2 e.moves.length A3 e.certs.length A4 e.recalls.length A5 e.purities.length e := ⟨rfl, rfl, rfl, r1, r2, r3, r4, r5⟩
  obtain ⟨g1, g2, g3, g4, g5⟩ := hn
  have HR := Lib.hid hr
  clear hr
  by_cases hf : fullB e = true
  case pos =>
    have hc : check e = 6 := by simp [check, hf]
    have HC := Lib.hid hc
    clear hc
    go_enter Try.func12, Try.ntmps12
    go_wp2_with (first | (go_at_call 37; refine (flow_full (e := e) (HR.out.keep (below_a1 _ _))).mono ?_; rintro r w' ⟨rfl, hb⟩))
    go_ret
    exact ⟨ret_int HC.out.symm, (below_a1 _ _).trans (hb.mono (by simp))⟩
  have hf' : fullB e = false := by simpa using hf
  clear hf
  by_cases hbad : e.mats < 1 ∨ e.hhs < 0 ∨ e.scs < 0 ∨ e.places.all (placeOk e) = false
  case pos =>
    have hc := check_bad hf' hbad
    have HC := Lib.hid hc
    have HB0 := Lib.hid hbad
    clear hc hbad
    go_enter Try.func12, Try.ntmps12
    go_wp2_with (first
      | (go_at_call 37; refine (flow_full (e := e) (HR.out.keep (below_a1 _ _))).mono ?_; rintro r wr ⟨hr0, hb0⟩; rw [hf'] at hr0; subst hr0; have hb : Below (w.heap.size + 1) (w.alloc (.cells #[.int .i64 e.mats, .int .i64 e.hhs, .int .i64 e.scs, .slice A1 e.places.length c1, .slice A2 e.moves.length c2, .slice A3 e.certs.length c3, .slice A4 e.recalls.length c4, .slice A5 e.purities.length c5] 28)) wr := hb0.mono (by simp); clear hb0; have hz := below_old_lt hb; have d0 : wr.cell? ⟨w.heap.size, 0, none⟩ = some (vi e.mats) := below_box hb 0; have d1 : wr.cell? ⟨w.heap.size, 1, none⟩ = some (vi e.hhs) := below_box hb 1; have d2 : wr.cell? ⟨w.heap.size, 2, none⟩ = some (vi e.scs) := below_box hb 2; have d3 : wr.cell? ⟨w.heap.size, 3, none⟩ = some (.slice A1 e.places.length c1) := below_box hb 3; have d4 : wr.cell? ⟨w.heap.size, 4, none⟩ = some (.slice A2 e.moves.length c2) := below_box hb 4; have d5 : wr.cell? ⟨w.heap.size, 5, none⟩ = some (.slice A3 e.certs.length c3) := below_box hb 5; have d6 : wr.cell? ⟨w.heap.size, 6, none⟩ = some (.slice A4 e.recalls.length c4) := below_box hb 6; have d7 : wr.cell? ⟨w.heap.size, 7, none⟩ = some (.slice A5 e.purities.length c5) := below_box hb 7; have HB := Lib.hid hb; clear hb)
      | (go_at_call 38; refine (flow_places (e := e) g1 (HR.out.keep (below_old HB.out))).mono ?_; rintro r w2 ⟨rfl, hb2⟩; have HB2 := Lib.hid (HB.out.trans (hb2.mono hz)); clear hb2 d0 d1 d2 d3 d4 d5 d6 d7; have hdone : ¬ (((1 ≤ e.mats ∧ 0 ≤ e.hhs) ∧ 0 ≤ e.scs) ∧ (!e.places.all (placeOk e)) = false) := by rintro ⟨hq1, hq2⟩; rcases HB0.out with h | h | h | h <;> simp_all <;> omega))
    all_goals (go_ret; refine ⟨ret_int HC.out.symm, ?_⟩; first | exact below_old HB2.out | exact below_old HB.out)
  have hgood := check_good hf' hbad
  have hmats : 1 ≤ e.mats := by omega
  have hhhs : 0 ≤ e.hhs := by omega
  have hscs : 0 ≤ e.scs := by omega
  have hp : e.places.all (placeOk e) = true := by
    rw [← Bool.not_eq_false]
    exact fun hq => hbad (.inr (.inr (.inr hq)))
  have HG := Lib.hid hgood
  have HP := Lib.hid hp
  clear hp hgood hbad
  go_enter Try.func12, Try.ntmps12
  go_wp2_with (first
    | (go_at_call 37; refine (flow_full (e := e) (HR.out.keep (below_a1 _ _))).mono ?_; rintro r wr ⟨hr0, hb0⟩; rw [hf'] at hr0; subst hr0; have hb : Below (w.heap.size + 1) (w.alloc (.cells #[.int .i64 e.mats, .int .i64 e.hhs, .int .i64 e.scs, .slice A1 e.places.length c1, .slice A2 e.moves.length c2, .slice A3 e.certs.length c3, .slice A4 e.recalls.length c4, .slice A5 e.purities.length c5] 28)) wr := hb0.mono (by simp); clear hb0; have hz := below_old_lt hb; have d0 : wr.cell? ⟨w.heap.size, 0, none⟩ = some (vi e.mats) := below_box hb 0; have d1 : wr.cell? ⟨w.heap.size, 1, none⟩ = some (vi e.hhs) := below_box hb 1; have d2 : wr.cell? ⟨w.heap.size, 2, none⟩ = some (vi e.scs) := below_box hb 2; have d3 : wr.cell? ⟨w.heap.size, 3, none⟩ = some (.slice A1 e.places.length c1) := below_box hb 3; have d4 : wr.cell? ⟨w.heap.size, 4, none⟩ = some (.slice A2 e.moves.length c2) := below_box hb 4; have d5 : wr.cell? ⟨w.heap.size, 5, none⟩ = some (.slice A3 e.certs.length c3) := below_box hb 5; have d6 : wr.cell? ⟨w.heap.size, 6, none⟩ = some (.slice A4 e.recalls.length c4) := below_box hb 6; have d7 : wr.cell? ⟨w.heap.size, 7, none⟩ = some (.slice A5 e.purities.length c5) := below_box hb 7; have HB := Lib.hid hb; clear hb)
    | (go_at_call 38; refine (flow_places (e := e) g1 (HR.out.keep (below_old HB.out))).mono ?_; rintro r w2 ⟨hr0, hb2⟩; rw [HP.out] at hr0; subst hr0; have hb : Below (w.heap.size + 1) (w.alloc (.cells #[.int .i64 e.mats, .int .i64 e.hhs, .int .i64 e.scs, .slice A1 e.places.length c1, .slice A2 e.moves.length c2, .slice A3 e.certs.length c3, .slice A4 e.recalls.length c4, .slice A5 e.purities.length c5] 28)) w2 := HB.out.trans (hb2.mono hz); clear hb2 d0 d1 d2 d3 d4 d5 d6 d7; have hz2 := below_old_lt hb; have d0 : w2.cell? ⟨w.heap.size, 0, none⟩ = some (vi e.mats) := below_box hb 0; have d1 : w2.cell? ⟨w.heap.size, 1, none⟩ = some (vi e.hhs) := below_box hb 1; have d2 : w2.cell? ⟨w.heap.size, 2, none⟩ = some (vi e.scs) := below_box hb 2; have d3 : w2.cell? ⟨w.heap.size, 3, none⟩ = some (.slice A1 e.places.length c1) := below_box hb 3; have d4 : w2.cell? ⟨w.heap.size, 4, none⟩ = some (.slice A2 e.moves.length c2) := below_box hb 4; have d5 : w2.cell? ⟨w.heap.size, 5, none⟩ = some (.slice A3 e.certs.length c3) := below_box hb 5; have d6 : w2.cell? ⟨w.heap.size, 6, none⟩ = some (.slice A4 e.recalls.length c4) := below_box hb 6; have d7 : w2.cell? ⟨w.heap.size, 7, none⟩ = some (.slice A5 e.purities.length c5) := below_box hb 7; have HB2 := Lib.hid hb; clear hb))
  go_loopw [3, 31] (fun t i wr => ∃ (k : Nat) (last : Int), k ≤ e.moves.length ∧ t = .int .i64 last ∧ i = .int .i64 k ∧ movesErr e last (e.moves.drop k) = movesErr e 0 e.moves ∧ Below (w.heap.size + 1) (w.alloc (.cells #[.int .i64 e.mats, .int .i64 e.hhs, .int .i64 e.scs, .slice A1 e.places.length c1, .slice A2 e.moves.length c2, .slice A3 e.certs.length c3, .slice A4 e.recalls.length c4, .slice A5 e.purities.length c5] 28)) wr) (fun _ i _ => e.moves.length - (intOf i).toNat)
  case atStart => exact ⟨0, 0, Nat.zero_le _, rfl, rfl, rfl, HB2.out⟩
  case round =>
    clear d0 d1 d2 d3 d4 d5 d6 d7 hz hz2
    obtain ⟨k, last, hk, rfl, rfl, hm, hb⟩ := hrel
    have hbo := below_old hb
    have d0 : wr.cell? ⟨w.heap.size, 0, none⟩ = some (vi e.mats) := below_box hb 0
    have d1 : wr.cell? ⟨w.heap.size, 1, none⟩ = some (vi e.hhs) := below_box hb 1
    have d2 : wr.cell? ⟨w.heap.size, 2, none⟩ = some (vi e.scs) := below_box hb 2
    have d3 : wr.cell? ⟨w.heap.size, 3, none⟩ = some (.slice A1 e.places.length c1) := below_box hb 3
    have d4 : wr.cell? ⟨w.heap.size, 4, none⟩ = some (.slice A2 e.moves.length c2) := below_box hb 4
    have d5 : wr.cell? ⟨w.heap.size, 5, none⟩ = some (.slice A3 e.certs.length c3) := below_box hb 5
    have d6 : wr.cell? ⟨w.heap.size, 6, none⟩ = some (.slice A4 e.recalls.length c4) := below_box hb 6
    have d7 : wr.cell? ⟨w.heap.size, 7, none⟩ = some (.slice A5 e.purities.length c5) := below_box hb 7
    have hz := below_old_lt hb
    by_cases hlt : k < e.moves.length
    · obtain ⟨b, off, x, rfl, hbl, hpk, q0, q1, q2, q3, q4, q5⟩ := r2.move hlt hbo
      rw [List.drop_eq_getElem_cons hlt] at hm
      have hx : e.moves[k] = x := by simpa [List.getElem?_eq_getElem hlt] using hpk
      rw [hx] at hm
      have HM := Lib.hid hm
      have HB := Lib.hid hb
      have HO := Lib.hid hbo
      clear hm hx hb hbo hpk r1 r2 r3 r4 r5
      clear HB2
      go_wp2_with (first
        | (go_at_call 39; refine (flow_move (e := e) (HR.out.keep (HO.out.alloc (by omega) _))).mono ?_; rintro r w3 ⟨rfl, hb3⟩; rw [size_a] at hb3; have m0 : w3.cell? ⟨wr.heap.size, 0, none⟩ = some (vi x.day) := below_box hb3 0; have hz3 := below_old_lt hb3; have HB3 := Lib.hid ((HB.out.alloc (by omega) _).trans (hb3.mono (by omega))); clear hb3))
      all_goals first
        | (go_ret; refine ⟨ret_int ?_, ?_⟩
           · go_light
             have hg := HG.out
             rw [← HM.out] at hg
             rw [hg]
             simp_all [movesErr]
             try omega
           · first | exact HO.out.alloc (by omega) _ | exact below_old HB3.out)
        | (go_roundw
           case rel =>
             refine ⟨k + 1, x.day, by omega, rfl, by go_num, ?_, HB3.out⟩
             go_light
             rw [← HM.out]
             simp_all [movesErr]
             try omega
           case measure => simp [intOf]; omega)
    · have hmm : movesErr e 0 e.moves = 0 := by rw [← hm, List.drop_of_length_le (by omega)]; rfl
      have hg := HG.out
      rw [hmm] at hg
      have HG := Lib.hid hg
      have HB := Lib.hid hb
      have HO := Lib.hid hbo
      clear hg hmm hm hb hbo HB2
      go_wp2_with (first | (go_at_call 40; refine (flow_said (e := e) g3 g4 g5 g2 (HR.out.keep HO.out)).mono ?_; rintro r w3 ⟨rfl, hb3⟩; have HB3 := Lib.hid (HO.out.trans (hb3.mono (by omega))); clear hb3))
      all_goals go_ret
      all_goals refine ⟨ret_int ?_, HB3.out⟩
      all_goals rw [HG.out]
      all_goals simp_all
end

end Go.Proofs.Ythjgbjakpbfnoaa
