/- kerbsideref14.Check. -/
import Derived.Test.YthjgbjakpbfnoaaRef14b
import Derived.Test.YthjgbjakpbfnoaaRef14m
namespace Go.Proofs.Ythjgbjakpbfnoaa
open Go.RowKit
set_option linter.unusedSimpArgs false
set_option linter.unusedVariables false

section
variable {w : World} {m h s : Int} {A1 A2 A3 A4 A5 : Option Addr} {n1 n2 n3 n4 n5 c1 c2 c3 c4 c5 : Nat} {e : Ev}

theorem movesErr_cons (e : Ev) (last : Int) (m : Move) (r : List Move) : movesErr e last (m :: r) = if moveErr e last m ≠ 0 then moveErr e last m else movesErr e m.day r := by
  conv => lhs; unfold movesErr
  unfold moveErr
  by_cases h1 : m.day < last ∨ 100000 < m.day
  · simp [h1]
  · by_cases h2 : moveOk e m = true
    · simp [h1, h2]
    · simp [h1, h2]

set_option maxHeartbeats 1000000 in
theorem ref14_Check (hn : e.Sized) (hr : EvR w m h s A1 n1 A2 n2 A3 n3 A4 n4 A5 n5 e) :
    Calls Try.prog 13 #[.agg #[.int .i64 m, .int .i64 h, .int .i64 s, .slice A1 n1 c1, .slice A2 n2 c2, .slice A3 n3 c3, .slice A4 n4 c4, .slice A5 n5 c5]] w fun r w' => r = .returned (.int .i64 (check e)) ∧ Below w.heap.size w w' := by
  obtain ⟨rfl, rfl, rfl, r1, r2, r3, r4, r5⟩ := hr
  obtain rfl := r1.len
  obtain rfl := r2.len
  obtain rfl := r3.len
  obtain rfl := r4.len
  obtain rfl := r5.len
  have hr : EvR w e.mats e.hhs e.scs A1 e.places.length A2 e.moves.length A3 e.certs.length A4 e.recalls.length A5 e.purities.length e := ⟨rfl, rfl, rfl, r1, r2, r3, r4, r5⟩
  have HR := Lib.hid hr
  have g1 := hn.s1
  have g2 := hn.s2
  clear hr
  by_cases hf : fullB e = true
  case pos =>
    have hc : check e = 6 := by simp [check, hf]
    have HC := Lib.hid hc
    clear hc
    go_enter Try.func13, Try.ntmps13
    go_wp2_with (first | (go_at_call 41; refine (ref14_full (e := e) (HR.out.keep (below_a1 _ _))).mono ?_; rintro r w' ⟨rfl, hb⟩))
    go_ret
    exact ⟨ret_int HC.out.symm, (below_a1 _ _).trans (hb.mono (by simp))⟩
  have hf' : fullB e = false := by simpa using hf
  clear hf
  by_cases hneg : e.mats < 1 ∨ e.hhs < 0 ∨ e.scs < 0
  case pos =>
    have hc : check e = 1 := by unfold check; rw [if_neg (by simp [hf']), if_pos (by rcases hneg with h | h | h; exact .inl h; exact .inr (.inl h); exact .inr (.inr (.inl h)))]
    have HC := Lib.hid hc
    have HN := Lib.hid hneg
    clear hc hneg
    go_enter Try.func13, Try.ntmps13
    go_wp2_with (first
      | (go_at_call 41; refine (ref14_full (e := e) (HR.out.keep (below_a1 _ _))).mono ?_; rintro r wr ⟨hr0, hb0⟩; rw [hf'] at hr0; subst hr0; have hb : Below (w.heap.size + 1) (w.alloc (.cells #[.int .i64 e.mats, .int .i64 e.hhs, .int .i64 e.scs, .slice A1 e.places.length c1, .slice A2 e.moves.length c2, .slice A3 e.certs.length c3, .slice A4 e.recalls.length c4, .slice A5 e.purities.length c5] 28)) wr := hb0.mono (by simp); clear hb0; have hz := below_old_lt hb; have d0 : wr.cell? ⟨w.heap.size, 0, none⟩ = some (vi e.mats) := below_box hb 0; have d1 : wr.cell? ⟨w.heap.size, 1, none⟩ = some (vi e.hhs) := below_box hb 1; have d2 : wr.cell? ⟨w.heap.size, 2, none⟩ = some (vi e.scs) := below_box hb 2; have HB := Lib.hid hb; clear hb; have hdone : ¬ ((1 ≤ e.mats ∧ 0 ≤ e.hhs) ∧ 0 ≤ e.scs) := by have := HN.out; omega))
    all_goals (go_ret; exact ⟨ret_int HC.out.symm, below_old HB.out⟩)
  have hm0 : 1 ≤ e.mats := by omega
  have hh0 : 0 ≤ e.hhs := by omega
  have hs0 : 0 ≤ e.scs := by omega
  have hmx : e.mats ≤ 6 ∧ e.hhs ≤ 100 ∧ e.scs ≤ 30 := by simp [fullB] at hf'; omega
  obtain ⟨hm1, hh1, hs1⟩ := hmx
  have hck : check e = if e.places.all (placeOk e) = false then 1 else if movesErr e 0 e.moves ≠ 0 then movesErr e 0 e.moves else if saidOk e then 0 else 1 := by
    unfold check
    rw [if_neg (by simp [hf'])]
    by_cases hp : e.places.all (placeOk e) = false
    · rw [if_pos (.inr (.inr (.inr hp))), if_pos hp]
    · rw [if_neg (by rintro (h | h | h | h); omega; omega; omega; exact hp h), if_neg hp]
  have hd0 : decide (e.mats < 1) = false := by simp; omega
  have hd1 : decide (e.hhs < 0) = false := by simp; omega
  have hd2 : decide (e.scs < 0) = false := by simp; omega
  have HC := Lib.hid hck
  have HF := Lib.hid hf'
  clear hck hneg hf'
  go_enter Try.func13, Try.ntmps13
  go_wp2_with (first
    | (go_at_call 41; refine (ref14_full (e := e) (HR.out.keep (below_a1 _ _))).mono ?_; rintro r wr ⟨hr0, hb0⟩; rw [HF.out] at hr0; subst hr0; have hb : Below (w.heap.size + 1) (w.alloc (.cells #[.int .i64 e.mats, .int .i64 e.hhs, .int .i64 e.scs, .slice A1 e.places.length c1, .slice A2 e.moves.length c2, .slice A3 e.certs.length c3, .slice A4 e.recalls.length c4, .slice A5 e.purities.length c5] 28)) wr := hb0.mono (by simp); clear hb0; have hz := below_old_lt hb; have d0 : wr.cell? ⟨w.heap.size, 0, none⟩ = some (vi e.mats) := below_box hb 0; have d1 : wr.cell? ⟨w.heap.size, 1, none⟩ = some (vi e.hhs) := below_box hb 1; have d2 : wr.cell? ⟨w.heap.size, 2, none⟩ = some (vi e.scs) := below_box hb 2; have HB := Lib.hid hb; clear hb))
  go_loopw [3] (fun i wr => ∃ k : Nat, k ≤ e.places.length ∧ i = .int .i64 k ∧ Upto e.places (placeOk e) k ∧ Below (w.heap.size + 1) (w.alloc (.cells #[.int .i64 e.mats, .int .i64 e.hhs, .int .i64 e.scs, .slice A1 e.places.length c1, .slice A2 e.moves.length c2, .slice A3 e.certs.length c3, .slice A4 e.recalls.length c4, .slice A5 e.purities.length c5] 28)) wr) (fun i _ => e.places.length - (intOf i).toNat)
  case atStart => exact ⟨0, Nat.zero_le _, rfl, Upto.zero _ _, HB.out⟩
  case round =>
    clear d0 d1 d2 hz HB
    obtain ⟨k, hk, rfl, hu, hb⟩ := hrel
    have hbo := below_old hb
    have hz := below_old_lt hb
    have d0 : wr.cell? ⟨w.heap.size, 0, none⟩ = some (vi e.mats) := below_box hb 0
    have d1 : wr.cell? ⟨w.heap.size, 1, none⟩ = some (vi e.hhs) := below_box hb 1
    have d2 : wr.cell? ⟨w.heap.size, 2, none⟩ = some (vi e.scs) := below_box hb 2
    have d3 : wr.cell? ⟨w.heap.size, 3, none⟩ = some (.slice A1 e.places.length c1) := below_box hb 3
    have d4 : wr.cell? ⟨w.heap.size, 4, none⟩ = some (.slice A2 e.moves.length c2) := below_box hb 4
    have d5 : wr.cell? ⟨w.heap.size, 5, none⟩ = some (.slice A3 e.certs.length c3) := below_box hb 5
    have d6 : wr.cell? ⟨w.heap.size, 6, none⟩ = some (.slice A4 e.recalls.length c4) := below_box hb 6
    have d7 : wr.cell? ⟨w.heap.size, 7, none⟩ = some (.slice A5 e.purities.length c5) := below_box hb 7
    by_cases hlt : k < e.places.length
    · obtain ⟨b, off, p, rfl, hbl, hpk, q0, q1, q2⟩ := r1.place hlt hbo
      have HB := Lib.hid hb
      have HO := Lib.hid hbo
      have HU := Lib.hid hu
      have HP := Lib.hid hpk
      clear hb hbo hu hpk r1 r2 r3 r4 r5
      go_wp2_with fail
      go_still_tail 6, (by kernel_rfl)
      change wpList _ _ _ _ _ wr.drew
      go_wp2_with (first | (go_at_call 42; refine (ref14_place (e := e) (HR.out.keep HO.out.drew) hm0 hm1 hh0 hh1).mono ?_; rintro r w3 ⟨rfl, hb3⟩; have HB3 := Lib.hid (HB.out.drew.trans (hb3.mono (by simp; omega))); clear hb3))
      all_goals first
        | (go_ret; refine ⟨ret_int ?_, below_old HB3.out⟩; have := all_snoc_false HP.out (p := placeOk e) (by simpa using ‹(!placeOk e _) = true›); rw [HC.out, if_pos this])
        | (go_roundw
           case rel => exact ⟨k + 1, by omega, by go_num, HU.out.next HP.out (by simpa using ‹(!placeOk e _) = false›), HB3.out⟩
           case measure => simp [intOf]; omega)
    · have hps := hu.all (by omega)
      have hck2 := HC.out
      rw [if_neg (by simp [hps])] at hck2
      have HC2 := Lib.hid hck2
      have HB := Lib.hid hb
      clear hps hu hb hbo hck2 HC
      obtain ⟨wo, rfl⟩ : ∃ wo : World, wo = wr := ⟨_, rfl⟩
      go_wp2_with fail
      go_loopw [4] (fun i wr => ∃ (k : Nat) (last : Int), k ≤ e.moves.length ∧ i = .int .i64 k ∧ 0 ≤ last ∧ ((k = 0 ∧ last = 0) ∨ ∃ j y, k = j + 1 ∧ e.moves[j]? = some y ∧ y.day = last) ∧ movesErr e last (e.moves.drop k) = movesErr e 0 e.moves ∧ Below (w.heap.size + 1) (w.alloc (.cells #[.int .i64 e.mats, .int .i64 e.hhs, .int .i64 e.scs, .slice A1 e.places.length c1, .slice A2 e.moves.length c2, .slice A3 e.certs.length c3, .slice A4 e.recalls.length c4, .slice A5 e.purities.length c5] 28)) wr) (fun i _ => e.moves.length - (intOf i).toNat)
      case atStart => exact ⟨0, 0, Nat.zero_le _, rfl, by omega, .inl ⟨rfl, rfl⟩, rfl, HB.out⟩
      case round =>
        clear hz hlt hk HB d0 d1 d2 d3 d4 d5 d6 d7
        obtain ⟨k, last, hk, rfl, hl0, hprev, hm, hb⟩ := hrel
        have hbo := below_old hb
        have hz := below_old_lt hb
        have d0 : wr.cell? ⟨w.heap.size, 0, none⟩ = some (vi e.mats) := below_box hb 0
        have d1 : wr.cell? ⟨w.heap.size, 1, none⟩ = some (vi e.hhs) := below_box hb 1
        have d2 : wr.cell? ⟨w.heap.size, 2, none⟩ = some (vi e.scs) := below_box hb 2
        have d3 : wr.cell? ⟨w.heap.size, 3, none⟩ = some (.slice A1 e.places.length c1) := below_box hb 3
        have d4 : wr.cell? ⟨w.heap.size, 4, none⟩ = some (.slice A2 e.moves.length c2) := below_box hb 4
        have d5 : wr.cell? ⟨w.heap.size, 5, none⟩ = some (.slice A3 e.certs.length c3) := below_box hb 5
        have d6 : wr.cell? ⟨w.heap.size, 6, none⟩ = some (.slice A4 e.recalls.length c4) := below_box hb 6
        have d7 : wr.cell? ⟨w.heap.size, 7, none⟩ = some (.slice A5 e.purities.length c5) := below_box hb 7
        have HPR := Lib.hid hprev
        clear hprev
        by_cases hlt : k < e.moves.length
        · have hx : e.moves[k]? = some e.moves[k] := List.getElem?_eq_getElem hlt
          rw [List.drop_eq_getElem_cons hlt, movesErr_cons] at hm
          generalize e.moves[k] = x at hx hm
          have HX := Lib.hid hx
          have HM := Lib.hid hm
          have HB := Lib.hid hb
          have HO := Lib.hid hbo
          clear hm hb hbo hx
          by_cases hme : moveErr e last x = 0
          · have HME := Lib.hid hme
            clear hme
            go_wp2_with (first | (go_at_call 43; refine (ref14_move (e := e) (HR.out.keep HO.out) hn hs0 hs1 HX.out hl0 HPR.out).mono ?_; rintro r w3 ⟨hr0, hb3⟩; rw [HME.out] at hr0; subst hr0; have HB3 := Lib.hid (HB.out.trans (hb3.mono (by omega))); clear hb3))
            go_roundw
            case rel =>
              have hday : ¬ (x.day < last ∨ 100000 < x.day) := by
                intro h
                have := HME.out
                unfold moveErr at this
                rw [if_pos h] at this
                omega
              refine ⟨k + 1, x.day, by omega, by go_num, by omega, .inr ⟨k, x, rfl, HX.out, rfl⟩, ?_, HB3.out⟩
              rw [← HM.out, if_neg (by simp [HME.out])]
            case measure => simp [intOf]; omega
          · have hne : (moveErr e last x != 0) = true := by simpa using hme
            have HME := Lib.hid hme
            clear hme
            go_wp2_with (first | (go_at_call 43; refine (ref14_move (e := e) (HR.out.keep HO.out) hn hs0 hs1 HX.out hl0 HPR.out).mono ?_; rintro r w3 ⟨rfl, hb3⟩; have HB3 := Lib.hid (HB.out.trans (hb3.mono (by omega))); clear hb3))
            go_ret
            refine ⟨ret_int ?_, below_old HB3.out⟩
            have hmm := HM.out
            rw [if_pos HME.out] at hmm
            rw [HC2.out, ← hmm, if_pos HME.out]
        · have hmm : movesErr e 0 e.moves = 0 := by rw [← hm, List.drop_of_length_le (by omega)]; rfl
          have hck3 := HC2.out
          rw [hmm, if_neg (by simp)] at hck3
          have HC3 := Lib.hid hck3
          have HB := Lib.hid hb
          have HO := Lib.hid hbo
          clear hmm hm hb hbo hck3 HC2
          go_wp2_with (first | (go_at_call 44; refine (ref14_said (e := e) hn hm0 hm1 hs0 hs1 (HR.out.keep HO.out)).mono ?_; rintro r w3 ⟨rfl, hb3⟩; have HB3 := Lib.hid (HO.out.trans (hb3.mono (by omega))); clear hb3))
          all_goals go_ret
          all_goals refine ⟨ret_int ?_, HB3.out⟩
          all_goals rw [HC3.out]
          all_goals simp_all
end
end Go.Proofs.Ythjgbjakpbfnoaa
