/- kerbsideref14.said, Check. -/
import Derived.Test.YthjgbjakpbfnoaaRef14
import Derived.StillTailTactics
namespace Go.Proofs.Ythjgbjakpbfnoaa
open Go.RowKit
set_option linter.unusedSimpArgs false
set_option linter.unusedVariables false

section
variable {w : World} {m h s : Int} {A1 A2 A3 A4 A5 : Option Addr} {n1 n2 n3 n4 n5 c1 c2 c3 c4 c5 : Nat} {e : Ev}

set_option maxHeartbeats 1000000 in
theorem ref14_said (hn : e.Sized) (hm0 : 1 ≤ e.mats) (hm1 : e.mats ≤ 6) (hs0 : 0 ≤ e.scs) (hs1 : e.scs ≤ 30) (hr : EvR w m h s A1 n1 A2 n2 A3 n3 A4 n4 A5 n5 e) :
    Calls Try.prog 44 #[.agg #[.int .i64 m, .int .i64 h, .int .i64 s, .slice A1 n1 c1, .slice A2 n2 c2, .slice A3 n3 c3, .slice A4 n4 c4, .slice A5 n5 c5]] w fun r w' => r = .returned (.bool (saidOk e)) ∧ Below w.heap.size w w' := by
  obtain ⟨rfl, rfl, rfl, r1, r2, r3, r4, r5⟩ := hr
  obtain rfl := r1.len
  obtain rfl := r2.len
  obtain rfl := r3.len
  obtain rfl := r4.len
  obtain rfl := r5.len
  have hr : EvR w e.mats e.hhs e.scs A1 e.places.length A2 e.moves.length A3 e.certs.length A4 e.recalls.length A5 e.purities.length e := ⟨rfl, rfl, rfl, r1, r2, r3, r4, r5⟩
  clear hr
  obtain ⟨g1, g2, g3, g4, g5⟩ := hn
  go_enter Try.func44, Try.ntmps44
  go_wp2
  go_loopw [3] (fun i wr => ∃ k : Nat, k ≤ e.certs.length ∧ i = .int .i64 k ∧ Upto e.certs (certOk e) k ∧ Below (w.heap.size + 1) (w.alloc (.cells #[.int .i64 e.mats, .int .i64 e.hhs, .int .i64 e.scs, .slice A1 e.places.length c1, .slice A2 e.moves.length c2, .slice A3 e.certs.length c3, .slice A4 e.recalls.length c4, .slice A5 e.purities.length c5] 28)) wr) (fun i _ => e.certs.length - (intOf i).toNat)
  case atStart => exact ⟨0, Nat.zero_le _, rfl, Upto.zero _ _, Below.refl _ _⟩
  case round =>
    obtain ⟨k, hk, rfl, hu, hb⟩ := hrel
    have hbo := below_old hb
    have hz := below_old_lt hb
    have d2 : wr.cell? ⟨w.heap.size, 2, none⟩ = some (vi e.scs) := below_box hb 2
    have d5 : wr.cell? ⟨w.heap.size, 5, none⟩ = some (.slice A3 e.certs.length c3) := below_box hb 5
    by_cases hlt : k < e.certs.length
    · obtain ⟨b, off, p, rfl, hbl, hpk, q0, q1, q2, q3, q4, q5⟩ := r3.cert hlt hbo
      have HB := Lib.hid hb
      have HO := Lib.hid hbo
      have HU := Lib.hid hu
      have HP := Lib.hid hpk
      clear hb hbo hu hpk r1 r2 r3 r4 r5
      go_wp2_with (first | (go_at_call 46; refine (ref14_in _ _ _ _).mono ?_; rintro r w' ⟨rfl, rfl⟩))
      all_goals first
        | (go_ret; refine ⟨ret_bool ?_, HO.out.alloc (by omega) _⟩; have := all_snoc_false HP.out (p := certOk e) (by (go_light; simp only [certOk, Bool.and_eq_true, Bool.or_eq_true, Bool.and_eq_false_iff, Bool.or_eq_false_iff, decide_eq_true_eq, decide_eq_false_iff_not, Bool.not_eq_true', Bool.not_eq_false', Bool.not_eq_true, Bool.not_eq_false, idx_iff, btw_iff, idx_false, btw_false, beq_iff_eq, beq_eq_false_iff_ne, bne_iff_ne, bne_eq_false_iff_eq, ne_eq, Int.not_lt, Int.not_le] at *; omega)); simp [saidOk, this])
        | (go_roundw
           case rel => exact ⟨k + 1, by omega, by go_num, HU.out.next HP.out (by (go_light; simp only [certOk, Bool.and_eq_true, Bool.or_eq_true, Bool.and_eq_false_iff, Bool.or_eq_false_iff, decide_eq_true_eq, decide_eq_false_iff_not, Bool.not_eq_true', Bool.not_eq_false', Bool.not_eq_true, Bool.not_eq_false, idx_iff, btw_iff, idx_false, btw_false, beq_iff_eq, beq_eq_false_iff_ne, bne_iff_ne, bne_eq_false_iff_eq, ne_eq, Int.not_lt, Int.not_le] at *; omega)), HB.out.alloc (by omega) _⟩
           case measure => simp [intOf]; omega)
    · have hcs := hu.all (by omega)
      have HC := Lib.hid hcs
      have HB := Lib.hid hb
      clear hcs hu hb hbo
      obtain ⟨wo, rfl⟩ : ∃ wo : World, wo = wr := ⟨_, rfl⟩
      go_wp2_with fail
      go_loopw [5] (fun i wr => ∃ k : Nat, k ≤ e.recalls.length ∧ i = .int .i64 k ∧ Upto e.recalls (recallOk e) k ∧ Below (w.heap.size + 1) (w.alloc (.cells #[.int .i64 e.mats, .int .i64 e.hhs, .int .i64 e.scs, .slice A1 e.places.length c1, .slice A2 e.moves.length c2, .slice A3 e.certs.length c3, .slice A4 e.recalls.length c4, .slice A5 e.purities.length c5] 28)) wr) (fun i _ => e.recalls.length - (intOf i).toNat)
      case atStart => exact ⟨0, Nat.zero_le _, rfl, Upto.zero _ _, HB.out⟩
      case round =>
        clear d2 d5 hz hlt hk HB
        obtain ⟨k, hk, rfl, hu, hb⟩ := hrel
        have hbo := below_old hb
        have hz := below_old_lt hb
        have d2 : wr.cell? ⟨w.heap.size, 2, none⟩ = some (vi e.scs) := below_box hb 2
        have d6 : wr.cell? ⟨w.heap.size, 6, none⟩ = some (.slice A4 e.recalls.length c4) := below_box hb 6
        by_cases hlt : k < e.recalls.length
        · obtain ⟨b, off, p, rfl, hbl, hpk, q0, q1⟩ := r4.recall hlt hbo
          have HB := Lib.hid hb
          have HO := Lib.hid hbo
          have HU := Lib.hid hu
          have HP := Lib.hid hpk
          clear hb hbo hu hpk r1 r2 r3 r4 r5
          by_cases hsc : btw p.scale 0 (e.scs - 1) = true
          · go_wp2_with fail
            go_quiet ((go_at_call 46; exact quiet_left (ref14_in _ _ _ _)))
            go_wp2
            all_goals first
              | (go_ret; refine ⟨ret_bool ?_, below_drewN HO.out _⟩; have := all_snoc_false HP.out (p := recallOk e) (by (go_light; simp only [recallOk, Bool.and_eq_true, Bool.or_eq_true, Bool.and_eq_false_iff, Bool.or_eq_false_iff, decide_eq_true_eq, decide_eq_false_iff_not, Bool.not_eq_true', Bool.not_eq_false', Bool.not_eq_true, Bool.not_eq_false, idx_iff, btw_iff, idx_false, btw_false, beq_iff_eq, beq_eq_false_iff_ne, bne_iff_ne, bne_eq_false_iff_eq, ne_eq, Int.not_lt, Int.not_le] at *; omega)); simp [saidOk, this])
              | (go_roundw
                 case rel => exact ⟨k + 1, by omega, by go_num, HU.out.next HP.out (by (go_light; simp only [recallOk, Bool.and_eq_true, Bool.or_eq_true, Bool.and_eq_false_iff, Bool.or_eq_false_iff, decide_eq_true_eq, decide_eq_false_iff_not, Bool.not_eq_true', Bool.not_eq_false', Bool.not_eq_true, Bool.not_eq_false, idx_iff, btw_iff, idx_false, btw_false, beq_iff_eq, beq_eq_false_iff_ne, bne_iff_ne, bne_eq_false_iff_eq, ne_eq, Int.not_lt, Int.not_le] at *; omega)), below_drewN HB.out _⟩
                 case measure => simp [intOf]; omega)
          · have hsf : btw p.scale 0 (e.scs - 1) = false := by simpa using hsc
            clear hsc
            go_wp2_with fail
            go_quiet ((go_at_call 46; exact quiet_left (ref14_in _ _ _ _)))
            go_wp2
            go_ret
            refine ⟨ret_bool ?_, below_drewN HO.out _⟩
            have := all_snoc_false HP.out (p := recallOk e) (by rw [btw_idx] at hsf; simp [recallOk, hsf])
            simp [saidOk, this]
        · have hrs := hu.all (by omega)
          have HS := Lib.hid hrs
          have HB := Lib.hid hb
          clear hrs hu hb hbo
          obtain ⟨wo, rfl⟩ : ∃ wo : World, wo = wr := ⟨_, rfl⟩
          go_wp2_with fail
          go_loopw [6] (fun i wr => ∃ k : Nat, k ≤ e.purities.length ∧ i = .int .i64 k ∧ Upto e.purities (purityOk e) k ∧ Below (w.heap.size + 1) (w.alloc (.cells #[.int .i64 e.mats, .int .i64 e.hhs, .int .i64 e.scs, .slice A1 e.places.length c1, .slice A2 e.moves.length c2, .slice A3 e.certs.length c3, .slice A4 e.recalls.length c4, .slice A5 e.purities.length c5] 28)) wr) (fun i _ => e.purities.length - (intOf i).toNat)
          case atStart => exact ⟨0, Nat.zero_le _, rfl, Upto.zero _ _, HB.out⟩
          case round =>
            clear d2 d6 hz hlt hk HB
            obtain ⟨k, hk, rfl, hu, hb⟩ := hrel
            have hbo := below_old hb
            have hz := below_old_lt hb
            have d0 : wr.cell? ⟨w.heap.size, 0, none⟩ = some (vi e.mats) := below_box hb 0
            have d4 : wr.cell? ⟨w.heap.size, 4, none⟩ = some (.slice A2 e.moves.length c2) := below_box hb 4
            have d7 : wr.cell? ⟨w.heap.size, 7, none⟩ = some (.slice A5 e.purities.length c5) := below_box hb 7
            by_cases hlt : k < e.purities.length
            · obtain ⟨b, off, p, rfl, hbl, hpk, q0, q1, q2, q3⟩ := r5.purity hlt hbo
              have HB := Lib.hid hb
              have HO := Lib.hid hbo
              have HU := Lib.hid hu
              have HP := Lib.hid hpk
              clear hb hbo hu hpk r1 r2 r3 r4 r5
              go_wp2_with (first | (go_at_call 46; refine (ref14_in _ _ _ _).mono ?_; rintro r w' ⟨rfl, rfl⟩))
              all_goals first
                | (go_ret; refine ⟨ret_bool ?_, HO.out.alloc (by omega) _⟩; have := all_snoc_false HP.out (p := purityOk e) (by (go_light; simp only [purityOk, Bool.and_eq_true, Bool.or_eq_true, Bool.and_eq_false_iff, Bool.or_eq_false_iff, decide_eq_true_eq, decide_eq_false_iff_not, Bool.not_eq_true', Bool.not_eq_false', Bool.not_eq_true, Bool.not_eq_false, idx_iff, btw_iff, idx_false, btw_false, beq_iff_eq, beq_eq_false_iff_ne, bne_iff_ne, bne_eq_false_iff_eq, ne_eq, Int.not_lt, Int.not_le] at *; omega)); simp [saidOk, this])
                | (go_roundw
                   case rel => exact ⟨k + 1, by omega, by go_num, HU.out.next HP.out (by (go_light; simp only [purityOk, Bool.and_eq_true, Bool.or_eq_true, Bool.and_eq_false_iff, Bool.or_eq_false_iff, decide_eq_true_eq, decide_eq_false_iff_not, Bool.not_eq_true', Bool.not_eq_false', Bool.not_eq_true, Bool.not_eq_false, idx_iff, btw_iff, idx_false, btw_false, beq_iff_eq, beq_eq_false_iff_ne, bne_iff_ne, bne_eq_false_iff_eq, ne_eq, Int.not_lt, Int.not_le] at *; omega)), HB.out.alloc (by omega) _⟩
                   case measure => simp [intOf]; omega)
            · go_wp2_with fail
              go_ret
              refine ⟨ret_bool ?_, hbo⟩
              have h3 := hu.all (by omega)
              simp [saidOk, HC.out, HS.out, h3]
end
end Go.Proofs.Ythjgbjakpbfnoaa
