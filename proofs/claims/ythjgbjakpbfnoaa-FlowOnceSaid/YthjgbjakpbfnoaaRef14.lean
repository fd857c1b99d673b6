/- The functions of package kerbsideref14: each computes what Plain14 says. -/
import Derived.Test.YthjgbjakpbfnoaaRows
import Derived.Test.YthjgbjakpbfnoaaPlain14
import Derived.Test.YthjgbjakpbfnoaaBase2
import Derived.Test.YthjgbjakpbfnoaaSized
namespace Go.Proofs.Ythjgbjakpbfnoaa
open Go.RowKit
set_option linter.unusedSimpArgs false
set_option linter.unusedVariables false

theorem ref14_in (n lo hi : Int) (w : World) :
    Calls Try.prog 46 #[.int .i64 n, .int .i64 lo, .int .i64 hi] w fun e w' => e = .returned (.bool (btw n lo hi)) ∧ w = w' := by
  unfold btw
  go_enter Try.func46, Try.ntmps46
  go_wp2
  all_goals go_ret
  all_goals (refine ⟨?_, rfl⟩; simp_all <;> omega)

section
variable {w : World} {m h s : Int} {A1 A2 A3 A4 A5 : Option Addr} {n1 n2 n3 n4 n5 c1 c2 c3 c4 c5 : Nat} {e : Ev}

set_option maxHeartbeats 400000 in
theorem ref14_Few (hr : EvR w m h s A1 n1 A2 n2 A3 n3 A4 n4 A5 n5 e) :
    Calls Try.prog 11 #[.agg #[.int .i64 m, .int .i64 h, .int .i64 s, .slice A1 n1 c1, .slice A2 n2 c2, .slice A3 n3 c3, .slice A4 n4 c4, .slice A5 n5 c5]] w fun r w' => r = .returned (.bool (few e)) ∧ Below w.heap.size w w' := by
  obtain ⟨rfl, rfl, rfl, r1, r2, r3, r4, r5⟩ := hr
  obtain rfl := r1.len
  obtain rfl := r2.len
  obtain rfl := r3.len
  obtain rfl := r4.len
  obtain rfl := r5.len
  have hr : EvR w e.mats e.hhs e.scs A1 e.places.length A2 e.moves.length A3 e.certs.length A4 e.recalls.length A5 e.purities.length e := ⟨rfl, rfl, rfl, r1, r2, r3, r4, r5⟩
  clear hr r1 r2 r3 r4 r5
  go_enter Try.func11, Try.ntmps11
  go_wp2
  all_goals go_ret
  all_goals refine ⟨ret_bool ?_, below_a1 _ _⟩
  all_goals (go_light; rw [Bool.eq_iff_iff]; simp_all [few] <;> omega)

set_option maxHeartbeats 400000 in
theorem ref14_full (hr : EvR w m h s A1 n1 A2 n2 A3 n3 A4 n4 A5 n5 e) :
    Calls Try.prog 41 #[.agg #[.int .i64 m, .int .i64 h, .int .i64 s, .slice A1 n1 c1, .slice A2 n2 c2, .slice A3 n3 c3, .slice A4 n4 c4, .slice A5 n5 c5]] w fun r w' => r = .returned (.bool (fullB e)) ∧ Below w.heap.size w w' := by
  obtain ⟨rfl, rfl, rfl, r1, r2, r3, r4, r5⟩ := hr
  obtain rfl := r1.len
  obtain rfl := r2.len
  obtain rfl := r3.len
  obtain rfl := r4.len
  obtain rfl := r5.len
  have hr : EvR w e.mats e.hhs e.scs A1 e.places.length A2 e.moves.length A3 e.certs.length A4 e.recalls.length A5 e.purities.length e := ⟨rfl, rfl, rfl, r1, r2, r3, r4, r5⟩
  clear hr r1 r2 r3 r4 r5
  go_enter Try.func41, Try.ntmps41
  go_wp2
  all_goals go_ret
  all_goals refine ⟨ret_bool ?_, below_a1 _ _⟩
  all_goals (go_light; rw [Bool.eq_iff_iff]; simp_all [fullB] <;> omega)

set_option maxHeartbeats 400000 in
theorem ref14_place {a b c : Int} (hr : EvR w m h s A1 n1 A2 n2 A3 n3 A4 n4 A5 n5 e) (hm0 : 1 ≤ e.mats) (hm1 : e.mats ≤ 6) (hh0 : 0 ≤ e.hhs) (hh1 : e.hhs ≤ 100) :
    Calls Try.prog 42 #[.agg #[.int .i64 m, .int .i64 h, .int .i64 s, .slice A1 n1 c1, .slice A2 n2 c2, .slice A3 n3 c3, .slice A4 n4 c4, .slice A5 n5 c5], .agg #[.int .i64 a, .int .i64 b, .int .i64 c]] w fun r w' => r = .returned (.bool (placeOk e ⟨a, b, c⟩)) ∧ Below w.heap.size w w' := by
  obtain ⟨rfl, rfl, rfl, r1, r2, r3, r4, r5⟩ := hr
  obtain rfl := r1.len
  obtain rfl := r2.len
  obtain rfl := r3.len
  obtain rfl := r4.len
  obtain rfl := r5.len
  have hr : EvR w e.mats e.hhs e.scs A1 e.places.length A2 e.moves.length A3 e.certs.length A4 e.recalls.length A5 e.purities.length e := ⟨rfl, rfl, rfl, r1, r2, r3, r4, r5⟩
  clear hr r1 r2 r3 r4 r5
  by_cases h0 : a = 0
  · subst h0
    go_enter Try.func42, Try.ntmps42
    go_wp2_with (first | (go_at_call 46; refine (ref14_in _ _ _ _).mono ?_; rintro r w' ⟨rfl, rfl⟩))
    all_goals go_ret
    all_goals refine ⟨ret_bool ?_, below_a2 _ _ _⟩
    all_goals (go_light; rw [Bool.eq_iff_iff]; simp_all [placeOk, idx_iff, btw_iff] <;> omega)
  · go_enter Try.func42, Try.ntmps42
    go_wp2_with (first | (go_at_call 46; refine (ref14_in _ _ _ _).mono ?_; rintro r w' ⟨rfl, rfl⟩))
    all_goals go_ret
    all_goals refine ⟨ret_bool ?_, below_a2 _ _ _⟩
    all_goals (go_light; rw [Bool.eq_iff_iff]; simp_all [placeOk, idx_iff, btw_iff] <;> omega)

end
end Go.Proofs.Ythjgbjakpbfnoaa
