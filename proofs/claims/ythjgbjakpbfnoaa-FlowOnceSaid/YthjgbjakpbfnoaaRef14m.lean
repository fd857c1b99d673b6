/- kerbsideref14.move. -/
import Derived.Test.YthjgbjakpbfnoaaRef14
namespace Go.Proofs.Ythjgbjakpbfnoaa
open Go.RowKit
set_option linter.unusedSimpArgs false
set_option linter.unusedVariables false

section
variable {w : World} {m h s : Int} {A1 A2 A3 A4 A5 : Option Addr} {n1 n2 n3 n4 n5 c1 c2 c3 c4 c5 : Nat} {e : Ev}

/-- the error of a move, the one before being of the day 'prev' -/
def moveErr (e : Ev) (prev : Int) (m : Move) : Int := if m.day < prev ∨ 100000 < m.day then 17 else if moveOk e m then 0 else 1

set_option maxHeartbeats 1000000 in
theorem ref14_move (hr : EvR w m h s A1 n1 A2 n2 A3 n3 A4 n4 A5 n5 e) (hn : e.Sized) (hs0 : 0 ≤ e.scs) (hs1 : e.scs ≤ 30) {k : Nat} {x : Move} {prev : Int} (hx : e.moves[k]? = some x) (hp0 : 0 ≤ prev)
    (hprev : (k = 0 ∧ prev = 0) ∨ ∃ j y, k = j + 1 ∧ e.moves[j]? = some y ∧ y.day = prev) :
    Calls Try.prog 43 #[.agg #[.int .i64 m, .int .i64 h, .int .i64 s, .slice A1 n1 c1, .slice A2 n2 c2, .slice A3 n3 c3, .slice A4 n4 c4, .slice A5 n5 c5], .int .i64 k] w fun r w' => r = .returned (.int .i64 (moveErr e prev x)) ∧ Below w.heap.size w w' := by
  obtain ⟨rfl, rfl, rfl, r1, r2, r3, r4, r5⟩ := hr
  obtain rfl := r1.len
  obtain rfl := r2.len
  obtain rfl := r3.len
  obtain rfl := r4.len
  obtain rfl := r5.len
  have hr : EvR w e.mats e.hhs e.scs A1 e.places.length A2 e.moves.length A3 e.certs.length A4 e.recalls.length A5 e.purities.length e := ⟨rfl, rfl, rfl, r1, r2, r3, r4, r5⟩
  obtain ⟨g1, g2, -, -, -⟩ := hn
  have hkl : k < e.moves.length := (List.getElem?_eq_some_iff.1 hx).1
  obtain ⟨b, off, x', rfl, hbl, hx', q0, q1, q2, q3, q4, q5⟩ := r2.move (i := k) hkl (Below.refl _ _)
  obtain rfl : x' = x := by rw [hx] at hx'; simpa using hx'.symm
  clear hx hx' hr
  have HPR := Lib.hid hprev
  have HR2 := Lib.hid r2
  have HR1 := Lib.hid r1
  clear hprev r1 r2 r3 r4 r5
  by_cases hd : 0 ≤ x'.day ∧ x'.day ≤ 100000
  case neg =>
    have hbt : btw x'.day 0 100000 = false := by rw [btw_false]; omega
    have hres : moveErr e prev x' = 17 := by unfold moveErr; rw [if_pos (by omega)]
    have HX := Lib.hid hres
    clear hd hres
    go_enter Try.func43, Try.ntmps43
    go_wp2_with fail
    go_quiet ((go_at_call 46; exact quiet_left (ref14_in _ _ _ _)))
    go_wp2
    go_ret
    exact ⟨ret_int HX.out.symm, below_drewN (below_a2 _ _ _) _⟩
  have hbt : btw x'.day 0 100000 = true := btw_iff.2 hd
  rcases HPR.out with ⟨hk0, rfl⟩ | ⟨j, y, rfl, hy, rfl⟩
  · have hday : 0 ≤ x'.day ∧ x'.day ≤ 100000 := hd
    have hkn : k ≤ 0 := by omega
    have hdk : decide ((0 : Int) < (k : Int)) = false := by simp; omega
    have hdn : decide (0 < k) = false := by simp; omega
    clear hk0
    by_cases hsr : 0 ≤ x'.src ∧ x'.src < e.places.length
    case neg =>
      have hq : btw x'.src 0 (e.places.length - 1) = false := by rw [btw_false]; omega
      have hres : moveOk e x' = false := by simp [moveOk, idx_false.2 (show x'.src < 0 ∨ (e.places.length : Int) ≤ x'.src by omega)]
      have HX := Lib.hid hres
      clear hres hsr
      go_enter Try.func43, Try.ntmps43
      go_wp2_with fail
      go_quiet ((go_at_call 46; exact quiet_left (ref14_in _ _ _ _)))
      go_wp2_with (first | (go_at_call 46; refine (ref14_in _ _ _ _).mono ?_; rintro r w' ⟨rfl, rfl⟩))
      all_goals go_ret
      all_goals refine ⟨ret_int ?_, below_drewN (below_a2 _ _ _) _⟩
      all_goals (go_light; simp [moveErr, HX.out]; omega)
    by_cases hds : 0 ≤ x'.dst ∧ x'.dst < e.places.length
    case neg =>
      have hq0 : btw x'.src 0 (e.places.length - 1) = true := btw_iff.2 (by omega)
      have hq : btw x'.dst 0 (e.places.length - 1) = false := by rw [btw_false]; omega
      have hres : moveOk e x' = false := by simp [moveOk, idx_false.2 (show x'.dst < 0 ∨ (e.places.length : Int) ≤ x'.dst by omega)]
      have HX := Lib.hid hres
      clear hres hds hsr
      go_enter Try.func43, Try.ntmps43
      go_wp2_with fail
      go_quiet ((go_at_call 46; exact quiet_left (ref14_in _ _ _ _)))
      go_wp2_with (first | (go_at_call 46; refine (ref14_in _ _ _ _).mono ?_; rintro r w' ⟨rfl, rfl⟩))
      all_goals go_ret
      all_goals refine ⟨ret_int ?_, below_drewN (below_a2 _ _ _) _⟩
      all_goals (go_light; simp [moveErr, HX.out]; omega)
    have hq0 : btw x'.src 0 (e.places.length - 1) = true := btw_iff.2 (by omega)
    have hq1 : btw x'.dst 0 (e.places.length - 1) = true := btw_iff.2 (by omega)
    obtain ⟨xd, xs, xt, xsc, xr, xa⟩ := x'
    simp only at hsr hds q0 q1 q2 q3 q4 q5 hd hday hq0 hq1
    obtain ⟨i, rfl⟩ := Int.eq_ofNat_of_zero_le hsr.1
    obtain ⟨j2, rfl⟩ := Int.eq_ofNat_of_zero_le hds.1
    obtain ⟨b1, o1, p, rfl, hbl1, hp, u0, u1, u2⟩ := HR1.out.place (i := i) (by omega) (Below.refl _ _)
    obtain ⟨b2, o2, q, e2, -, hq, t0, t1, t2⟩ := HR1.out.place (i := j2) (by omega) (Below.refl _ _)
    obtain ⟨rfl, rfl⟩ : b2 = b1 ∧ o2 = o1 := by simp at e2; omega
    have hl1 : (i : Int) < e.places.length := hsr.2
    have hl2 : (j2 : Int) < e.places.length := hds.2
    have hk1 := kindAt_of hp
    have hk2 := kindAt_of hq
    have hi1 : idx (i : Int) e.places.length = true := idx_iff.2 hsr
    have hi2 : idx (j2 : Int) e.places.length = true := idx_iff.2 hds
    have K1 := Lib.hid hk1
    have K2 := Lib.hid hk2
    have I1 := Lib.hid hi1
    have I2 := Lib.hid hi2
    clear e2 hp hq hk1 hk2 hsr hds hi1 hi2
    go_enter Try.func43, Try.ntmps43
    go_wp2_with fail
    go_quiet ((go_at_call 46; exact quiet_left (ref14_in _ _ _ _)))
    go_wp2_with (first | (go_at_call 46; refine (ref14_in _ _ _ _).mono ?_; rintro r w' ⟨rfl, rfl⟩))
    all_goals go_ret
    all_goals refine ⟨ret_int ?_, below_drewN (below_a2 _ _ _) _⟩
    all_goals (have K1 := K1.out; have K2 := K2.out; have I1 := I1.out; have I2 := I2.out; have hsi := btw_idx xsc e.scs; go_light)
    all_goals (unfold moveErr; rw [if_neg (by simp only; omega)])
    all_goals simp_all [moveOk]
  · obtain ⟨b0, off0, y', e0, hbl0, hy', v0, -, -, -, -, -⟩ := HR2.out.move (i := j) (by omega) (Below.refl _ _)
    obtain ⟨rfl, rfl⟩ : b0 = b ∧ off0 = off := by simp at e0; omega
    obtain rfl : y' = y := by rw [hy] at hy'; simpa using hy'.symm
    clear e0 hy hy'
    by_cases hday : x'.day < y'.day
    · have hres : moveErr e y'.day x' = 17 := by unfold moveErr; rw [if_pos (.inl hday)]
      have HX := Lib.hid hres
      clear hres
      go_enter Try.func43, Try.ntmps43
      go_wp2_with fail
      go_quiet ((go_at_call 46; exact quiet_left (ref14_in _ _ _ _)))
      go_wp2_with (first | (go_at_call 46; refine (ref14_in _ _ _ _).mono ?_; rintro r w' ⟨rfl, rfl⟩))
      all_goals go_ret
      all_goals refine ⟨ret_int ?_, below_drewN (below_a2 _ _ _) _⟩
      exact HX.out.symm
    by_cases hsr : 0 ≤ x'.src ∧ x'.src < e.places.length
    case neg =>
      have hq : btw x'.src 0 (e.places.length - 1) = false := by rw [btw_false]; omega
      have hres : moveOk e x' = false := by simp [moveOk, idx_false.2 (show x'.src < 0 ∨ (e.places.length : Int) ≤ x'.src by omega)]
      have HX := Lib.hid hres
      clear hres hsr
      go_enter Try.func43, Try.ntmps43
      go_wp2_with fail
      go_quiet ((go_at_call 46; exact quiet_left (ref14_in _ _ _ _)))
      go_wp2_with (first | (go_at_call 46; refine (ref14_in _ _ _ _).mono ?_; rintro r w' ⟨rfl, rfl⟩))
      all_goals go_ret
      all_goals refine ⟨ret_int ?_, below_drewN (below_a2 _ _ _) _⟩
      all_goals (go_light; simp [moveErr, HX.out]; omega)
    by_cases hds : 0 ≤ x'.dst ∧ x'.dst < e.places.length
    case neg =>
      have hq0 : btw x'.src 0 (e.places.length - 1) = true := btw_iff.2 (by omega)
      have hq : btw x'.dst 0 (e.places.length - 1) = false := by rw [btw_false]; omega
      have hres : moveOk e x' = false := by simp [moveOk, idx_false.2 (show x'.dst < 0 ∨ (e.places.length : Int) ≤ x'.dst by omega)]
      have HX := Lib.hid hres
      clear hres hds hsr
      go_enter Try.func43, Try.ntmps43
      go_wp2_with fail
      go_quiet ((go_at_call 46; exact quiet_left (ref14_in _ _ _ _)))
      go_wp2_with (first | (go_at_call 46; refine (ref14_in _ _ _ _).mono ?_; rintro r w' ⟨rfl, rfl⟩))
      all_goals go_ret
      all_goals refine ⟨ret_int ?_, below_drewN (below_a2 _ _ _) _⟩
      all_goals (go_light; simp [moveErr, HX.out]; omega)
    have hq0 : btw x'.src 0 (e.places.length - 1) = true := btw_iff.2 (by omega)
    have hq1 : btw x'.dst 0 (e.places.length - 1) = true := btw_iff.2 (by omega)
    obtain ⟨xd, xs, xt, xsc, xr, xa⟩ := x'
    simp only at hsr hds q0 q1 q2 q3 q4 q5 hd hday hq0 hq1
    obtain ⟨i, rfl⟩ := Int.eq_ofNat_of_zero_le hsr.1
    obtain ⟨j2, rfl⟩ := Int.eq_ofNat_of_zero_le hds.1
    obtain ⟨b1, o1, p, rfl, hbl1, hp, u0, u1, u2⟩ := HR1.out.place (i := i) (by omega) (Below.refl _ _)
    obtain ⟨b2, o2, q, e2, -, hq, t0, t1, t2⟩ := HR1.out.place (i := j2) (by omega) (Below.refl _ _)
    obtain ⟨rfl, rfl⟩ : b2 = b1 ∧ o2 = o1 := by simp at e2; omega
    have hl1 : (i : Int) < e.places.length := hsr.2
    have hl2 : (j2 : Int) < e.places.length := hds.2
    have hk1 := kindAt_of hp
    have hk2 := kindAt_of hq
    have hi1 : idx (i : Int) e.places.length = true := idx_iff.2 hsr
    have hi2 : idx (j2 : Int) e.places.length = true := idx_iff.2 hds
    have K1 := Lib.hid hk1
    have K2 := Lib.hid hk2
    have I1 := Lib.hid hi1
    have I2 := Lib.hid hi2
    clear e2 hp hq hk1 hk2 hsr hds hi1 hi2
    go_enter Try.func43, Try.ntmps43
    go_wp2_with fail
    go_quiet ((go_at_call 46; exact quiet_left (ref14_in _ _ _ _)))
    go_wp2_with (first | (go_at_call 46; refine (ref14_in _ _ _ _).mono ?_; rintro r w' ⟨rfl, rfl⟩))
    all_goals go_ret
    all_goals refine ⟨ret_int ?_, below_drewN (below_a2 _ _ _) _⟩
    all_goals (have K1 := K1.out; have K2 := K2.out; have I1 := I1.out; have I2 := I2.out; have hsi := btw_idx xsc e.scs; go_light)
    all_goals (unfold moveErr; rw [if_neg (by simp only; omega)])
    all_goals simp_all [moveOk]

end
end Go.Proofs.Ythjgbjakpbfnoaa
