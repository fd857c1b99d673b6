/- The statements' function 'ascending'. -/
import Derived.Test.YthjgbjakpbfnoaaRows
import Derived.Test.YthjgbjakpbfnoaaPlain14c
import Derived.Test.YthjgbjakpbfnoaaBase3
namespace Go.Proofs.Ythjgbjakpbfnoaa
open Go.RowKit
set_option linter.unusedSimpArgs false
set_option linter.unusedVariables false

set_option maxHeartbeats 400000 in
theorem law14_ascending {w : World} {A : Option Addr} {n c : Nat} {xs : List Int} {m : Int} (hA : Ri w A n xs) (hn : n ≤ 1000000) (hasc : Asc xs m) :
    Calls Try.prog 23 #[.slice A n c, .int .i64 m] w fun r w' => r = .returned (.bool true) ∧ Below w.heap.size w w' := by
  obtain rfl := hA.len
  have HA := Lib.hid hasc
  clear hasc
  go_enter Try.func23, Try.ntmps23
  go_wp2
  go_loopw [5] (fun i wr => ∃ k : Nat, k ≤ xs.length ∧ i = .int .i64 k ∧ Below w.heap.size w wr) (fun i _ => xs.length - (intOf i).toNat)
  case atStart => exact ⟨0, Nat.zero_le _, rfl, Below.refl _ _⟩
  case round =>
    obtain ⟨k, hk, rfl, hb⟩ := hrel
    by_cases hlt : k < xs.length
    · obtain ⟨b, off, x, rfl, hbl, hx, q0⟩ := hA.int hlt hb
      obtain ⟨hx0, hxm⟩ := HA.out.1 k x hx
      have hd0 : decide (x < 0) = false := by simp; omega
      have hd1 : decide (m ≤ x) = false := by simp; omega
      have hkl : (k : Int) < xs.length := by omega
      by_cases hk0 : k ≤ 0
      · have hdk : decide ((0 : Int) < (k : Int)) = false := by simp; omega
        have hdn : decide (0 < k) = false := by simp; omega
        have HB := Lib.hid hb
        clear hb hx hA
        go_wp2_with fail
        go_quiet (fail)
        go_wp2
        go_roundw
        case rel => exact ⟨k + 1, by omega, by go_num, below_drewN HB.out _⟩
        case measure => simp [intOf]; omega
      · obtain ⟨j, rfl⟩ : ∃ j, k = j + 1 := ⟨k - 1, by omega⟩
        obtain ⟨b', off', y, e2, hbl', hy, u0⟩ := hA.int (i := j) (by omega) hb
        obtain ⟨rfl, rfl⟩ : b' = b ∧ off' = off := by simp at e2; omega
        have hxy := HA.out.2 j y x hy hx
        have hd2 : decide (x ≤ y) = false := by simp; omega
        have HB := Lib.hid hb
        clear hb hx hy hA e2 hk0
        go_wp2_with fail
        go_quiet (fail)
        go_wp2
        go_roundw
        case rel => exact ⟨j + 1 + 1, by omega, by go_num, below_drewN HB.out _⟩
        case measure => simp [intOf]; omega
    · go_wp2_with fail
      go_ret
      exact ⟨rfl, hb⟩
end Go.Proofs.Ythjgbjakpbfnoaa
