/- kerbsideref14.Source, Lifts, Into, Out, SameInts. -/
import Derived.Test.YthjgbjakpbfnoaaRef14c
import Derived.Test.YthjgbjakpbfnoaaPlain14b
namespace Go.Proofs.Ythjgbjakpbfnoaa
open Go.RowKit
set_option linter.unusedSimpArgs false
set_option linter.unusedVariables false

theorem rint_info : (Try.prog.info? 3).map (fun i => (i.zero, i.size, i.bytes)) = some (some (.int .i64 0), 1, 8) := by kernel_rfl

set_option maxHeartbeats 400000 in
theorem ref14_SameInts {w : World} {A B : Option Addr} {n m c d : Nat} {xs ys : List Int} (hA : Ri w A n xs) (hB : Ri w B m ys) (hn : n ≤ 1000000) (hm : m ≤ 1000000) :
    Calls Try.prog 16 #[.slice A n c, .slice B m d] w fun r w' => r = .returned (.bool (decide (xs = ys))) ∧ Below w.heap.size w w' := by
  obtain rfl := hA.len
  obtain rfl := hB.len
  by_cases hl : xs.length = ys.length
  case neg =>
    have hne : decide (xs = ys) = false := by simp; rintro rfl; exact hl rfl
    have h1 : ((xs.length : Int) != (ys.length : Int)) = true := by simp; omega
    have HN := Lib.hid hne
    clear hne hl hA hB
    go_enter Try.func16, Try.ntmps16
    go_wp2
    go_ret
    exact ⟨ret_bool HN.out.symm, Below.refl _ _⟩
  have h1 : ((xs.length : Int) != (ys.length : Int)) = false := by simp [hl]
  have HL := Lib.hid hl
  have hle : xs.length ≤ ys.length := by omega
  have hge : ys.length ≤ xs.length := by omega
  clear hl
  go_enter Try.func16, Try.ntmps16
  go_wp2
  go_loopw [5] (fun i wr => ∃ k : Nat, k ≤ xs.length ∧ i = .int .i64 k ∧ SameTo xs ys k ∧ Below w.heap.size w wr) (fun i _ => xs.length - (intOf i).toNat)
  case atStart => exact ⟨0, Nat.zero_le _, rfl, SameTo.zero _ _, Below.refl _ _⟩
  case round =>
    obtain ⟨k, hk, rfl, hu, hb⟩ := hrel
    by_cases hlt : k < xs.length
    · have hlt2 : k < ys.length := by omega
      obtain ⟨b, off, x, rfl, hbl, hx, q0⟩ := hA.int hlt hb
      obtain ⟨b', off', y, rfl, hbl', hy, u0⟩ := hB.int hlt2 hb
      have HB := Lib.hid hb
      have HU := Lib.hid hu
      have HX := Lib.hid hx
      have HY := Lib.hid hy
      clear hb hu hx hy hA hB
      go_wp2_with fail
      go_quiet (fail)
      by_cases hxy : x = y
      · have h2 : (x != y) = false := by simpa using hxy
        have HQ := Lib.hid hxy
        clear hxy
        go_wp2
        go_roundw
        case rel => exact ⟨k + 1, by omega, by go_num, HU.out.next HX.out (by rw [HQ.out]; exact HY.out), below_drewN HB.out _⟩
        case measure => simp [intOf]; omega
      · have h2 : (x != y) = true := by simpa using hxy
        have HQ := Lib.hid hxy
        clear hxy
        go_wp2
        go_ret
        refine ⟨ret_bool ?_, below_drewN HB.out _⟩
        symm
        rw [decide_eq_false_iff_not]
        intro he
        have h3 := HX.out
        rw [he, HY.out] at h3
        injection h3 with h3
        exact HQ.out h3.symm
    · go_wp2_with fail
      go_ret
      exact ⟨ret_bool (decide_eq_true (hu.all (by omega) (by omega))).symm, hb⟩

section
variable {w : World} {m h s : Int} {A1 A2 A3 A4 A5 : Option Addr} {n1 n2 n3 n4 n5 c1 c2 c3 c4 c5 : Nat} {e : Ev}

set_option maxHeartbeats 400000 in
theorem ref14_Into (hn : e.Sized) (hr : EvR w m h s A1 n1 A2 n2 A3 n3 A4 n4 A5 n5 e) (pl up : Int) :
    Calls Try.prog 20 #[.agg #[.int .i64 m, .int .i64 h, .int .i64 s, .slice A1 n1 c1, .slice A2 n2 c2, .slice A3 n3 c3, .slice A4 n4 c4, .slice A5 n5 c5], .int .i64 pl, .int .i64 up] w (RetInts w (into e pl up)) := by
  obtain ⟨rfl, rfl, rfl, r1, r2, r3, r4, r5⟩ := hr
  obtain rfl := r1.len
  obtain rfl := r2.len
  obtain rfl := r3.len
  obtain rfl := r4.len
  obtain rfl := r5.len
  have hr : EvR w e.mats e.hhs e.scs A1 e.places.length A2 e.moves.length A3 e.certs.length A4 e.recalls.length A5 e.purities.length e := ⟨rfl, rfl, rfl, r1, r2, r3, r4, r5⟩
  have HR := Lib.hid hr
  have g2 := hn.s2
  clear hr
  by_cases h0 : check e = 0
  case neg =>
    have hb0 : (check e == 0) = false := by simpa using h0
    have hb1 : (check e != 0) = true := by simpa using h0
    have hi : into e pl up = [] := by simp [into, h0]
    have HI := Lib.hid hi
    clear h0 hi
    go_enter Try.func20, Try.ntmps20
    go_wp2_with (first | (go_at_call 13; refine (ref14_Check (e := e) hn (HR.out.keep (below_a1 _ _))).mono ?_; rintro r wr ⟨rfl, hb0⟩; have HB := Lib.hid ((below_a1 _ _).trans (hb0.mono (by simp))); clear hb0))
    go_ret
    rw [HI.out]
    exact RetInts.nil HB.out
  have hi : into e pl up = pickFrom (fun k m => decide ((k : Int) < up) && decide (m.dst = pl)) 0 e.moves := by simp [into, h0]
  have HI := Lib.hid hi
  have H0 := Lib.hid h0
  clear h0 hi
  go_enter Try.func20, Try.ntmps20
  go_wp2_with (first | (go_at_call 13; refine (ref14_Check (e := e) hn (HR.out.keep (below_a1 _ _))).mono ?_; rintro r wr ⟨hr0, hb0⟩; rw [H0.out] at hr0; subst hr0; have hb : Below (w.heap.size + 1) (w.alloc (.cells #[.int .i64 e.mats, .int .i64 e.hhs, .int .i64 e.scs, .slice A1 e.places.length c1, .slice A2 e.moves.length c2, .slice A3 e.certs.length c3, .slice A4 e.recalls.length c4, .slice A5 e.purities.length c5] 28)) wr := hb0.mono (by simp); clear hb0; have HB := Lib.hid hb; clear hb))
  go_loopw [7, 8] (fun v i wr => ∃ k : Nat, k ≤ e.moves.length ∧ i = .int .i64 k ∧ wr.ownsRow (w.heap.size + 1) 3 1 v (pickTo (fun k m => decide ((k : Int) < up) && decide (m.dst = pl)) e.moves k).length (Ints (pickTo (fun k m => decide ((k : Int) < up) && decide (m.dst = pl)) e.moves k)) ∧ Below (w.heap.size + 1) (w.alloc (.cells #[.int .i64 e.mats, .int .i64 e.hhs, .int .i64 e.scs, .slice A1 e.places.length c1, .slice A2 e.moves.length c2, .slice A3 e.certs.length c3, .slice A4 e.recalls.length c4, .slice A5 e.purities.length c5] 28)) wr) (fun _ i _ => e.moves.length - (intOf i).toNat)
  case atStart => exact ⟨0, Nat.zero_le _, rfl, by rw [pickTo_zero]; exact World.ownsRow_nil _ _ _ _, HB.out⟩
  case round =>
    clear HB
    obtain ⟨k, hk, rfl, hown, hb⟩ := hrel
    have hbo := below_old hb
    have hz := below_old_lt hb
    have d4 : wr.cell? ⟨w.heap.size, 4, none⟩ = some (.slice A2 e.moves.length c2) := below_box hb 4
    have HO := Lib.hid hbo
    have HB := Lib.hid hb
    have HW := Lib.hid hown
    by_cases hlt : k < e.moves.length
    · obtain ⟨b, off, x, rfl, hbl, hpk, q0, q1, q2, q3, q4, q5⟩ := r2.move hlt hbo
      have HP := Lib.hid hpk
      clear hown hb hbo hpk r1 r2 r3 r4 r5
      have hl := length_pickTo (fun k m => decide ((k : Int) < up) && decide (m.dst = pl)) e.moves k
      by_cases hup : (k : Int) < up
      · by_cases hd : x.dst = pl
        · have hdb : (x.dst == pl) = true := by simpa using hd
          have HD := Lib.hid hd
          clear hd
          go_wp2_with (at_builtin; refine wpList_app1 rfl _ _ 35 3 rfl Try.underlying35 rint_info rfl (by decide) (by decide) HW.out rfl (us := #[.int .i64 k]) rfl (by intro u hu; simp at hu; subst hu; rfl) rfl (by omega) (by omega) ?_; intro v4 w4 hown4 hlat4 _)
          have HL := Lib.hid (hlat4.below HB.out (Nat.le_refl _))
          have H4 := Lib.hid hown4
          have hz4 := hlat4.size
          clear hown4 hlat4
          go_wp2
          go_roundw
          case rel =>
            refine ⟨k + 1, by omega, by go_num, ?_, HL.out⟩
            rw [pickTo_yes _ HP.out (by simp [hup, HD.out]), Ints_snoc]
            simpa using H4.out
          case measure => simp [intOf]; omega
        · have hdb : (x.dst == pl) = false := by simpa using hd
          have HD := Lib.hid hd
          clear hd
          go_wp2
          go_roundw
          case rel =>
            refine ⟨k + 1, by omega, by go_num, ?_, HB.out⟩
            rw [pickTo_no _ HP.out (by simp [HD.out])]
            exact HW.out
          case measure => simp [intOf]; omega
      · go_wp2
        go_ret
        rw [HI.out, ← pickTo_rest _ e.moves (k := k) (fun j m hj => by simp; omega)]
        exact RetInts.of_own rfl HW.out HO.out (Nat.le_succ _)
    · clear hown
      go_wp2_with fail
      all_goals go_ret
      all_goals rw [HI.out, ← pickTo_all _ (l := e.moves) (k := k) (by omega)]
      all_goals exact RetInts.of_own rfl HW.out HO.out (Nat.le_succ _)
end
end Go.Proofs.Ythjgbjakpbfnoaa
