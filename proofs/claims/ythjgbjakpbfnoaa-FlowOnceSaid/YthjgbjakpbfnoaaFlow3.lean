/- flow.Source, moves, Lifts, Into, Out. -/
import Derived.Test.YthjgbjakpbfnoaaFlow2
import Derived.Test.YthjgbjakpbfnoaaBase2
import Derived.Test.YthjgbjakpbfnoaaPlain14b
namespace Go.Proofs.Ythjgbjakpbfnoaa
open Go.RowKit
set_option linter.unusedSimpArgs false
set_option linter.unusedVariables false

section
variable {w : World} {m h s : Int} {A1 A2 A3 A4 A5 : Option Addr} {n1 n2 n3 n4 n5 c1 c2 c3 c4 c5 : Nat} {e : Ev}

theorem int_info : (Try.prog.info? 3).map (fun i => (i.zero, i.size, i.bytes)) = some (some (.int .i64 0), 1, 8) := by kernel_rfl

set_option maxHeartbeats 400000 in
theorem flow_moves (hn : e.Sized) (hr : EvR w m h s A1 n1 A2 n2 A3 n3 A4 n4 A5 n5 e) (up : Int) (F : Nat) (C : Array Value) (p : Move → Bool)
    (hcf : ∀ (args : Array Value) (W : World), (callFunc F args).run Try.prog W = .ok (.enter F args) W)
    (hc : ∀ (W : World) (x : Move), Below w.heap.size w W → check e = 0 → x ∈ e.moves → Calls Try.prog F (#[.agg #[.int .i64 x.day, .int .i64 x.src, .int .i64 x.dst, .int .i64 x.scale, .int .i64 x.reading, .bool x.all]] ++ C) W fun r W' => r = .returned (.bool (p x)) ∧ Below W.heap.size W W') :
    Calls Try.prog 47 #[.agg #[.int .i64 m, .int .i64 h, .int .i64 s, .slice A1 n1 c1, .slice A2 n2 c2, .slice A3 n3 c3, .slice A4 n4 c4, .slice A5 n5 c5], .int .i64 up, .func (.func F) #[] C] w (RetInts w (if check e = 0 then pickFrom (fun k m => decide ((k : Int) < up) && p m) 0 e.moves else [])) := by
  obtain ⟨rfl, rfl, rfl, r1, r2, r3, r4, r5⟩ := hr
  obtain rfl := r1.len
  obtain rfl := r2.len
  obtain rfl := r3.len
  obtain rfl := r4.len
  obtain rfl := r5.len
  have hr : EvR w e.mats e.hhs e.scs A1 e.places.length A2 e.moves.length A3 e.certs.length A4 e.recalls.length A5 e.purities.length e := ⟨rfl, rfl, rfl, r1, r2, r3, r4, r5⟩
  have HR := Lib.hid hr
  have HCC := Lib.hid hc
  clear hr hc
  by_cases h0 : check e = 0
  case neg =>
    have hb0 : (check e == 0) = false := by simpa using h0
    have hb1 : (check e != 0) = true := by simpa using h0
    rw [if_neg h0]
    clear h0
    go_enter Try.func47, Try.ntmps47
    go_wp2_with (first | (go_at_call 12; refine (flow_Check (e := e) hn (HR.out.keep (below_a1 _ _))).mono ?_; rintro r wr ⟨rfl, hb0⟩; have HB := Lib.hid ((below_a1 _ _).trans (hb0.mono (by simp))); clear hb0))
    go_ret
    exact RetInts.nil HB.out
  rw [if_pos h0]
  have hs2 := hn.s2
  obtain ⟨i0, hi, hz0, hz1, hz2⟩ := info_parts int_info
  have H0 := Lib.hid h0
  clear h0
  go_enter Try.func47, Try.ntmps47
  go_wp2_with (first | (go_at_call 12; refine (flow_Check (e := e) hn (HR.out.keep (below_a1 _ _))).mono ?_; rintro r wr ⟨hr0, hb0⟩; rw [H0.out] at hr0; subst hr0; have hb : Below (w.heap.size + 1) (w.alloc (.cells #[.int .i64 e.mats, .int .i64 e.hhs, .int .i64 e.scs, .slice A1 e.places.length c1, .slice A2 e.moves.length c2, .slice A3 e.certs.length c3, .slice A4 e.recalls.length c4, .slice A5 e.purities.length c5] 28)) wr := hb0.mono (by simp); clear hb0; have hz := below_old_lt hb; have d4 : wr.cell? ⟨w.heap.size, 4, none⟩ = some (.slice A2 e.moves.length c2) := below_box hb 4; have HB := Lib.hid hb; clear hb))
  go_loopw [7, 16] (fun v i wr => ∃ k : Nat, k ≤ e.moves.length ∧ i = .int .i64 k ∧ wr.ownsRow (w.heap.size + 1) 3 1 v (pickTo (fun k m => decide ((k : Int) < up) && p m) e.moves k).length (Ints (pickTo (fun k m => decide ((k : Int) < up) && p m) e.moves k)) ∧ Below (w.heap.size + 1) (w.alloc (.cells #[.int .i64 e.mats, .int .i64 e.hhs, .int .i64 e.scs, .slice A1 e.places.length c1, .slice A2 e.moves.length c2, .slice A3 e.certs.length c3, .slice A4 e.recalls.length c4, .slice A5 e.purities.length c5] 28)) wr) (fun _ i _ => e.moves.length - (intOf i).toNat)
  case atStart => exact ⟨0, Nat.zero_le _, rfl, by rw [pickTo_zero]; exact World.ownsRow_nil _ _ _ _, HB.out⟩
  case round =>
    clear d4 hz
    obtain ⟨k, hk, rfl, hown, hb⟩ := hrel
    have hbo := below_old hb
    have hz := below_old_lt hb
    have HO := Lib.hid hbo
    have HW := Lib.hid hown
    by_cases hlt : k < e.moves.length
    · obtain ⟨b, off, x, rfl, hbl, hpk, q0, q1, q2, q3, q4, q5⟩ := r2.move hlt hbo
      have hmem : x ∈ e.moves := List.mem_of_getElem? hpk
      have HB := Lib.hid hb
      have HP := Lib.hid hpk
      have HM := Lib.hid hmem
      clear hown hb hbo hpk r1 r2 r3 r4 r5 hmem
      by_cases hup : (k : Int) < up
      · go_wp2_with fail
        refine (HCC.out _ _ (HO.out.alloc (by omega) _) H0.out HM.out).mono ?_
        rintro r w3 ⟨rfl, hb3⟩
        have HB3 := Lib.hid ((HB.out.alloc (by omega) _).trans (hb3.mono (by simp; omega)))
        have HO3 := Lib.hid (own_below (HW.out.alloc _) hb3)
        have hz3 : wr.heap.size < w3.heap.size := by have := hb3.size; simp at this; omega
        clear hb3
        have hl := length_pickTo (fun k m => decide ((k : Int) < up) && p m) e.moves k
        by_cases hpx : p x = true
        · go_wp2_with (at_builtin; refine wpList_app1 rfl _ _ 35 3 rfl Try.underlying35 int_info rfl (by decide) (by decide) HO3.out rfl (us := #[.int .i64 k]) rfl (by intro u hu; simp at hu; subst hu; rfl) rfl (by omega) (by omega) ?_; intro v4 w4 hown4 hlat4 _)
          have HL := Lib.hid (hlat4.below HB3.out (Nat.le_refl _))
          have H4 := Lib.hid hown4
          have hz4 := hlat4.size
          clear hown4 hlat4
          go_wp2
          go_roundw
          case rel =>
            refine ⟨k + 1, by omega, by go_num, ?_, HL.out⟩
            rw [pickTo_yes _ HP.out (by simp [hup, hpx]), Ints_snoc]
            simpa using H4.out
          case measure => simp [intOf]; omega
        · have hpf : p x = false := by simpa using hpx
          go_wp2
          go_roundw
          case rel =>
            refine ⟨k + 1, by omega, by go_num, ?_, HB3.out⟩
            rw [pickTo_no _ HP.out (by simp [hpf])]
            exact HO3.out
          case measure => simp [intOf]; omega
      · go_wp2
        go_roundw
        case rel =>
          refine ⟨k + 1, by omega, by go_num, ?_, HB.out.alloc (by omega) _⟩
          rw [pickTo_no _ HP.out (by simp; omega)]
          exact HW.out.alloc _
        case measure => simp [intOf]; omega
    · clear hown
      go_wp2_with fail
      go_ret
      have hfin := pickTo_all (fun k m => decide ((k : Int) < up) && p m) (l := e.moves) (k := k) (by omega)
      rw [← hfin]
      exact RetInts.of_own rfl HW.out HO.out (Nat.le_succ _)

theorem run_callFunc_Into (args : Array Value) (W : World) : (callFunc 50 args).run Try.prog W = .ok (.enter 50 args) W := by go_simp
theorem run_callFunc_Out (args : Array Value) (W : World) : (callFunc 51 args).run Try.prog W = .ok (.enter 51 args) W := by go_simp
theorem run_callFunc_Lifts (args : Array Value) (W : World) : (callFunc 48 args).run Try.prog W = .ok (.enter 48 args) W := by go_simp

theorem flow_Into1 {w : World} (x : Move) (b : Nat) (pl : Int) (hc : w.cell? ⟨b, 0, none⟩ = some (.int .i64 pl)) :
    Calls Try.prog 50 #[.agg #[.int .i64 x.day, .int .i64 x.src, .int .i64 x.dst, .int .i64 x.scale, .int .i64 x.reading, .bool x.all], .pointer (some ⟨b, 0, none⟩)] w
      fun r w' => r = .returned (.bool (decide (x.dst = pl))) ∧ Below w.heap.size w w' := by
  have hl := lt_of_cell hc
  go_enter Try.func50, Try.ntmps50
  go_wp2
  all_goals go_ret
  all_goals refine ⟨ret_bool ?_, below_a1 _ _⟩
  all_goals (first | rfl | (rw [Bool.eq_iff_iff]; simp))
theorem flow_Out1 {w : World} (x : Move) (b : Nat) (pl : Int) (hc : w.cell? ⟨b, 0, none⟩ = some (.int .i64 pl)) :
    Calls Try.prog 51 #[.agg #[.int .i64 x.day, .int .i64 x.src, .int .i64 x.dst, .int .i64 x.scale, .int .i64 x.reading, .bool x.all], .pointer (some ⟨b, 0, none⟩)] w
      fun r w' => r = .returned (.bool (decide (x.src = pl))) ∧ Below w.heap.size w w' := by
  have hl := lt_of_cell hc
  go_enter Try.func51, Try.ntmps51
  go_wp2
  all_goals go_ret
  all_goals refine ⟨ret_bool ?_, below_a1 _ _⟩
  all_goals (first | rfl | (rw [Bool.eq_iff_iff]; simp))

set_option maxHeartbeats 400000 in
theorem flow_Into (hn : e.Sized) (hr : EvR w m h s A1 n1 A2 n2 A3 n3 A4 n4 A5 n5 e) (pl up : Int) :
    Calls Try.prog 19 #[.agg #[.int .i64 m, .int .i64 h, .int .i64 s, .slice A1 n1 c1, .slice A2 n2 c2, .slice A3 n3 c3, .slice A4 n4 c4, .slice A5 n5 c5], .int .i64 pl, .int .i64 up] w (RetInts w (into e pl up)) := by
  obtain ⟨rfl, rfl, rfl, r1, r2, r3, r4, r5⟩ := hr
  obtain rfl := r1.len
  obtain rfl := r2.len
  obtain rfl := r3.len
  obtain rfl := r4.len
  obtain rfl := r5.len
  have hr : EvR w e.mats e.hhs e.scs A1 e.places.length A2 e.moves.length A3 e.certs.length A4 e.recalls.length A5 e.purities.length e := ⟨rfl, rfl, rfl, r1, r2, r3, r4, r5⟩
  have HR := Lib.hid hr
  clear hr
  have HM := Lib.hid (flow_moves hn (HR.out.keep (below_a2 w (.cells #[.int .i64 e.mats, .int .i64 e.hhs, .int .i64 e.scs, .slice A1 e.places.length c1, .slice A2 e.moves.length c2, .slice A3 e.certs.length c3, .slice A4 e.recalls.length c4, .slice A5 e.purities.length c5] 28) (.cells #[.int .i64 pl] 3))) (c1 := c1) (c2 := c2) (c3 := c3) (c4 := c4) (c5 := c5) up 50 #[.pointer (some ⟨w.heap.size + 1, 0, none⟩)] (fun m => decide (m.dst = pl)) run_callFunc_Into
    (fun W x hb _ _ => flow_Into1 x (w.heap.size + 1) pl (below_cells (g := w.heap.size + 1) hb (by simp) (heap_a2 _ _ _) 0)))
  clear r1 r2 r3 r4 r5
  go_enter Try.func19, Try.ntmps19
  go_wp2_with fail
  refine HM.out.mono ?_
  rintro r w' ⟨A, n, c, rfl, hri, hfr, hb⟩
  have HH := Lib.hid hri
  have HB := Lib.hid hb
  have HF := Lib.hid hfr
  clear hri hb hfr
  go_wp2
  go_ret
  exact ⟨A, n, c, rfl, HH.out, fun ad ha => Nat.le_trans (below_a2 _ _ _).size (HF.out ad ha), (below_a2 _ _ _).trans (HB.out.mono (by simp; omega))⟩
set_option maxHeartbeats 400000 in
theorem flow_Out (hn : e.Sized) (hr : EvR w m h s A1 n1 A2 n2 A3 n3 A4 n4 A5 n5 e) (pl up : Int) :
    Calls Try.prog 21 #[.agg #[.int .i64 m, .int .i64 h, .int .i64 s, .slice A1 n1 c1, .slice A2 n2 c2, .slice A3 n3 c3, .slice A4 n4 c4, .slice A5 n5 c5], .int .i64 pl, .int .i64 up] w (RetInts w (outOf e pl up)) := by
  obtain ⟨rfl, rfl, rfl, r1, r2, r3, r4, r5⟩ := hr
  obtain rfl := r1.len
  obtain rfl := r2.len
  obtain rfl := r3.len
  obtain rfl := r4.len
  obtain rfl := r5.len
  have hr : EvR w e.mats e.hhs e.scs A1 e.places.length A2 e.moves.length A3 e.certs.length A4 e.recalls.length A5 e.purities.length e := ⟨rfl, rfl, rfl, r1, r2, r3, r4, r5⟩
  have HR := Lib.hid hr
  clear hr
  have HM := Lib.hid (flow_moves hn (HR.out.keep (below_a2 w (.cells #[.int .i64 e.mats, .int .i64 e.hhs, .int .i64 e.scs, .slice A1 e.places.length c1, .slice A2 e.moves.length c2, .slice A3 e.certs.length c3, .slice A4 e.recalls.length c4, .slice A5 e.purities.length c5] 28) (.cells #[.int .i64 pl] 3))) (c1 := c1) (c2 := c2) (c3 := c3) (c4 := c4) (c5 := c5) up 51 #[.pointer (some ⟨w.heap.size + 1, 0, none⟩)] (fun m => decide (m.src = pl)) run_callFunc_Out
    (fun W x hb _ _ => flow_Out1 x (w.heap.size + 1) pl (below_cells (g := w.heap.size + 1) hb (by simp) (heap_a2 _ _ _) 0)))
  clear r1 r2 r3 r4 r5
  go_enter Try.func21, Try.ntmps21
  go_wp2_with fail
  refine HM.out.mono ?_
  rintro r w' ⟨A, n, c, rfl, hri, hfr, hb⟩
  have HH := Lib.hid hri
  have HB := Lib.hid hb
  have HF := Lib.hid hfr
  clear hri hb hfr
  go_wp2
  go_ret
  exact ⟨A, n, c, rfl, HH.out, fun ad ha => Nat.le_trans (below_a2 _ _ _).size (HF.out ad ha), (below_a2 _ _ _).trans (HB.out.mono (by simp; omega))⟩

set_option maxHeartbeats 400000 in
theorem flow_Lifts1 {W : World} {b0 b1 b2 b3 b4 : Nat} (hh mat lo hi : Int) (x : Move) (hm : moveOk e x = true) (r1 : Rd 3 Place.cells W A1 e.places.length e.places)
    (h0 : W.cell? ⟨b0, 3, none⟩ = some (.slice A1 e.places.length c1)) (h1 : W.cell? ⟨b1, 0, none⟩ = some (.int .i64 hh)) (h2 : W.cell? ⟨b2, 0, none⟩ = some (.int .i64 mat)) (h3 : W.cell? ⟨b3, 0, none⟩ = some (.int .i64 lo)) (h4 : W.cell? ⟨b4, 0, none⟩ = some (.int .i64 hi)) :
    Calls Try.prog 48 #[.agg #[.int .i64 x.day, .int .i64 x.src, .int .i64 x.dst, .int .i64 x.scale, .int .i64 x.reading, .bool x.all], .pointer (some ⟨b0, 0, none⟩), .pointer (some ⟨b1, 0, none⟩), .pointer (some ⟨b2, 0, none⟩), .pointer (some ⟨b3, 0, none⟩), .pointer (some ⟨b4, 0, none⟩)] W
      fun r w' => r = .returned (.bool (liftIs e hh mat lo hi x)) ∧ Below W.heap.size W w' := by
  have l0 := lt_of_cell h0
  have l1 := lt_of_cell h1
  have l2 := lt_of_cell h2
  have l3 := lt_of_cell h3
  have l4 := lt_of_cell h4
  obtain ⟨hs1, hs2⟩ := moveOk_src hm
  obtain ⟨xd, xs, xt, xsc, xr, xa⟩ := x
  simp only at hs1 hs2 ⊢
  obtain ⟨i, rfl⟩ := Int.eq_ofNat_of_zero_le hs1
  obtain ⟨b, off, p, rfl, hbl, hpk, q0, q1, q2⟩ := r1.place (i := i) (by omega) (Below.refl _ _)
  have hli := liftIs_of (m := ⟨xd, i, xt, xsc, xr, xa⟩) hpk rfl hh mat lo hi
  have HL := Lib.hid hli
  have HP := Lib.hid hpk
  clear hli hpk r1 hm
  go_enter Try.func48, Try.ntmps48
  go_wp2_with (first | (go_at_call 49; refine (flow_between _ _ _ _).mono ?_; rintro r w' ⟨rfl, rfl⟩))
  all_goals go_ret
  all_goals refine ⟨ret_bool ?_, below_a2 _ _ _⟩
  all_goals (go_light; rw [HL.out]; simp_all)

set_option maxHeartbeats 400000 in
theorem flow_Lifts (hn : e.Sized) (hr : EvR w m h s A1 n1 A2 n2 A3 n3 A4 n4 A5 n5 e) (hh mat lo hi : Int) :
    Calls Try.prog 17 #[.agg #[.int .i64 m, .int .i64 h, .int .i64 s, .slice A1 n1 c1, .slice A2 n2 c2, .slice A3 n3 c3, .slice A4 n4 c4, .slice A5 n5 c5], .int .i64 hh, .int .i64 mat, .int .i64 lo, .int .i64 hi] w (RetInts w (lifts e hh mat lo hi)) := by
  obtain ⟨rfl, rfl, rfl, r1, r2, r3, r4, r5⟩ := hr
  obtain rfl := r1.len
  obtain rfl := r2.len
  obtain rfl := r3.len
  obtain rfl := r4.len
  obtain rfl := r5.len
  have hr : EvR w e.mats e.hhs e.scs A1 e.places.length A2 e.moves.length A3 e.certs.length A4 e.recalls.length A5 e.purities.length e := ⟨rfl, rfl, rfl, r1, r2, r3, r4, r5⟩
  have HR := Lib.hid hr
  clear hr
  have hB : Below w.heap.size w (((((w.alloc (.cells #[.int .i64 e.mats, .int .i64 e.hhs, .int .i64 e.scs, .slice A1 e.places.length c1, .slice A2 e.moves.length c2, .slice A3 e.certs.length c3, .slice A4 e.recalls.length c4, .slice A5 e.purities.length c5] 28)).alloc (.cells #[.int .i64 hh] 3)).alloc (.cells #[.int .i64 mat] 3)).alloc (.cells #[.int .i64 lo] 3)).alloc (.cells #[.int .i64 hi] 3)) :=
    ((below_a3 _ _ _ _).alloc (by simp; omega) _).alloc (by simp; omega) _
  have hl : lifts e hh mat lo hi = if check e = 0 then pickFrom (fun k m => decide ((k : Int) < e.moves.length) && liftIs e hh mat lo hi m) 0 e.moves else [] := by
    unfold lifts
    congr 1
    exact pickFrom_congr e.moves e.moves.length (fun k m hk => by simp [hk]) 0 (by omega)
  have HM := Lib.hid (flow_moves hn (HR.out.keep hB) (c1 := c1) (c2 := c2) (c3 := c3) (c4 := c4) (c5 := c5) e.moves.length 48 #[.pointer (some ⟨w.heap.size, 0, none⟩), .pointer (some ⟨w.heap.size + 1, 0, none⟩), .pointer (some ⟨w.heap.size + 2, 0, none⟩), .pointer (some ⟨w.heap.size + 3, 0, none⟩), .pointer (some ⟨w.heap.size + 4, 0, none⟩)] (fun m => liftIs e hh mat lo hi m) run_callFunc_Lifts
    (fun W x hb h0 hx => flow_Lifts1 (b0 := w.heap.size) (b1 := w.heap.size + 1) (b2 := w.heap.size + 2) (b3 := w.heap.size + 3) (b4 := w.heap.size + 4) hh mat lo hi x (check_move h0 hx) (r1.keep (hB.trans (hb.mono (by simp; omega)))) (c1 := c1) ((hb.cell (p := ⟨w.heap.size, 3, none⟩) (by simp; omega)).trans (by go_simp)) ((hb.cell (p := ⟨w.heap.size + 1, 0, none⟩) (by simp)).trans (by go_simp)) ((hb.cell (p := ⟨w.heap.size + 2, 0, none⟩) (by simp)).trans (by go_simp)) ((hb.cell (p := ⟨w.heap.size + 3, 0, none⟩) (by simp)).trans (by go_simp)) ((hb.cell (p := ⟨w.heap.size + 4, 0, none⟩) (by simp)).trans (by go_simp))))
  have HL := Lib.hid hl
  clear r1 r2 r3 r4 r5
  have HBB := Lib.hid hB
  clear hB hl
  go_enter Try.func17, Try.ntmps17
  go_wp2_with fail
  refine HM.out.mono ?_
  rintro r w' ⟨A, n, c, rfl, hri, hfr, hb⟩
  have HH := Lib.hid hri
  have HB := Lib.hid hb
  have HF := Lib.hid hfr
  clear hri hb hfr
  go_wp2
  go_ret
  rw [HL.out]
  exact ⟨A, n, c, rfl, HH.out, fun ad ha => Nat.le_trans HBB.out.size (HF.out ad ha), HBB.out.trans (HB.out.mono (by simp; omega))⟩

set_option maxHeartbeats 400000 in
theorem flow_Source (hn : e.Sized) (hr : EvR w m h s A1 n1 A2 n2 A3 n3 A4 n4 A5 n5 e) (pl : Int) :
    Calls Try.prog 14 #[.agg #[.int .i64 m, .int .i64 h, .int .i64 s, .slice A1 n1 c1, .slice A2 n2 c2, .slice A3 n3 c3, .slice A4 n4 c4, .slice A5 n5 c5], .int .i64 pl] w fun r w' => r = .returned (.bool (source e pl)) ∧ Below w.heap.size w w' := by
  obtain ⟨rfl, rfl, rfl, r1, r2, r3, r4, r5⟩ := hr
  obtain rfl := r1.len
  obtain rfl := r2.len
  obtain rfl := r3.len
  obtain rfl := r4.len
  obtain rfl := r5.len
  have hr : EvR w e.mats e.hhs e.scs A1 e.places.length A2 e.moves.length A3 e.certs.length A4 e.recalls.length A5 e.purities.length e := ⟨rfl, rfl, rfl, r1, r2, r3, r4, r5⟩
  have hs1 := hn.s1
  by_cases h0 : check e = 0
  case neg =>
    have HR := Lib.hid hr
    have hs : source e pl = false := by simp [source, h0]
    have HS := Lib.hid hs
    have hb0 : (check e == 0) = false := by simpa using h0
    clear hr h0 hs r1 r2 r3 r4 r5
    go_enter Try.func14, Try.ntmps14
    go_wp2_with (first | (go_at_call 12; refine (flow_Check (e := e) hn (HR.out.keep (below_a1 _ _))).mono ?_; rintro r wr ⟨rfl, hb0⟩; have HB := Lib.hid ((below_a1 _ _).trans (hb0.mono (by simp))); clear hb0))
    go_ret
    exact ⟨ret_bool HS.out.symm, HB.out⟩
  by_cases hp : 0 ≤ pl ∧ pl < e.places.length
  case neg =>
    have hi : idx pl e.places.length = false := idx_false.2 (by omega)
    have HR := Lib.hid hr
    have hs : source e pl = false := by simp [source, hi]
    have HS := Lib.hid hs
    have H0 := Lib.hid h0
    clear hr h0 hs r1 r2 r3 r4 r5 hp
    go_enter Try.func14, Try.ntmps14
    go_wp2_with (first
      | (go_at_call 12; refine (flow_Check (e := e) hn (HR.out.keep (below_a1 _ _))).mono ?_; rintro r wr ⟨hr0, hb0⟩; rw [H0.out] at hr0; subst hr0; have hb : Below (w.heap.size + 1) (w.alloc (.cells #[.int .i64 e.mats, .int .i64 e.hhs, .int .i64 e.scs, .slice A1 e.places.length c1, .slice A2 e.moves.length c2, .slice A3 e.certs.length c3, .slice A4 e.recalls.length c4, .slice A5 e.purities.length c5] 28)) wr := hb0.mono (by simp); clear hb0; have hz := below_old_lt hb; have d3 : wr.cell? ⟨w.heap.size, 3, none⟩ = some (.slice A1 e.places.length c1) := below_box hb 3; have HB := Lib.hid (below_old hb); clear hb)
      | (go_at_call 45; refine (flow_index _ _ _).mono ?_; rintro e w' ⟨rfl, rfl⟩))
    go_ret
    exact ⟨ret_bool HS.out.symm, HB.out⟩
  obtain ⟨i, rfl⟩ := Int.eq_ofNat_of_zero_le hp.1
  have hi : idx (i : Int) e.places.length = true := idx_iff.2 hp
  obtain ⟨b, off, p, rfl, hbl, hpk, q0, q1, q2⟩ := r1.place (i := i) (by omega) (Below.refl _ _)
  have hs : source e i = decide (p.kind = 0) := by simp [source, h0, hi, kindAt_of hpk]
  have HR := Lib.hid hr
  have HS := Lib.hid hs
  have H0 := Lib.hid h0
  have hpl := hp.2
  clear hr h0 hs r1 r2 r3 r4 r5 hp hpk
  go_enter Try.func14, Try.ntmps14
  go_wp2_with (first
    | (go_at_call 12; refine (flow_Check (e := e) hn (HR.out.keep (below_a1 _ _))).mono ?_; rintro r wr ⟨hr0, hb0⟩; rw [H0.out] at hr0; subst hr0; have hb : Below (w.heap.size + 1) (w.alloc (.cells #[.int .i64 e.mats, .int .i64 e.hhs, .int .i64 e.scs, .slice (some ⟨b, off, none⟩) e.places.length c1, .slice A2 e.moves.length c2, .slice A3 e.certs.length c3, .slice A4 e.recalls.length c4, .slice A5 e.purities.length c5] 28)) wr := hb0.mono (by simp); clear hb0; have hz := below_old_lt hb; have d3 : wr.cell? ⟨w.heap.size, 3, none⟩ = some (.slice (some ⟨b, off, none⟩) e.places.length c1) := below_box hb 3; have t0 := cell_later (below_old hb) q0; have HB := Lib.hid (below_old hb); clear hb)
    | (go_at_call 45; refine (flow_index _ _ _).mono ?_; rintro e w' ⟨rfl, rfl⟩))
  all_goals go_ret
  all_goals refine ⟨ret_bool ?_, HB.out⟩
  all_goals rw [HS.out]
  all_goals (rw [Bool.eq_iff_iff]; simp)
end

end Go.Proofs.Ythjgbjakpbfnoaa
