/- kerbsideref14.Out, Lifts, Source. -/
import Derived.Test.YthjgbjakpbfnoaaRef14d
namespace Go.Proofs.Ythjgbjakpbfnoaa
open Go.RowKit
set_option linter.unusedSimpArgs false
set_option linter.unusedVariables false

section
variable {w : World} {m h s : Int} {A1 A2 A3 A4 A5 : Option Addr} {n1 n2 n3 n4 n5 c1 c2 c3 c4 c5 : Nat} {e : Ev}

set_option maxHeartbeats 400000 in
theorem ref14_Out (hn : e.Sized) (hr : EvR w m h s A1 n1 A2 n2 A3 n3 A4 n4 A5 n5 e) (pl up : Int) :
    Calls Try.prog 22 #[.agg #[.int .i64 m, .int .i64 h, .int .i64 s, .slice A1 n1 c1, .slice A2 n2 c2, .slice A3 n3 c3, .slice A4 n4 c4, .slice A5 n5 c5], .int .i64 pl, .int .i64 up] w (RetInts w (outOf e pl up)) := by
  obtain ⟨rfl, rfl, rfl, r1, r2, r3, r4, r5⟩ := hr
  obtain rfl := r1.len
  obtain rfl := r2.len
  obtain rfl := r3.len
  obtain rfl := r4.len
  obtain rfl := r5.len
  have hr : EvR w e.mats e.hhs e.scs A1 e.places.length A2 e.moves.length A3 e.certs.length A4 e.recalls.length A5 e.purities.length e := ⟨rfl, rfl, rfl, r1, r2, r3, r4, r5⟩
  have HR := Lib.hid hr
  have g2 := hn.s2
  clear hr
  by_cases h0 : check e = 0
  case neg =>
    have hb0 : (check e == 0) = false := by simpa using h0
    have hb1 : (check e != 0) = true := by simpa using h0
    have hi : outOf e pl up = [] := by simp [outOf, h0]
    have HI := Lib.hid hi
    clear h0 hi
    go_enter Try.func22, Try.ntmps22
    go_wp2_with (first | (go_at_call 13; refine (ref14_Check (e := e) hn (HR.out.keep (below_a1 _ _))).mono ?_; rintro r wr ⟨rfl, hb0⟩; have HB := Lib.hid ((below_a1 _ _).trans (hb0.mono (by simp))); clear hb0))
    go_ret
    rw [HI.out]
    exact RetInts.nil HB.out
  have hi : outOf e pl up = pickFrom (fun k m => decide ((k : Int) < up) && decide (m.src = pl)) 0 e.moves := by simp [outOf, h0]
  have HI := Lib.hid hi
  have H0 := Lib.hid h0
  clear h0 hi
  go_enter Try.func22, Try.ntmps22
  go_wp2_with (first | (go_at_call 13; refine (ref14_Check (e := e) hn (HR.out.keep (below_a1 _ _))).mono ?_; rintro r wr ⟨hr0, hb0⟩; rw [H0.out] at hr0; subst hr0; have hb : Below (w.heap.size + 1) (w.alloc (.cells #[.int .i64 e.mats, .int .i64 e.hhs, .int .i64 e.scs, .slice A1 e.places.length c1, .slice A2 e.moves.length c2, .slice A3 e.certs.length c3, .slice A4 e.recalls.length c4, .slice A5 e.purities.length c5] 28)) wr := hb0.mono (by simp); clear hb0; have HB := Lib.hid hb; clear hb))
  go_loopw [7, 8] (fun v i wr => ∃ k : Nat, k ≤ e.moves.length ∧ i = .int .i64 k ∧ wr.ownsRow (w.heap.size + 1) 3 1 v (pickTo (fun k m => decide ((k : Int) < up) && decide (m.src = pl)) e.moves k).length (Ints (pickTo (fun k m => decide ((k : Int) < up) && decide (m.src = pl)) e.moves k)) ∧ Below (w.heap.size + 1) (w.alloc (.cells #[.int .i64 e.mats, .int .i64 e.hhs, .int .i64 e.scs, .slice A1 e.places.length c1, .slice A2 e.moves.length c2, .slice A3 e.certs.length c3, .slice A4 e.recalls.length c4, .slice A5 e.purities.length c5] 28)) wr) (fun _ i _ => e.moves.length - (intOf i).toNat)
  case atStart => exact ⟨0, Nat.zero_le _, rfl, by rw [pickTo_zero]; exact World.ownsRow_nil _ _ _ _, HB.out⟩
  case round =>
    clear HB
    obtain ⟨k, hk, rfl, hown, hb⟩ := hrel
    have hbo := below_old hb
    have hz := below_old_lt hb
    have d4 : wr.cell? ⟨w.heap.size, 4, none⟩ = some (.slice A2 e.moves.length c2) := below_box hb 4
    have HO := Lib.hid hbo
    have HB := Lib.hid hb
    have HW := Lib.hid hown
    by_cases hlt : k < e.moves.length
    · obtain ⟨b, off, x, rfl, hbl, hpk, q0, q1, q2, q3, q4, q5⟩ := r2.move hlt hbo
      have HP := Lib.hid hpk
      clear hown hb hbo hpk r1 r2 r3 r4 r5
      have hl := length_pickTo (fun k m => decide ((k : Int) < up) && decide (m.src = pl)) e.moves k
      by_cases hup : (k : Int) < up
      · by_cases hd : x.src = pl
        · have hdb : (x.src == pl) = true := by simpa using hd
          have HD := Lib.hid hd
          clear hd
          go_wp2_with (at_builtin; refine wpList_app1 rfl _ _ 35 3 rfl Try.underlying35 rint_info rfl (by decide) (by decide) HW.out rfl (us := #[.int .i64 k]) rfl (by intro u hu; simp at hu; subst hu; rfl) rfl (by omega) (by omega) ?_; intro v4 w4 hown4 hlat4 _)
          have HL := Lib.hid (hlat4.below HB.out (Nat.le_refl _))
          have H4 := Lib.hid hown4
          have hz4 := hlat4.size
          clear hown4 hlat4
          go_wp2
          go_roundw
          case rel =>
            refine ⟨k + 1, by omega, by go_num, ?_, HL.out⟩
            rw [pickTo_yes _ HP.out (by simp [hup, HD.out]), Ints_snoc]
            simpa using H4.out
          case measure => simp [intOf]; omega
        · have hdb : (x.src == pl) = false := by simpa using hd
          have HD := Lib.hid hd
          clear hd
          go_wp2
          go_roundw
          case rel =>
            refine ⟨k + 1, by omega, by go_num, ?_, HB.out⟩
            rw [pickTo_no _ HP.out (by simp [HD.out])]
            exact HW.out
          case measure => simp [intOf]; omega
      · go_wp2
        go_ret
        rw [HI.out, ← pickTo_rest _ e.moves (k := k) (fun j m hj => by simp; omega)]
        exact RetInts.of_own rfl HW.out HO.out (Nat.le_succ _)
    · clear hown
      go_wp2_with fail
      all_goals go_ret
      all_goals rw [HI.out, ← pickTo_all _ (l := e.moves) (k := k) (by omega)]
      all_goals exact RetInts.of_own rfl HW.out HO.out (Nat.le_succ _)

set_option maxHeartbeats 1000000 in
theorem ref14_Lifts (hn : e.Sized) (hr : EvR w m h s A1 n1 A2 n2 A3 n3 A4 n4 A5 n5 e) (hh mat lo hi : Int) :
    Calls Try.prog 18 #[.agg #[.int .i64 m, .int .i64 h, .int .i64 s, .slice A1 n1 c1, .slice A2 n2 c2, .slice A3 n3 c3, .slice A4 n4 c4, .slice A5 n5 c5], .int .i64 hh, .int .i64 mat, .int .i64 lo, .int .i64 hi] w (RetInts w (lifts e hh mat lo hi)) := by
  obtain ⟨rfl, rfl, rfl, r1, r2, r3, r4, r5⟩ := hr
  obtain rfl := r1.len
  obtain rfl := r2.len
  obtain rfl := r3.len
  obtain rfl := r4.len
  obtain rfl := r5.len
  have hr : EvR w e.mats e.hhs e.scs A1 e.places.length A2 e.moves.length A3 e.certs.length A4 e.recalls.length A5 e.purities.length e := ⟨rfl, rfl, rfl, r1, r2, r3, r4, r5⟩
  have HR := Lib.hid hr
  have g2 := hn.s2
  clear hr
  by_cases h0 : check e = 0
  case neg =>
    have hb0 : (check e == 0) = false := by simpa using h0
    have hb1 : (check e != 0) = true := by simpa using h0
    have hi0 : lifts e hh mat lo hi = [] := by simp [lifts, h0]
    have HI := Lib.hid hi0
    clear h0 hi0
    go_enter Try.func18, Try.ntmps18
    go_wp2_with (first | (go_at_call 13; refine (ref14_Check (e := e) hn (HR.out.keep (below_a1 _ _))).mono ?_; rintro r wr ⟨rfl, hb0⟩; have HB := Lib.hid ((below_a1 _ _).trans (hb0.mono (by simp))); clear hb0))
    go_ret
    rw [HI.out]
    exact RetInts.nil HB.out
  have hi0 : lifts e hh mat lo hi = pickFrom (fun _ m => liftIs e hh mat lo hi m) 0 e.moves := by simp [lifts, h0]
  obtain ⟨q, hq⟩ : ∃ q : Bool, (mat == -1) = q := ⟨_, rfl⟩
  have HQ := Lib.hid hq
  have HI := Lib.hid hi0
  have H0 := Lib.hid h0
  clear h0 hi0
  go_enter Try.func18, Try.ntmps18
  go_wp2_with (first | (go_at_call 13; refine (ref14_Check (e := e) hn (HR.out.keep (below_a1 _ _))).mono ?_; rintro r wr ⟨hr0, hb0⟩; rw [H0.out] at hr0; subst hr0; have hb : Below (w.heap.size + 1) (w.alloc (.cells #[.int .i64 e.mats, .int .i64 e.hhs, .int .i64 e.scs, .slice A1 e.places.length c1, .slice A2 e.moves.length c2, .slice A3 e.certs.length c3, .slice A4 e.recalls.length c4, .slice A5 e.purities.length c5] 28)) wr := hb0.mono (by simp); clear hb0; have HB := Lib.hid hb; clear hb))
  go_loopw [11, 12] (fun v i wr => ∃ k : Nat, k ≤ e.moves.length ∧ i = .int .i64 k ∧ wr.ownsRow (w.heap.size + 1) 3 1 v (pickTo (fun _ m => liftIs e hh mat lo hi m) e.moves k).length (Ints (pickTo (fun _ m => liftIs e hh mat lo hi m) e.moves k)) ∧ Below (w.heap.size + 1) (w.alloc (.cells #[.int .i64 e.mats, .int .i64 e.hhs, .int .i64 e.scs, .slice A1 e.places.length c1, .slice A2 e.moves.length c2, .slice A3 e.certs.length c3, .slice A4 e.recalls.length c4, .slice A5 e.purities.length c5] 28)) wr) (fun _ i _ => e.moves.length - (intOf i).toNat)
  case atStart => exact ⟨0, Nat.zero_le _, rfl, by rw [pickTo_zero]; exact World.ownsRow_nil _ _ _ _, HB.out⟩
  case round =>
    clear HB
    obtain ⟨k, hk, rfl, hown, hb⟩ := hrel
    have hbo := below_old hb
    have hz := below_old_lt hb
    have d3 : wr.cell? ⟨w.heap.size, 3, none⟩ = some (.slice A1 e.places.length c1) := below_box hb 3
    have d4 : wr.cell? ⟨w.heap.size, 4, none⟩ = some (.slice A2 e.moves.length c2) := below_box hb 4
    have HO := Lib.hid hbo
    have HB := Lib.hid hb
    have HW := Lib.hid hown
    by_cases hlt : k < e.moves.length
    · obtain ⟨b, off, x, rfl, hbl, hpk, q0, q1, q2, q3, q4, q5⟩ := r2.move hlt hbo
      have hmv := check_move H0.out (List.mem_of_getElem? hpk)
      obtain ⟨hs1, hs2⟩ := moveOk_src hmv
      obtain ⟨xd, xs, xt, xsc, xr, xa⟩ := x
      simp only at hs1 hs2 q0 q1 q2 q3 q4 q5
      obtain ⟨i, rfl⟩ := Int.eq_ofNat_of_zero_le hs1
      obtain ⟨b2, off2, p, rfl, hbl2, hpp, u0, u1, u2⟩ := r1.place (i := i) (by omega) hbo
      have hli := liftIs_of (m := ⟨xd, i, xt, xsc, xr, xa⟩) hpp rfl hh mat lo hi
      have HL := Lib.hid hli
      have HP := Lib.hid hpk
      clear hown hb hbo hpk r1 r2 r3 r4 r5 hli hpp hmv
      have hl := length_pickTo (fun _ m => liftIs e hh mat lo hi m) e.moves k
      have hbw : b < wr.heap.size := by omega
      have hbw2 : b2 < wr.heap.size := by omega
      go_wp2_with fail
      go_region
      have hB2 : Below (w.heap.size + 1) (w.alloc (.cells #[.int .i64 e.mats, .int .i64 e.hhs, .int .i64 e.scs, .slice (some ⟨b2, off2, none⟩) e.places.length c1, .slice (some ⟨b, off, none⟩) e.moves.length c2, .slice A3 e.certs.length c3, .slice A4 e.recalls.length c4, .slice A5 e.purities.length c5] 28)) (wr.alloc (.cells #[.int .i64 p.kind, .int .i64 p.hh, .int .i64 p.mat] 41)).drew := (HB.out.alloc (by omega) _).drew
      have hW2 := (HW.out.alloc (.cells #[.int .i64 p.kind, .int .i64 p.hh, .int .i64 p.mat] 41)).drew
      have m0 : (wr.alloc (.cells #[.int .i64 p.kind, .int .i64 p.hh, .int .i64 p.mat] 41)).drew.cell? ⟨wr.heap.size, 0, none⟩ = some (vi p.kind) := below_box (wr := (wr.alloc (.cells #[.int .i64 p.kind, .int .i64 p.hh, .int .i64 p.mat] 41)).drew) (Below.refl _ _).drew 0
      have m1 : (wr.alloc (.cells #[.int .i64 p.kind, .int .i64 p.hh, .int .i64 p.mat] 41)).drew.cell? ⟨wr.heap.size, 1, none⟩ = some (vi p.hh) := below_box (wr := (wr.alloc (.cells #[.int .i64 p.kind, .int .i64 p.hh, .int .i64 p.mat] 41)).drew) (Below.refl _ _).drew 1
      have m2 : (wr.alloc (.cells #[.int .i64 p.kind, .int .i64 p.hh, .int .i64 p.mat] 41)).drew.cell? ⟨wr.heap.size, 2, none⟩ = some (vi p.mat) := below_box (wr := (wr.alloc (.cells #[.int .i64 p.kind, .int .i64 p.hh, .int .i64 p.mat] 41)).drew) (Below.refl _ _).drew 2
      have n0 : (wr.alloc (.cells #[.int .i64 p.kind, .int .i64 p.hh, .int .i64 p.mat] 41)).drew.cell? ⟨b, off + k * 6, none⟩ = some (vi xd) := ((below_a1 wr _).drew.cell (p := ⟨b, off + k * 6, none⟩) hbw).trans q0
      have n4 : (wr.alloc (.cells #[.int .i64 p.kind, .int .i64 p.hh, .int .i64 p.mat] 41)).drew.cell? ⟨w.heap.size, 4, none⟩ = some (.slice (some ⟨b, off, none⟩) e.moves.length c2) := ((below_a1 wr _).drew.cell (p := ⟨w.heap.size, 4, none⟩) hz).trans d4
      generalize (wr.alloc (.cells #[.int .i64 p.kind, .int .i64 p.hh, .int .i64 p.mat] 41)).drew = w2 at *
      have hz2 := below_old_lt hB2
      have HB2 := Lib.hid hB2
      have HW2 := Lib.hid hW2
      clear hB2 hW2 HB HO d3 d4 q0 q1 q2 q3 q4 q5 u0 u1 u2
      go_wp2_with (first
        | (go_at_call 46; refine (ref14_in _ _ _ _).mono ?_; rintro r w' ⟨rfl, rfl⟩)
        | (at_builtin; refine wpList_app1 rfl _ _ 35 3 rfl Try.underlying35 rint_info rfl (by decide) (by decide) HW2.out rfl (us := #[.int .i64 k]) rfl (by intro u hu; simp at hu; subst hu; rfl) rfl (by omega) (by omega) ?_; intro v4 w4 hown4 hlat4 _; have HL4 := Lib.hid (hlat4.below HB2.out (Nat.le_refl _)); have H4 := Lib.hid hown4; have hz4 := hlat4.size; clear hown4 hlat4))
      all_goals go_roundw
      all_goals first
        | (refine ⟨k + 1, by omega, by go_num, ?_, HL4.out⟩
           rw [pickTo_yes _ HP.out (by rw [HL.out]; have := HQ.out; go_light; simp_all), Ints_snoc]
           simpa using H4.out)
        | (refine ⟨k + 1, by omega, by go_num, ?_, HB2.out⟩
           rw [pickTo_no _ HP.out (by rw [HL.out]; have := HQ.out; go_light; simp_all)]
           exact HW2.out)
        | (simp [intOf]; omega)
    · clear hown
      go_wp2_with fail
      all_goals go_ret
      all_goals rw [HI.out, ← pickTo_all _ (l := e.moves) (k := k) (by omega)]
      all_goals exact RetInts.of_own rfl HW.out HO.out (Nat.le_succ _)

set_option maxHeartbeats 400000 in
theorem ref14_Source (hn : e.Sized) (hr : EvR w m h s A1 n1 A2 n2 A3 n3 A4 n4 A5 n5 e) (pl : Int) :
    Calls Try.prog 15 #[.agg #[.int .i64 m, .int .i64 h, .int .i64 s, .slice A1 n1 c1, .slice A2 n2 c2, .slice A3 n3 c3, .slice A4 n4 c4, .slice A5 n5 c5], .int .i64 pl] w fun r w' => r = .returned (.bool (source e pl)) ∧ Below w.heap.size w w' := by
  obtain ⟨rfl, rfl, rfl, r1, r2, r3, r4, r5⟩ := hr
  obtain rfl := r1.len
  obtain rfl := r2.len
  obtain rfl := r3.len
  obtain rfl := r4.len
  obtain rfl := r5.len
  have hr : EvR w e.mats e.hhs e.scs A1 e.places.length A2 e.moves.length A3 e.certs.length A4 e.recalls.length A5 e.purities.length e := ⟨rfl, rfl, rfl, r1, r2, r3, r4, r5⟩
  have hs1 := hn.s1
  by_cases h0 : check e = 0
  case neg =>
    have HR := Lib.hid hr
    have hs : source e pl = false := by simp [source, h0]
    have HS := Lib.hid hs
    have hb0 : (check e == 0) = false := by simpa using h0
    clear hr h0 hs r1 r2 r3 r4 r5
    go_enter Try.func15, Try.ntmps15
    go_wp2_with (first | (go_at_call 13; refine (ref14_Check (e := e) hn (HR.out.keep (below_a1 _ _))).mono ?_; rintro r wr ⟨rfl, hb0⟩; have HB := Lib.hid ((below_a1 _ _).trans (hb0.mono (by simp))); clear hb0))
    go_ret
    exact ⟨ret_bool HS.out.symm, HB.out⟩
  by_cases hp : 0 ≤ pl ∧ pl < e.places.length
  case neg =>
    have hi : idx pl e.places.length = false := idx_false.2 (by omega)
    have hi2 : btw pl 0 (e.places.length - 1) = false := by rw [btw_idx]; exact hi
    have HR := Lib.hid hr
    have hs : source e pl = false := by simp [source, hi]
    have HS := Lib.hid hs
    have H0 := Lib.hid h0
    clear hr h0 hs r1 r2 r3 r4 r5 hp hi
    go_enter Try.func15, Try.ntmps15
    go_wp2_with (first
      | (go_at_call 13; refine (ref14_Check (e := e) hn (HR.out.keep (below_a1 _ _))).mono ?_; rintro r wr ⟨hr0, hb0⟩; rw [H0.out] at hr0; subst hr0; have hb : Below (w.heap.size + 1) (w.alloc (.cells #[.int .i64 e.mats, .int .i64 e.hhs, .int .i64 e.scs, .slice A1 e.places.length c1, .slice A2 e.moves.length c2, .slice A3 e.certs.length c3, .slice A4 e.recalls.length c4, .slice A5 e.purities.length c5] 28)) wr := hb0.mono (by simp); clear hb0; have hz := below_old_lt hb; have d3 : wr.cell? ⟨w.heap.size, 3, none⟩ = some (.slice A1 e.places.length c1) := below_box hb 3; have HB := Lib.hid (below_old hb); clear hb)
      | (go_at_call 46; refine (ref14_in _ _ _ _).mono ?_; rintro e w' ⟨rfl, rfl⟩))
    go_ret
    exact ⟨ret_bool HS.out.symm, HB.out⟩
  obtain ⟨i, rfl⟩ := Int.eq_ofNat_of_zero_le hp.1
  have hi : idx (i : Int) e.places.length = true := idx_iff.2 hp
  have hi2 : btw (i : Int) 0 (e.places.length - 1) = true := by rw [btw_idx]; exact hi
  obtain ⟨b, off, p, rfl, hbl, hpk, q0, q1, q2⟩ := r1.place (i := i) (by omega) (Below.refl _ _)
  have hs : source e i = decide (p.kind = 0) := by simp [source, h0, hi, kindAt_of hpk]
  have HR := Lib.hid hr
  have HS := Lib.hid hs
  have H0 := Lib.hid h0
  have hpl := hp.2
  clear hr h0 hs r1 r2 r3 r4 r5 hp hpk hi
  by_cases hpos : 0 < i
  · skip
    go_enter Try.func15, Try.ntmps15
    go_wp2_with (first
      | (go_at_call 13; refine (ref14_Check (e := e) hn (HR.out.keep (below_a1 _ _))).mono ?_; rintro r wr ⟨hr0, hb0⟩; rw [H0.out] at hr0; subst hr0; have hb : Below (w.heap.size + 1) (w.alloc (.cells #[.int .i64 e.mats, .int .i64 e.hhs, .int .i64 e.scs, .slice (some ⟨b, off, none⟩) e.places.length c1, .slice A2 e.moves.length c2, .slice A3 e.certs.length c3, .slice A4 e.recalls.length c4, .slice A5 e.purities.length c5] 28)) wr := hb0.mono (by simp); clear hb0; have hz := below_old_lt hb; have d3 : wr.cell? ⟨w.heap.size, 3, none⟩ = some (.slice (some ⟨b, off, none⟩) e.places.length c1) := below_box hb 3; have t0 := cell_later (below_old hb) q0; have HB := Lib.hid (below_old hb); clear hb)
      | (go_at_call 46; refine (ref14_in _ _ _ _).mono ?_; rintro e w' ⟨rfl, rfl⟩))
    all_goals go_ret
    all_goals refine ⟨ret_bool ?_, HB.out⟩
    all_goals rw [HS.out]
    all_goals (rw [Bool.eq_iff_iff]; simp)
  · obtain rfl : i = 0 := by omega
    simp only [Nat.zero_mul, Nat.add_zero] at q0
    go_enter Try.func15, Try.ntmps15
    go_wp2_with (first
      | (go_at_call 13; refine (ref14_Check (e := e) hn (HR.out.keep (below_a1 _ _))).mono ?_; rintro r wr ⟨hr0, hb0⟩; rw [H0.out] at hr0; subst hr0; have hb : Below (w.heap.size + 1) (w.alloc (.cells #[.int .i64 e.mats, .int .i64 e.hhs, .int .i64 e.scs, .slice (some ⟨b, off, none⟩) e.places.length c1, .slice A2 e.moves.length c2, .slice A3 e.certs.length c3, .slice A4 e.recalls.length c4, .slice A5 e.purities.length c5] 28)) wr := hb0.mono (by simp); clear hb0; have hz := below_old_lt hb; have d3 : wr.cell? ⟨w.heap.size, 3, none⟩ = some (.slice (some ⟨b, off, none⟩) e.places.length c1) := below_box hb 3; have t0 := cell_later (below_old hb) q0; have HB := Lib.hid (below_old hb); clear hb)
      | (go_at_call 46; refine (ref14_in _ _ _ _).mono ?_; rintro e w' ⟨rfl, rfl⟩))
    all_goals go_ret
    all_goals refine ⟨ret_bool ?_, HB.out⟩
    all_goals rw [HS.out]
    all_goals (rw [Bool.eq_iff_iff]; simp)
end
end Go.Proofs.Ythjgbjakpbfnoaa
