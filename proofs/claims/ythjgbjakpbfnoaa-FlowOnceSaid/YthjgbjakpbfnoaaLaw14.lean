/- The statements' own functions of layer 14: example, small, ascending. -/
import Derived.Test.YthjgbjakpbfnoaaFlow3
import Derived.Test.YthjgbjakpbfnoaaRef14e
import Derived.Test.YthjgbjakpbfnoaaBase3
namespace Go.Proofs.Ythjgbjakpbfnoaa
open Go.RowKit
set_option linter.unusedSimpArgs false
set_option linter.unusedVariables false

def exEv14 : Ev := ⟨1, 1, 0, [⟨0, 0, 0⟩, ⟨1, -1, -1⟩, ⟨5, -1, -1⟩], [⟨3, 0, 1, -1, 0, false⟩, ⟨5, 1, 2, -1, 0, false⟩], [], [], []⟩

def RetExample14 (w : World) (r : Ending) (w' : World) : Prop := ∃ g1 g2,
  r = .returned (.agg #[.int .i64 1, .int .i64 1, .int .i64 0, .slice (some ⟨g1, 0, none⟩) 3 3, .slice (some ⟨g2, 0, none⟩) 2 2, .slice none 0 0, .slice none 0 0, .slice none 0 0]) ∧
  w'.heap[g1]? = some (.cells (exEv14.places.flatMap Place.cells).toArray 41 (0, 0)) ∧ w'.heap[g2]? = some (.cells (exEv14.moves.flatMap Move.cells).toArray 43 (0, 0)) ∧
  w.heap.size ≤ g1 ∧ w.heap.size ≤ g2 ∧ g1 ≠ g2 ∧ Below w.heap.size w w'

theorem law14_example (w : World) : Calls Try.prog 36 #[] w (RetExample14 w) := by
  go_enter Try.func36, Try.ntmps36
  go_wp2
  refine bodyPost_ret (v := .agg #[.int .i64 1, .int .i64 1, .int .i64 0, .slice (some ⟨w.heap.size + 1, 0, none⟩) 3 3, .slice (some ⟨w.heap.size + 2, 0, none⟩) 2 2, .slice none 0 0, .slice none 0 0, .slice none 0 0]) (by simp [results, Try.results36, go_sem]) rfl ?_
  exact ⟨w.heap.size + 1, w.heap.size + 2, rfl, heap_later _ _ (heap_a2 _ _ _), heap_a3 _ _ _ _, by omega, by omega, by omega, below_a3 _ _ _ _⟩

theorem exEvR14 {W : World} {g1 g2 : Nat} (h1 : W.heap[g1]? = some (.cells (exEv14.places.flatMap Place.cells).toArray 41 (0, 0))) (h2 : W.heap[g2]? = some (.cells (exEv14.moves.flatMap Move.cells).toArray 43 (0, 0))) :
    EvR W 1 1 0 (some ⟨g1, 0, none⟩) 3 (some ⟨g2, 0, none⟩) 2 none 0 none 0 none 0 exEv14 :=
  ⟨rfl, rfl, rfl, Rd.of_block (f := Place.cells) (xs := exEv14.places) (fun _ => rfl) h1 rfl rfl, Rd.of_block (f := Move.cells) (xs := exEv14.moves) (fun _ => rfl) h2 rfl rfl, Rd.nil _, Rd.nil _, Rd.nil _⟩
def exMore (x : Move) : Ev := { exEv14 with moves := exEv14.moves ++ [x] }
theorem exMoreR14 {W : World} {g1 g cap base : Nat} {x : Move} (h1 : W.heap[g1]? = some (.cells (exEv14.places.flatMap Place.cells).toArray 41 (0, 0))) (h2 : W.ownsRow base 43 6 (.slice (some ⟨g, 0, none⟩) 3 cap) 3 ((exMore x).moves.flatMap Move.cells)) :
    EvR W 1 1 0 (some ⟨g1, 0, none⟩) 3 (some ⟨g, 0, none⟩) 3 none 0 none 0 none 0 (exMore x) := by
  obtain ⟨A, c, hv, hr⟩ := Rd.of_own (f := Move.cells) (xs := (exMore x).moves) (fun _ => rfl) rfl h2
  injection hv with hA _ _
  subst hA
  exact ⟨rfl, rfl, rfl, Rd.of_block (f := Place.cells) (xs := exEv14.places) (fun _ => rfl) h1 rfl rfl, hr, Rd.nil _, Rd.nil _, Rd.nil _⟩
theorem move_info : (Try.prog.info? 43).map (fun i => (i.zero, i.size, i.bytes)) = some (some (.agg #[.int .i64 0, .int .i64 0, .int .i64 0, .int .i64 0, .int .i64 0, .bool false]), 6, 48) := by kernel_rfl

/-- the example as it lies in memory: its box, its places, its moves -/
structure Ex14 (W : World) (b g1 g2 : Nat) : Prop where
  x0 : W.heap[b]? = some (.cells #[.int .i64 1, .int .i64 1, .int .i64 0, .slice (some ⟨g1, 0, none⟩) 3 3, .slice (some ⟨g2, 0, none⟩) 2 2, .slice none 0 0, .slice none 0 0, .slice none 0 0] 28 (0, 0))
  x1 : W.heap[g1]? = some (.cells (exEv14.places.flatMap Place.cells).toArray 41 (0, 0))
  x2 : W.heap[g2]? = some (.cells (exEv14.moves.flatMap Move.cells).toArray 43 (0, 0))
structure Ex14m (W : World) (b g1 g cap base : Nat) (x : Move) : Prop where
  x0 : W.heap[b]? = some (.cells #[.int .i64 1, .int .i64 1, .int .i64 0, .slice (some ⟨g1, 0, none⟩) 3 3, .slice (some ⟨g, 0, none⟩) 3 cap, .slice none 0 0, .slice none 0 0, .slice none 0 0] 28 (0, 0))
  x1 : W.heap[g1]? = some (.cells (exEv14.places.flatMap Place.cells).toArray 41 (0, 0))
  x2 : W.ownsRow base 43 6 (.slice (some ⟨g, 0, none⟩) 3 cap) 3 ((exMore x).moves.flatMap Move.cells)
theorem Ex14.later {W W' : World} {b g1 g2 : Nat} (h : Ex14 W b g1 g2) (hb : Below W.heap.size W W') : Ex14 W' b g1 g2 := ⟨blk_later h.x0 hb, blk_later h.x1 hb, blk_later h.x2 hb⟩
theorem Ex14.frame {W W' : World} {b g1 g2 N : Nat} {V : Option Nat} (h : Ex14 W b g1 g2) (hN : W.heap.size ≤ N) (hf : ∀ k, k < N → some k ≠ V → W'.heap[k]? = W.heap[k]?) (h0 : some b ≠ V) (h1 : some g1 ≠ V) (h2 : some g2 ≠ V) : Ex14 W' b g1 g2 :=
  ⟨(hf b (Nat.lt_of_lt_of_le (blk_lt h.x0) hN) h0).trans h.x0, (hf g1 (Nat.lt_of_lt_of_le (blk_lt h.x1) hN) h1).trans h.x1, (hf g2 (Nat.lt_of_lt_of_le (blk_lt h.x2) hN) h2).trans h.x2⟩
theorem Ex14.set_ {W : World} {b g1 g2 c i : Nat} {u : Value} (h : Ex14 W b g1 g2) (h0 : b ≠ c) (h1 : g1 ≠ c) (h2 : g2 ≠ c) : Ex14 (W.setCell ⟨c, i, none⟩ u) b g1 g2 := ⟨blk_far h.x0 h0 u, blk_far h.x1 h1 u, blk_far h.x2 h2 u⟩
theorem Ex14m.later {W W' : World} {b g1 g cap base : Nat} {x : Move} (h : Ex14m W b g1 g cap base x) (hb : Below W.heap.size W W') : Ex14m W' b g1 g cap base x := ⟨blk_later h.x0 hb, blk_later h.x1 hb, own_below h.x2 hb⟩
theorem Ex14m.glt {W : World} {b g1 g cap base : Nat} {x : Move} (h : Ex14m W b g1 g cap base x) : base ≤ g ∧ g < W.heap.size := h.x2.lt g rfl
theorem Ex14m.frame {W W' : World} {b g1 g cap base N : Nat} {x : Move} {V : Option Nat} (h : Ex14m W b g1 g cap base x) (hN : W.heap.size ≤ N) (hf : ∀ k, k < N → some k ≠ V → W'.heap[k]? = W.heap[k]?) (h0 : some b ≠ V) (h1 : some g1 ≠ V) (h2 : some g ≠ V) : Ex14m W' b g1 g cap base x := by
  refine ⟨(hf b (Nat.lt_of_lt_of_le (blk_lt h.x0) hN) h0).trans h.x0, (hf g1 (Nat.lt_of_lt_of_le (blk_lt h.x1) hN) h1).trans h.x1, h.x2.1, ?_⟩
  rcases h.x2.2 with ⟨e, _⟩ | ⟨g', cap', cur, e, hb0, hgg, rest⟩
  · cases e
  · obtain rfl : g = g' := by injection e with e _ _; injection e with e; injection e
    exact .inr ⟨g, cap', cur, e, hb0, (hf g (Nat.lt_of_lt_of_le (blk_lt hgg) hN) h2).trans hgg, rest⟩
theorem Ex14m.set_ {W : World} {b g1 g cap base c i : Nat} {x : Move} {u : Value} (h : Ex14m W b g1 g cap base x) (h0 : b ≠ c) (h1 : g1 ≠ c) (h2 : g ≠ c) : Ex14m (W.setCell ⟨c, i, none⟩ u) b g1 g cap base x :=
  ⟨blk_far h.x0 h0 u, blk_far h.x1 h1 u, own_set h.x2 (by simpa [Value.ownBlock] using h2) u⟩

theorem exSized14 : exEv14.Sized := ⟨by simp [exEv14], by simp [exEv14], by simp [exEv14], by simp [exEv14], by simp [exEv14]⟩
theorem exMoreSized14 (x : Move) : (exMore x).Sized := ⟨by simp [exMore, exEv14], by simp [exMore, exEv14], by simp [exMore, exEv14], by simp [exMore, exEv14], by simp [exMore, exEv14]⟩

def x14a : Move := ⟨5, 2, 1, -1, 0, false⟩
def x14b : Move := ⟨5, 1, 0, -1, 0, false⟩
theorem ex14_check : check exEv14 = 0 := by decide +kernel
theorem ex14_checka : check (exMore x14a) = 1 := by decide +kernel
theorem ex14_checkb : check (exMore x14b) = 1 := by decide +kernel
theorem ex14_source0 : source exEv14 0 = true := by decide +kernel
theorem ex14_source1 : source exEv14 1 = false := by decide +kernel
theorem ex14_lifts0 : lifts exEv14 0 (-1) 0 9 = [0] := by decide +kernel
theorem ex14_lifts1 : lifts exEv14 0 (-1) 4 9 = [] := by decide +kernel
theorem ex14_into : into exEv14 1 2 = [0] := by decide +kernel
theorem ex14_out1 : outOf exEv14 1 1 = [] := by decide +kernel
theorem ex14_out2 : outOf exEv14 1 2 = [1] := by decide +kernel

set_option maxHeartbeats 1000000 in
theorem law14_small (w : World) : Calls Try.prog 10 #[] w fun r w' => r = .returned (.bool true) ∧ Below w.heap.size w w' := by
  go_enter Try.func10, Try.ntmps10
  go_wp2_with fail
  refine (law14_example _).mono ?_
  rintro r w1 ⟨g1, g2, rfl, hp1, hm1, hg1, hg2, hne12, hb1⟩
  have HB1 := Lib.hid hb1
  have HE1 := Lib.hid (Ex14.mk (heap_a1 w1 _) (heap_later _ (.cells #[.int .i64 1, .int .i64 1, .int .i64 0, .slice (some ⟨g1, 0, none⟩) 3 3, .slice (some ⟨g2, 0, none⟩) 2 2, .slice none 0 0, .slice none 0 0, .slice none 0 0] 28) hp1) (heap_later _ _ hm1))
  have hl1 := blk_lt hp1
  have hl2 := blk_lt hm1
  clear hp1 hm1 hb1
  go_wp2_with fail
  refine (law14_example _).mono ?_
  rintro r w2 ⟨g3, g4, rfl, hp2, hm2, hg3, hg4, hne34, hb2⟩
  have HE2 := Lib.hid ((HE1.out.later hb2).later (below_a1 w2 (.cells #[.int .i64 1, .int .i64 1, .int .i64 0, .slice (some ⟨g3, 0, none⟩) 3 3, .slice (some ⟨g4, 0, none⟩) 2 2, .slice none 0 0, .slice none 0 0, .slice none 0 0] 28)))
  have HX2 := Lib.hid (Ex14.mk (heap_a1 w2 _) (heap_later _ (.cells #[.int .i64 1, .int .i64 1, .int .i64 0, .slice (some ⟨g3, 0, none⟩) 3 3, .slice (some ⟨g4, 0, none⟩) 2 2, .slice none 0 0, .slice none 0 0, .slice none 0 0] 28) hp2) (heap_later _ _ hm2))
  rw [size_a] at hg3 hg4 hb2
  have hz1 := HB1.out.size
  have hz2 : w1.heap.size < w2.heap.size := by have := hb2.size; simp at this; omega
  have HB2 := Lib.hid ((HB1.out.trans ((below_old hb2).mono hz1)).alloc (by omega) (.cells #[.int .i64 1, .int .i64 1, .int .i64 0, .slice (some ⟨g3, 0, none⟩) 3 3, .slice (some ⟨g4, 0, none⟩) 2 2, .slice none 0 0, .slice none 0 0, .slice none 0 0] 28))
  have hl3 := blk_lt hp2
  have hl4 := blk_lt hm2
  have HOWN2 := Lib.hid (own_of_block (base := w1.heap.size + 1) (n := 2) (size := 6) hg4 HX2.out.x2 rfl (by unfold maxLen; omega))
  clear hp2 hm2 hb2 HB1 HE1
  go_wp2_with (at_builtin; refine wpList_app1s rfl _ _ 23 43 rfl Try.underlying23 move_info rfl (by decide) (by decide) HOWN2.out rfl (us := #[.int .i64 5, .int .i64 2, .int .i64 1, .int .i64 (-1), .int .i64 0, .bool false]) rfl (by intro u hu; simp at hu; rcases hu with rfl | rfl | rfl | rfl | rfl | rfl <;> rfl) rfl (by simp) (by simp; omega) (by omega) ?_; intro g cap w5 hown5 hrest5 hlat5 hgb hglt; have hbk := (hrest5 w2.heap.size (by simp) (by simp [Value.ownBlock]; omega)).trans HX2.out.x0; have c4 : w5.cell? ⟨w2.heap.size, 4, none⟩ = some (.slice (some ⟨g4, 0, none⟩) 2 2) := blk_cell hbk 4; have f4 := blk_frozen hbk 4; have HBK := Lib.hid hbk; have HOWN5 := Lib.hid hown5; have HREST5 := Lib.hid hrest5; have HLAT5 := Lib.hid hlat5; clear hbk hown5 hrest5 hlat5)
  have hE : Ex14 (w5.setCell ⟨w2.heap.size, 4, none⟩ (.slice (some ⟨g, 0, none⟩) 3 cap)) w1.heap.size g1 g2 :=
    (HE2.out.frame (Nat.le_refl _) HREST5.out (by simp [Value.ownBlock]; omega) (by simp [Value.ownBlock]; omega) (by simp [Value.ownBlock]; omega)).set_ (by omega) (by omega) (by omega)
  have hX : Ex14m (w5.setCell ⟨w2.heap.size, 4, none⟩ (.slice (some ⟨g, 0, none⟩) 3 cap)) w2.heap.size g3 g cap (w1.heap.size + 1) x14a :=
    ⟨blk_set HBK.out 4 _, blk_far ((HREST5.out g3 (by simp; omega) (by simp [Value.ownBlock]; omega)).trans HX2.out.x1) (by omega) _, own_set HOWN5.out (own_ne HOWN5.out HBK.out (by decide)) _⟩
  have hB : Below w.heap.size w (w5.setCell ⟨w2.heap.size, 4, none⟩ (.slice (some ⟨g, 0, none⟩) 3 cap)) := (HLAT5.out.below HB2.out (by omega)).setCell (by simp; omega) _
  clear c4 f4 HBK HOWN5 HREST5 HLAT5 HE2 HX2 HB2 HOWN2
  generalize w5.setCell ⟨w2.heap.size, 4, none⟩ (.slice (some ⟨g, 0, none⟩) 3 cap) = w6 at *
  have HE := Lib.hid hE
  have HX := Lib.hid hX
  have HB := Lib.hid hB
  have sE0 := blk_lt hE.x0
  have sE1 := blk_lt hE.x1
  have sE2 := blk_lt hE.x2
  have sX0 := blk_lt hX.x0
  have sX1 := blk_lt hX.x1
  have sX2 := hX.glt.2
  have sB := hB.size
  clear hE hX hB
  refine (law14_example _).mono ?_
  rintro r w7 ⟨g5, g6, rfl, hp3, hm3, hg5, hg6, hne56, hb7⟩
  have hz7 := hb7.size
  have HE7 := Lib.hid ((HE.out.later hb7).later (below_a1 w7 (.cells #[.int .i64 1, .int .i64 1, .int .i64 0, .slice (some ⟨g5, 0, none⟩) 3 3, .slice (some ⟨g6, 0, none⟩) 2 2, .slice none 0 0, .slice none 0 0, .slice none 0 0] 28)))
  have HX7 := Lib.hid ((HX.out.later hb7).later (below_a1 w7 (.cells #[.int .i64 1, .int .i64 1, .int .i64 0, .slice (some ⟨g5, 0, none⟩) 3 3, .slice (some ⟨g6, 0, none⟩) 2 2, .slice none 0 0, .slice none 0 0, .slice none 0 0] 28)))
  have HY7 := Lib.hid (Ex14.mk (heap_a1 w7 _) (heap_later _ (.cells #[.int .i64 1, .int .i64 1, .int .i64 0, .slice (some ⟨g5, 0, none⟩) 3 3, .slice (some ⟨g6, 0, none⟩) 2 2, .slice none 0 0, .slice none 0 0, .slice none 0 0] 28) hp3) (heap_later _ _ hm3))
  have HB7 := Lib.hid ((HB.out.trans (hb7.mono sB)).alloc (by omega) (.cells #[.int .i64 1, .int .i64 1, .int .i64 0, .slice (some ⟨g5, 0, none⟩) 3 3, .slice (some ⟨g6, 0, none⟩) 2 2, .slice none 0 0, .slice none 0 0, .slice none 0 0] 28))
  have hl5 := blk_lt hp3
  have hl6 := blk_lt hm3
  have HOWN7 := Lib.hid (own_of_block (base := w6.heap.size) (n := 2) (size := 6) hg6 HY7.out.x2 rfl (by unfold maxLen; omega))
  clear hp3 hm3 hb7 HE HX HB
  go_wp2_with (at_builtin; refine wpList_app1s rfl _ _ 23 43 rfl Try.underlying23 move_info rfl (by decide) (by decide) HOWN7.out rfl (us := #[.int .i64 5, .int .i64 1, .int .i64 0, .int .i64 (-1), .int .i64 0, .bool false]) rfl (by intro u hu; simp at hu; rcases hu with rfl | rfl | rfl | rfl | rfl | rfl <;> rfl) rfl (by simp) (by simp; omega) (by omega) ?_; intro g' cap' w8 hown8 hrest8 hlat8 hgb8 hglt8; have hbk := (hrest8 w7.heap.size (by simp) (by simp [Value.ownBlock]; omega)).trans HY7.out.x0; have c4 : w8.cell? ⟨w7.heap.size, 4, none⟩ = some (.slice (some ⟨g6, 0, none⟩) 2 2) := blk_cell hbk 4; have f4 := blk_frozen hbk 4; have hE8 := HE7.out.frame (Nat.le_refl _) hrest8 (by simp [Value.ownBlock]; omega) (by simp [Value.ownBlock]; omega) (by simp [Value.ownBlock]; omega); obtain ⟨d0, d1, d2, d3, d4, d5, d6, d7⟩ := EvBox.of_blk hE8.x0; have HE8 := Lib.hid hE8; have HBK := Lib.hid hbk; have HOWN8 := Lib.hid hown8; have HREST8 := Lib.hid hrest8; have HLAT8 := Lib.hid hlat8; clear hbk hown8 hrest8 hlat8 hE8)
  have hE : Ex14 (w8.setCell ⟨w7.heap.size, 4, none⟩ (.slice (some ⟨g', 0, none⟩) 3 cap')) w1.heap.size g1 g2 := HE8.out.set_ (by omega) (by omega) (by omega)
  have hX : Ex14m (w8.setCell ⟨w7.heap.size, 4, none⟩ (.slice (some ⟨g', 0, none⟩) 3 cap')) w2.heap.size g3 g cap (w1.heap.size + 1) x14a :=
    (HX7.out.frame (Nat.le_refl _) HREST8.out (by simp [Value.ownBlock]; omega) (by simp [Value.ownBlock]; omega) (by simp [Value.ownBlock]; omega)).set_ (by omega) (by omega) (by omega)
  have hY : Ex14m (w8.setCell ⟨w7.heap.size, 4, none⟩ (.slice (some ⟨g', 0, none⟩) 3 cap')) w7.heap.size g5 g' cap' w6.heap.size x14b :=
    ⟨blk_set HBK.out 4 _, blk_far ((HREST8.out g5 (by simp; omega) (by simp [Value.ownBlock]; omega)).trans HY7.out.x1) (by omega) _, own_set HOWN8.out (own_ne HOWN8.out HBK.out (by decide)) _⟩
  have hB : Below w.heap.size w (w8.setCell ⟨w7.heap.size, 4, none⟩ (.slice (some ⟨g', 0, none⟩) 3 cap')) := (HLAT8.out.below HB7.out (by omega)).setCell (by simp; omega) _
  clear c4 f4 HBK HOWN8 HREST8 HLAT8 HE8 HE7 HX7 HY7 HB7 HOWN7 d0 d1 d2 d3 d4 d5 d6 d7
  generalize w8.setCell ⟨w7.heap.size, 4, none⟩ (.slice (some ⟨g', 0, none⟩) 3 cap') = w9 at *
  clear sE0 sE1 sE2 sX0 sX1 sX2 sB
  have HE := Lib.hid hE
  have HX := Lib.hid hX
  have HY := Lib.hid hY
  have HB := Lib.hid hB
  clear hE hX hY hB
  refine (flow_Check exSized14 (exEvR14 HE.out.x1 HE.out.x2)).mono ?_
  rintro r w10 ⟨hr0, hb⟩
  rw [ex14_check] at hr0
  subst hr0
  have HE' := Lib.hid (HE.out.later hb)
  have HX' := Lib.hid (HX.out.later hb)
  have HY' := Lib.hid (HY.out.later hb)
  have HB' := Lib.hid (HB.out.trans (hb.mono HB.out.size))
  clear HE HX HY HB hb
  have HE := HE'
  have HX := HX'
  have HY := HY'
  have HB := HB'
  clear HE' HX' HY' HB'
  obtain ⟨d0, d1, d2, d3, d4, d5, d6, d7⟩ := EvBox.of_blk HX.out.x0
  go_wp2_with fail
  clear d0 d1 d2 d3 d4 d5 d6 d7
  refine (flow_Check (exMoreSized14 _) (exMoreR14 HX.out.x1 HX.out.x2)).mono ?_
  rintro r w11 ⟨hr0, hb⟩
  rw [ex14_checka] at hr0
  subst hr0
  have HE' := Lib.hid (HE.out.later hb)
  have HX' := Lib.hid (HX.out.later hb)
  have HY' := Lib.hid (HY.out.later hb)
  have HB' := Lib.hid (HB.out.trans (hb.mono HB.out.size))
  clear HE HX HY HB hb
  have HE := HE'
  have HX := HX'
  have HY := HY'
  have HB := HB'
  clear HE' HX' HY' HB'
  obtain ⟨d0, d1, d2, d3, d4, d5, d6, d7⟩ := EvBox.of_blk HY.out.x0
  go_wp2_with fail
  clear d0 d1 d2 d3 d4 d5 d6 d7
  refine (flow_Check (exMoreSized14 _) (exMoreR14 HY.out.x1 HY.out.x2)).mono ?_
  rintro r w12 ⟨hr0, hb⟩
  rw [ex14_checkb] at hr0
  subst hr0
  have HE' := Lib.hid (HE.out.later hb)
  have HX' := Lib.hid (HX.out.later hb)
  have HY' := Lib.hid (HY.out.later hb)
  have HB' := Lib.hid (HB.out.trans (hb.mono HB.out.size))
  clear HE HX HY HB hb
  have HE := HE'
  have HX := HX'
  have HY := HY'
  have HB := HB'
  clear HE' HX' HY' HB'
  obtain ⟨d0, d1, d2, d3, d4, d5, d6, d7⟩ := EvBox.of_blk HE.out.x0
  go_wp2_with fail
  clear d0 d1 d2 d3 d4 d5 d6 d7
  refine (flow_Source exSized14 (exEvR14 HE.out.x1 HE.out.x2) 0).mono ?_
  rintro r w13 ⟨hr0, hb⟩
  rw [ex14_source0] at hr0
  subst hr0
  have HE' := Lib.hid (HE.out.later hb)
  have HX' := Lib.hid (HX.out.later hb)
  have HY' := Lib.hid (HY.out.later hb)
  have HB' := Lib.hid (HB.out.trans (hb.mono HB.out.size))
  clear HE HX HY HB hb
  have HE := HE'
  have HX := HX'
  have HY := HY'
  have HB := HB'
  clear HE' HX' HY' HB'
  obtain ⟨d0, d1, d2, d3, d4, d5, d6, d7⟩ := EvBox.of_blk HE.out.x0
  go_wp2_with fail
  clear d0 d1 d2 d3 d4 d5 d6 d7
  refine (flow_Source exSized14 (exEvR14 HE.out.x1 HE.out.x2) 1).mono ?_
  rintro r w14 ⟨hr0, hb⟩
  rw [ex14_source1] at hr0
  subst hr0
  have HE' := Lib.hid (HE.out.later hb)
  have HX' := Lib.hid (HX.out.later hb)
  have HY' := Lib.hid (HY.out.later hb)
  have HB' := Lib.hid (HB.out.trans (hb.mono HB.out.size))
  clear HE HX HY HB hb
  have HE := HE'
  have HX := HX'
  have HY := HY'
  have HB := HB'
  clear HE' HX' HY' HB'
  obtain ⟨d0, d1, d2, d3, d4, d5, d6, d7⟩ := EvBox.of_blk HE.out.x0
  go_wp2_with fail
  clear d0 d1 d2 d3 d4 d5 d6 d7
  refine (flow_Lifts exSized14 (exEvR14 HE.out.x1 HE.out.x2) 0 (-1) 0 9).mono ?_
  rintro r w15 ⟨A, n, c, rfl, hri, -, hb⟩
  rw [ex14_lifts0] at hri
  have hlen := hri.len
  simp only [List.length_cons, List.length_nil] at hlen
  subst hlen
  have HRI := Lib.hid hri
  clear hri
  have HE' := Lib.hid (HE.out.later hb)
  have HX' := Lib.hid (HX.out.later hb)
  have HY' := Lib.hid (HY.out.later hb)
  have HB' := Lib.hid (HB.out.trans (hb.mono HB.out.size))
  clear HE HX HY HB hb
  have HE := HE'
  have HX := HX'
  have HY := HY'
  have HB := HB'
  clear HE' HX' HY' HB'
  obtain ⟨d0, d1, d2, d3, d4, d5, d6, d7⟩ := EvBox.of_blk HE.out.x0
  go_wp2_with fail
  clear d0 d1 d2 d3 d4 d5 d6 d7
  refine (ref14_SameInts (m := 1) (xs := [0]) (ys := [0]) (HRI.out.keep (below_a1 _ _)) (Rd.of_block (f := fun x : Int => [vi x]) (xs := [0]) (fun _ => rfl) (heap_a1 w15 (.cells #[.int .i64 0] 3)) rfl rfl) (by omega) (by omega)).mono ?_
  rintro r w16 ⟨hr0, hb0⟩
  rw [decide_eq_true rfl] at hr0
  subst hr0
  have hb := (below_a1 _ _).trans (hb0.mono (by simp))
  clear hb0 HRI
  have HE' := Lib.hid (HE.out.later hb)
  have HX' := Lib.hid (HX.out.later hb)
  have HY' := Lib.hid (HY.out.later hb)
  have HB' := Lib.hid (HB.out.trans (hb.mono HB.out.size))
  clear HE HX HY HB hb
  have HE := HE'
  have HX := HX'
  have HY := HY'
  have HB := HB'
  clear HE' HX' HY' HB'
  obtain ⟨d0, d1, d2, d3, d4, d5, d6, d7⟩ := EvBox.of_blk HE.out.x0
  go_wp2_with fail
  clear d0 d1 d2 d3 d4 d5 d6 d7
  refine (flow_Lifts exSized14 (exEvR14 HE.out.x1 HE.out.x2) 0 (-1) 4 9).mono ?_
  rintro r w17 ⟨A, n, c, rfl, hri, -, hb⟩
  rw [ex14_lifts1] at hri
  have hlen := hri.len
  simp only [List.length_nil] at hlen
  subst hlen
  clear hri
  have HE' := Lib.hid (HE.out.later hb)
  have HX' := Lib.hid (HX.out.later hb)
  have HY' := Lib.hid (HY.out.later hb)
  have HB' := Lib.hid (HB.out.trans (hb.mono HB.out.size))
  clear HE HX HY HB hb
  have HE := HE'
  have HX := HX'
  have HY := HY'
  have HB := HB'
  clear HE' HX' HY' HB'
  obtain ⟨d0, d1, d2, d3, d4, d5, d6, d7⟩ := EvBox.of_blk HE.out.x0
  go_wp2_with fail
  clear d0 d1 d2 d3 d4 d5 d6 d7
  refine (flow_Into exSized14 (exEvR14 HE.out.x1 HE.out.x2) 1 2).mono ?_
  rintro r w18 ⟨A, n, c, rfl, hri, -, hb⟩
  rw [ex14_into] at hri
  have hlen := hri.len
  simp only [List.length_cons, List.length_nil] at hlen
  subst hlen
  have HRI := Lib.hid hri
  clear hri
  have HE' := Lib.hid (HE.out.later hb)
  have HX' := Lib.hid (HX.out.later hb)
  have HY' := Lib.hid (HY.out.later hb)
  have HB' := Lib.hid (HB.out.trans (hb.mono HB.out.size))
  clear HE HX HY HB hb
  have HE := HE'
  have HX := HX'
  have HY := HY'
  have HB := HB'
  clear HE' HX' HY' HB'
  obtain ⟨d0, d1, d2, d3, d4, d5, d6, d7⟩ := EvBox.of_blk HE.out.x0
  go_wp2_with fail
  clear d0 d1 d2 d3 d4 d5 d6 d7
  refine (ref14_SameInts (m := 1) (xs := [0]) (ys := [0]) (HRI.out.keep (below_a1 _ _)) (Rd.of_block (f := fun x : Int => [vi x]) (xs := [0]) (fun _ => rfl) (heap_a1 w18 (.cells #[.int .i64 0] 3)) rfl rfl) (by omega) (by omega)).mono ?_
  rintro r w19 ⟨hr0, hb0⟩
  rw [decide_eq_true rfl] at hr0
  subst hr0
  have hb := (below_a1 _ _).trans (hb0.mono (by simp))
  clear hb0 HRI
  have HE' := Lib.hid (HE.out.later hb)
  have HX' := Lib.hid (HX.out.later hb)
  have HY' := Lib.hid (HY.out.later hb)
  have HB' := Lib.hid (HB.out.trans (hb.mono HB.out.size))
  clear HE HX HY HB hb
  have HE := HE'
  have HX := HX'
  have HY := HY'
  have HB := HB'
  clear HE' HX' HY' HB'
  obtain ⟨d0, d1, d2, d3, d4, d5, d6, d7⟩ := EvBox.of_blk HE.out.x0
  go_wp2_with fail
  clear d0 d1 d2 d3 d4 d5 d6 d7
  refine (flow_Out exSized14 (exEvR14 HE.out.x1 HE.out.x2) 1 1).mono ?_
  rintro r w20 ⟨A, n, c, rfl, hri, -, hb⟩
  rw [ex14_out1] at hri
  have hlen := hri.len
  simp only [List.length_nil] at hlen
  subst hlen
  clear hri
  have HE' := Lib.hid (HE.out.later hb)
  have HX' := Lib.hid (HX.out.later hb)
  have HY' := Lib.hid (HY.out.later hb)
  have HB' := Lib.hid (HB.out.trans (hb.mono HB.out.size))
  clear HE HX HY HB hb
  have HE := HE'
  have HX := HX'
  have HY := HY'
  have HB := HB'
  clear HE' HX' HY' HB'
  obtain ⟨d0, d1, d2, d3, d4, d5, d6, d7⟩ := EvBox.of_blk HE.out.x0
  go_wp2_with fail
  clear d0 d1 d2 d3 d4 d5 d6 d7
  refine (flow_Out exSized14 (exEvR14 HE.out.x1 HE.out.x2) 1 2).mono ?_
  rintro r w21 ⟨A, n, c, rfl, hri, -, hb⟩
  rw [ex14_out2] at hri
  have hlen := hri.len
  simp only [List.length_cons, List.length_nil] at hlen
  subst hlen
  have HRI := Lib.hid hri
  clear hri
  have HE' := Lib.hid (HE.out.later hb)
  have HX' := Lib.hid (HX.out.later hb)
  have HY' := Lib.hid (HY.out.later hb)
  have HB' := Lib.hid (HB.out.trans (hb.mono HB.out.size))
  clear HE HX HY HB hb
  have HE := HE'
  have HX := HX'
  have HY := HY'
  have HB := HB'
  clear HE' HX' HY' HB'
  obtain ⟨d0, d1, d2, d3, d4, d5, d6, d7⟩ := EvBox.of_blk HE.out.x0
  go_wp2_with fail
  clear d0 d1 d2 d3 d4 d5 d6 d7
  refine (ref14_SameInts (m := 1) (xs := [1]) (ys := [1]) (HRI.out.keep (below_a1 _ _)) (Rd.of_block (f := fun x : Int => [vi x]) (xs := [1]) (fun _ => rfl) (heap_a1 w21 (.cells #[.int .i64 1] 3)) rfl rfl) (by omega) (by omega)).mono ?_
  rintro r w22 ⟨hr0, hb0⟩
  rw [decide_eq_true rfl] at hr0
  subst hr0
  have hb := (below_a1 _ _).trans (hb0.mono (by simp))
  clear hb0 HRI
  have HE' := Lib.hid (HE.out.later hb)
  have HX' := Lib.hid (HX.out.later hb)
  have HY' := Lib.hid (HY.out.later hb)
  have HB' := Lib.hid (HB.out.trans (hb.mono HB.out.size))
  clear HE HX HY HB hb
  have HE := HE'
  have HX := HX'
  have HY := HY'
  have HB := HB'
  clear HE' HX' HY' HB'
  go_wp2_with fail
  go_ret
  exact ⟨rfl, HB.out⟩
end Go.Proofs.Ythjgbjakpbfnoaa
