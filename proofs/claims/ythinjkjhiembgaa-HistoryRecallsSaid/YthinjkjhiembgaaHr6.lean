/- HistoryRecalls: at every input the law returns true, and its arguments read as before. Conditions: none. -/
import Derived.Test.YthinjkjhiembgaaRows
import Derived.Test.YthinjkjhiembgaaHr5
/- An argument 'e api.Evidence' opened to its parts. -/
namespace Go.Proofs.Ythinjkjhiembgaa
open Go.RowKit Go.ChangeShapes Go.WideShapes Go.Deep

set_option maxRecDepth 100000
section
variable {H : Type} {enc : TypeId × Value → H} {w : World} {base : Nat} {spare : Nat → Bool} {held : Bool}
theorem dec_int {k : TypeId} (hk : Try.prog.underlying k = some (.int .i64)) {u : Value} (h : ∃ y n, DataW.trod enc Try.prog w base spare held n k [u] = some y) : ∃ a : Int, u = .int .i64 a := by
  obtain ⟨y, n, h⟩ := h
  obtain ⟨a, e, _, _⟩ := DataW.trod_int hk h
  injection e with e
  exact ⟨a, e⟩
theorem dec_bool {k : TypeId} (hk : Try.prog.underlying k = some .bool) {u : Value} (h : ∃ y n, DataW.trod enc Try.prog w base spare held n k [u] = some y) : ∃ a : Bool, u = .bool a := by
  obtain ⟨y, n, h⟩ := h
  obtain ⟨a, e, _⟩ := DataW.trod_bool hk h
  injection e with e
  exact ⟨a, e⟩

theorem open_ev {r : Reach} {b0 : Nat} {v : Value} {d : DataW H} {p : List MemPlace} (hv : Value.okWide Try.prog w r b0 28 v) (h : DataW.Trod enc Try.prog w base spare held 28 v d p) :
    ∃ m h s A1 n1 c1 A2 n2 c2 A3 n3 c3 A4 n4 c4 A5 n5 c5 e, v = .agg #[.int .i64 m, .int .i64 h, .int .i64 s, .slice A1 n1 c1, .slice A2 n2 c2, .slice A3 n3 c3, .slice A4 n4 c4, .slice A5 n5 c5] ∧ EvR w m h s A1 n1 A2 n2 A3 n3 A4 n4 A5 n5 e ∧ n1 ≤ c1 ∧ n2 ≤ c2 ∧ n3 ≤ c3 ∧ n4 ≤ c4 ∧ n5 ≤ c5 ∧ c1 ≤ maxLen ∧ c2 ≤ maxLen ∧ c3 ≤ maxLen ∧ c4 ≤ maxLen ∧ c5 ≤ maxLen := by
  obtain ⟨fs, hs, hone, hC, hty⟩ : ∃ fs : Array Field, Try.prog.underlying 28 = some (.struct fs) ∧ oneCellFields Try.prog fs = true ∧ Try.prog.cellsOf 28 = 8 ∧ fs.map (·.type) = #[3, 3, 3, 22, 23, 24, 25, 26] :=
    ⟨_, Try.underlying28, by kernel_rfl, by kernel_rfl, by kernel_rfl⟩
  obtain ⟨cs, rfl, hsz⟩ := okWide_struct hs hv
  obtain ⟨l⟩ := cs
  obtain ⟨fuel, hf⟩ := h
  obtain ⟨xs, n, _, hx, _, hlen, hg⟩ := DataW.trod_struct hs hf
  have hl8 : l.length = 8 := by simpa [hC] using hsz
  have hfs : fs.size = 8 := by have := congrArg Array.size hty; simpa using this
  have hfld : ∀ j, j < 8 → ∃ u y m, l[j]? = some u ∧ DataW.trod enc Try.prog w base spare held m ((#[3, 3, 3, 22, 23, 24, 25, 26] : Array TypeId).getD j 0) [u] = some y := by
    intro j hj
    have hjf : fs[j]? = some (fs[j]'(by omega)) := Array.getElem?_eq_getElem (by omega)
    obtain ⟨ho, hk⟩ := hone_of hone j _ hjf
    have h1 := hg j _ hjf
    rw [ho, hk] at h1
    have hone' : ((Value.agg ⟨l⟩).cells.toList.drop j).take 1 = [l[j]'(by omega)] := by
      show (l.drop j).take 1 = _
      rw [List.drop_eq_getElem_cons (by omega)]
      rfl
    rw [hone'] at h1
    have hxl : j < xs.length := by omega
    rw [List.getElem?_eq_getElem hxl] at h1
    have htj : (#[3, 3, 3, 22, 23, 24, 25, 26] : Array TypeId).getD j 0 = (fs[j]'(by omega)).type := by
      rw [← hty, Array.getD_eq_getD_getElem?, Array.getElem?_map, hjf]
      rfl
    rw [htj]
    exact ⟨_, _, n, List.getElem?_eq_getElem (by omega), h1⟩
  match l, hl8 with
  | [v0, v1, v2, v3, v4, v5, v6, v7], _ =>
    obtain ⟨u0, y0, m0, e0, t0⟩ := hfld 0 (by omega)
    obtain ⟨u1, y1, m1, e1, t1⟩ := hfld 1 (by omega)
    obtain ⟨u2, y2, m2, e2, t2⟩ := hfld 2 (by omega)
    obtain ⟨u3, y3, m3, e3, t3⟩ := hfld 3 (by omega)
    obtain ⟨u4, y4, m4, e4, t4⟩ := hfld 4 (by omega)
    obtain ⟨u5, y5, m5, e5, t5⟩ := hfld 5 (by omega)
    obtain ⟨u6, y6, m6, e6, t6⟩ := hfld 6 (by omega)
    obtain ⟨u7, y7, m7, e7, t7⟩ := hfld 7 (by omega)
    simp at e0 e1 e2 e3 e4 e5 e6 e7
    subst e0 e1 e2 e3 e4 e5 e6 e7
    obtain ⟨a0, rfl⟩ := dec_int Try.underlying3 ⟨_, _, t0⟩
    obtain ⟨a1, rfl⟩ := dec_int Try.underlying3 ⟨_, _, t1⟩
    obtain ⟨a2, rfl⟩ := dec_int Try.underlying3 ⟨_, _, t2⟩
    obtain ⟨A1, n1, c1, ps, rfl, r1, l1, g1⟩ := open_structs Place.cells Try.underlying22 Try.underlying69 (by kernel_rfl) (by kernel_rfl) (by decide)
      (fun vs hd => by
        obtain ⟨b0, h0⟩ := dec_int Try.underlying3 (hd 0 _ rfl)
        obtain ⟨b1, h1⟩ := dec_int Try.underlying3 (hd 1 _ rfl)
        obtain ⟨b2, h2⟩ := dec_int Try.underlying3 (hd 2 _ rfl)
        refine ⟨⟨b0, b1, b2⟩, fun j u hu => ?_⟩
        match j, hu with
        | 0, hu => exact ⟨h0.trans (by simpa [Place.cells] using hu), by decide⟩
        | 1, hu => exact ⟨h1.trans (by simpa [Place.cells] using hu), by decide⟩
        | 2, hu => exact ⟨h2.trans (by simpa [Place.cells] using hu), by decide⟩
        | n + 3, hu => simp [Place.cells] at hu) t3
    obtain ⟨A2, n2, c2, ms, rfl, r2, l2, g2⟩ := open_structs Move.cells Try.underlying23 Try.underlying40 (by kernel_rfl) (by kernel_rfl) (by decide)
      (fun vs hd => by
        obtain ⟨b0, h0⟩ := dec_int Try.underlying3 (hd 0 _ rfl)
        obtain ⟨b1, h1⟩ := dec_int Try.underlying3 (hd 1 _ rfl)
        obtain ⟨b2, h2⟩ := dec_int Try.underlying3 (hd 2 _ rfl)
        obtain ⟨b3, h3⟩ := dec_int Try.underlying3 (hd 3 _ rfl)
        obtain ⟨b4, h4⟩ := dec_int Try.underlying3 (hd 4 _ rfl)
        obtain ⟨b5, h5⟩ := dec_bool Try.underlying4 (hd 5 _ rfl)
        refine ⟨⟨b0, b1, b2, b3, b4, b5⟩, fun j u hu => ?_⟩
        match j, hu with
        | 0, hu => exact ⟨h0.trans (by simpa [Move.cells] using hu), by decide⟩
        | 1, hu => exact ⟨h1.trans (by simpa [Move.cells] using hu), by decide⟩
        | 2, hu => exact ⟨h2.trans (by simpa [Move.cells] using hu), by decide⟩
        | 3, hu => exact ⟨h3.trans (by simpa [Move.cells] using hu), by decide⟩
        | 4, hu => exact ⟨h4.trans (by simpa [Move.cells] using hu), by decide⟩
        | 5, hu => exact ⟨h5.trans (by simpa [Move.cells] using hu), by decide⟩
        | n + 6, hu => simp [Move.cells] at hu) t4
    obtain ⟨A3, n3, c3, cts, rfl, r3, l3, g3⟩ := open_structs Cert.cells Try.underlying24 Try.underlying99 (by kernel_rfl) (by kernel_rfl) (by decide)
      (fun vs hd => by
        obtain ⟨b0, h0⟩ := dec_int Try.underlying3 (hd 0 _ rfl)
        obtain ⟨b1, h1⟩ := dec_int Try.underlying3 (hd 1 _ rfl)
        obtain ⟨b2, h2⟩ := dec_int Try.underlying3 (hd 2 _ rfl)
        obtain ⟨b3, h3⟩ := dec_int Try.underlying3 (hd 3 _ rfl)
        obtain ⟨b4, h4⟩ := dec_int Try.underlying3 (hd 4 _ rfl)
        obtain ⟨b5, h5⟩ := dec_int Try.underlying3 (hd 5 _ rfl)
        refine ⟨⟨b0, b1, b2, b3, b4, b5⟩, fun j u hu => ?_⟩
        match j, hu with
        | 0, hu => exact ⟨h0.trans (by simpa [Cert.cells] using hu), by decide⟩
        | 1, hu => exact ⟨h1.trans (by simpa [Cert.cells] using hu), by decide⟩
        | 2, hu => exact ⟨h2.trans (by simpa [Cert.cells] using hu), by decide⟩
        | 3, hu => exact ⟨h3.trans (by simpa [Cert.cells] using hu), by decide⟩
        | 4, hu => exact ⟨h4.trans (by simpa [Cert.cells] using hu), by decide⟩
        | 5, hu => exact ⟨h5.trans (by simpa [Cert.cells] using hu), by decide⟩
        | n + 6, hu => simp [Cert.cells] at hu) t5
    obtain ⟨A4, n4, c4, rcs, rfl, r4, l4, g4⟩ := open_structs Recall.cells Try.underlying25 Try.underlying60 (by kernel_rfl) (by kernel_rfl) (by decide)
      (fun vs hd => by
        obtain ⟨b0, h0⟩ := dec_int Try.underlying3 (hd 0 _ rfl)
        obtain ⟨b1, h1⟩ := dec_int Try.underlying3 (hd 1 _ rfl)
        refine ⟨⟨b0, b1⟩, fun j u hu => ?_⟩
        match j, hu with
        | 0, hu => exact ⟨h0.trans (by simpa [Recall.cells] using hu), by decide⟩
        | 1, hu => exact ⟨h1.trans (by simpa [Recall.cells] using hu), by decide⟩
        | n + 2, hu => simp [Recall.cells] at hu) t6
    obtain ⟨A5, n5, c5, pus, rfl, r5, l5, g5⟩ := open_structs Purity.cells Try.underlying26 Try.underlying85 (by kernel_rfl) (by kernel_rfl) (by decide)
      (fun vs hd => by
        obtain ⟨b0, h0⟩ := dec_int Try.underlying3 (hd 0 _ rfl)
        obtain ⟨b1, h1⟩ := dec_int Try.underlying3 (hd 1 _ rfl)
        obtain ⟨b2, h2⟩ := dec_int Try.underlying3 (hd 2 _ rfl)
        obtain ⟨b3, h3⟩ := dec_int Try.underlying3 (hd 3 _ rfl)
        refine ⟨⟨b0, b1, b2, b3⟩, fun j u hu => ?_⟩
        match j, hu with
        | 0, hu => exact ⟨h0.trans (by simpa [Purity.cells] using hu), by decide⟩
        | 1, hu => exact ⟨h1.trans (by simpa [Purity.cells] using hu), by decide⟩
        | 2, hu => exact ⟨h2.trans (by simpa [Purity.cells] using hu), by decide⟩
        | 3, hu => exact ⟨h3.trans (by simpa [Purity.cells] using hu), by decide⟩
        | n + 4, hu => simp [Purity.cells] at hu) t7
    exact ⟨a0, a1, a2, A1, n1, c1, A2, n2, c2, A3, n3, c3, A4, n4, c4, A5, n5, c5, ⟨a0, a1, a2, ps, ms, cts, rcs, pus⟩, rfl, ⟨rfl, rfl, rfl, r1, r2, r3, r4, r5⟩, l1, l2, l3, l4, l5, g1, g2, g3, g4, g5⟩
end
theorem law_own : ownKnob Try.prog.godebug = none := by kernel_rfl
theorem law_laid : laidOutB Try.prog = true := by kernel_rfl
end Go.Proofs.Ythinjkjhiembgaa
/- From a call's contract to what a law's row asks for. -/
namespace Go.Proofs.Ythinjkjhiembgaa
open Go.RowKit
set_option linter.unusedVariables false
set_option linter.unusedSimpArgs false

/-- a list that is read from the outside -/
theorem rt_of_rd {α : Type} {k : Nat} {f : α → List Value} {row : α → List T} (hrow : ∀ x, row x = (f x).map T.atm) (hone : ∀ x, ∀ v ∈ f x, v.oneCell' = true) (hk : ∀ x, (f x).length = k)
    {w : World} {A : Option Addr} {n c : Nat} {xs : List α} (h : Rd k f w A n xs) (h1 : n ≤ c) (h2 : c ≤ maxLen) : RT w (fun _ => False) (.sl k .any (xs.map row)) (.slice A n c) := by
  obtain ⟨hn, hc⟩ := h
  have hlen : (xs.map row).length = n := by simp [hn]
  rw [← hlen]
  have hat : ∀ i j t, at2 (xs.map row) i j = some t → ∃ x v, xs[i]? = some x ∧ (f x)[j]? = some v ∧ t = .atm v := fun i j t ht => by
    obtain ⟨r, q1, q2⟩ := at2_inv ht
    rw [List.getElem?_map] at q1
    cases hx : xs[i]? with
    | none => rw [hx] at q1; cases q1
    | some x =>
      rw [hx] at q1
      injection q1 with q1
      subst q1
      rw [hrow, List.getElem?_map] at q2
      cases hv : (f x)[j]? with
      | none => rw [hv] at q2; cases q2
      | some v => rw [hv] at q2; injection q2 with q2; exact ⟨x, v, rfl, hv, q2.symm⟩
  rcases Nat.eq_zero_or_pos n with h0 | h0
  · have hx : xs = [] := List.eq_nil_of_length_eq_zero (by omega)
    subst hx
    exact .sl (b := 0) (off := 0) (fun _ _ => undef) (by simp) (by simp) h2 (by intro h; cases h) (by intro h; cases h) (by simp) (by simp [at2]) (by simp [at2])
  · obtain ⟨b, off, hA, hcell⟩ := hc h0
    refine .sl (b := b) (off := off) (fun i j => ((xs[i]?).bind fun x => (f x)[j]?).getD undef) ?_ (by omega) h2 (by intro h; cases h) (by intro h; cases h) (fun _ => hA) ?_ ?_
    · intro r hr
      obtain ⟨x, _, rfl⟩ := List.mem_map.1 hr
      rw [hrow, List.length_map, hk]
    · intro i j t ht
      obtain ⟨x, v, hx, hv, rfl⟩ := hat i j t ht
      exact ⟨by rw [hcell i x hx j v hv]; simp [hx, hv], fun h => h⟩
    · intro i j t ht
      obtain ⟨x, v, hx, hv, rfl⟩ := hat i j t ht
      have : ((xs[i]?).bind fun x => (f x)[j]?).getD undef = v := by simp [hx, hv]
      rw [this]
      exact .atm (hone x v (List.mem_of_getElem? hv))

theorem rs_ev {w : World} {m h s : Int} {A1 A2 A3 A4 A5 : Option Addr} {n1 n2 n3 n4 n5 c1 c2 c3 c4 c5 : Nat} {e : Ev} (hr : EvR w m h s A1 n1 A2 n2 A3 n3 A4 n4 A5 n5 e)
    (hb : n1 ≤ c1 ∧ n2 ≤ c2 ∧ n3 ≤ c3 ∧ n4 ≤ c4 ∧ n5 ≤ c5 ∧ c1 ≤ maxLen ∧ c2 ≤ maxLen ∧ c3 ≤ maxLen ∧ c4 ≤ maxLen ∧ c5 ≤ maxLen) :
    RS w (fun _ => none) (fun _ => False) (evS e) (.agg #[.int .i64 m, .int .i64 h, .int .i64 s, .slice A1 n1 c1, .slice A2 n2 c2, .slice A3 n3 c3, .slice A4 n4 c4, .slice A5 n5 c5]) := by
  obtain ⟨rfl, rfl, rfl, r1, r2, r3, r4, r5⟩ := hr
  obtain ⟨b1, b2, b3, b4, b5, d1, d2, d3, d4, d5⟩ := hb
  have t1 := rt_of_rd (k := 3) (f := Place.cells) (row := Place.row) (fun _ => rfl) (by intro x v hv; simp [Place.cells] at hv; rcases hv with rfl | rfl | rfl <;> rfl) (fun _ => rfl) r1 b1 d1
  have t2 := rt_of_rd (k := 6) (f := Move.cells) (row := Move.row) (fun _ => rfl) (by intro x v hv; simp [Move.cells] at hv; rcases hv with rfl | rfl | rfl | rfl | rfl | rfl <;> rfl) (fun _ => rfl) r2 b2 d2
  have t3 := rt_of_rd (k := 6) (f := Cert.cells) (row := Cert.row) (fun _ => rfl) (by intro x v hv; simp [Cert.cells] at hv; rcases hv with rfl | rfl | rfl | rfl | rfl | rfl <;> rfl) (fun _ => rfl) r3 b3 d3
  have t4 := rt_of_rd (k := 2) (f := Recall.cells) (row := Recall.row) (fun _ => rfl) (by intro x v hv; simp [Recall.cells] at hv; rcases hv with rfl | rfl <;> rfl) (fun _ => rfl) r4 b4 d4
  have t5 := rt_of_rd (k := 4) (f := Purity.cells) (row := Purity.row) (fun _ => rfl) (by intro x v hv; simp [Purity.cells] at hv; rcases hv with rfl | rfl | rfl | rfl <;> rfl) (fun _ => rfl) r5 b5 d5
  refine .agg [.int .i64 e.mats, .int .i64 e.hhs, .int .i64 e.scs, .slice A1 n1 c1, .slice A2 n2 c2, .slice A3 n3 c3, .slice A4 n4 c4, .slice A5 n5 c5] rfl fun j c hj => ?_
  match j, hj with
  | 0, hj => injection hj with hj; subst hj; exact .t (.atm rfl)
  | 1, hj => injection hj with hj; subst hj; exact .t (.atm rfl)
  | 2, hj => injection hj with hj; subst hj; exact .t (.atm rfl)
  | 3, hj => injection hj with hj; subst hj; exact .t t1
  | 4, hj => injection hj with hj; subst hj; exact .t t2
  | 5, hj => injection hj with hj; subst hj; exact .t t3
  | 6, hj => injection hj with hj; subst hj; exact .t t4
  | 7, hj => injection hj with hj; subst hj; exact .t t5
  | j + 8, hj => simp [evC] at hj

theorem wf_rangeU {n : Int} (h : (Lit.int .u8 n).wf = true) : 0 ≤ n ∧ n ≤ 255 := by
  simp only [Lit.wf, Bool.and_eq_true, decide_eq_true_eq] at h
  exact h
theorem rs_u8 {w : World} {n : Int} : RS w (fun _ => none) (fun _ => False) (intS .u8 n) (.int .u8 n) := RS.int
theorem rs_bool {w : World} {b : Bool} : RS w (fun _ => none) (fun _ => False) (boolS b) (.bool b) := RS.bool
theorem wf_range {n : Int} (h : (Lit.int .i64 n).wf = true) : -9223372036854775808 ≤ n ∧ n ≤ 9223372036854775807 := by
  simp only [Lit.wf, Bool.and_eq_true, decide_eq_true_eq] at h
  exact h
theorem rs_int {w : World} {n : Int} : RS w (fun _ => none) (fun _ => False) (intS .i64 n) (.int .i64 n) := RS.int

/-- arguments one by one -/
inductive RArgs (w : World) : List S → List Value → Prop
  | nil : RArgs w [] []
  | cons {s : S} {v : Value} {ss : List S} {vs : List Value} (h : RS w (fun _ => none) (fun _ => False) s v) (hs : RArgs w ss vs) : RArgs w (s :: ss) (v :: vs)
theorem RArgs.get {w : World} {ss : List S} {vs : List Value} (h : RArgs w ss vs) : vs.length = ss.length ∧ ∀ (j : Nat) (s : S), ss[j]? = some s → RS w (fun _ => none) (fun _ => False) s (vs.getD j undef) := by
  induction h with
  | nil => exact ⟨rfl, by simp⟩
  | cons h hs ih =>
    refine ⟨by simp [ih.1], fun j s hj => ?_⟩
    cases j with
    | zero => simp at hj; subst hj; exact h
    | succ j => simpa using ih.2 j s (by simpa using hj)

theorem law_of_acall {P : Program} {g : FuncId} {ss : List S} {b : Bool} (h : ACall P g ss [] (boolS b) []) {w : World} {vs : List Value} (ha : RArgs w ss vs) :
    Calls P g vs.toArray w fun e w' => e = .returned (.bool b) ∧ Below w.heap.size w w' := by
  obtain ⟨h1, h2⟩ := ha.get
  refine Calls.mono (h.2 w (fun _ => none) (fun _ => False) vs h1 h2 ⟨by simp, by simp, by simp, by simp, by simp⟩ (fun _ h => h.elim) (fun _ _ => rfl)) ?_
  rintro e w' ⟨v, rfl, ι', M', q1, q2, q3, q4, q5⟩
  rw [q1.inv_atm]
  exact ⟨rfl, q5.os, q5.tape, q5.output, q5.size, fun k hk => q5.keep k hk (by rintro ⟨id, k, _, _, hk, _⟩; simp at hk)⟩
end Go.Proofs.Ythinjkjhiembgaa
/- Arguments opened by the shape of their type: integers, truth values, structs and slices, however nested. -/
namespace Go.Proofs.Ythinjkjhiembgaa
open Go.RowKit Go.ChangeShapes Go.WideShapes Go.Deep
set_option linter.unusedVariables false

inductive Sh where
  | int (k : IntKind)
  | bool
  | sl (row : List Sh)
inductive Fit : Sh → T → Prop
  | int {k : IntKind} {n : Int} (h : (Lit.int k n).wf = true) : Fit (.int k) (.atm (.int k n))
  | bool {b : Bool} : Fit .bool (.atm (.bool b))
  | sl {row : List Sh} {rows : List (List T)} (hl : ∀ r ∈ rows, r.length = row.length) (h : ∀ r ∈ rows, ∀ (j : Nat) (s : Sh) (t : T), row[j]? = some s → r[j]? = some t → Fit s t) : Fit (.sl row) (.sl row.length .any rows)
inductive HasSh (P : Program) : TypeId → List Sh → Prop
  | int {t : TypeId} {k : IntKind} (h : P.underlying t = some (.int k)) : HasSh P t [.int k]
  | bool {t : TypeId} (h : P.underlying t = some .bool) : HasSh P t [.bool]
  | sl {t e : TypeId} {row : List Sh} (h : P.underlying t = some (.slice e)) (hc : P.cellsOf e = row.length) (hp : 0 < row.length) (he : HasSh P e row) : HasSh P t [.sl row]
  | struct {t : TypeId} {fs : Array Field} (parts : List (List Sh)) (h : P.underlying t = some (.struct fs)) (hl : parts.length = fs.size)
      (ho : ∀ (i : Nat) (f : Field) (p : List Sh), fs[i]? = some f → parts[i]? = some p → f.offset = (parts.take i).flatten.length ∧ P.cellsOf f.type = p.length)
      (hc : P.cellsOf t = parts.flatten.length)
      (he : ∀ (i : Nat) (f : Field) (p : List Sh), fs[i]? = some f → parts[i]? = some p → HasSh P f.type p) : HasSh P t parts.flatten

section
variable {H : Type} {enc : TypeId × Value → H} {P : Program} {w : World} {base : Nat} {spare : Nat → Bool} {held : Bool}
/-- cells that read as trees of these shapes -/
def OpenAs (w : World) (shs : List Sh) (cs : List Value) : Prop :=
  cs.length = shs.length ∧ ∃ ts : List T, ts.length = shs.length ∧ ∀ (j : Nat) (s : Sh), shs[j]? = some s → ∃ u t, cs[j]? = some u ∧ ts[j]? = some t ∧ RT w (fun _ => False) t u ∧ Fit s t
theorem flatten_at {α : Type} : ∀ (parts : List (List α)) (j : Nat) (x : α), parts.flatten[j]? = some x → ∃ i p k, parts[i]? = some p ∧ p[k]? = some x ∧ j = (parts.take i).flatten.length + k
  | [], j, x, h => by simp at h
  | p :: r, j, x, h => by
    rw [List.flatten_cons] at h
    by_cases hj : j < p.length
    · rw [List.getElem?_append_left hj] at h
      exact ⟨0, p, j, rfl, h, by simp⟩
    · rw [List.getElem?_append_right (by omega)] at h
      obtain ⟨i, q, k, h1, h2, h3⟩ := flatten_at r _ x h
      exact ⟨i + 1, q, k, by simpa using h1, h2, by rw [List.take_succ_cons, List.flatten_cons, List.length_append]; omega⟩
theorem lists_choose {α : Type} {p : Nat → α → Prop} : ∀ (n : Nat), (∀ i, i < n → ∃ x, p i x) → ∃ xs : List α, xs.length = n ∧ ∀ i x, xs[i]? = some x → p i x
  | 0, _ => ⟨[], rfl, by simp⟩
  | n + 1, h => by
    obtain ⟨xs, h1, h2⟩ := lists_choose n fun i hi => h i (by omega)
    obtain ⟨x, hx⟩ := h n (by omega)
    refine ⟨xs ++ [x], by simp [h1], fun i y hy => ?_⟩
    by_cases hi : i < xs.length
    · rw [List.getElem?_append_left hi] at hy; exact h2 i y hy
    · rw [List.getElem?_append_right (by omega)] at hy
      have : i = n := by
        have := (List.getElem?_eq_some_iff.1 hy).1
        simp at this; omega
      subst this
      rw [h1] at hy
      simp at hy
      subst hy
      exact hx
theorem open_sh {t : TypeId} {shs : List Sh} (h : HasSh P t shs) : ∀ (n : Nat) (cs : List Value) (x : DataW H × List MemPlace), DataW.trod enc P w base spare held n t cs = some x → OpenAs w shs cs := by
  induction h with
  | int h =>
    intro n cs x hx
    obtain ⟨a, rfl, _, hw⟩ := DataW.trod_int h hx
    exact ⟨rfl, [.atm (.int _ a)], rfl, fun j s hj => by
      match j, hj with
      | 0, hj => simp at hj; subst hj; exact ⟨_, _, rfl, rfl, .atm rfl, .int hw⟩⟩
  | bool h =>
    intro n cs x hx
    obtain ⟨a, rfl, _⟩ := DataW.trod_bool h hx
    exact ⟨rfl, [.atm (.bool a)], rfl, fun j s hj => by
      match j, hj with
      | 0, hj => simp at hj; subst hj; exact ⟨_, _, rfl, rfl, .atm rfl, .bool⟩⟩
  | @sl t e row h hc hp he ih =>
    intro n cs x hx
    have key : ∀ (rows : List (List T)) (u : Value), cs = [u] → RT w (fun _ => False) (.sl row.length .any rows) u → (∀ r ∈ rows, r.length = row.length) → (∀ r ∈ rows, ∀ (j : Nat) (s : Sh) (t : T), row[j]? = some s → r[j]? = some t → Fit s t) → OpenAs w [.sl row] cs := by
      rintro rows u rfl hu h1 h2
      exact ⟨rfl, [.sl row.length .any rows], rfl, fun j s hj => by
        match j, hj with
        | 0, hj => simp at hj; subst hj; exact ⟨_, _, rfl, rfl, hu, .sl h1 h2⟩⟩
    rcases open_slice h hx with ⟨h0, _⟩ | ⟨a, len, cap, m, n, D, Pl, hcs, hb, hl, hm, hmm, hx, hi⟩
    · exact key [] _ h0 (.sl (b := 0) (off := 0) (fun _ _ => undef) (by simp) (by simp) (by unfold maxLen; omega) (by intro h; cases h) (by intro h; cases h) (by simp) (by simp [at2]) (by simp [at2])) (by simp) (by simp)
    · by_cases hz : len = 0
      · subst hz
        exact key [] _ hcs (.sl (b := 0) (off := 0) (fun _ _ => undef) (by simp) (by simp) hm (by intro h; cases h) (by intro h; cases h) (by simp) (by simp [at2]) (by simp [at2])) (by simp) (by simp)
      have hlm : len ≤ m := by rw [hmm]; split <;> omega
      have each : ∀ i, i < len → ∃ cs' : List Value, (∀ j, j < row.length → w.cell? (a.add (i * row.length + j)) = cs'[j]?) ∧ OpenAs w row cs' := by
        intro i hil
        obtain ⟨cs', hc', ht'⟩ := hi i (by omega)
        rw [hc] at hc'
        obtain ⟨_, hcl, hat⟩ := World.cells?_some hc'
        exact ⟨cs', fun j hj => by rw [← Go.Deep.add_add]; exact hat j hj, ih n cs' _ ht'⟩
      obtain ⟨css, hcl, hcs2⟩ := lists_choose len each
      obtain ⟨rows, hrl, hrows⟩ := lists_choose (α := List T) (p := fun i ts => ts.length = row.length ∧ ∀ (j : Nat) (s : Sh), row[j]? = some s → ∃ u t, (css.getD i [])[j]? = some u ∧ ts[j]? = some t ∧ RT w (fun _ => False) t u ∧ Fit s t) len (fun i hi => by
        have hg : css[i]? = some (css[i]'(by omega)) := List.getElem?_eq_getElem (by omega)
        obtain ⟨_, _, ts, h1, h2⟩ := hcs2 i _ hg
        refine ⟨ts, h1, ?_⟩
        rw [List.getD_eq_getElem?_getD, hg]
        exact h2)
      have hcell : ∀ i j, i < len → j < row.length → w.cell? (a.add (i * row.length + j)) = some ((css.getD i []).getD j undef) := by
        intro i j hi hj
        have hg : css[i]? = some (css[i]'(by omega)) := List.getElem?_eq_getElem (by omega)
        obtain ⟨h1, h2, _⟩ := hcs2 i _ hg
        rw [h1 j hj]
        have hgd : css.getD i [] = css[i]'(by omega) := by rw [List.getD_eq_getElem?_getD, hg]; rfl
        rw [hgd, List.getD_eq_getElem?_getD, List.getElem?_eq_getElem (by omega)]; rfl
      have hspot : a.spot = none := by
        have := World.cell?_spot (hcell 0 0 (by omega) hp)
        simpa [Addr.add] using this
      obtain ⟨b, off, sp⟩ := a
      simp only at hspot
      subst hspot
      have hadd : ∀ k, (⟨b, off, none⟩ : Addr).add k = ⟨b, off + k, none⟩ := by
        intro k
        unfold Addr.add
        split
        · subst_vars; rfl
        · rfl
      have hat : ∀ i j c, at2 rows i j = some c → i < len ∧ j < row.length ∧ ∃ r s, rows[i]? = some r ∧ r[j]? = some c ∧ row[j]? = some s := by
        intro i j c hc
        obtain ⟨r, q1, q2⟩ := at2_inv hc
        have hil : i < len := by rw [← hrl]; exact (List.getElem?_eq_some_iff.1 q1).1
        have hjl : j < row.length := by rw [← (hrows i r q1).1]; exact (List.getElem?_eq_some_iff.1 q2).1
        exact ⟨hil, hjl, r, _, q1, q2, List.getElem?_eq_getElem hjl⟩
      refine key rows (.slice (some ⟨b, off, none⟩) len cap) hcs ?_ ?_ ?_
      · rw [← hrl]
        refine .sl (b := b) (off := off) (fun i j => (css.getD i []).getD j undef) ?_ (by omega) hm (by intro h; cases h) (by intro h; cases h) (fun _ => rfl) ?_ ?_
        · intro r hr
          obtain ⟨i, hi⟩ := List.mem_iff_getElem?.1 hr
          exact (hrows i r hi).1
        · intro i j c hc
          obtain ⟨hil, hjl, _⟩ := hat i j c hc
          have := hcell i j hil hjl
          rw [hadd] at this
          exact ⟨this, fun h => h⟩
        · intro i j c hc
          obtain ⟨hil, hjl, r, s, q1, q2, q3⟩ := hat i j c hc
          obtain ⟨u, t, h1, h2, h3, h4⟩ := (hrows i r q1).2 j s q3
          rw [q2] at h2
          injection h2 with h2
          subst h2
          rw [List.getD_eq_getElem?_getD (l := css.getD i []), h1]
          exact h3
      · intro r hr
        obtain ⟨i, hi⟩ := List.mem_iff_getElem?.1 hr
        exact (hrows i r hi).1
      · intro r hr j s t hs ht
        obtain ⟨i, hi⟩ := List.mem_iff_getElem?.1 hr
        obtain ⟨u, t', h1, h2, h3, h4⟩ := (hrows i r hi).2 j s hs
        rw [ht] at h2
        injection h2 with h2
        subst h2
        exact h4
  | @struct t fs parts h hl ho hc he ih =>
    intro n cs x hx
    obtain ⟨xs, n', hn', hy, hlen, hyl, hf⟩ := DataW.trod_struct h hx
    have hlen' : cs.length = parts.flatten.length := by rw [hlen, hc]
    have each : ∀ j, j < parts.flatten.length → ∃ t, ∀ s, parts.flatten[j]? = some s → ∃ u, cs[j]? = some u ∧ RT w (fun _ => False) t u ∧ Fit s t := by
      intro j hj
      obtain ⟨i, p, k, q1, q2, q3⟩ := flatten_at parts j _ (List.getElem?_eq_getElem hj)
      have hi : i < fs.size := by rw [← hl]; exact (List.getElem?_eq_some_iff.1 q1).1
      have hfi : fs[i]? = some fs[i] := Array.getElem?_eq_getElem hi
      obtain ⟨o1, o2⟩ := ho i _ p hfi q1
      have h1 := hf i _ hfi
      have hxi : xs[i]? = some (xs[i]'(by omega)) := List.getElem?_eq_getElem (by omega)
      obtain ⟨r1, ts, r2, r3⟩ := ih i _ p hfi q1 n' _ _ (h1.trans hxi)
      obtain ⟨u, t, e1, e2, e3, e4⟩ := r3 k _ q2
      refine ⟨t, fun s hs => ⟨u, ?_, e3, ?_⟩⟩
      · have hk : k < p.length := (List.getElem?_eq_some_iff.1 q2).1
        rw [List.getElem?_take, o2, if_pos hk, List.getElem?_drop, o1, ← q3] at e1
        exact e1
      · rw [List.getElem?_eq_getElem hj] at hs
        injection hs with hs
        rw [← hs]; exact e4
    obtain ⟨ts, t1, t2⟩ := lists_choose parts.flatten.length each
    refine ⟨hlen', ts, t1, fun j s hj => ?_⟩
    have hjl := (List.getElem?_eq_some_iff.1 hj).1
    have htj : ts[j]? = some (ts[j]'(by omega)) := List.getElem?_eq_getElem (by omega)
    obtain ⟨u, h1, h2, h3⟩ := t2 j _ htj s hj
    exact ⟨u, _, h1, htj, h2, h3⟩
end
theorem Fit.int_inv {k : IntKind} {t : T} (h : Fit (.int k) t) : ∃ n, t = .atm (.int k n) ∧ (Lit.int k n).wf = true := by cases h with | int h => exact ⟨_, rfl, h⟩
theorem Fit.bool_inv {t : T} (h : Fit .bool t) : ∃ b, t = .atm (.bool b) := by cases h with | bool => exact ⟨_, rfl⟩
/-- rows that are each the row of something -/
theorem rows_map {α : Type} {f : α → List T} {p : α → Prop} : ∀ {rows : List (List T)}, (∀ r ∈ rows, ∃ x, r = f x ∧ p x) → ∃ xs : List α, rows = xs.map f ∧ ∀ x ∈ xs, p x
  | [], _ => ⟨[], rfl, by simp⟩
  | r :: rs, h => by
    obtain ⟨x, rfl, hx⟩ := h r (by simp)
    obtain ⟨xs, rfl, hxs⟩ := rows_map (rows := rs) (f := f) (p := p) fun r hr => h r (List.mem_cons_of_mem _ hr)
    exact ⟨x :: xs, rfl, fun y hy => by rcases List.mem_cons.1 hy with rfl | hy; exact hx; exact hxs y hy⟩
theorem Fit.sl_inv {α : Type} (f : α → List T) (p : α → Prop) {row : List Sh} {t : T} (h : Fit (.sl row) t)
    (hrow : ∀ r : List T, r.length = row.length → (∀ (j : Nat) (s : Sh) (t : T), row[j]? = some s → r[j]? = some t → Fit s t) → ∃ x, r = f x ∧ p x) :
    ∃ xs : List α, t = .sl row.length .any (xs.map f) ∧ ∀ x ∈ xs, p x := by
  cases h with
  | sl hl h =>
    obtain ⟨xs, rfl, hx⟩ := rows_map (f := f) (p := p) (fun r hr => hrow r (hl r hr) (h r hr))
    exact ⟨xs, rfl, hx⟩
end Go.Proofs.Ythinjkjhiembgaa
/- Arguments of the histories: lists of fractions, picks, fractions, recalls. -/
namespace Go.Proofs.Ythinjkjhiembgaa
open Go.RowKit Go.ChangeShapes Go.WideShapes Go.Deep
set_option linter.unusedVariables false
set_option linter.unusedSimpArgs false
set_option maxRecDepth 100000

abbrev shInt : Sh := .int .i64
abbrev shBig : List Sh := [shInt, .sl [shInt]]
abbrev shFrac : List Sh := [shInt, .sl [shInt], shInt, .sl [shInt]]
theorem has_int : HasSh Try.prog 3 [shInt] := .int Try.underlying3
theorem has_ints : HasSh Try.prog 42 [.sl [shInt]] := .sl Try.underlying42 (by kernel_rfl) (by decide) has_int
theorem has_struct2 {P : Program} {t : TypeId} {fs : Array Field} {p0 p1 : List Sh} (h : P.underlying t = some (.struct fs)) (hl : fs.size = 2)
    (h0 : ∃ f, fs[0]? = some f ∧ f.offset = 0 ∧ P.cellsOf f.type = p0.length ∧ HasSh P f.type p0) (h1 : ∃ f, fs[1]? = some f ∧ f.offset = p0.length ∧ P.cellsOf f.type = p1.length ∧ HasSh P f.type p1)
    (hc : P.cellsOf t = p0.length + p1.length) : HasSh P t (p0 ++ p1) := by
  obtain ⟨f0, a1, a2, a3, a4⟩ := h0
  obtain ⟨f1, b1, b2, b3, b4⟩ := h1
  have := HasSh.struct (P := P) (t := t) (fs := fs) [p0, p1] h (by simp [hl]) (fun i f p hf hp => by
    match i, hp with
    | 0, hp => simp at hp; subst hp; rw [a1] at hf; injection hf with hf; subst hf; exact ⟨by simp [a2], a3⟩
    | 1, hp => simp at hp; subst hp; rw [b1] at hf; injection hf with hf; subst hf; exact ⟨by simp [b2], b3⟩
    | n + 2, hp => simp at hp) (by simp [hc]) (fun i f p hf hp => by
    match i, hp with
    | 0, hp => simp at hp; subst hp; rw [a1] at hf; injection hf with hf; subst hf; exact a4
    | 1, hp => simp at hp; subst hp; rw [b1] at hf; injection hf with hf; subst hf; exact b4
    | n + 2, hp => simp at hp)
  simpa using this
theorem has_big : HasSh Try.prog 44 shBig :=
  has_struct2 (p0 := [shInt]) (p1 := [.sl [shInt]]) Try.underlying44 (by kernel_rfl) ⟨_, rfl, rfl, by kernel_rfl, has_int⟩ ⟨_, rfl, rfl, by kernel_rfl, has_ints⟩ (by kernel_rfl)
theorem has_frac : HasSh Try.prog 46 shFrac :=
  has_struct2 (p0 := shBig) (p1 := shBig) Try.underlying46 (by kernel_rfl) ⟨_, rfl, rfl, by kernel_rfl, has_big⟩ ⟨_, rfl, rfl, by kernel_rfl, has_big⟩ (by kernel_rfl)
theorem has_fracs : HasSh Try.prog 37 [.sl shFrac] := .sl Try.underlying37 (by kernel_rfl) (by decide) has_frac
theorem has_hist : HasSh Try.prog 29 [.sl [.sl shFrac]] := .sl Try.underlying29 (by kernel_rfl) (by decide) has_fracs
theorem has_recall : HasSh Try.prog 60 [shInt, shInt] :=
  has_struct2 (p0 := [shInt]) (p1 := [shInt]) Try.underlying60 (by kernel_rfl) ⟨_, rfl, rfl, by kernel_rfl, has_int⟩ ⟨_, rfl, rfl, by kernel_rfl, has_int⟩ (by kernel_rfl)
theorem has_pick : HasSh Try.prog 63 [shInt, shInt] :=
  has_struct2 (p0 := [shInt]) (p1 := [shInt]) Try.underlying63 (by kernel_rfl) ⟨_, rfl, rfl, by kernel_rfl, has_int⟩ ⟨_, rfl, rfl, by kernel_rfl, has_int⟩ (by kernel_rfl)
theorem has_picks : HasSh Try.prog 48 [.sl [shInt, shInt]] := .sl Try.underlying48 (by kernel_rfl) (by decide) has_pick
theorem fit_ints {t : T} (h : Fit (.sl [shInt]) t) : ∃ l : List Int, t = intsT l := by
  obtain ⟨xs, rfl, _⟩ := h.sl_inv intRow (fun _ => True) (fun r hl hr => by
    match r, hl with
    | [u], _ =>
      obtain ⟨n, rfl, _⟩ := (hr 0 _ _ rfl rfl).int_inv
      exact ⟨n, rfl, trivial⟩)
  exact ⟨xs, rfl⟩
theorem fit_fracrow {r : List T} (hl : r.length = 4) (hr : ∀ (j : Nat) (s : Sh) (t : T), shFrac[j]? = some s → r[j]? = some t → Fit s t) : ∃ f : Fr, r = frRow f := by
  match r, hl with
  | [a, b, c, d], _ =>
    obtain ⟨n, rfl, _⟩ := (hr 0 _ _ rfl rfl).int_inv
    obtain ⟨l, rfl⟩ := fit_ints (hr 1 _ _ rfl rfl)
    obtain ⟨m, rfl, _⟩ := (hr 2 _ _ rfl rfl).int_inv
    obtain ⟨k, rfl⟩ := fit_ints (hr 3 _ _ rfl rfl)
    exact ⟨⟨⟨n, l⟩, ⟨m, k⟩⟩, rfl⟩
theorem fit_fracs {t : T} (h : Fit (.sl shFrac) t) : ∃ l : List Fr, t = fracsT l := by
  obtain ⟨xs, rfl, _⟩ := h.sl_inv frRow (fun _ => True) (fun r hl hr => by
    obtain ⟨f, rfl⟩ := fit_fracrow hl hr
    exact ⟨f, rfl, trivial⟩)
  exact ⟨xs, rfl⟩
theorem fit_hist {t : T} (h : Fit (.sl [.sl shFrac]) t) : ∃ l : List (List Fr), t = histT l := by
  obtain ⟨xs, rfl, _⟩ := h.sl_inv fracsRow (fun _ => True) (fun r hl hr => by
    match r, hl with
    | [u], _ =>
      obtain ⟨l, rfl⟩ := fit_fracs (hr 0 _ _ rfl rfl)
      exact ⟨l, rfl, trivial⟩)
  exact ⟨xs, rfl⟩
theorem fit_picks {t : T} (h : Fit (.sl [shInt, shInt]) t) : ∃ l : List Pick, t = picksT l := by
  obtain ⟨xs, rfl, _⟩ := h.sl_inv Pick.row (fun _ => True) (fun r hl hr => by
    match r, hl with
    | [u, v], _ =>
      obtain ⟨n, rfl, _⟩ := (hr 0 _ _ rfl rfl).int_inv
      obtain ⟨m, rfl, _⟩ := (hr 1 _ _ rfl rfl).int_inv
      exact ⟨⟨n, m⟩, rfl, trivial⟩)
  exact ⟨xs, rfl⟩
section
variable {H : Type} {enc : TypeId × Value → H} {w : World} {base : Nat} {spare : Nat → Bool} {held : Bool}
theorem open_hist {v : Value} {d : DataW H} {p : List MemPlace} {r : Reach} {b0 : Nat} (hv : Value.okWide Try.prog w r b0 29 v) (h : DataW.Trod enc Try.prog w base spare held 29 v d p) : ∃ hh, RS w (fun _ => none) (fun _ => False) (histS hh) v := by
  obtain ⟨a, len, cap, rfl⟩ := okWide_slice Try.underlying29 hv
  obtain ⟨fuel, hf⟩ := h
  obtain ⟨_, ts, h1, h2⟩ := open_sh has_hist fuel _ _ hf
  obtain ⟨u, t, e1, e2, e3, e4⟩ := h2 0 _ rfl
  obtain ⟨hh, rfl⟩ := fit_hist e4
  injection e1 with e1
  subst e1
  exact ⟨hh, .c (.t e3)⟩
theorem open_picks {v : Value} {d : DataW H} {p : List MemPlace} {r : Reach} {b0 : Nat} (hv : Value.okWide Try.prog w r b0 48 v) (h : DataW.Trod enc Try.prog w base spare held 48 v d p) : ∃ hh, RS w (fun _ => none) (fun _ => False) (picksS hh) v := by
  obtain ⟨a, len, cap, rfl⟩ := okWide_slice Try.underlying48 hv
  obtain ⟨fuel, hf⟩ := h
  obtain ⟨_, ts, h1, h2⟩ := open_sh has_picks fuel _ _ hf
  obtain ⟨u, t, e1, e2, e3, e4⟩ := h2 0 _ rfl
  obtain ⟨hh, rfl⟩ := fit_picks e4
  injection e1 with e1
  subst e1
  exact ⟨hh, .c (.t e3)⟩
theorem rs_cells {shs : List Sh} {l : List Value} (h : OpenAs w shs l) : ∃ ts : List T, ts.length = shs.length ∧ (∀ (j : Nat) (s : Sh) (t : T), shs[j]? = some s → ts[j]? = some t → Fit s t) ∧ RS w (fun _ => none) (fun _ => False) (.agg (ts.map C.t)) (.agg ⟨l⟩) := by
  obtain ⟨h0, ts, h1, h2⟩ := h
  refine ⟨ts, h1, fun j s t hs ht => ?_, ?_⟩
  · obtain ⟨u, t', e1, e2, e3, e4⟩ := h2 j s hs
    rw [ht] at e2; injection e2 with e2; subst e2; exact e4
  · refine .agg l (by simp [h0, h1]) fun j c hc => ?_
    rw [List.getElem?_map] at hc
    obtain ⟨t, ht, rfl⟩ := Option.map_eq_some_iff.1 hc
    have hj : j < shs.length := by rw [← h1]; exact (List.getElem?_eq_some_iff.1 ht).1
    obtain ⟨u, t', e1, e2, e3, e4⟩ := h2 j _ (List.getElem?_eq_getElem hj)
    rw [ht] at e2; injection e2 with e2; subst e2
    rw [List.getD_eq_getElem?_getD, e1]
    exact .t e3
theorem open_recall {v : Value} {d : DataW H} {p : List MemPlace} {r : Reach} {b0 : Nat} (hv : Value.okWide Try.prog w r b0 60 v) (h : DataW.Trod enc Try.prog w base spare held 60 v d p) : ∃ x : Recall, RS w (fun _ => none) (fun _ => False) (.agg (x.row.map .t)) v := by
  obtain ⟨⟨l⟩, rfl, _⟩ := okWide_struct Try.underlying60 hv
  obtain ⟨fuel, hf⟩ := h
  obtain ⟨ts, h1, h2, h3⟩ := rs_cells (open_sh has_recall fuel _ _ hf)
  match ts, h1 with
  | [a, b], _ =>
    obtain ⟨n, rfl, _⟩ := (h2 0 _ _ rfl rfl).int_inv
    obtain ⟨m, rfl, _⟩ := (h2 1 _ _ rfl rfl).int_inv
    exact ⟨⟨n, m⟩, h3⟩
theorem open_frac {v : Value} {d : DataW H} {p : List MemPlace} {r : Reach} {b0 : Nat} (hv : Value.okWide Try.prog w r b0 46 v) (h : DataW.Trod enc Try.prog w base spare held 46 v d p) : ∃ f : Fr, RS w (fun _ => none) (fun _ => False) (.agg ((frRow f).map .t)) v := by
  obtain ⟨⟨l⟩, rfl, _⟩ := okWide_struct Try.underlying46 hv
  obtain ⟨fuel, hf⟩ := h
  obtain ⟨ts, h1, h2, h3⟩ := rs_cells (open_sh has_frac fuel _ _ hf)
  obtain ⟨f, rfl⟩ := fit_fracrow h1 h2
  exact ⟨f, h3⟩
end
end Go.Proofs.Ythinjkjhiembgaa
namespace Go.Proofs.Ythinjkjhiembgaa
open Go.RowKit Go.ChangeShapes Go.WideShapes Go.ChangeAt

set_option maxRecDepth 100000 in
theorem historyRecalls_lifted (os : Os) (started : os.Started) (H : Type) (enc : TypeId × Value → H) :
    ReturnsInHanded {} Try.checked os 5 .any (Rows.historyRecallsSpec.pre6 enc Try.prog Try.f5 Rows.historyRecallsRow.domain false) (Rows.historyRecallsSpec.post enc Try.prog Try.f5 false true false false) := by
  refine returnsInHanded_of_change (C := Try.checked) law_own started (by kernel_rfl) Try.func5
    (ChangeSpec.witness6 (enc := enc) (C := Try.checked) false ⟨#[], #[.agg #[.int .i64 0, .int .i64 0, .int .i64 0, .slice none 0 0, .slice none 0 0, .slice none 0 0, .slice none 0 0, .slice none 0 0], .slice none 0 0, .int .u8 0, .agg #[.int .i64 0, .int .i64 0]], []⟩ 12 (by kernel_rfl) (by kernel_rfl) (by kernel_rfl) (by kernel_rfl)) ?_
  intro W base args ds gs before hval0 hW hcnd _
  have hval : ∀ (j : Nat) t v, Try.f5.params[j]? = some t → args[j]? = some v → Value.okWide Try.prog W .any base t v := hval0
  have hW' := hW
  obtain ⟨p, q, hA0, hV, rfl, hfz, hnd⟩ := hW
  have hA : DataW.TrodAll enc Try.prog W 0 (fun _ => true) true Try.f5.params.toList args.toList ds p := hA0
  rw [Try.params5] at hA hval
  obtain ⟨v0, vs0, d0, ds0, p0, q0, hargs, rfl, rfl, h0, r0⟩ := trodAll_cons hA
  obtain ⟨v1, vs1, d1, ds1, p1, q1, rfl, rfl, rfl, h1, r1⟩ := trodAll_cons r0
  obtain ⟨v2, vs2, d2, ds2, p2, q2, rfl, rfl, rfl, h2, r2⟩ := trodAll_cons r1
  obtain ⟨v3, vs3, d3, ds3, p3, q3, rfl, rfl, rfl, h3, r3⟩ := trodAll_cons r2
  obtain ⟨rfl, rfl, rfl⟩ := trodAll_nil r3
  obtain rfl : args = #[v0, v1, v2, v3] := by cases args; simp_all
  obtain ⟨rfl, rfl⟩ := trodVars_none hV
  obtain ⟨m, h, s, A1, n1, c1, A2, n2, c2, A3, n3, c3, A4, n4, c4, A5, n5, c5, e, rfl, hr, hb⟩ := open_ev (hval 0 28 v0 rfl rfl) h0
  obtain ⟨a1, t1⟩ := Go.Proofs.Ythinjkjhiembgaa.open_hist (hval 1 29 v1 rfl rfl) h1
  obtain ⟨a2, rfl, rfl, rfl, w2⟩ := open_int Try.underlying5 (hval 2 5 v2 rfl rfl) h2
  obtain ⟨a3, t3⟩ := Go.Proofs.Ythinjkjhiembgaa.open_recall (hval 3 60 v3 rfl rfl) h3
  refine (law_of_acall (a_HistoryRecalls e a1 a2 a3 (wf_rangeU w2).1 (wf_rangeU w2).2) (.cons (rs_ev hr hb) (.cons (t1) (.cons (rs_u8) (.cons (t3) (.nil)))))).mono fun ee W' ⟨he, hg⟩ => ?_
  subst he
  exact ⟨_, rfl, law_post hW' law_laid (by rw [Try.params5]; intro t ht; simp at ht; rcases ht with rfl | rfl | rfl | rfl <;> exact ⟨by kernel_rfl, of_decide_eq_true (by kernel_rfl)⟩) rfl rfl (by kernel_rfl) Try.underlying4 hg⟩

theorem historyRecalls_holds : Rows.HistoryRecallsSaid :=
  OpenClaim.holds_of_wide 5 Try.f5 rfl rfl rfl rfl rfl rfl rfl ⟨rfl, rfl, rfl, rfl, rfl⟩ rfl rfl rfl rfl rfl (by kernel_rfl) Try.func5 (by kernel_rfl)
    (of_decide_eq_true (by kernel_rfl)) (by unfold Func.isWrapper; first | (rw [if_pos (by decide +kernel)]; kernel_rfl) | (rw [if_neg (by decide +kernel)]; exact ⟨rfl, rfl⟩))
    (fun os started H enc _ => historyRecalls_lifted os started H enc)
end Go.Proofs.Ythinjkjhiembgaa
