/- the laws of evidence that are handed in together. -/
import Derived.Test.YtfieodjihaodiaaGreatRows
import Derived.Test.YtfieodjihaodiaaGreatEa6
/- An argument 'e api.Evidence' opened to its parts. -/
namespace Go.Proofs.YtfieodjihaodiaaGreat
open Go.RowKit Go.ChangeShapes Go.WideShapes Go.Deep

set_option maxRecDepth 100000
section
variable {H : Type} {enc : TypeId × Value → H} {w : World} {base : Nat} {spare : Nat → Bool} {held : Bool}
theorem dec_int {k : TypeId} (hk : Tryz.prog.underlying k = some (.int .i64)) {u : Value} (h : ∃ y n, DataW.trod enc Tryz.prog w base spare held n k [u] = some y) : ∃ a : Int, u = .int .i64 a := by
  obtain ⟨y, n, h⟩ := h
  obtain ⟨a, e, _, _⟩ := DataW.trod_int hk h
  injection e with e
  exact ⟨a, e⟩
theorem dec_bool {k : TypeId} (hk : Tryz.prog.underlying k = some .bool) {u : Value} (h : ∃ y n, DataW.trod enc Tryz.prog w base spare held n k [u] = some y) : ∃ a : Bool, u = .bool a := by
  obtain ⟨y, n, h⟩ := h
  obtain ⟨a, e, _⟩ := DataW.trod_bool hk h
  injection e with e
  exact ⟨a, e⟩

theorem open_ev {r : Reach} {b0 : Nat} {v : Value} {d : DataW H} {p : List MemPlace} (hv : Value.okWide Tryz.prog w r b0 28 v) (h : DataW.Trod enc Tryz.prog w base spare held 28 v d p) :
    ∃ m h s A1 n1 c1 A2 n2 c2 A3 n3 c3 A4 n4 c4 A5 n5 c5 e, v = .agg #[.int .i64 m, .int .i64 h, .int .i64 s, .slice A1 n1 c1, .slice A2 n2 c2, .slice A3 n3 c3, .slice A4 n4 c4, .slice A5 n5 c5] ∧ EvR w m h s A1 n1 A2 n2 A3 n3 A4 n4 A5 n5 e ∧ n1 ≤ c1 ∧ n2 ≤ c2 ∧ n3 ≤ c3 ∧ n4 ≤ c4 ∧ n5 ≤ c5 ∧ c1 ≤ maxLen ∧ c2 ≤ maxLen ∧ c3 ≤ maxLen ∧ c4 ≤ maxLen ∧ c5 ≤ maxLen := by
  obtain ⟨fs, hs, hone, hC, hty⟩ : ∃ fs : Array Field, Tryz.prog.underlying 28 = some (.struct fs) ∧ oneCellFields Tryz.prog fs = true ∧ Tryz.prog.cellsOf 28 = 8 ∧ fs.map (·.type) = #[3, 3, 3, 22, 23, 24, 25, 26] :=
    ⟨_, Tryz.underlying28, by kernel_rfl, by kernel_rfl, by kernel_rfl⟩
  obtain ⟨cs, rfl, hsz⟩ := okWide_struct hs hv
  obtain ⟨l⟩ := cs
  obtain ⟨fuel, hf⟩ := h
  obtain ⟨xs, n, _, hx, _, hlen, hg⟩ := DataW.trod_struct hs hf
  have hl8 : l.length = 8 := by simpa [hC] using hsz
  have hfs : fs.size = 8 := by have := congrArg Array.size hty; simpa using this
  have hfld : ∀ j, j < 8 → ∃ u y m, l[j]? = some u ∧ DataW.trod enc Tryz.prog w base spare held m ((#[3, 3, 3, 22, 23, 24, 25, 26] : Array TypeId).getD j 0) [u] = some y := by
    intro j hj
    have hjf : fs[j]? = some (fs[j]'(by omega)) := Array.getElem?_eq_getElem (by omega)
    obtain ⟨ho, hk⟩ := hone_of hone j _ hjf
    have h1 := hg j _ hjf
    rw [ho, hk] at h1
    have hone' : ((Value.agg ⟨l⟩).cells.toList.drop j).take 1 = [l[j]'(by omega)] := by
      show (l.drop j).take 1 = _
      rw [List.drop_eq_getElem_cons (by omega)]
      rfl
    rw [hone'] at h1
    have hxl : j < xs.length := by omega
    rw [List.getElem?_eq_getElem hxl] at h1
    have htj : (#[3, 3, 3, 22, 23, 24, 25, 26] : Array TypeId).getD j 0 = (fs[j]'(by omega)).type := by
      rw [← hty, Array.getD_eq_getD_getElem?, Array.getElem?_map, hjf]
      rfl
    rw [htj]
    exact ⟨_, _, n, List.getElem?_eq_getElem (by omega), h1⟩
  match l, hl8 with
  | [v0, v1, v2, v3, v4, v5, v6, v7], _ =>
    obtain ⟨u0, y0, m0, e0, t0⟩ := hfld 0 (by omega)
    obtain ⟨u1, y1, m1, e1, t1⟩ := hfld 1 (by omega)
    obtain ⟨u2, y2, m2, e2, t2⟩ := hfld 2 (by omega)
    obtain ⟨u3, y3, m3, e3, t3⟩ := hfld 3 (by omega)
    obtain ⟨u4, y4, m4, e4, t4⟩ := hfld 4 (by omega)
    obtain ⟨u5, y5, m5, e5, t5⟩ := hfld 5 (by omega)
    obtain ⟨u6, y6, m6, e6, t6⟩ := hfld 6 (by omega)
    obtain ⟨u7, y7, m7, e7, t7⟩ := hfld 7 (by omega)
    simp at e0 e1 e2 e3 e4 e5 e6 e7
    subst e0 e1 e2 e3 e4 e5 e6 e7
    obtain ⟨a0, rfl⟩ := dec_int Tryz.underlying3 ⟨_, _, t0⟩
    obtain ⟨a1, rfl⟩ := dec_int Tryz.underlying3 ⟨_, _, t1⟩
    obtain ⟨a2, rfl⟩ := dec_int Tryz.underlying3 ⟨_, _, t2⟩
    obtain ⟨A1, n1, c1, ps, rfl, r1, l1, g1⟩ := open_structs Place.cells Tryz.underlying22 Tryz.underlying125 (by kernel_rfl) (by kernel_rfl) (by decide)
      (fun vs hd => by
        obtain ⟨b0, h0⟩ := dec_int Tryz.underlying3 (hd 0 _ rfl)
        obtain ⟨b1, h1⟩ := dec_int Tryz.underlying3 (hd 1 _ rfl)
        obtain ⟨b2, h2⟩ := dec_int Tryz.underlying3 (hd 2 _ rfl)
        refine ⟨⟨b0, b1, b2⟩, fun j u hu => ?_⟩
        match j, hu with
        | 0, hu => exact ⟨h0.trans (by simpa [Place.cells] using hu), by decide⟩
        | 1, hu => exact ⟨h1.trans (by simpa [Place.cells] using hu), by decide⟩
        | 2, hu => exact ⟨h2.trans (by simpa [Place.cells] using hu), by decide⟩
        | n + 3, hu => simp [Place.cells] at hu) t3
    obtain ⟨A2, n2, c2, ms, rfl, r2, l2, g2⟩ := open_structs Move.cells Tryz.underlying23 Tryz.underlying74 (by kernel_rfl) (by kernel_rfl) (by decide)
      (fun vs hd => by
        obtain ⟨b0, h0⟩ := dec_int Tryz.underlying3 (hd 0 _ rfl)
        obtain ⟨b1, h1⟩ := dec_int Tryz.underlying3 (hd 1 _ rfl)
        obtain ⟨b2, h2⟩ := dec_int Tryz.underlying3 (hd 2 _ rfl)
        obtain ⟨b3, h3⟩ := dec_int Tryz.underlying3 (hd 3 _ rfl)
        obtain ⟨b4, h4⟩ := dec_int Tryz.underlying3 (hd 4 _ rfl)
        obtain ⟨b5, h5⟩ := dec_bool Tryz.underlying4 (hd 5 _ rfl)
        refine ⟨⟨b0, b1, b2, b3, b4, b5⟩, fun j u hu => ?_⟩
        match j, hu with
        | 0, hu => exact ⟨h0.trans (by simpa [Move.cells] using hu), by decide⟩
        | 1, hu => exact ⟨h1.trans (by simpa [Move.cells] using hu), by decide⟩
        | 2, hu => exact ⟨h2.trans (by simpa [Move.cells] using hu), by decide⟩
        | 3, hu => exact ⟨h3.trans (by simpa [Move.cells] using hu), by decide⟩
        | 4, hu => exact ⟨h4.trans (by simpa [Move.cells] using hu), by decide⟩
        | 5, hu => exact ⟨h5.trans (by simpa [Move.cells] using hu), by decide⟩
        | n + 6, hu => simp [Move.cells] at hu) t4
    obtain ⟨A3, n3, c3, cts, rfl, r3, l3, g3⟩ := open_structs Cert.cells Tryz.underlying24 Tryz.underlying120 (by kernel_rfl) (by kernel_rfl) (by decide)
      (fun vs hd => by
        obtain ⟨b0, h0⟩ := dec_int Tryz.underlying3 (hd 0 _ rfl)
        obtain ⟨b1, h1⟩ := dec_int Tryz.underlying3 (hd 1 _ rfl)
        obtain ⟨b2, h2⟩ := dec_int Tryz.underlying3 (hd 2 _ rfl)
        obtain ⟨b3, h3⟩ := dec_int Tryz.underlying3 (hd 3 _ rfl)
        obtain ⟨b4, h4⟩ := dec_int Tryz.underlying3 (hd 4 _ rfl)
        obtain ⟨b5, h5⟩ := dec_int Tryz.underlying3 (hd 5 _ rfl)
        refine ⟨⟨b0, b1, b2, b3, b4, b5⟩, fun j u hu => ?_⟩
        match j, hu with
        | 0, hu => exact ⟨h0.trans (by simpa [Cert.cells] using hu), by decide⟩
        | 1, hu => exact ⟨h1.trans (by simpa [Cert.cells] using hu), by decide⟩
        | 2, hu => exact ⟨h2.trans (by simpa [Cert.cells] using hu), by decide⟩
        | 3, hu => exact ⟨h3.trans (by simpa [Cert.cells] using hu), by decide⟩
        | 4, hu => exact ⟨h4.trans (by simpa [Cert.cells] using hu), by decide⟩
        | 5, hu => exact ⟨h5.trans (by simpa [Cert.cells] using hu), by decide⟩
        | n + 6, hu => simp [Cert.cells] at hu) t5
    obtain ⟨A4, n4, c4, rcs, rfl, r4, l4, g4⟩ := open_structs Recall.cells Tryz.underlying25 Tryz.underlying72 (by kernel_rfl) (by kernel_rfl) (by decide)
      (fun vs hd => by
        obtain ⟨b0, h0⟩ := dec_int Tryz.underlying3 (hd 0 _ rfl)
        obtain ⟨b1, h1⟩ := dec_int Tryz.underlying3 (hd 1 _ rfl)
        refine ⟨⟨b0, b1⟩, fun j u hu => ?_⟩
        match j, hu with
        | 0, hu => exact ⟨h0.trans (by simpa [Recall.cells] using hu), by decide⟩
        | 1, hu => exact ⟨h1.trans (by simpa [Recall.cells] using hu), by decide⟩
        | n + 2, hu => simp [Recall.cells] at hu) t6
    obtain ⟨A5, n5, c5, pus, rfl, r5, l5, g5⟩ := open_structs Purity.cells Tryz.underlying26 Tryz.underlying69 (by kernel_rfl) (by kernel_rfl) (by decide)
      (fun vs hd => by
        obtain ⟨b0, h0⟩ := dec_int Tryz.underlying3 (hd 0 _ rfl)
        obtain ⟨b1, h1⟩ := dec_int Tryz.underlying3 (hd 1 _ rfl)
        obtain ⟨b2, h2⟩ := dec_int Tryz.underlying3 (hd 2 _ rfl)
        obtain ⟨b3, h3⟩ := dec_int Tryz.underlying3 (hd 3 _ rfl)
        refine ⟨⟨b0, b1, b2, b3⟩, fun j u hu => ?_⟩
        match j, hu with
        | 0, hu => exact ⟨h0.trans (by simpa [Purity.cells] using hu), by decide⟩
        | 1, hu => exact ⟨h1.trans (by simpa [Purity.cells] using hu), by decide⟩
        | 2, hu => exact ⟨h2.trans (by simpa [Purity.cells] using hu), by decide⟩
        | 3, hu => exact ⟨h3.trans (by simpa [Purity.cells] using hu), by decide⟩
        | n + 4, hu => simp [Purity.cells] at hu) t7
    exact ⟨a0, a1, a2, A1, n1, c1, A2, n2, c2, A3, n3, c3, A4, n4, c4, A5, n5, c5, ⟨a0, a1, a2, ps, ms, cts, rcs, pus⟩, rfl, ⟨rfl, rfl, rfl, r1, r2, r3, r4, r5⟩, l1, l2, l3, l4, l5, g1, g2, g3, g4, g5⟩
end
theorem law_own : ownKnob Tryz.prog.godebug = none := by kernel_rfl
theorem law_laid : laidOutB Tryz.prog = true := by kernel_rfl
end Go.Proofs.YtfieodjihaodiaaGreat
/- From a call's contract to what a law's row asks for. -/
namespace Go.Proofs.YtfieodjihaodiaaGreat
open Go.RowKit
set_option linter.unusedVariables false
set_option linter.unusedSimpArgs false

/-- a list that is read from the outside -/
theorem rt_of_rd {α : Type} {k : Nat} {f : α → List Value} {row : α → List T} (hrow : ∀ x, row x = (f x).map T.atm) (hone : ∀ x, ∀ v ∈ f x, v.oneCell' = true) (hk : ∀ x, (f x).length = k)
    {w : World} {A : Option Addr} {n c : Nat} {xs : List α} (h : Rd k f w A n xs) (h1 : n ≤ c) (h2 : c ≤ maxLen) : RT w (fun _ => False) (.sl k .any (xs.map row)) (.slice A n c) := by
  obtain ⟨hn, hc⟩ := h
  have hlen : (xs.map row).length = n := by simp [hn]
  rw [← hlen]
  have hat : ∀ i j t, at2 (xs.map row) i j = some t → ∃ x v, xs[i]? = some x ∧ (f x)[j]? = some v ∧ t = .atm v := fun i j t ht => by
    obtain ⟨r, q1, q2⟩ := at2_inv ht
    rw [List.getElem?_map] at q1
    cases hx : xs[i]? with
    | none => rw [hx] at q1; cases q1
    | some x =>
      rw [hx] at q1
      injection q1 with q1
      subst q1
      rw [hrow, List.getElem?_map] at q2
      cases hv : (f x)[j]? with
      | none => rw [hv] at q2; cases q2
      | some v => rw [hv] at q2; injection q2 with q2; exact ⟨x, v, rfl, hv, q2.symm⟩
  rcases Nat.eq_zero_or_pos n with h0 | h0
  · have hx : xs = [] := List.eq_nil_of_length_eq_zero (by omega)
    subst hx
    exact .sl (b := 0) (off := 0) (fun _ _ => undef) (by simp) (by simp) h2 (by intro h; cases h) (by intro h; cases h) (by simp) (by simp [at2]) (by simp [at2])
  · obtain ⟨b, off, hA, hcell⟩ := hc h0
    refine .sl (b := b) (off := off) (fun i j => ((xs[i]?).bind fun x => (f x)[j]?).getD undef) ?_ (by omega) h2 (by intro h; cases h) (by intro h; cases h) (fun _ => hA) ?_ ?_
    · intro r hr
      obtain ⟨x, _, rfl⟩ := List.mem_map.1 hr
      rw [hrow, List.length_map, hk]
    · intro i j t ht
      obtain ⟨x, v, hx, hv, rfl⟩ := hat i j t ht
      exact ⟨by rw [hcell i x hx j v hv]; simp [hx, hv], fun h => h⟩
    · intro i j t ht
      obtain ⟨x, v, hx, hv, rfl⟩ := hat i j t ht
      have : ((xs[i]?).bind fun x => (f x)[j]?).getD undef = v := by simp [hx, hv]
      rw [this]
      exact .atm (hone x v (List.mem_of_getElem? hv))

theorem rs_ev {w : World} {m h s : Int} {A1 A2 A3 A4 A5 : Option Addr} {n1 n2 n3 n4 n5 c1 c2 c3 c4 c5 : Nat} {e : Ev} (hr : EvR w m h s A1 n1 A2 n2 A3 n3 A4 n4 A5 n5 e)
    (hb : n1 ≤ c1 ∧ n2 ≤ c2 ∧ n3 ≤ c3 ∧ n4 ≤ c4 ∧ n5 ≤ c5 ∧ c1 ≤ maxLen ∧ c2 ≤ maxLen ∧ c3 ≤ maxLen ∧ c4 ≤ maxLen ∧ c5 ≤ maxLen) :
    RS w (fun _ => none) (fun _ => False) (evS e) (.agg #[.int .i64 m, .int .i64 h, .int .i64 s, .slice A1 n1 c1, .slice A2 n2 c2, .slice A3 n3 c3, .slice A4 n4 c4, .slice A5 n5 c5]) := by
  obtain ⟨rfl, rfl, rfl, r1, r2, r3, r4, r5⟩ := hr
  obtain ⟨b1, b2, b3, b4, b5, d1, d2, d3, d4, d5⟩ := hb
  have t1 := rt_of_rd (k := 3) (f := Place.cells) (row := Place.row) (fun _ => rfl) (by intro x v hv; simp [Place.cells] at hv; rcases hv with rfl | rfl | rfl <;> rfl) (fun _ => rfl) r1 b1 d1
  have t2 := rt_of_rd (k := 6) (f := Move.cells) (row := Move.row) (fun _ => rfl) (by intro x v hv; simp [Move.cells] at hv; rcases hv with rfl | rfl | rfl | rfl | rfl | rfl <;> rfl) (fun _ => rfl) r2 b2 d2
  have t3 := rt_of_rd (k := 6) (f := Cert.cells) (row := Cert.row) (fun _ => rfl) (by intro x v hv; simp [Cert.cells] at hv; rcases hv with rfl | rfl | rfl | rfl | rfl | rfl <;> rfl) (fun _ => rfl) r3 b3 d3
  have t4 := rt_of_rd (k := 2) (f := Recall.cells) (row := Recall.row) (fun _ => rfl) (by intro x v hv; simp [Recall.cells] at hv; rcases hv with rfl | rfl <;> rfl) (fun _ => rfl) r4 b4 d4
  have t5 := rt_of_rd (k := 4) (f := Purity.cells) (row := Purity.row) (fun _ => rfl) (by intro x v hv; simp [Purity.cells] at hv; rcases hv with rfl | rfl | rfl | rfl <;> rfl) (fun _ => rfl) r5 b5 d5
  refine .agg [.int .i64 e.mats, .int .i64 e.hhs, .int .i64 e.scs, .slice A1 n1 c1, .slice A2 n2 c2, .slice A3 n3 c3, .slice A4 n4 c4, .slice A5 n5 c5] rfl fun j c hj => ?_
  match j, hj with
  | 0, hj => injection hj with hj; subst hj; exact .t (.atm rfl)
  | 1, hj => injection hj with hj; subst hj; exact .t (.atm rfl)
  | 2, hj => injection hj with hj; subst hj; exact .t (.atm rfl)
  | 3, hj => injection hj with hj; subst hj; exact .t t1
  | 4, hj => injection hj with hj; subst hj; exact .t t2
  | 5, hj => injection hj with hj; subst hj; exact .t t3
  | 6, hj => injection hj with hj; subst hj; exact .t t4
  | 7, hj => injection hj with hj; subst hj; exact .t t5
  | j + 8, hj => simp [evC] at hj

theorem rs_int {w : World} {n : Int} : RS w (fun _ => none) (fun _ => False) (intS .i64 n) (.int .i64 n) := RS.int

/-- arguments one by one -/
inductive RArgs (w : World) : List S → List Value → Prop
  | nil : RArgs w [] []
  | cons {s : S} {v : Value} {ss : List S} {vs : List Value} (h : RS w (fun _ => none) (fun _ => False) s v) (hs : RArgs w ss vs) : RArgs w (s :: ss) (v :: vs)
theorem RArgs.get {w : World} {ss : List S} {vs : List Value} (h : RArgs w ss vs) : vs.length = ss.length ∧ ∀ (j : Nat) (s : S), ss[j]? = some s → RS w (fun _ => none) (fun _ => False) s (vs.getD j undef) := by
  induction h with
  | nil => exact ⟨rfl, by simp⟩
  | cons h hs ih =>
    refine ⟨by simp [ih.1], fun j s hj => ?_⟩
    cases j with
    | zero => simp at hj; subst hj; exact h
    | succ j => simpa using ih.2 j s (by simpa using hj)

theorem law_of_acall {P : Program} {g : FuncId} {ss : List S} {b : Bool} (h : ACall P g ss [] (boolS b) []) {w : World} {vs : List Value} (ha : RArgs w ss vs) :
    Calls P g vs.toArray w fun e w' => e = .returned (.bool b) ∧ Below w.heap.size w w' := by
  obtain ⟨h1, h2⟩ := ha.get
  refine Calls.mono (h.2 w (fun _ => none) (fun _ => False) vs h1 h2 ⟨by simp, by simp, by simp, by simp, by simp⟩ (fun _ h => h.elim) (fun _ _ => rfl)) ?_
  rintro e w' ⟨v, rfl, ι', M', q1, q2, q3, q4, q5⟩
  rw [q1.inv_atm]
  exact ⟨rfl, q5.os, q5.tape, q5.output, q5.size, fun k hk => q5.keep k hk (by rintro ⟨id, k, _, _, hk, _⟩; simp at hk)⟩
end Go.Proofs.YtfieodjihaodiaaGreat
/- Arguments opened by the shape of their type: integers, truth values, structs and slices, however nested. -/
namespace Go.Proofs.YtfieodjihaodiaaGreat
open Go.RowKit Go.ChangeShapes Go.WideShapes Go.Deep
set_option linter.unusedVariables false

inductive Sh where
  | int (k : IntKind)
  | bool
  | sl (row : List Sh)
inductive Fit : Sh → T → Prop
  | int {k : IntKind} {n : Int} (h : (Lit.int k n).wf = true) : Fit (.int k) (.atm (.int k n))
  | bool {b : Bool} : Fit .bool (.atm (.bool b))
  | sl {row : List Sh} {rows : List (List T)} (hl : ∀ r ∈ rows, r.length = row.length) (h : ∀ r ∈ rows, ∀ (j : Nat) (s : Sh) (t : T), row[j]? = some s → r[j]? = some t → Fit s t) : Fit (.sl row) (.sl row.length .any rows)
inductive HasSh (P : Program) : TypeId → List Sh → Prop
  | int {t : TypeId} {k : IntKind} (h : P.underlying t = some (.int k)) : HasSh P t [.int k]
  | bool {t : TypeId} (h : P.underlying t = some .bool) : HasSh P t [.bool]
  | sl {t e : TypeId} {row : List Sh} (h : P.underlying t = some (.slice e)) (hc : P.cellsOf e = row.length) (hp : 0 < row.length) (he : HasSh P e row) : HasSh P t [.sl row]
  | struct {t : TypeId} {fs : Array Field} (parts : List (List Sh)) (h : P.underlying t = some (.struct fs)) (hl : parts.length = fs.size)
      (ho : ∀ (i : Nat) (f : Field) (p : List Sh), fs[i]? = some f → parts[i]? = some p → f.offset = (parts.take i).flatten.length ∧ P.cellsOf f.type = p.length)
      (hc : P.cellsOf t = parts.flatten.length)
      (he : ∀ (i : Nat) (f : Field) (p : List Sh), fs[i]? = some f → parts[i]? = some p → HasSh P f.type p) : HasSh P t parts.flatten

section
variable {H : Type} {enc : TypeId × Value → H} {P : Program} {w : World} {base : Nat} {spare : Nat → Bool} {held : Bool}
/-- cells that read as trees of these shapes -/
def OpenAs (w : World) (shs : List Sh) (cs : List Value) : Prop :=
  cs.length = shs.length ∧ ∃ ts : List T, ts.length = shs.length ∧ ∀ (j : Nat) (s : Sh), shs[j]? = some s → ∃ u t, cs[j]? = some u ∧ ts[j]? = some t ∧ RT w (fun _ => False) t u ∧ Fit s t
theorem flatten_at {α : Type} : ∀ (parts : List (List α)) (j : Nat) (x : α), parts.flatten[j]? = some x → ∃ i p k, parts[i]? = some p ∧ p[k]? = some x ∧ j = (parts.take i).flatten.length + k
  | [], j, x, h => by simp at h
  | p :: r, j, x, h => by
    rw [List.flatten_cons] at h
    by_cases hj : j < p.length
    · rw [List.getElem?_append_left hj] at h
      exact ⟨0, p, j, rfl, h, by simp⟩
    · rw [List.getElem?_append_right (by omega)] at h
      obtain ⟨i, q, k, h1, h2, h3⟩ := flatten_at r _ x h
      exact ⟨i + 1, q, k, by simpa using h1, h2, by rw [List.take_succ_cons, List.flatten_cons, List.length_append]; omega⟩
theorem lists_choose {α : Type} {p : Nat → α → Prop} : ∀ (n : Nat), (∀ i, i < n → ∃ x, p i x) → ∃ xs : List α, xs.length = n ∧ ∀ i x, xs[i]? = some x → p i x
  | 0, _ => ⟨[], rfl, by simp⟩
  | n + 1, h => by
    obtain ⟨xs, h1, h2⟩ := lists_choose n fun i hi => h i (by omega)
    obtain ⟨x, hx⟩ := h n (by omega)
    refine ⟨xs ++ [x], by simp [h1], fun i y hy => ?_⟩
    by_cases hi : i < xs.length
    · rw [List.getElem?_append_left hi] at hy; exact h2 i y hy
    · rw [List.getElem?_append_right (by omega)] at hy
      have : i = n := by
        have := (List.getElem?_eq_some_iff.1 hy).1
        simp at this; omega
      subst this
      rw [h1] at hy
      simp at hy
      subst hy
      exact hx
theorem open_sh {t : TypeId} {shs : List Sh} (h : HasSh P t shs) : ∀ (n : Nat) (cs : List Value) (x : DataW H × List MemPlace), DataW.trod enc P w base spare held n t cs = some x → OpenAs w shs cs := by
  induction h with
  | int h =>
    intro n cs x hx
    obtain ⟨a, rfl, _, hw⟩ := DataW.trod_int h hx
    exact ⟨rfl, [.atm (.int _ a)], rfl, fun j s hj => by
      match j, hj with
      | 0, hj => simp at hj; subst hj; exact ⟨_, _, rfl, rfl, .atm rfl, .int hw⟩⟩
  | bool h =>
    intro n cs x hx
    obtain ⟨a, rfl, _⟩ := DataW.trod_bool h hx
    exact ⟨rfl, [.atm (.bool a)], rfl, fun j s hj => by
      match j, hj with
      | 0, hj => simp at hj; subst hj; exact ⟨_, _, rfl, rfl, .atm rfl, .bool⟩⟩
  | @sl t e row h hc hp he ih =>
    intro n cs x hx
    have key : ∀ (rows : List (List T)) (u : Value), cs = [u] → RT w (fun _ => False) (.sl row.length .any rows) u → (∀ r ∈ rows, r.length = row.length) → (∀ r ∈ rows, ∀ (j : Nat) (s : Sh) (t : T), row[j]? = some s → r[j]? = some t → Fit s t) → OpenAs w [.sl row] cs := by
      rintro rows u rfl hu h1 h2
      exact ⟨rfl, [.sl row.length .any rows], rfl, fun j s hj => by
        match j, hj with
        | 0, hj => simp at hj; subst hj; exact ⟨_, _, rfl, rfl, hu, .sl h1 h2⟩⟩
    rcases open_slice h hx with ⟨h0, _⟩ | ⟨a, len, cap, m, n, D, Pl, hcs, hb, hl, hm, hmm, hx, hi⟩
    · exact key [] _ h0 (.sl (b := 0) (off := 0) (fun _ _ => undef) (by simp) (by simp) (by unfold maxLen; omega) (by intro h; cases h) (by intro h; cases h) (by simp) (by simp [at2]) (by simp [at2])) (by simp) (by simp)
    · by_cases hz : len = 0
      · subst hz
        exact key [] _ hcs (.sl (b := 0) (off := 0) (fun _ _ => undef) (by simp) (by simp) hm (by intro h; cases h) (by intro h; cases h) (by simp) (by simp [at2]) (by simp [at2])) (by simp) (by simp)
      have hlm : len ≤ m := by rw [hmm]; split <;> omega
      have each : ∀ i, i < len → ∃ cs' : List Value, (∀ j, j < row.length → w.cell? (a.add (i * row.length + j)) = cs'[j]?) ∧ OpenAs w row cs' := by
        intro i hil
        obtain ⟨cs', hc', ht'⟩ := hi i (by omega)
        rw [hc] at hc'
        obtain ⟨_, hcl, hat⟩ := World.cells?_some hc'
        exact ⟨cs', fun j hj => by rw [← Go.Deep.add_add]; exact hat j hj, ih n cs' _ ht'⟩
      obtain ⟨css, hcl, hcs2⟩ := lists_choose len each
      obtain ⟨rows, hrl, hrows⟩ := lists_choose (α := List T) (p := fun i ts => ts.length = row.length ∧ ∀ (j : Nat) (s : Sh), row[j]? = some s → ∃ u t, (css.getD i [])[j]? = some u ∧ ts[j]? = some t ∧ RT w (fun _ => False) t u ∧ Fit s t) len (fun i hi => by
        have hg : css[i]? = some (css[i]'(by omega)) := List.getElem?_eq_getElem (by omega)
        obtain ⟨_, _, ts, h1, h2⟩ := hcs2 i _ hg
        refine ⟨ts, h1, ?_⟩
        rw [List.getD_eq_getElem?_getD, hg]
        exact h2)
      have hcell : ∀ i j, i < len → j < row.length → w.cell? (a.add (i * row.length + j)) = some ((css.getD i []).getD j undef) := by
        intro i j hi hj
        have hg : css[i]? = some (css[i]'(by omega)) := List.getElem?_eq_getElem (by omega)
        obtain ⟨h1, h2, _⟩ := hcs2 i _ hg
        rw [h1 j hj]
        have hgd : css.getD i [] = css[i]'(by omega) := by rw [List.getD_eq_getElem?_getD, hg]; rfl
        rw [hgd, List.getD_eq_getElem?_getD, List.getElem?_eq_getElem (by omega)]; rfl
      have hspot : a.spot = none := by
        have := World.cell?_spot (hcell 0 0 (by omega) hp)
        simpa [Addr.add] using this
      obtain ⟨b, off, sp⟩ := a
      simp only at hspot
      subst hspot
      have hadd : ∀ k, (⟨b, off, none⟩ : Addr).add k = ⟨b, off + k, none⟩ := by
        intro k
        unfold Addr.add
        split
        · subst_vars; rfl
        · rfl
      have hat : ∀ i j c, at2 rows i j = some c → i < len ∧ j < row.length ∧ ∃ r s, rows[i]? = some r ∧ r[j]? = some c ∧ row[j]? = some s := by
        intro i j c hc
        obtain ⟨r, q1, q2⟩ := at2_inv hc
        have hil : i < len := by rw [← hrl]; exact (List.getElem?_eq_some_iff.1 q1).1
        have hjl : j < row.length := by rw [← (hrows i r q1).1]; exact (List.getElem?_eq_some_iff.1 q2).1
        exact ⟨hil, hjl, r, _, q1, q2, List.getElem?_eq_getElem hjl⟩
      refine key rows (.slice (some ⟨b, off, none⟩) len cap) hcs ?_ ?_ ?_
      · rw [← hrl]
        refine .sl (b := b) (off := off) (fun i j => (css.getD i []).getD j undef) ?_ (by omega) hm (by intro h; cases h) (by intro h; cases h) (fun _ => rfl) ?_ ?_
        · intro r hr
          obtain ⟨i, hi⟩ := List.mem_iff_getElem?.1 hr
          exact (hrows i r hi).1
        · intro i j c hc
          obtain ⟨hil, hjl, _⟩ := hat i j c hc
          have := hcell i j hil hjl
          rw [hadd] at this
          exact ⟨this, fun h => h⟩
        · intro i j c hc
          obtain ⟨hil, hjl, r, s, q1, q2, q3⟩ := hat i j c hc
          obtain ⟨u, t, h1, h2, h3, h4⟩ := (hrows i r q1).2 j s q3
          rw [q2] at h2
          injection h2 with h2
          subst h2
          rw [List.getD_eq_getElem?_getD (l := css.getD i []), h1]
          exact h3
      · intro r hr
        obtain ⟨i, hi⟩ := List.mem_iff_getElem?.1 hr
        exact (hrows i r hi).1
      · intro r hr j s t hs ht
        obtain ⟨i, hi⟩ := List.mem_iff_getElem?.1 hr
        obtain ⟨u, t', h1, h2, h3, h4⟩ := (hrows i r hi).2 j s hs
        rw [ht] at h2
        injection h2 with h2
        subst h2
        exact h4
  | @struct t fs parts h hl ho hc he ih =>
    intro n cs x hx
    obtain ⟨xs, n', hn', hy, hlen, hyl, hf⟩ := DataW.trod_struct h hx
    have hlen' : cs.length = parts.flatten.length := by rw [hlen, hc]
    have each : ∀ j, j < parts.flatten.length → ∃ t, ∀ s, parts.flatten[j]? = some s → ∃ u, cs[j]? = some u ∧ RT w (fun _ => False) t u ∧ Fit s t := by
      intro j hj
      obtain ⟨i, p, k, q1, q2, q3⟩ := flatten_at parts j _ (List.getElem?_eq_getElem hj)
      have hi : i < fs.size := by rw [← hl]; exact (List.getElem?_eq_some_iff.1 q1).1
      have hfi : fs[i]? = some fs[i] := Array.getElem?_eq_getElem hi
      obtain ⟨o1, o2⟩ := ho i _ p hfi q1
      have h1 := hf i _ hfi
      have hxi : xs[i]? = some (xs[i]'(by omega)) := List.getElem?_eq_getElem (by omega)
      obtain ⟨r1, ts, r2, r3⟩ := ih i _ p hfi q1 n' _ _ (h1.trans hxi)
      obtain ⟨u, t, e1, e2, e3, e4⟩ := r3 k _ q2
      refine ⟨t, fun s hs => ⟨u, ?_, e3, ?_⟩⟩
      · have hk : k < p.length := (List.getElem?_eq_some_iff.1 q2).1
        rw [List.getElem?_take, o2, if_pos hk, List.getElem?_drop, o1, ← q3] at e1
        exact e1
      · rw [List.getElem?_eq_getElem hj] at hs
        injection hs with hs
        rw [← hs]; exact e4
    obtain ⟨ts, t1, t2⟩ := lists_choose parts.flatten.length each
    refine ⟨hlen', ts, t1, fun j s hj => ?_⟩
    have hjl := (List.getElem?_eq_some_iff.1 hj).1
    have htj : ts[j]? = some (ts[j]'(by omega)) := List.getElem?_eq_getElem (by omega)
    obtain ⟨u, h1, h2, h3⟩ := t2 j _ htj s hj
    exact ⟨u, _, h1, htj, h2, h3⟩
end
theorem Fit.int_inv {k : IntKind} {t : T} (h : Fit (.int k) t) : ∃ n, t = .atm (.int k n) ∧ (Lit.int k n).wf = true := by cases h with | int h => exact ⟨_, rfl, h⟩
/-- rows that are each the row of something -/
theorem rows_map {α : Type} {f : α → List T} {p : α → Prop} : ∀ {rows : List (List T)}, (∀ r ∈ rows, ∃ x, r = f x ∧ p x) → ∃ xs : List α, rows = xs.map f ∧ ∀ x ∈ xs, p x
  | [], _ => ⟨[], rfl, by simp⟩
  | r :: rs, h => by
    obtain ⟨x, rfl, hx⟩ := h r (by simp)
    obtain ⟨xs, rfl, hxs⟩ := rows_map (rows := rs) (f := f) (p := p) fun r hr => h r (List.mem_cons_of_mem _ hr)
    exact ⟨x :: xs, rfl, fun y hy => by rcases List.mem_cons.1 hy with rfl | hy; exact hx; exact hxs y hy⟩
theorem Fit.sl_inv {α : Type} (f : α → List T) (p : α → Prop) {row : List Sh} {t : T} (h : Fit (.sl row) t)
    (hrow : ∀ r : List T, r.length = row.length → (∀ (j : Nat) (s : Sh) (t : T), row[j]? = some s → r[j]? = some t → Fit s t) → ∃ x, r = f x ∧ p x) :
    ∃ xs : List α, t = .sl row.length .any (xs.map f) ∧ ∀ x ∈ xs, p x := by
  cases h with
  | sl hl h =>
    obtain ⟨xs, rfl, hx⟩ := rows_map (f := f) (p := p) (fun r hr => hrow r (hl r hr) (h r hr))
    exact ⟨xs, rfl, hx⟩
end Go.Proofs.YtfieodjihaodiaaGreat
/- Arguments of the histories: lists of fractions, picks, fractions, recalls. -/
namespace Go.Proofs.YtfieodjihaodiaaGreat
open Go.RowKit Go.ChangeShapes Go.WideShapes Go.Deep
set_option linter.unusedVariables false
set_option linter.unusedSimpArgs false
set_option maxRecDepth 100000

abbrev shInt : Sh := .int .i64
abbrev shBig : List Sh := [shInt, .sl [shInt]]
abbrev shFrac : List Sh := [shInt, .sl [shInt], shInt, .sl [shInt]]
theorem has_int : HasSh Tryz.prog 3 [shInt] := .int Tryz.underlying3
theorem has_ints : HasSh Tryz.prog 59 [.sl [shInt]] := .sl Tryz.underlying59 (by kernel_rfl) (by decide) has_int
theorem has_struct2 {P : Program} {t : TypeId} {fs : Array Field} {p0 p1 : List Sh} (h : P.underlying t = some (.struct fs)) (hl : fs.size = 2)
    (h0 : ∃ f, fs[0]? = some f ∧ f.offset = 0 ∧ P.cellsOf f.type = p0.length ∧ HasSh P f.type p0) (h1 : ∃ f, fs[1]? = some f ∧ f.offset = p0.length ∧ P.cellsOf f.type = p1.length ∧ HasSh P f.type p1)
    (hc : P.cellsOf t = p0.length + p1.length) : HasSh P t (p0 ++ p1) := by
  obtain ⟨f0, a1, a2, a3, a4⟩ := h0
  obtain ⟨f1, b1, b2, b3, b4⟩ := h1
  have := HasSh.struct (P := P) (t := t) (fs := fs) [p0, p1] h (by simp [hl]) (fun i f p hf hp => by
    match i, hp with
    | 0, hp => simp at hp; subst hp; rw [a1] at hf; injection hf with hf; subst hf; exact ⟨by simp [a2], a3⟩
    | 1, hp => simp at hp; subst hp; rw [b1] at hf; injection hf with hf; subst hf; exact ⟨by simp [b2], b3⟩
    | n + 2, hp => simp at hp) (by simp [hc]) (fun i f p hf hp => by
    match i, hp with
    | 0, hp => simp at hp; subst hp; rw [a1] at hf; injection hf with hf; subst hf; exact a4
    | 1, hp => simp at hp; subst hp; rw [b1] at hf; injection hf with hf; subst hf; exact b4
    | n + 2, hp => simp at hp)
  simpa using this
theorem has_big : HasSh Tryz.prog 61 shBig :=
  has_struct2 (p0 := [shInt]) (p1 := [.sl [shInt]]) Tryz.underlying61 (by kernel_rfl) ⟨_, rfl, rfl, by kernel_rfl, has_int⟩ ⟨_, rfl, rfl, by kernel_rfl, has_ints⟩ (by kernel_rfl)
theorem has_frac : HasSh Tryz.prog 63 shFrac :=
  has_struct2 (p0 := shBig) (p1 := shBig) Tryz.underlying63 (by kernel_rfl) ⟨_, rfl, rfl, by kernel_rfl, has_big⟩ ⟨_, rfl, rfl, by kernel_rfl, has_big⟩ (by kernel_rfl)
theorem has_fracs : HasSh Tryz.prog 30 [.sl shFrac] := .sl Tryz.underlying30 (by kernel_rfl) (by decide) has_frac
theorem has_hist : HasSh Tryz.prog 29 [.sl [.sl shFrac]] := .sl Tryz.underlying29 (by kernel_rfl) (by decide) has_fracs
theorem fit_ints {t : T} (h : Fit (.sl [shInt]) t) : ∃ l : List Int, t = intsT l := by
  obtain ⟨xs, rfl, _⟩ := h.sl_inv intRow (fun _ => True) (fun r hl hr => by
    match r, hl with
    | [u], _ =>
      obtain ⟨n, rfl, _⟩ := (hr 0 _ _ rfl rfl).int_inv
      exact ⟨n, rfl, trivial⟩)
  exact ⟨xs, rfl⟩
theorem fit_fracrow {r : List T} (hl : r.length = 4) (hr : ∀ (j : Nat) (s : Sh) (t : T), shFrac[j]? = some s → r[j]? = some t → Fit s t) : ∃ f : Fr, r = frRow f := by
  match r, hl with
  | [a, b, c, d], _ =>
    obtain ⟨n, rfl, _⟩ := (hr 0 _ _ rfl rfl).int_inv
    obtain ⟨l, rfl⟩ := fit_ints (hr 1 _ _ rfl rfl)
    obtain ⟨m, rfl, _⟩ := (hr 2 _ _ rfl rfl).int_inv
    obtain ⟨k, rfl⟩ := fit_ints (hr 3 _ _ rfl rfl)
    exact ⟨⟨⟨n, l⟩, ⟨m, k⟩⟩, rfl⟩
theorem fit_fracs {t : T} (h : Fit (.sl shFrac) t) : ∃ l : List Fr, t = fracsT l := by
  obtain ⟨xs, rfl, _⟩ := h.sl_inv frRow (fun _ => True) (fun r hl hr => by
    obtain ⟨f, rfl⟩ := fit_fracrow hl hr
    exact ⟨f, rfl, trivial⟩)
  exact ⟨xs, rfl⟩
theorem fit_hist {t : T} (h : Fit (.sl [.sl shFrac]) t) : ∃ l : List (List Fr), t = histT l := by
  obtain ⟨xs, rfl, _⟩ := h.sl_inv fracsRow (fun _ => True) (fun r hl hr => by
    match r, hl with
    | [u], _ =>
      obtain ⟨l, rfl⟩ := fit_fracs (hr 0 _ _ rfl rfl)
      exact ⟨l, rfl, trivial⟩)
  exact ⟨xs, rfl⟩
section
variable {H : Type} {enc : TypeId × Value → H} {w : World} {base : Nat} {spare : Nat → Bool} {held : Bool}
theorem open_hist {v : Value} {d : DataW H} {p : List MemPlace} {r : Reach} {b0 : Nat} (hv : Value.okWide Tryz.prog w r b0 29 v) (h : DataW.Trod enc Tryz.prog w base spare held 29 v d p) : ∃ hh, RS w (fun _ => none) (fun _ => False) (histS hh) v := by
  obtain ⟨a, len, cap, rfl⟩ := okWide_slice Tryz.underlying29 hv
  obtain ⟨fuel, hf⟩ := h
  obtain ⟨_, ts, h1, h2⟩ := open_sh has_hist fuel _ _ hf
  obtain ⟨u, t, e1, e2, e3, e4⟩ := h2 0 _ rfl
  obtain ⟨hh, rfl⟩ := fit_hist e4
  injection e1 with e1
  subst e1
  exact ⟨hh, .c (.t e3)⟩
end
end Go.Proofs.YtfieodjihaodiaaGreat
/- EvidenceSolves: at every input the law returns true, and its arguments read as before. Conditions: none. -/
namespace Go.Proofs.YtfieodjihaodiaaGreat
open Go.RowKit Go.ChangeShapes Go.WideShapes Go.ChangeAt

set_option maxRecDepth 100000 in
theorem evidenceSolves_lifted (os : Os) (started : os.Started) (H : Type) (enc : TypeId × Value → H) :
    ReturnsInHanded {} Tryz.checked os 4 .any (Rows.evidenceSolvesSpec.pre6 enc Tryz.prog Tryz.f4 Rows.evidenceSolvesRow.domain false) (Rows.evidenceSolvesSpec.post enc Tryz.prog Tryz.f4 false true false false) := by
  refine returnsInHanded_of_change (C := Tryz.checked) law_own started (by kernel_rfl) Tryz.func4
    (ChangeSpec.witness6 (enc := enc) (C := Tryz.checked) false ⟨#[], #[.agg #[.int .i64 0, .int .i64 0, .int .i64 0, .slice none 0 0, .slice none 0 0, .slice none 0 0, .slice none 0 0, .slice none 0 0], .slice none 0 0], []⟩ 12 (by kernel_rfl) (by kernel_rfl) (by kernel_rfl) (by kernel_rfl)) ?_
  intro W base args ds gs before hval0 hW hcnd _
  have hval : ∀ (j : Nat) t v, Tryz.f4.params[j]? = some t → args[j]? = some v → Value.okWide Tryz.prog W .any base t v := hval0
  have hW' := hW
  obtain ⟨p, q, hA0, hV, rfl, hfz, hnd⟩ := hW
  have hA : DataW.TrodAll enc Tryz.prog W 0 (fun _ => true) true Tryz.f4.params.toList args.toList ds p := hA0
  rw [Tryz.params4] at hA hval
  obtain ⟨v0, vs0, d0, ds0, p0, q0, hargs, rfl, rfl, h0, r0⟩ := trodAll_cons hA
  obtain ⟨v1, vs1, d1, ds1, p1, q1, rfl, rfl, rfl, h1, r1⟩ := trodAll_cons r0
  obtain ⟨rfl, rfl, rfl⟩ := trodAll_nil r1
  obtain rfl : args = #[v0, v1] := by cases args; simp_all
  obtain ⟨rfl, rfl⟩ := trodVars_none hV
  obtain ⟨m, h, s, A1, n1, c1, A2, n2, c2, A3, n3, c3, A4, n4, c4, A5, n5, c5, e, rfl, hr, hb⟩ := open_ev (hval 0 28 v0 rfl rfl) h0
  obtain ⟨a1, t1⟩ := Go.Proofs.YtfieodjihaodiaaGreat.open_hist (hval 1 29 v1 rfl rfl) h1
  refine (law_of_acall (a_EvidenceSolves e a1) (.cons (rs_ev hr hb) (.cons (t1) (.nil)))).mono fun ee W' ⟨he, hg⟩ => ?_
  subst he
  exact ⟨_, rfl, law_post hW' law_laid (by rw [Tryz.params4]; intro t ht; simp at ht; rcases ht with rfl | rfl <;> exact ⟨by kernel_rfl, of_decide_eq_true (by kernel_rfl)⟩) rfl rfl (by kernel_rfl) Tryz.underlying4 hg⟩

theorem evidenceSolves_holds : Rows.EvidenceSolvesSaid :=
  OpenClaim.holds_of_wide 4 Tryz.f4 rfl rfl rfl rfl rfl rfl rfl ⟨rfl, rfl, rfl, rfl, rfl⟩ rfl rfl rfl rfl rfl (by kernel_rfl) Tryz.func4 (by kernel_rfl)
    (of_decide_eq_true (by kernel_rfl)) (by unfold Func.isWrapper; first | (rw [if_pos (by decide +kernel)]; kernel_rfl) | (rw [if_neg (by decide +kernel)]; exact ⟨rfl, rfl⟩))
    (fun os started H enc _ => evidenceSolves_lifted os started H enc)
end Go.Proofs.YtfieodjihaodiaaGreat
/- chunks and their concatenation. -/
namespace Go.Proofs.YtfieodjihaodiaaGreat
open Go.RowKit
set_option linter.unusedVariables false
set_option linter.unusedSimpArgs false

theorem chunks_succ (c N : Nat) (x : List Fr) : chunks c (N + 1) x = x.take c :: chunks c N (x.drop c) := by
  unfold chunks
  rw [List.range_succ_eq_map, List.map_cons, List.map_map, Nat.zero_mul, List.drop_zero]
  congr 1
  refine List.map_congr_left fun i _ => ?_
  show ((x.drop ((i + 1) * c)).take c) = _
  rw [List.drop_drop, Nat.succ_mul, Nat.add_comm c (i * c)]
theorem chunks_flat {c : Nat} : ∀ {N : Nat} {x : List Fr}, x.length = N * c → (chunks c N x).flatten = x
  | 0, x, h => by
    have : x = [] := List.eq_nil_of_length_eq_zero (by omega)
    subst this; rfl
  | N + 1, x, h => by
    rw [chunks_succ, List.flatten_cons, chunks_flat (by rw [List.length_drop, h, Nat.succ_mul]; omega), List.take_append_drop]
theorem flat_chunks {c : Nat} : ∀ {hh : List (List Fr)}, (∀ l ∈ hh, l.length = c) → chunks c hh.length hh.flatten = hh
  | [], _ => rfl
  | l :: hh, h => by
    have hl := h l List.mem_cons_self
    have ih := flat_chunks (hh := hh) fun r hr => h r (List.mem_cons_of_mem _ hr)
    rw [List.length_cons, chunks_succ, List.flatten_cons, List.take_append_of_le_length (by omega), List.take_of_length_le (by omega), List.drop_append_of_le_length (by omega), List.drop_eq_nil_of_le (by omega), List.nil_append, ih]
theorem chunks_wid {c N : Nat} {x : List Fr} (h : x.length = N * c) : ∀ l ∈ chunks c N x, l.length = c := by
  intro l hl
  obtain ⟨i, hi, rfl⟩ := List.mem_map.1 (show l ∈ (List.range N).map _ from hl)
  exact chunk_len h (List.mem_range.1 hi)
theorem chunks_shape {e : Ev} {x : List Fr} (h0 : 0 ≤ e.mats) (h : x.length = e.moves.length * e.mats.toNat) : shapeL e (chunks e.mats.toNat e.moves.length x) = true := by
  unfold shapeL
  simp only [Bool.and_eq_true, decide_eq_true_eq, List.all_eq_true]
  exact ⟨chunks_len _ _ _, fun l hl => by have := chunks_wid h l hl; omega⟩
theorem len_cast {n m : Nat} {c : Int} (h0 : 0 ≤ c) (h : (n : Int) = (m : Int) * c) : n = m * c.toNat := by
  obtain ⟨k, rfl⟩ := Int.eq_ofNat_of_zero_le h0
  rw [Int.toNat_natCast]
  exact_mod_cast h
theorem len_cast' {n m : Nat} {c : Int} (h0 : 0 ≤ c) (h : n = m * c.toNat) : (n : Int) = (m : Int) * c := by
  obtain ⟨k, rfl⟩ := Int.eq_ofNat_of_zero_le h0
  rw [Int.toNat_natCast] at h
  exact_mod_cast h
/-- the masses of a point, and their point -/
theorem back_point {e : Ev} {x : List Fr} (hc : check e = 0) (h0 : 0 ≤ e.mats) (h : (x.length : Int) = (e.moves.length : Int) * e.mats) : histR e x = chunks e.mats.toNat e.moves.length x ∧ (histR e x).length = e.moves.length ∧ pointR e (histR e x) = x := by
  have hx := len_cast h0 h
  have e1 : histR e x = chunks e.mats.toNat e.moves.length x := by
    unfold histR; rw [if_neg (by omega)]
  rw [e1]
  refine ⟨rfl, chunks_len _ _ _, ?_⟩
  rw [shapeL_point hc (chunks_shape h0 hx), chunks_flat hx]
theorem back_hist {e : Ev} {hh : List (List Fr)} (hc : check e = 0) (h0 : 0 ≤ e.mats) (h : shapeL e hh = true) : histR e (pointR e hh) = hh := by
  have e1 := shapeL_point hc h
  unfold shapeL at h
  simp only [Bool.and_eq_true, decide_eq_true_eq, List.all_eq_true] at h
  have hw : ∀ l ∈ hh, l.length = e.mats.toNat := fun l hl => by have := h.2 l hl; omega
  have hlen := flat_len hw
  rw [h.1] at hlen
  have hl2 := len_cast' h0 hlen
  rw [e1]
  unfold histR
  rw [if_neg (by omega)]
  have := flat_chunks hw
  rw [h.1] at this
  exact this
theorem point_none {e : Ev} {hh : List (List Fr)} (h : shapeL e hh = false) : pointR e hh = [] := by
  unfold pointR
  by_cases h1 : check e ≠ 0 ∨ hh.length ≠ e.moves.length ∨ hh.any (fun l => decide ((l.length : Int) ≠ e.mats)) = true
  · rw [if_pos h1]
  · exfalso
    have : shapeL e hh = true := by
      unfold shapeL
      simp only [Bool.and_eq_true, decide_eq_true_eq, List.all_eq_true]
      refine ⟨Decidable.not_not.1 fun h => h1 (.inr (.inl h)), fun l hl => Decidable.not_not.1 fun hn => h1 (.inr (.inr (List.any_eq_true.2 ⟨l, hl, by simpa using hn⟩)))⟩
    rw [this] at h; cases h
end Go.Proofs.YtfieodjihaodiaaGreat
/- EvidenceBack: its walk. -/
namespace Go.Proofs.YtfieodjihaodiaaGreat
open Go.RowKit
set_option linter.unusedVariables false
set_option linter.unusedSimpArgs false
set_option maxRecDepth 100000

set_option maxHeartbeats 8000000 in
theorem a_EvidenceBack (e : Ev) (hh : List (List Fr)) (x : List Fr) : ACall Tryz.prog 5 [evS e, histS hh, fracsS x] [] (boolS true) [] := by
  have sa := a_sane16
  have f1 := a_Few16 e 8
  have f2 := a_FewMasses hh 10 (by decide)
  have f3 := a_FewPoint x 60 3 (by decide)
  have m0 : (e.moves.map Move.row).length = e.moves.length := by simp
  have m1 : (hh.map fracsRow).length = hh.length := by simp
  have m2 : (x.map frRow).length = x.length := by simp
  cases h1 : few16 e 8 with
  | false =>
    rw [h1] at f1
    (refine acall_of tab_ok Tryz.func5 rfl (by decide) ?_; (conv => whnf); repeat (first | (refine LitB.data ?_; conv => whnf) | (refine BoxB.data ?_; conv => whnf)))
    (repeat' (first | ((refine DecB.mk (fun h => ?_) (fun h => ?_)) <;> first | (exfalso; omega) | (conv => whnf)) | ((refine BoolB.mk (fun h => ?_) (fun h => ?_)) <;> first | (exact absurd h (by decide)) | (conv => whnf)) | ((first | refine ⟨_, wrap_ok (by omega) (by omega), ?_⟩ | refine and_idx (by omega) (by omega) ?_ | refine reg_ok (by decide +kernel) ?_ | refine bar_ok (by decide +kernel) (by decide +kernel) ?_ | refine late_ok rfl rfl ?_ | refine src_ok rfl ?_ | refine .inl ⟨_, _, qcall_pure (sa) rfl rfl, ?_⟩ | refine .inl ⟨_, _, qcall_pure (f1) rfl rfl, ?_⟩ | refine LitB.data ?_ | refine BoxB.own ?_); conv => whnf)))
    all_goals first
      | (exfalso; omega)
      | exact fin_bool rfl
  | true =>
  rw [h1] at f1
  cases h2 : massesB hh 10 with
  | false =>
    rw [h2] at f2
    (refine acall_of tab_ok Tryz.func5 rfl (by decide) ?_; (conv => whnf); repeat (first | (refine LitB.data ?_; conv => whnf) | (refine BoxB.data ?_; conv => whnf)))
    (repeat' (first | ((refine DecB.mk (fun h => ?_) (fun h => ?_)) <;> first | (exfalso; omega) | (conv => whnf)) | ((refine BoolB.mk (fun h => ?_) (fun h => ?_)) <;> first | (exact absurd h (by decide)) | (conv => whnf)) | ((first | refine ⟨_, wrap_ok (by omega) (by omega), ?_⟩ | refine and_idx (by omega) (by omega) ?_ | refine reg_ok (by decide +kernel) ?_ | refine bar_ok (by decide +kernel) (by decide +kernel) ?_ | refine late_ok rfl rfl ?_ | refine src_ok rfl ?_ | refine .inl ⟨_, _, qcall_pure (sa) rfl rfl, ?_⟩ | refine .inl ⟨_, _, qcall_pure (f1) rfl rfl, ?_⟩ | refine .inl ⟨_, _, qcall_pure (f2) rfl rfl, ?_⟩ | refine LitB.data ?_ | refine BoxB.own ?_); conv => whnf)))
    all_goals first
      | (exfalso; omega)
      | exact fin_bool rfl
  | true =>
  rw [h2] at f2
  cases h2x : pointB x 60 3 with
  | false =>
    rw [h2x] at f3
    (refine acall_of tab_ok Tryz.func5 rfl (by decide) ?_; (conv => whnf); repeat (first | (refine LitB.data ?_; conv => whnf) | (refine BoxB.data ?_; conv => whnf)))
    (repeat' (first | ((refine DecB.mk (fun h => ?_) (fun h => ?_)) <;> first | (exfalso; omega) | (conv => whnf)) | ((refine BoolB.mk (fun h => ?_) (fun h => ?_)) <;> first | (exact absurd h (by decide)) | (conv => whnf)) | ((first | refine ⟨_, wrap_ok (by omega) (by omega), ?_⟩ | refine and_idx (by omega) (by omega) ?_ | refine reg_ok (by decide +kernel) ?_ | refine bar_ok (by decide +kernel) (by decide +kernel) ?_ | refine late_ok rfl rfl ?_ | refine src_ok rfl ?_ | refine .inl ⟨_, _, qcall_pure (sa) rfl rfl, ?_⟩ | refine .inl ⟨_, _, qcall_pure (f1) rfl rfl, ?_⟩ | refine .inl ⟨_, _, qcall_pure (f2) rfl rfl, ?_⟩ | refine .inl ⟨_, _, qcall_pure (f3) rfl rfl, ?_⟩ | refine LitB.data ?_ | refine BoxB.own ?_); conv => whnf)))
    all_goals first
      | (exfalso; omega)
      | exact fin_bool rfl
  | true =>
  rw [h2x] at f3
  have hs := few16_sized h1
  have ck := a_Check e hs
  by_cases h3 : ¬ check e = 0
  · (refine acall_of tab_ok Tryz.func5 rfl (by decide) ?_; (conv => whnf); repeat (first | (refine LitB.data ?_; conv => whnf) | (refine BoxB.data ?_; conv => whnf)))
    (repeat' (first | ((refine DecB.mk (fun h => ?_) (fun h => ?_)) <;> first | (exfalso; omega) | (conv => whnf)) | ((refine BoolB.mk (fun h => ?_) (fun h => ?_)) <;> first | (exact absurd h (by decide)) | (conv => whnf)) | ((first | refine ⟨_, wrap_ok (by omega) (by omega), ?_⟩ | refine and_idx (by omega) (by omega) ?_ | refine reg_ok (by decide +kernel) ?_ | refine bar_ok (by decide +kernel) (by decide +kernel) ?_ | refine late_ok rfl rfl ?_ | refine src_ok rfl ?_ | refine .inl ⟨_, _, qcall_pure (sa) rfl rfl, ?_⟩ | refine .inl ⟨_, _, qcall_pure (f1) rfl rfl, ?_⟩ | refine .inl ⟨_, _, qcall_pure (f2) rfl rfl, ?_⟩ | refine .inl ⟨_, _, qcall_pure (f3) rfl rfl, ?_⟩ | refine .inl ⟨_, _, qcall_pure (ck) rfl rfl, ?_⟩ | refine LitB.data ?_ | refine BoxB.own ?_); conv => whnf)))
    all_goals first
      | (exfalso; omega)
      | exact fin_bool rfl
  have h3 : check e = 0 := Decidable.not_not.1 h3
  have hE := few16_small h1 h3
  rw [h3] at ck
  obtain ⟨g1, g2, g3, g4⟩ := flat_small h2
  obtain ⟨p1, p2⟩ := points_small h2x
  have hmv := hE.mv
  have hm1 := hE.m1
  have hm6 := hE.m6
  have n0 : 0 ≤ (e.moves.length : Int) * e.mats := Int.mul_nonneg (by omega) (by omega)
  have n1 : (e.moves.length : Int) * e.mats ≤ 8 * 6 := Int.mul_le_mul (by omega) hm6 (by omega) (by decide)
  have mm : ((e.moves.map Move.row).length : Int) * e.mats = (e.moves.length : Int) * e.mats := by rw [m0]
  have pt := a_EPoint e hs hh (by omega) (by omega)
  have hi := a_EHist e hs (fun _ => hE) x (by omega)
  have hpl : (pointR e hh).length ≤ 100 := by
    unfold pointR; split
    · simp
    · exact g2
  have hi2 := a_EHist e hs (fun _ => hE) (pointR e hh) (by omega)
  have sx := a_SamePoint8 x (by omega) (fun f hf => by have := fz_dl3 (p2 f hf); omega)
  have sm := a_SameMasses16 hh (by omega) (fun r hr => ⟨by have := (masses_small h2).2 r hr; omega, fun f hf => by have := g4 r hr f hf; omega⟩)
  obtain ⟨mh, hmh⟩ : ∃ mh, histR e x = mh := ⟨_, rfl⟩
  have m3 : (mh.map fracsRow).length = mh.length := by simp
  have m4 : ((pointR e hh).map frRow).length = (pointR e hh).length := by simp
  have m5 : ((([] : List (List Fr)).map fracsRow).length) = 0 := rfl
  have m6 : ((([] : List Fr).map frRow).length) = 0 := rfl
  have fin0 : shapeK e hh hh.length = shapeL e hh := by unfold shapeK shapeL; rw [List.take_length]
  by_cases h4 : (x.length : Int) = (e.moves.length : Int) * e.mats
  · obtain ⟨q1, q2, q3⟩ := back_point h3 (by omega) h4
    have pm := a_EPoint e hs (histR e x) (by omega) (by rw [q1, chunks_flat (len_cast (by omega) h4)]; omega)
    rw [q3] at pm
    rw [hmh] at hi pm q2
    by_cases h5 : hh.length = e.moves.length
    · have z0 : shapeK e hh 0 = true := by unfold shapeK; simp [h5]
      (refine acall_of tab_ok Tryz.func5 rfl (by decide) ?_; (conv => whnf); repeat (first | (refine LitB.data ?_; conv => whnf) | (refine BoxB.data ?_; conv => whnf)))
      (repeat' (first | ((refine DecB.mk (fun h => ?_) (fun h => ?_)) <;> first | (exfalso; omega) | (conv => whnf)) | ((refine BoolB.mk (fun h => ?_) (fun h => ?_)) <;> first | (exact absurd h (by decide)) | (conv => whnf)) | ((first | refine ⟨_, wrap_ok (by omega) (by omega), ?_⟩ | refine and_idx (by omega) (by omega) ?_ | refine reg_ok (by decide +kernel) ?_ | refine bar_ok (by decide +kernel) (by decide +kernel) ?_ | refine late_ok rfl rfl ?_ | refine src_ok rfl ?_ | refine .inl ⟨_, _, qcall_pure (sa) rfl rfl, ?_⟩ | refine .inl ⟨_, _, qcall_pure (f1) rfl rfl, ?_⟩ | refine .inl ⟨_, _, qcall_pure (f2) rfl rfl, ?_⟩ | refine .inl ⟨_, _, qcall_pure (f3) rfl rfl, ?_⟩ | refine .inl ⟨_, _, qcall_pure (ck) rfl rfl, ?_⟩ | refine .inl ⟨_, _, qcall_pure (hi) rfl rfl, ?_⟩ | refine .inl ⟨_, _, qcall_pure (pm) rfl rfl, ?_⟩ | refine .inl ⟨_, _, qcall_pure (sx) rfl rfl, ?_⟩ | refine LitB.data ?_ | refine BoxB.own ?_); conv => whnf)))
      all_goals try (exfalso; omega)
      refine awp_for tab_ok (fun k => ([J, histS hh, J, S.c (C.t (T.ptr (evT e))), J, J, J, boolS true, J, boolS (shapeK e hh k), intS .i64 k, J, J, J, J, J, J, J, J, J, J, J, J, J, J, J, J, J, J, J, J, J, J, J, J, J, J, J, J, J, J, J, J, J, J, J, J, J, J, J, J, J, J, J, J, J, J, J, J, J, J, J, J, J, J, J, J, J, J, J, J, J, J, J, J, J, J, J, J, J, J, J, J, J, J, J, J, J, J, J, J, J, J, J, J, J, J, J, J, J, J, J, J], [])) hh.length (fun _ => True) [] trivial
        ⟨rfl, rfl, trivial, ⟨rfl, rfl, rfl, by rw [z0]; rfl, rfl, trivial⟩⟩ ?_
      intro k hk _
      by_cases hlt : k < hh.length
      · obtain ⟨l, hl⟩ : ∃ l, hh[k]? = some l := ⟨_, List.getElem?_eq_getElem hlt⟩
        have m7 : (l.map frRow).length = l.length := by simp
        have sk := shapeK_succ (e := e) hl
        cases hk8 : shapeK e hh k with
        | true =>
          rw [hk8, Bool.true_and] at sk
          conv => whnf
          (repeat' (first | ((refine DecB.mk (fun h => ?_) (fun h => ?_)) <;> first | (exfalso; omega) | (conv => whnf)) | ((refine BoolB.mk (fun h => ?_) (fun h => ?_)) <;> first | (exact absurd h (by decide)) | (conv => whnf)) | ((first | refine ⟨_, wrap_ok (by omega) (by omega), ?_⟩ | refine and_idx (by omega) (by omega) ?_ | refine reg_ok (by decide +kernel) ?_ | refine bar_ok (by decide +kernel) (by decide +kernel) ?_ | refine late_ok rfl rfl ?_ | refine src_ok rfl ?_ | refine ex_row hl ?_ | refine LitB.data ?_ | refine BoxB.own ?_); conv => whnf)))
          all_goals first
            | (have hd : (l.length : Int) = e.mats := by omega
               exact ⟨hlt, trivial, [], rfl, rfl, trivial, ⟨rfl, rfl, rfl, by rw [sk, decide_eq_true hd]; rfl, rfl, trivial⟩⟩)
            | (have hd : ¬ (l.length : Int) = e.mats := by omega
               exact ⟨hlt, trivial, [], rfl, rfl, trivial, ⟨rfl, rfl, rfl, by rw [sk, decide_eq_false hd]; rfl, rfl, trivial⟩⟩)
        | false =>
          rw [hk8, Bool.false_and] at sk
          conv => whnf
          (repeat' (first | ((refine DecB.mk (fun h => ?_) (fun h => ?_)) <;> first | (exfalso; omega) | (conv => whnf)) | ((refine BoolB.mk (fun h => ?_) (fun h => ?_)) <;> first | (exact absurd h (by decide)) | (conv => whnf)) | ((first | refine ⟨_, wrap_ok (by omega) (by omega), ?_⟩ | refine and_idx (by omega) (by omega) ?_ | refine reg_ok (by decide +kernel) ?_ | refine bar_ok (by decide +kernel) (by decide +kernel) ?_ | refine late_ok rfl rfl ?_ | refine src_ok rfl ?_ | refine ex_row hl ?_ | refine LitB.data ?_ | refine BoxB.own ?_); conv => whnf)))
          all_goals try (exfalso; omega)
          all_goals exact ⟨hlt, trivial, [], rfl, rfl, trivial, ⟨rfl, rfl, rfl, by rw [sk]; rfl, rfl, trivial⟩⟩
      · have hke : k = hh.length := by omega
        subst hke
        rw [fin0]
        cases hsh : shapeL e hh with
        | true =>
          have hi3 := hi2
          rw [back_hist h3 (by omega) hsh] at hi3
          conv => whnf
          (repeat' (first | ((refine DecB.mk (fun h => ?_) (fun h => ?_)) <;> first | (exfalso; omega) | (conv => whnf)) | ((refine BoolB.mk (fun h => ?_) (fun h => ?_)) <;> first | (exact absurd h (by decide)) | (conv => whnf)) | ((first | refine ⟨_, wrap_ok (by omega) (by omega), ?_⟩ | refine and_idx (by omega) (by omega) ?_ | refine reg_ok (by decide +kernel) ?_ | refine bar_ok (by decide +kernel) (by decide +kernel) ?_ | refine late_ok rfl rfl ?_ | refine src_ok rfl ?_ | refine .inl ⟨_, _, qcall_pure (pt) rfl rfl, ?_⟩ | refine .inl ⟨_, _, qcall_pure (hi3) rfl rfl, ?_⟩ | refine .inl ⟨_, _, qcall_pure (sm) rfl rfl, ?_⟩ | refine LitB.data ?_ | refine BoxB.own ?_); conv => whnf)))
          all_goals first
            | (exfalso; omega)
            | exact fin_bool rfl
        | false =>
          have pt2 := pt
          rw [point_none hsh] at pt2
          conv => whnf
          (repeat' (first | ((refine DecB.mk (fun h => ?_) (fun h => ?_)) <;> first | (exfalso; omega) | (conv => whnf)) | ((refine BoolB.mk (fun h => ?_) (fun h => ?_)) <;> first | (exact absurd h (by decide)) | (conv => whnf)) | ((first | refine ⟨_, wrap_ok (by omega) (by omega), ?_⟩ | refine and_idx (by omega) (by omega) ?_ | refine reg_ok (by decide +kernel) ?_ | refine bar_ok (by decide +kernel) (by decide +kernel) ?_ | refine late_ok rfl rfl ?_ | refine src_ok rfl ?_ | refine .inl ⟨_, _, qcall_pure (pt2) rfl rfl, ?_⟩ | refine LitB.data ?_ | refine BoxB.own ?_); conv => whnf)))
          all_goals first
            | (exfalso; omega)
            | exact fin_bool rfl
    · have z0 : shapeK e hh 0 = false := by unfold shapeK; simp [h5]
      (refine acall_of tab_ok Tryz.func5 rfl (by decide) ?_; (conv => whnf); repeat (first | (refine LitB.data ?_; conv => whnf) | (refine BoxB.data ?_; conv => whnf)))
      (repeat' (first | ((refine DecB.mk (fun h => ?_) (fun h => ?_)) <;> first | (exfalso; omega) | (conv => whnf)) | ((refine BoolB.mk (fun h => ?_) (fun h => ?_)) <;> first | (exact absurd h (by decide)) | (conv => whnf)) | ((first | refine ⟨_, wrap_ok (by omega) (by omega), ?_⟩ | refine and_idx (by omega) (by omega) ?_ | refine reg_ok (by decide +kernel) ?_ | refine bar_ok (by decide +kernel) (by decide +kernel) ?_ | refine late_ok rfl rfl ?_ | refine src_ok rfl ?_ | refine .inl ⟨_, _, qcall_pure (sa) rfl rfl, ?_⟩ | refine .inl ⟨_, _, qcall_pure (f1) rfl rfl, ?_⟩ | refine .inl ⟨_, _, qcall_pure (f2) rfl rfl, ?_⟩ | refine .inl ⟨_, _, qcall_pure (f3) rfl rfl, ?_⟩ | refine .inl ⟨_, _, qcall_pure (ck) rfl rfl, ?_⟩ | refine .inl ⟨_, _, qcall_pure (hi) rfl rfl, ?_⟩ | refine .inl ⟨_, _, qcall_pure (pm) rfl rfl, ?_⟩ | refine .inl ⟨_, _, qcall_pure (sx) rfl rfl, ?_⟩ | refine LitB.data ?_ | refine BoxB.own ?_); conv => whnf)))
      all_goals try (exfalso; omega)
      refine awp_for tab_ok (fun k => ([J, histS hh, J, S.c (C.t (T.ptr (evT e))), J, J, J, boolS true, J, boolS (shapeK e hh k), intS .i64 k, J, J, J, J, J, J, J, J, J, J, J, J, J, J, J, J, J, J, J, J, J, J, J, J, J, J, J, J, J, J, J, J, J, J, J, J, J, J, J, J, J, J, J, J, J, J, J, J, J, J, J, J, J, J, J, J, J, J, J, J, J, J, J, J, J, J, J, J, J, J, J, J, J, J, J, J, J, J, J, J, J, J, J, J, J, J, J, J, J, J, J, J], [])) hh.length (fun _ => True) [] trivial
        ⟨rfl, rfl, trivial, ⟨rfl, rfl, rfl, by rw [z0]; rfl, rfl, trivial⟩⟩ ?_
      intro k hk _
      by_cases hlt : k < hh.length
      · obtain ⟨l, hl⟩ : ∃ l, hh[k]? = some l := ⟨_, List.getElem?_eq_getElem hlt⟩
        have m7 : (l.map frRow).length = l.length := by simp
        have sk := shapeK_succ (e := e) hl
        cases hk8 : shapeK e hh k with
        | true =>
          rw [hk8, Bool.true_and] at sk
          conv => whnf
          (repeat' (first | ((refine DecB.mk (fun h => ?_) (fun h => ?_)) <;> first | (exfalso; omega) | (conv => whnf)) | ((refine BoolB.mk (fun h => ?_) (fun h => ?_)) <;> first | (exact absurd h (by decide)) | (conv => whnf)) | ((first | refine ⟨_, wrap_ok (by omega) (by omega), ?_⟩ | refine and_idx (by omega) (by omega) ?_ | refine reg_ok (by decide +kernel) ?_ | refine bar_ok (by decide +kernel) (by decide +kernel) ?_ | refine late_ok rfl rfl ?_ | refine src_ok rfl ?_ | refine ex_row hl ?_ | refine LitB.data ?_ | refine BoxB.own ?_); conv => whnf)))
          all_goals first
            | (have hd : (l.length : Int) = e.mats := by omega
               exact ⟨hlt, trivial, [], rfl, rfl, trivial, ⟨rfl, rfl, rfl, by rw [sk, decide_eq_true hd]; rfl, rfl, trivial⟩⟩)
            | (have hd : ¬ (l.length : Int) = e.mats := by omega
               exact ⟨hlt, trivial, [], rfl, rfl, trivial, ⟨rfl, rfl, rfl, by rw [sk, decide_eq_false hd]; rfl, rfl, trivial⟩⟩)
        | false =>
          rw [hk8, Bool.false_and] at sk
          conv => whnf
          (repeat' (first | ((refine DecB.mk (fun h => ?_) (fun h => ?_)) <;> first | (exfalso; omega) | (conv => whnf)) | ((refine BoolB.mk (fun h => ?_) (fun h => ?_)) <;> first | (exact absurd h (by decide)) | (conv => whnf)) | ((first | refine ⟨_, wrap_ok (by omega) (by omega), ?_⟩ | refine and_idx (by omega) (by omega) ?_ | refine reg_ok (by decide +kernel) ?_ | refine bar_ok (by decide +kernel) (by decide +kernel) ?_ | refine late_ok rfl rfl ?_ | refine src_ok rfl ?_ | refine ex_row hl ?_ | refine LitB.data ?_ | refine BoxB.own ?_); conv => whnf)))
          all_goals try (exfalso; omega)
          all_goals exact ⟨hlt, trivial, [], rfl, rfl, trivial, ⟨rfl, rfl, rfl, by rw [sk]; rfl, rfl, trivial⟩⟩
      · have hke : k = hh.length := by omega
        subst hke
        rw [fin0]
        cases hsh : shapeL e hh with
        | true =>
          have hi3 := hi2
          rw [back_hist h3 (by omega) hsh] at hi3
          conv => whnf
          (repeat' (first | ((refine DecB.mk (fun h => ?_) (fun h => ?_)) <;> first | (exfalso; omega) | (conv => whnf)) | ((refine BoolB.mk (fun h => ?_) (fun h => ?_)) <;> first | (exact absurd h (by decide)) | (conv => whnf)) | ((first | refine ⟨_, wrap_ok (by omega) (by omega), ?_⟩ | refine and_idx (by omega) (by omega) ?_ | refine reg_ok (by decide +kernel) ?_ | refine bar_ok (by decide +kernel) (by decide +kernel) ?_ | refine late_ok rfl rfl ?_ | refine src_ok rfl ?_ | refine .inl ⟨_, _, qcall_pure (pt) rfl rfl, ?_⟩ | refine .inl ⟨_, _, qcall_pure (hi3) rfl rfl, ?_⟩ | refine .inl ⟨_, _, qcall_pure (sm) rfl rfl, ?_⟩ | refine LitB.data ?_ | refine BoxB.own ?_); conv => whnf)))
          all_goals first
            | (exfalso; omega)
            | exact fin_bool rfl
        | false =>
          have pt2 := pt
          rw [point_none hsh] at pt2
          conv => whnf
          (repeat' (first | ((refine DecB.mk (fun h => ?_) (fun h => ?_)) <;> first | (exfalso; omega) | (conv => whnf)) | ((refine BoolB.mk (fun h => ?_) (fun h => ?_)) <;> first | (exact absurd h (by decide)) | (conv => whnf)) | ((first | refine ⟨_, wrap_ok (by omega) (by omega), ?_⟩ | refine and_idx (by omega) (by omega) ?_ | refine reg_ok (by decide +kernel) ?_ | refine bar_ok (by decide +kernel) (by decide +kernel) ?_ | refine late_ok rfl rfl ?_ | refine src_ok rfl ?_ | refine .inl ⟨_, _, qcall_pure (pt2) rfl rfl, ?_⟩ | refine LitB.data ?_ | refine BoxB.own ?_); conv => whnf)))
          all_goals first
            | (exfalso; omega)
            | exact fin_bool rfl
  · have q1 : histR e x = [] := by unfold histR; rw [if_pos (.inr h4)]
    rw [q1] at hi
    by_cases h5 : hh.length = e.moves.length
    · have z0 : shapeK e hh 0 = true := by unfold shapeK; simp [h5]
      (refine acall_of tab_ok Tryz.func5 rfl (by decide) ?_; (conv => whnf); repeat (first | (refine LitB.data ?_; conv => whnf) | (refine BoxB.data ?_; conv => whnf)))
      (repeat' (first | ((refine DecB.mk (fun h => ?_) (fun h => ?_)) <;> first | (exfalso; omega) | (conv => whnf)) | ((refine BoolB.mk (fun h => ?_) (fun h => ?_)) <;> first | (exact absurd h (by decide)) | (conv => whnf)) | ((first | refine ⟨_, wrap_ok (by omega) (by omega), ?_⟩ | refine and_idx (by omega) (by omega) ?_ | refine reg_ok (by decide +kernel) ?_ | refine bar_ok (by decide +kernel) (by decide +kernel) ?_ | refine late_ok rfl rfl ?_ | refine src_ok rfl ?_ | refine .inl ⟨_, _, qcall_pure (sa) rfl rfl, ?_⟩ | refine .inl ⟨_, _, qcall_pure (f1) rfl rfl, ?_⟩ | refine .inl ⟨_, _, qcall_pure (f2) rfl rfl, ?_⟩ | refine .inl ⟨_, _, qcall_pure (f3) rfl rfl, ?_⟩ | refine .inl ⟨_, _, qcall_pure (ck) rfl rfl, ?_⟩ | refine .inl ⟨_, _, qcall_pure (hi) rfl rfl, ?_⟩ | refine LitB.data ?_ | refine BoxB.own ?_); conv => whnf)))
      all_goals try (exfalso; omega)
      refine awp_for tab_ok (fun k => ([J, histS hh, J, S.c (C.t (T.ptr (evT e))), J, J, J, boolS true, J, boolS (shapeK e hh k), intS .i64 k, J, J, J, J, J, J, J, J, J, J, J, J, J, J, J, J, J, J, J, J, J, J, J, J, J, J, J, J, J, J, J, J, J, J, J, J, J, J, J, J, J, J, J, J, J, J, J, J, J, J, J, J, J, J, J, J, J, J, J, J, J, J, J, J, J, J, J, J, J, J, J, J, J, J, J, J, J, J, J, J, J, J, J, J, J, J, J, J, J, J, J, J], [])) hh.length (fun _ => True) [] trivial
        ⟨rfl, rfl, trivial, ⟨rfl, rfl, rfl, by rw [z0]; rfl, rfl, trivial⟩⟩ ?_
      intro k hk _
      by_cases hlt : k < hh.length
      · obtain ⟨l, hl⟩ : ∃ l, hh[k]? = some l := ⟨_, List.getElem?_eq_getElem hlt⟩
        have m7 : (l.map frRow).length = l.length := by simp
        have sk := shapeK_succ (e := e) hl
        cases hk8 : shapeK e hh k with
        | true =>
          rw [hk8, Bool.true_and] at sk
          conv => whnf
          (repeat' (first | ((refine DecB.mk (fun h => ?_) (fun h => ?_)) <;> first | (exfalso; omega) | (conv => whnf)) | ((refine BoolB.mk (fun h => ?_) (fun h => ?_)) <;> first | (exact absurd h (by decide)) | (conv => whnf)) | ((first | refine ⟨_, wrap_ok (by omega) (by omega), ?_⟩ | refine and_idx (by omega) (by omega) ?_ | refine reg_ok (by decide +kernel) ?_ | refine bar_ok (by decide +kernel) (by decide +kernel) ?_ | refine late_ok rfl rfl ?_ | refine src_ok rfl ?_ | refine ex_row hl ?_ | refine LitB.data ?_ | refine BoxB.own ?_); conv => whnf)))
          all_goals first
            | (have hd : (l.length : Int) = e.mats := by omega
               exact ⟨hlt, trivial, [], rfl, rfl, trivial, ⟨rfl, rfl, rfl, by rw [sk, decide_eq_true hd]; rfl, rfl, trivial⟩⟩)
            | (have hd : ¬ (l.length : Int) = e.mats := by omega
               exact ⟨hlt, trivial, [], rfl, rfl, trivial, ⟨rfl, rfl, rfl, by rw [sk, decide_eq_false hd]; rfl, rfl, trivial⟩⟩)
        | false =>
          rw [hk8, Bool.false_and] at sk
          conv => whnf
          (repeat' (first | ((refine DecB.mk (fun h => ?_) (fun h => ?_)) <;> first | (exfalso; omega) | (conv => whnf)) | ((refine BoolB.mk (fun h => ?_) (fun h => ?_)) <;> first | (exact absurd h (by decide)) | (conv => whnf)) | ((first | refine ⟨_, wrap_ok (by omega) (by omega), ?_⟩ | refine and_idx (by omega) (by omega) ?_ | refine reg_ok (by decide +kernel) ?_ | refine bar_ok (by decide +kernel) (by decide +kernel) ?_ | refine late_ok rfl rfl ?_ | refine src_ok rfl ?_ | refine ex_row hl ?_ | refine LitB.data ?_ | refine BoxB.own ?_); conv => whnf)))
          all_goals try (exfalso; omega)
          all_goals exact ⟨hlt, trivial, [], rfl, rfl, trivial, ⟨rfl, rfl, rfl, by rw [sk]; rfl, rfl, trivial⟩⟩
      · have hke : k = hh.length := by omega
        subst hke
        rw [fin0]
        cases hsh : shapeL e hh with
        | true =>
          have hi3 := hi2
          rw [back_hist h3 (by omega) hsh] at hi3
          conv => whnf
          (repeat' (first | ((refine DecB.mk (fun h => ?_) (fun h => ?_)) <;> first | (exfalso; omega) | (conv => whnf)) | ((refine BoolB.mk (fun h => ?_) (fun h => ?_)) <;> first | (exact absurd h (by decide)) | (conv => whnf)) | ((first | refine ⟨_, wrap_ok (by omega) (by omega), ?_⟩ | refine and_idx (by omega) (by omega) ?_ | refine reg_ok (by decide +kernel) ?_ | refine bar_ok (by decide +kernel) (by decide +kernel) ?_ | refine late_ok rfl rfl ?_ | refine src_ok rfl ?_ | refine .inl ⟨_, _, qcall_pure (pt) rfl rfl, ?_⟩ | refine .inl ⟨_, _, qcall_pure (hi3) rfl rfl, ?_⟩ | refine .inl ⟨_, _, qcall_pure (sm) rfl rfl, ?_⟩ | refine LitB.data ?_ | refine BoxB.own ?_); conv => whnf)))
          all_goals first
            | (exfalso; omega)
            | exact fin_bool rfl
        | false =>
          have pt2 := pt
          rw [point_none hsh] at pt2
          conv => whnf
          (repeat' (first | ((refine DecB.mk (fun h => ?_) (fun h => ?_)) <;> first | (exfalso; omega) | (conv => whnf)) | ((refine BoolB.mk (fun h => ?_) (fun h => ?_)) <;> first | (exact absurd h (by decide)) | (conv => whnf)) | ((first | refine ⟨_, wrap_ok (by omega) (by omega), ?_⟩ | refine and_idx (by omega) (by omega) ?_ | refine reg_ok (by decide +kernel) ?_ | refine bar_ok (by decide +kernel) (by decide +kernel) ?_ | refine late_ok rfl rfl ?_ | refine src_ok rfl ?_ | refine .inl ⟨_, _, qcall_pure (pt2) rfl rfl, ?_⟩ | refine LitB.data ?_ | refine BoxB.own ?_); conv => whnf)))
          all_goals first
            | (exfalso; omega)
            | exact fin_bool rfl
    · have z0 : shapeK e hh 0 = false := by unfold shapeK; simp [h5]
      (refine acall_of tab_ok Tryz.func5 rfl (by decide) ?_; (conv => whnf); repeat (first | (refine LitB.data ?_; conv => whnf) | (refine BoxB.data ?_; conv => whnf)))
      (repeat' (first | ((refine DecB.mk (fun h => ?_) (fun h => ?_)) <;> first | (exfalso; omega) | (conv => whnf)) | ((refine BoolB.mk (fun h => ?_) (fun h => ?_)) <;> first | (exact absurd h (by decide)) | (conv => whnf)) | ((first | refine ⟨_, wrap_ok (by omega) (by omega), ?_⟩ | refine and_idx (by omega) (by omega) ?_ | refine reg_ok (by decide +kernel) ?_ | refine bar_ok (by decide +kernel) (by decide +kernel) ?_ | refine late_ok rfl rfl ?_ | refine src_ok rfl ?_ | refine .inl ⟨_, _, qcall_pure (sa) rfl rfl, ?_⟩ | refine .inl ⟨_, _, qcall_pure (f1) rfl rfl, ?_⟩ | refine .inl ⟨_, _, qcall_pure (f2) rfl rfl, ?_⟩ | refine .inl ⟨_, _, qcall_pure (f3) rfl rfl, ?_⟩ | refine .inl ⟨_, _, qcall_pure (ck) rfl rfl, ?_⟩ | refine .inl ⟨_, _, qcall_pure (hi) rfl rfl, ?_⟩ | refine LitB.data ?_ | refine BoxB.own ?_); conv => whnf)))
      all_goals try (exfalso; omega)
      refine awp_for tab_ok (fun k => ([J, histS hh, J, S.c (C.t (T.ptr (evT e))), J, J, J, boolS true, J, boolS (shapeK e hh k), intS .i64 k, J, J, J, J, J, J, J, J, J, J, J, J, J, J, J, J, J, J, J, J, J, J, J, J, J, J, J, J, J, J, J, J, J, J, J, J, J, J, J, J, J, J, J, J, J, J, J, J, J, J, J, J, J, J, J, J, J, J, J, J, J, J, J, J, J, J, J, J, J, J, J, J, J, J, J, J, J, J, J, J, J, J, J, J, J, J, J, J, J, J, J, J], [])) hh.length (fun _ => True) [] trivial
        ⟨rfl, rfl, trivial, ⟨rfl, rfl, rfl, by rw [z0]; rfl, rfl, trivial⟩⟩ ?_
      intro k hk _
      by_cases hlt : k < hh.length
      · obtain ⟨l, hl⟩ : ∃ l, hh[k]? = some l := ⟨_, List.getElem?_eq_getElem hlt⟩
        have m7 : (l.map frRow).length = l.length := by simp
        have sk := shapeK_succ (e := e) hl
        cases hk8 : shapeK e hh k with
        | true =>
          rw [hk8, Bool.true_and] at sk
          conv => whnf
          (repeat' (first | ((refine DecB.mk (fun h => ?_) (fun h => ?_)) <;> first | (exfalso; omega) | (conv => whnf)) | ((refine BoolB.mk (fun h => ?_) (fun h => ?_)) <;> first | (exact absurd h (by decide)) | (conv => whnf)) | ((first | refine ⟨_, wrap_ok (by omega) (by omega), ?_⟩ | refine and_idx (by omega) (by omega) ?_ | refine reg_ok (by decide +kernel) ?_ | refine bar_ok (by decide +kernel) (by decide +kernel) ?_ | refine late_ok rfl rfl ?_ | refine src_ok rfl ?_ | refine ex_row hl ?_ | refine LitB.data ?_ | refine BoxB.own ?_); conv => whnf)))
          all_goals first
            | (have hd : (l.length : Int) = e.mats := by omega
               exact ⟨hlt, trivial, [], rfl, rfl, trivial, ⟨rfl, rfl, rfl, by rw [sk, decide_eq_true hd]; rfl, rfl, trivial⟩⟩)
            | (have hd : ¬ (l.length : Int) = e.mats := by omega
               exact ⟨hlt, trivial, [], rfl, rfl, trivial, ⟨rfl, rfl, rfl, by rw [sk, decide_eq_false hd]; rfl, rfl, trivial⟩⟩)
        | false =>
          rw [hk8, Bool.false_and] at sk
          conv => whnf
          (repeat' (first | ((refine DecB.mk (fun h => ?_) (fun h => ?_)) <;> first | (exfalso; omega) | (conv => whnf)) | ((refine BoolB.mk (fun h => ?_) (fun h => ?_)) <;> first | (exact absurd h (by decide)) | (conv => whnf)) | ((first | refine ⟨_, wrap_ok (by omega) (by omega), ?_⟩ | refine and_idx (by omega) (by omega) ?_ | refine reg_ok (by decide +kernel) ?_ | refine bar_ok (by decide +kernel) (by decide +kernel) ?_ | refine late_ok rfl rfl ?_ | refine src_ok rfl ?_ | refine ex_row hl ?_ | refine LitB.data ?_ | refine BoxB.own ?_); conv => whnf)))
          all_goals try (exfalso; omega)
          all_goals exact ⟨hlt, trivial, [], rfl, rfl, trivial, ⟨rfl, rfl, rfl, by rw [sk]; rfl, rfl, trivial⟩⟩
      · have hke : k = hh.length := by omega
        subst hke
        rw [fin0]
        cases hsh : shapeL e hh with
        | true =>
          have hi3 := hi2
          rw [back_hist h3 (by omega) hsh] at hi3
          conv => whnf
          (repeat' (first | ((refine DecB.mk (fun h => ?_) (fun h => ?_)) <;> first | (exfalso; omega) | (conv => whnf)) | ((refine BoolB.mk (fun h => ?_) (fun h => ?_)) <;> first | (exact absurd h (by decide)) | (conv => whnf)) | ((first | refine ⟨_, wrap_ok (by omega) (by omega), ?_⟩ | refine and_idx (by omega) (by omega) ?_ | refine reg_ok (by decide +kernel) ?_ | refine bar_ok (by decide +kernel) (by decide +kernel) ?_ | refine late_ok rfl rfl ?_ | refine src_ok rfl ?_ | refine .inl ⟨_, _, qcall_pure (pt) rfl rfl, ?_⟩ | refine .inl ⟨_, _, qcall_pure (hi3) rfl rfl, ?_⟩ | refine .inl ⟨_, _, qcall_pure (sm) rfl rfl, ?_⟩ | refine LitB.data ?_ | refine BoxB.own ?_); conv => whnf)))
          all_goals first
            | (exfalso; omega)
            | exact fin_bool rfl
        | false =>
          have pt2 := pt
          rw [point_none hsh] at pt2
          conv => whnf
          (repeat' (first | ((refine DecB.mk (fun h => ?_) (fun h => ?_)) <;> first | (exfalso; omega) | (conv => whnf)) | ((refine BoolB.mk (fun h => ?_) (fun h => ?_)) <;> first | (exact absurd h (by decide)) | (conv => whnf)) | ((first | refine ⟨_, wrap_ok (by omega) (by omega), ?_⟩ | refine and_idx (by omega) (by omega) ?_ | refine reg_ok (by decide +kernel) ?_ | refine bar_ok (by decide +kernel) (by decide +kernel) ?_ | refine late_ok rfl rfl ?_ | refine src_ok rfl ?_ | refine .inl ⟨_, _, qcall_pure (pt2) rfl rfl, ?_⟩ | refine LitB.data ?_ | refine BoxB.own ?_); conv => whnf)))
          all_goals first
            | (exfalso; omega)
            | exact fin_bool rfl
end Go.Proofs.YtfieodjihaodiaaGreat
/- An argument that is a list of fractions. -/
namespace Go.Proofs.YtfieodjihaodiaaGreat
open Go.RowKit Go.ChangeShapes Go.WideShapes Go.Deep
set_option linter.unusedVariables false
set_option linter.unusedSimpArgs false
set_option maxRecDepth 100000
section
variable {H : Type} {enc : TypeId × Value → H} {w : World} {base : Nat} {spare : Nat → Bool} {held : Bool}
theorem open_fracs {v : Value} {d : DataW H} {p : List MemPlace} {r : Reach} {b0 : Nat} (hv : Value.okWide Tryz.prog w r b0 30 v) (h : DataW.Trod enc Tryz.prog w base spare held 30 v d p) : ∃ l, RS w (fun _ => none) (fun _ => False) (fracsS l) v := by
  obtain ⟨a, len, cap, rfl⟩ := okWide_slice Tryz.underlying30 hv
  obtain ⟨fuel, hf⟩ := h
  obtain ⟨_, ts, h1, h2⟩ := open_sh has_fracs fuel _ _ hf
  obtain ⟨u, t, e1, e2, e3, e4⟩ := h2 0 _ rfl
  obtain ⟨hh, rfl⟩ := fit_fracs e4
  injection e1 with e1
  subst e1
  exact ⟨hh, .c (.t e3)⟩
end
end Go.Proofs.YtfieodjihaodiaaGreat
/- EvidenceBack: at every input the law returns true, and its arguments read as before. Conditions: none. -/
namespace Go.Proofs.YtfieodjihaodiaaGreat
open Go.RowKit Go.ChangeShapes Go.WideShapes Go.ChangeAt

set_option maxRecDepth 100000 in
theorem evidenceBack_lifted (os : Os) (started : os.Started) (H : Type) (enc : TypeId × Value → H) :
    ReturnsInHanded {} Tryz.checked os 5 .any (Rows.evidenceBackSpec.pre6 enc Tryz.prog Tryz.f5 Rows.evidenceBackRow.domain false) (Rows.evidenceBackSpec.post enc Tryz.prog Tryz.f5 false true false false) := by
  refine returnsInHanded_of_change (C := Tryz.checked) law_own started (by kernel_rfl) Tryz.func5
    (ChangeSpec.witness6 (enc := enc) (C := Tryz.checked) false ⟨#[], #[.agg #[.int .i64 0, .int .i64 0, .int .i64 0, .slice none 0 0, .slice none 0 0, .slice none 0 0, .slice none 0 0, .slice none 0 0], .slice none 0 0, .slice none 0 0], []⟩ 12 (by kernel_rfl) (by kernel_rfl) (by kernel_rfl) (by kernel_rfl)) ?_
  intro W base args ds gs before hval0 hW hcnd _
  have hval : ∀ (j : Nat) t v, Tryz.f5.params[j]? = some t → args[j]? = some v → Value.okWide Tryz.prog W .any base t v := hval0
  have hW' := hW
  obtain ⟨p, q, hA0, hV, rfl, hfz, hnd⟩ := hW
  have hA : DataW.TrodAll enc Tryz.prog W 0 (fun _ => true) true Tryz.f5.params.toList args.toList ds p := hA0
  rw [Tryz.params5] at hA hval
  obtain ⟨v0, vs0, d0, ds0, p0, q0, hargs, rfl, rfl, h0, r0⟩ := trodAll_cons hA
  obtain ⟨v1, vs1, d1, ds1, p1, q1, rfl, rfl, rfl, h1, r1⟩ := trodAll_cons r0
  obtain ⟨v2, vs2, d2, ds2, p2, q2, rfl, rfl, rfl, h2, r2⟩ := trodAll_cons r1
  obtain ⟨rfl, rfl, rfl⟩ := trodAll_nil r2
  obtain rfl : args = #[v0, v1, v2] := by cases args; simp_all
  obtain ⟨rfl, rfl⟩ := trodVars_none hV
  obtain ⟨m, h, s, A1, n1, c1, A2, n2, c2, A3, n3, c3, A4, n4, c4, A5, n5, c5, e, rfl, hr, hb⟩ := open_ev (hval 0 28 v0 rfl rfl) h0
  obtain ⟨a1, t1⟩ := Go.Proofs.YtfieodjihaodiaaGreat.open_hist (hval 1 29 v1 rfl rfl) h1
  obtain ⟨a2, t2⟩ := Go.Proofs.YtfieodjihaodiaaGreat.open_fracs (hval 2 30 v2 rfl rfl) h2
  refine (law_of_acall (a_EvidenceBack e a1 a2) (.cons (rs_ev hr hb) (.cons (t1) (.cons (t2) (.nil))))).mono fun ee W' ⟨he, hg⟩ => ?_
  subst he
  exact ⟨_, rfl, law_post hW' law_laid (by rw [Tryz.params5]; intro t ht; simp at ht; rcases ht with rfl | rfl | rfl <;> exact ⟨by kernel_rfl, of_decide_eq_true (by kernel_rfl)⟩) rfl rfl (by kernel_rfl) Tryz.underlying4 hg⟩

theorem evidenceBack_holds : Rows.EvidenceBackSaid :=
  OpenClaim.holds_of_wide 5 Tryz.f5 rfl rfl rfl rfl rfl rfl rfl ⟨rfl, rfl, rfl, rfl, rfl⟩ rfl rfl rfl rfl rfl (by kernel_rfl) Tryz.func5 (by kernel_rfl)
    (of_decide_eq_true (by kernel_rfl)) (by unfold Func.isWrapper; first | (rw [if_pos (by decide +kernel)]; kernel_rfl) | (rw [if_neg (by decide +kernel)]; exact ⟨rfl, rfl⟩))
    (fun os started H enc _ => evidenceBack_lifted os started H enc)
end Go.Proofs.YtfieodjihaodiaaGreat
/- EvidenceWeights: its walk. -/
namespace Go.Proofs.YtfieodjihaodiaaGreat
open Go.RowKit
set_option linter.unusedVariables false
set_option linter.unusedSimpArgs false
set_option maxRecDepth 100000

/-- the origins, as the laws ask for them -/
theorem or_get {e : Ev} (hc : check e = 0) {k : Nat} {w : RowP × OrP} (h : (evRows e)[k]? = some w) : orAt e k = some w.2 := by
  unfold orAt
  rw [if_neg (by omega), if_neg (by omega)]
  show ((evRows e)[(k : Int).toNat]?).map Prod.snd = _
  rw [Int.toNat_natCast, h]; rfl
theorem row_get {e : Ev} {k : Nat} {w : RowP × OrP} (h : (evRows e)[k]? = some w) : (evSys e).rows[k]? = some w.1 := by
  show ((evRows e).map Prod.fst)[k]? = _
  rw [List.getElem?_map, h]; rfl
theorem rows_len (e : Ev) : (evSys e).rows.length = (evRows e).length := by show ((evRows e).map Prod.fst).length = _; simp
theorem take_snocE {α : Type} {l : List α} {k : Nat} {x : α} (h : l[k]? = some x) : l.take (k + 1) = l.take k ++ [x] := by rw [List.take_add_one, h]; rfl
theorem countW_succ {i : Nat} {l : List (RowP × OrP)} {k : Nat} {w : RowP × OrP} (h : l[k]? = some w) : countW i (l.take (k + 1)) = countW i (l.take k) + if isW i w then 1 else 0 := by
  rw [take_snocE h, countW_app]
  congr 1
  unfold countW
  cases hb : isW i w <;> simp [hb]
abbrev one16 (f : Fr) : Blk := { mode := .live, elem := 63, size := 4, rows := [frC f], box := true }
theorem rowsT_one16 (f : Fr) : rowsT [frC f] := by simp [rowsT, frC, frRow, C.isT]
theorem isW_of {i : Nat} {w : RowP × OrP} : isW i w = true ↔ w.2.mv = i ∧ (w.2.kind = 1 ∨ w.2.kind = 2) := by unfold isW; simp
theorem count_end {e : Ev} (hm : 1 ≤ e.mats) {i : Nat} {x : Move} (hx : e.moves[i]? = some x) : countW i (evRows e) = if (ivOf e x).isSome then 2 else 0 := by
  have hi := (List.getElem?_eq_some_iff.1 hx).1
  have := countW_ev hm hx e.moves.length (Nat.le_refl _)
  rw [if_pos hi, weightP_len] at this
  exact this
set_option maxHeartbeats 8000000 in
theorem a_EvidenceWeights (e : Ev) : ACall Tryz.prog 9 [evS e] [] (boolS true) [] := by
  have sa := a_sane16
  have f1 := a_Few16 e 8
  have m0 : (e.moves.map Move.row).length = e.moves.length := by simp
  cases h1 : few16 e 8 with
  | false =>
    rw [h1] at f1
    (refine acall_of tab_ok Tryz.func9 rfl (by decide) ?_; (conv => whnf); repeat (first | (refine LitB.data ?_; conv => whnf) | (refine BoxB.data ?_; conv => whnf)))
    (repeat' (first | ((refine DecB.mk (fun h => ?_) (fun h => ?_)) <;> first | (exfalso; omega) | (conv => whnf)) | ((refine BoolB.mk (fun h => ?_) (fun h => ?_)) <;> first | (exact absurd h (by decide)) | (conv => whnf)) | ((first | refine ⟨_, wrap_ok (by omega) (by omega), ?_⟩ | refine and_idx (by omega) (by omega) ?_ | refine reg_ok (by decide +kernel) ?_ | refine bar_ok (by decide +kernel) (by decide +kernel) ?_ | refine late_ok rfl rfl ?_ | refine src_ok rfl ?_ | refine .inl ⟨_, _, qcall_pure (sa) rfl rfl, ?_⟩ | refine .inl ⟨_, _, qcall_pure (f1) rfl rfl, ?_⟩ | refine LitB.data ?_ | refine BoxB.own ?_); conv => whnf)))
    all_goals first
      | (exfalso; omega)
      | exact fin_bool rfl
  | true =>
  rw [h1] at f1
  have hs := few16_sized h1
  have ck := a_Check e hs
  by_cases h3 : ¬ check e = 0
  · (refine acall_of tab_ok Tryz.func9 rfl (by decide) ?_; (conv => whnf); repeat (first | (refine LitB.data ?_; conv => whnf) | (refine BoxB.data ?_; conv => whnf)))
    (repeat' (first | ((refine DecB.mk (fun h => ?_) (fun h => ?_)) <;> first | (exfalso; omega) | (conv => whnf)) | ((refine BoolB.mk (fun h => ?_) (fun h => ?_)) <;> first | (exact absurd h (by decide)) | (conv => whnf)) | ((first | refine ⟨_, wrap_ok (by omega) (by omega), ?_⟩ | refine and_idx (by omega) (by omega) ?_ | refine reg_ok (by decide +kernel) ?_ | refine bar_ok (by decide +kernel) (by decide +kernel) ?_ | refine late_ok rfl rfl ?_ | refine src_ok rfl ?_ | refine .inl ⟨_, _, qcall_pure (sa) rfl rfl, ?_⟩ | refine .inl ⟨_, _, qcall_pure (f1) rfl rfl, ?_⟩ | refine .inl ⟨_, _, qcall_pure (ck) rfl rfl, ?_⟩ | refine LitB.data ?_ | refine BoxB.own ?_); conv => whnf)))
    all_goals first
      | (exfalso; omega)
      | exact fin_bool rfl
  have h3 : check e = 0 := Decidable.not_not.1 h3
  have hE := few16_small h1 h3
  have sy := a_ESystem e hs (fun _ => hE)
  have e1 : evSysR e = evSys e := by unfold evSysR; rw [if_neg (by omega)]
  rw [e1, h3] at sy
  rw [h3] at ck
  have hmv := hE.mv
  have hm1 := hE.m1
  have hm6 := hE.m6
  have rl0 := rows_len e
  have rl1 : (evRows e).length ≤ 400 := evTo_small hE (Nat.le_refl _)
  have m3 : ((evSys e).rows.map rowRow).length = (evRows e).length := by rw [List.length_map, rl0]
  (refine acall_of tab_ok Tryz.func9 rfl (by decide) ?_; (conv => whnf); repeat (first | (refine LitB.data ?_; conv => whnf) | (refine BoxB.data ?_; conv => whnf)))
  (repeat' (first | ((refine DecB.mk (fun h => ?_) (fun h => ?_)) <;> first | (exfalso; omega) | (conv => whnf)) | ((refine BoolB.mk (fun h => ?_) (fun h => ?_)) <;> first | (exact absurd h (by decide)) | (conv => whnf)) | ((first | refine ⟨_, wrap_ok (by omega) (by omega), ?_⟩ | refine and_idx (by omega) (by omega) ?_ | refine reg_ok (by decide +kernel) ?_ | refine bar_ok (by decide +kernel) (by decide +kernel) ?_ | refine late_ok rfl rfl ?_ | refine src_ok rfl ?_ | refine .inl ⟨_, _, qcall_pure (sa) rfl rfl, ?_⟩ | refine .inl ⟨_, _, qcall_pure (f1) rfl rfl, ?_⟩ | refine .inl ⟨_, _, qcall_pure (ck) rfl rfl, ?_⟩ | refine .inl ⟨_, _, qcall_pure (sy) rfl rfl, ?_⟩ | refine .inl ⟨_, _, qcall_pure (4) rfl rfl, ?_⟩ | refine bar_late [4] (by decide +kernel) (by decide +kernel) ?_ | refine LitB.data ?_ | refine BoxB.own ?_); conv => whnf)))
  all_goals try (exfalso; omega)
  refine awp_for tab_ok (fun i => ([J, S.c (C.t (T.ptr (evT e))), J, boolS true, S.c (C.ptr 0 0 0), J, intS .i64 i, J, J, J, J, J, J, J, J, J, J, J, J, J, J, J, J, J, J, J, J, J, J, J, J, J, J, J, J, J, J, J, J, J, J, J, J, J, J, J, J, J, J, J, J, J, J, J, J, J, J, J, J, J, J, J, J, J, J, J, J, J, J, J, J, J, J, J, J, J, J, J, J, J, J, J, J, J, J, J, J, J, J, J, J, J, J, J, J, J, J, J, J, J, J, J, J, J, J, J, J, J, J, J, J, J, J, J, J, J, J, J, J, J, J, J, J, J, J, J, J, J, J, J, J, J, J, J, J, J, J, J, J, J, J, J, J, J, J, J, J, J, J, J, J, J, J, J, J, J, J, J, J, J, J, J, J, J, J, J, J, J, J, J, J, J, J, J, J, J, J, J], [sysXB (evSys e)])) e.moves.length (fun _ => True) [some 0] trivial
    ⟨rfl, rfl, ⟨⟨rfl, rfl, rfl, .inr ⟨⟨rfl, rfl, trivial⟩, trivial⟩⟩, trivial⟩, ⟨rfl, rfl, ⟨rfl, rfl, rfl⟩, rfl, trivial⟩⟩ ?_
  intro i hi' _
  by_cases hlt : i < e.moves.length
  · obtain ⟨x, hx⟩ : ∃ x, e.moves[i]? = some x := ⟨_, List.getElem?_eq_getElem hlt⟩
    have iv := a_Interval e.certs e.recalls hs.s3 hs.s4 x.scale x.reading x.day
    cases hiv : interval e.certs e.recalls x.scale x.reading x.day with
    | none =>
      have hivN : ivOf e x = none := by unfold ivOf; rw [hiv]; split <;> rfl
      rw [hiv] at iv
      conv => whnf
      (repeat' (first | ((refine DecB.mk (fun h => ?_) (fun h => ?_)) <;> first | (exfalso; omega) | (conv => whnf)) | ((refine BoolB.mk (fun h => ?_) (fun h => ?_)) <;> first | (exact absurd h (by decide)) | (conv => whnf)) | ((first | refine ⟨_, wrap_ok (by omega) (by omega), ?_⟩ | refine and_idx (by omega) (by omega) ?_ | refine reg_ok (by decide +kernel) ?_ | refine bar_ok (by decide +kernel) (by decide +kernel) ?_ | refine late_ok rfl rfl ?_ | refine src_ok rfl ?_ | refine .inl ⟨_, _, qcall_pure (iv) rfl rfl, ?_⟩ | refine .inl ⟨_, _, qcall_pure (13, 14) rfl rfl, ?_⟩ | refine .inl ⟨_, _, qcall_pure (14) rfl rfl, ?_⟩ | refine ex_row hx ?_ | refine bar_late [13, 14] (by decide +kernel) (by decide +kernel) ?_ | refine bar_late [14] (by decide +kernel) (by decide +kernel) ?_ | refine LitB.data ?_ | refine BoxB.own ?_); conv => whnf)))
      all_goals try (exfalso; omega)
      refine awp_for tab_ok (fun k => ([J, S.c (C.t (T.ptr (evT e))), J, boolS true, S.c (C.ptr 0 0 0), J, intS .i64 i, S.c (C.ptr 1 0 0), S.c (C.ptr 2 0 0), S.c (C.ptr 3 0 0), boolS false, intS .i64 (countW i ((evRows e).take k)), intS .i64 k, J, J, J, J, J, J, J, J, J, J, J, J, J, J, J, J, J, J, J, J, J, J, J, J, J, J, J, J, J, J, J, J, J, J, J, J, J, J, J, J, J, J, J, J, J, J, J, J, J, J, J, J, J, J, J, J, J, J, J, J, J, J, J, J, J, J, J, J, J, J, J, J, J, J, J, J, J, J, J, J, J, J, J, J, J, J, J, J, J, J, J, J, J, J, J, J, J, J, J, J, J, J, J, J, J, J, J, J, J, J, J, J, J, J, J, J, J, J, J, J, J, J, J, J, J, J, J, J, J, J, J, J, J, J, J, J, J, J, J, J, J, J, J, J, J, J, J, J, J, J, J, J, J, J, J, J, J, J, J, J, J, J, J, J, J], [sysXB (evSys e), mvB x, one16 zeroF, one16 zeroF])) (evRows e).length (fun _ => True) [some 0, some 1, some 2, some 3] trivial
        ⟨rfl, rfl, ⟨⟨rfl, rfl, rfl, .inr ⟨⟨rfl, rfl, trivial⟩, trivial⟩⟩, ⟨rfl, rfl, rfl, .inl ⟨rfl, rowsT_mvB x⟩⟩, ⟨rfl, rfl, rfl, .inl ⟨rfl, rowsT_one16 _⟩⟩, ⟨rfl, rfl, rfl, .inl ⟨rfl, rowsT_one16 _⟩⟩, trivial⟩, ⟨rfl, rfl, ⟨rfl, rfl, rfl⟩, rfl, ⟨rfl, rfl, rfl⟩, ⟨rfl, rfl, rfl⟩, ⟨rfl, rfl, rfl⟩, rfl, rfl, rfl, trivial⟩⟩ ?_
      intro k hk _
      by_cases hkt : k < (evRows e).length
      · obtain ⟨w, hw⟩ : ∃ w, (evRows e)[k]? = some w := ⟨_, List.getElem?_eq_getElem hkt⟩
        have oo := a_EOrigin e hs (fun _ => hE) k
        rw [or_get h3 hw] at oo
        simp only [Option.getD_some, Option.isSome_some] at oo
        have rw1 := row_get hw
        have cs := countW_succ (i := i) hw
        have cle : countW i ((evRows e).take k) ≤ 400 := Nat.le_trans (List.length_filter_le _ _) (by rw [List.length_take]; omega)
        have m7 : (w.1.terms.map termRow).length = w.1.terms.length := by simp
        have fin1 : ∀ (n : Nat) (H : Blk), n = countW i ((evRows e).take (k + 1)) → True := fun _ _ _ => trivial
        by_cases hW : isW i w = true
        · obtain ⟨lo', hi'', hiv', ht, hc⟩ := isW_row hm1 hx (List.mem_of_getElem? hw) hW
          rw [if_pos hW] at cs
          have hW2 := isW_of.1 hW
          exact absurd hiv' (by rw [hivN]; intro h; cases h)
        · rw [if_neg hW] at cs
          have hW2 : ¬ (w.2.mv = i ∧ (w.2.kind = 1 ∨ w.2.kind = 2)) := fun h => hW (isW_of.2 h)
          conv => whnf
          (repeat' (first | ((refine DecB.mk (fun h => ?_) (fun h => ?_)) <;> first | (exfalso; omega) | (conv => whnf)) | ((refine BoolB.mk (fun h => ?_) (fun h => ?_)) <;> first | (exact absurd h (by decide)) | (conv => whnf)) | ((first | refine ⟨_, wrap_ok (by omega) (by omega), ?_⟩ | refine and_idx (by omega) (by omega) ?_ | refine reg_ok (by decide +kernel) ?_ | refine bar_ok (by decide +kernel) (by decide +kernel) ?_ | refine late_ok rfl rfl ?_ | refine src_ok rfl ?_ | refine .inl ⟨_, _, qcall_pure (oo) rfl rfl, ?_⟩ | refine .inl ⟨_, _, qcall_pure (5) rfl rfl, ?_⟩ | refine bar_late [5] (by decide +kernel) (by decide +kernel) ?_ | refine LitB.data ?_ | refine BoxB.own ?_); conv => whnf)))
          all_goals first
            | (exfalso; omega)
            | exact ⟨hkt, trivial, [some 0, some 1, some 2, some 3], rfl, rfl, ⟨⟨rfl, rfl, rfl, .inr ⟨⟨rfl, rfl, trivial⟩, trivial⟩⟩, ⟨rfl, rfl, rfl, .inl ⟨rfl, rowsT_mvB x⟩⟩, ⟨rfl, rfl, rfl, .inl ⟨rfl, rowsT_one16 _⟩⟩, ⟨rfl, rfl, rfl, .inl ⟨rfl, rowsT_one16 _⟩⟩, trivial⟩, ⟨rfl, rfl, ⟨rfl, rfl, rfl⟩, rfl, ⟨rfl, rfl, rfl⟩, ⟨rfl, rfl, rfl⟩, ⟨rfl, rfl, rfl⟩, rfl, ent_i (by omega), rfl, trivial⟩⟩
            | skip
      · have hke : k = (evRows e).length := by omega
        subst hke
        have ce := count_end hm1 hx
        rw [List.take_length]
        rw [hivN, if_neg (by intro h; cases h)] at ce
        conv => whnf
        (repeat' (first | ((refine DecB.mk (fun h => ?_) (fun h => ?_)) <;> first | (exfalso; omega) | (conv => whnf)) | ((refine BoolB.mk (fun h => ?_) (fun h => ?_)) <;> first | (exact absurd h (by decide)) | (conv => whnf)) | ((first | refine ⟨_, wrap_ok (by omega) (by omega), ?_⟩ | refine and_idx (by omega) (by omega) ?_ | refine reg_ok (by decide +kernel) ?_ | refine bar_ok (by decide +kernel) (by decide +kernel) ?_ | refine late_ok rfl rfl ?_ | refine src_ok rfl ?_ | refine LitB.data ?_ | refine BoxB.own ?_); conv => whnf)))
        all_goals first
          | (exfalso; omega)
          | exact ⟨hlt, trivial, [some 0], rfl, rfl, ⟨⟨rfl, rfl, rfl, .inr ⟨⟨rfl, rfl, trivial⟩, trivial⟩⟩, trivial⟩, ⟨rfl, rfl, ⟨rfl, rfl, rfl⟩, rfl, trivial⟩⟩
          | skip
    | some lh =>
      obtain ⟨lo, hi⟩ := lh
      have hrl := rl_interval hiv
      rw [hiv] at iv
      conv => whnf
      (repeat' (first | ((refine DecB.mk (fun h => ?_) (fun h => ?_)) <;> first | (exfalso; omega) | (conv => whnf)) | ((refine BoolB.mk (fun h => ?_) (fun h => ?_)) <;> first | (exact absurd h (by decide)) | (conv => whnf)) | ((first | refine ⟨_, wrap_ok (by omega) (by omega), ?_⟩ | refine and_idx (by omega) (by omega) ?_ | refine reg_ok (by decide +kernel) ?_ | refine bar_ok (by decide +kernel) (by decide +kernel) ?_ | refine late_ok rfl rfl ?_ | refine src_ok rfl ?_ | refine .inl ⟨_, _, qcall_pure (iv) rfl rfl, ?_⟩ | refine .inl ⟨_, _, qcall_pure (13, 14) rfl rfl, ?_⟩ | refine .inl ⟨_, _, qcall_pure (14) rfl rfl, ?_⟩ | refine ex_row hx ?_ | refine bar_late [13, 14] (by decide +kernel) (by decide +kernel) ?_ | refine bar_late [14] (by decide +kernel) (by decide +kernel) ?_ | refine LitB.data ?_ | refine BoxB.own ?_); conv => whnf)))
      all_goals try (exfalso; omega)
      refine awp_for tab_ok (fun k => ([J, S.c (C.t (T.ptr (evT e))), J, boolS true, S.c (C.ptr 0 0 0), J, intS .i64 i, S.c (C.ptr 1 0 0), S.c (C.ptr 2 0 0), S.c (C.ptr 3 0 0), boolS true, intS .i64 (countW i ((evRows e).take k)), intS .i64 k, J, J, J, J, J, J, J, J, J, J, J, J, J, J, J, J, J, J, J, J, J, J, J, J, J, J, J, J, J, J, J, J, J, J, J, J, J, J, J, J, J, J, J, J, J, J, J, J, J, J, J, J, J, J, J, J, J, J, J, J, J, J, J, J, J, J, J, J, J, J, J, J, J, J, J, J, J, J, J, J, J, J, J, J, J, J, J, J, J, J, J, J, J, J, J, J, J, J, J, J, J, J, J, J, J, J, J, J, J, J, J, J, J, J, J, J, J, J, J, J, J, J, J, J, J, J, J, J, J, J, J, J, J, J, J, J, J, J, J, J, J, J, J, J, J, J, J, J, J, J, J, J, J, J, J, J, J, J, J, J, J, J, J, J, J], [sysXB (evSys e), mvB x, one16 (fz lo), one16 (fz hi)])) (evRows e).length (fun _ => True) [some 0, some 1, some 2, some 3] trivial
        ⟨rfl, rfl, ⟨⟨rfl, rfl, rfl, .inr ⟨⟨rfl, rfl, trivial⟩, trivial⟩⟩, ⟨rfl, rfl, rfl, .inl ⟨rfl, rowsT_mvB x⟩⟩, ⟨rfl, rfl, rfl, .inl ⟨rfl, rowsT_one16 _⟩⟩, ⟨rfl, rfl, rfl, .inl ⟨rfl, rowsT_one16 _⟩⟩, trivial⟩, ⟨rfl, rfl, ⟨rfl, rfl, rfl⟩, rfl, ⟨rfl, rfl, rfl⟩, ⟨rfl, rfl, rfl⟩, ⟨rfl, rfl, rfl⟩, rfl, rfl, rfl, trivial⟩⟩ ?_
      intro k hk _
      by_cases hkt : k < (evRows e).length
      · obtain ⟨w, hw⟩ : ∃ w, (evRows e)[k]? = some w := ⟨_, List.getElem?_eq_getElem hkt⟩
        have oo := a_EOrigin e hs (fun _ => hE) k
        rw [or_get h3 hw] at oo
        simp only [Option.getD_some, Option.isSome_some] at oo
        have rw1 := row_get hw
        have cs := countW_succ (i := i) hw
        have cle : countW i ((evRows e).take k) ≤ 400 := Nat.le_trans (List.length_filter_le _ _) (by rw [List.length_take]; omega)
        have m7 : (w.1.terms.map termRow).length = w.1.terms.length := by simp
        have fin1 : ∀ (n : Nat) (H : Blk), n = countW i ((evRows e).take (k + 1)) → True := fun _ _ _ => trivial
        by_cases hW : isW i w = true
        · obtain ⟨lo', hi'', hiv', ht, hc⟩ := isW_row hm1 hx (List.mem_of_getElem? hw) hW
          rw [if_pos hW] at cs
          have hW2 := isW_of.1 hW
          have hsc : x.scale ≠ -1 := by
            intro h
            unfold ivOf at hiv'
            rw [if_pos h] at hiv'; cases hiv'
          have hpe : lo' = lo ∧ hi'' = hi := by
            unfold ivOf at hiv'
            rw [if_neg hsc, hiv] at hiv'
            injection hiv' with h; injection h with h4 h5; exact ⟨h4.symm, h5.symm⟩
          obtain ⟨rfl, rfl⟩ := hpe
          have q1 := fz_len8 (Nat.le_trans hrl.1 (by decide) : rl lo' ≤ 200)
          have q2 := fz_len8 (Nat.le_trans hrl.2 (by decide) : rl hi'' ≤ 200)
          rcases hc with ⟨k1, k2, k3⟩ | ⟨k1, k2, k3⟩
          · have sr : ACall Tryz.prog 32 [frS (fz w.1.value), frS (fz lo')] [] (boolS true) [] := by rw [k3]; exact a_SameF (fz lo') q1.1 q1.2
            conv => whnf
            (repeat' (first | ((refine DecB.mk (fun h => ?_) (fun h => ?_)) <;> first | (exfalso; omega) | (conv => whnf)) | ((refine BoolB.mk (fun h => ?_) (fun h => ?_)) <;> first | (exact absurd h (by decide)) | (conv => whnf)) | ((first | refine ⟨_, wrap_ok (by omega) (by omega), ?_⟩ | refine and_idx (by omega) (by omega) ?_ | refine reg_ok (by decide +kernel) ?_ | refine bar_ok (by decide +kernel) (by decide +kernel) ?_ | refine late_ok rfl rfl ?_ | refine src_ok rfl ?_ | refine .inl ⟨_, _, qcall_pure (oo) rfl rfl, ?_⟩ | refine .inl ⟨_, _, qcall_pure (sr) rfl rfl, ?_⟩ | refine .inl ⟨_, _, qcall_pure (5) rfl rfl, ?_⟩ | refine bar_late [5] (by decide +kernel) (by decide +kernel) ?_ | refine ex_row rw1 ?_ | refine LitB.data ?_ | refine BoxB.own ?_); conv => whnf)))
            all_goals first
              | (exfalso; omega)
              | exact ⟨hkt, trivial, [some 0, some 1, some 2, some 3], rfl, rfl, ⟨⟨rfl, rfl, rfl, .inr ⟨⟨rfl, rfl, trivial⟩, trivial⟩⟩, ⟨rfl, rfl, rfl, .inl ⟨rfl, rowsT_mvB x⟩⟩, ⟨rfl, rfl, rfl, .inl ⟨rfl, rowsT_one16 _⟩⟩, ⟨rfl, rfl, rfl, .inl ⟨rfl, rowsT_one16 _⟩⟩, trivial⟩, ⟨rfl, rfl, ⟨rfl, rfl, rfl⟩, rfl, ⟨rfl, rfl, rfl⟩, ⟨rfl, rfl, rfl⟩, ⟨rfl, rfl, rfl⟩, rfl, ent_i (by omega), rfl, trivial⟩⟩
              | skip
          · have sr : ACall Tryz.prog 32 [frS (fz w.1.value), frS (fz hi'')] [] (boolS true) [] := by rw [k3]; exact a_SameF (fz hi'') q2.1 q2.2
            conv => whnf
            (repeat' (first | ((refine DecB.mk (fun h => ?_) (fun h => ?_)) <;> first | (exfalso; omega) | (conv => whnf)) | ((refine BoolB.mk (fun h => ?_) (fun h => ?_)) <;> first | (exact absurd h (by decide)) | (conv => whnf)) | ((first | refine ⟨_, wrap_ok (by omega) (by omega), ?_⟩ | refine and_idx (by omega) (by omega) ?_ | refine reg_ok (by decide +kernel) ?_ | refine bar_ok (by decide +kernel) (by decide +kernel) ?_ | refine late_ok rfl rfl ?_ | refine src_ok rfl ?_ | refine .inl ⟨_, _, qcall_pure (oo) rfl rfl, ?_⟩ | refine .inl ⟨_, _, qcall_pure (sr) rfl rfl, ?_⟩ | refine .inl ⟨_, _, qcall_pure (5) rfl rfl, ?_⟩ | refine bar_late [5] (by decide +kernel) (by decide +kernel) ?_ | refine ex_row rw1 ?_ | refine LitB.data ?_ | refine BoxB.own ?_); conv => whnf)))
            all_goals first
              | (exfalso; omega)
              | exact ⟨hkt, trivial, [some 0, some 1, some 2, some 3], rfl, rfl, ⟨⟨rfl, rfl, rfl, .inr ⟨⟨rfl, rfl, trivial⟩, trivial⟩⟩, ⟨rfl, rfl, rfl, .inl ⟨rfl, rowsT_mvB x⟩⟩, ⟨rfl, rfl, rfl, .inl ⟨rfl, rowsT_one16 _⟩⟩, ⟨rfl, rfl, rfl, .inl ⟨rfl, rowsT_one16 _⟩⟩, trivial⟩, ⟨rfl, rfl, ⟨rfl, rfl, rfl⟩, rfl, ⟨rfl, rfl, rfl⟩, ⟨rfl, rfl, rfl⟩, ⟨rfl, rfl, rfl⟩, rfl, ent_i (by omega), rfl, trivial⟩⟩
              | skip
        · rw [if_neg hW] at cs
          have hW2 : ¬ (w.2.mv = i ∧ (w.2.kind = 1 ∨ w.2.kind = 2)) := fun h => hW (isW_of.2 h)
          conv => whnf
          (repeat' (first | ((refine DecB.mk (fun h => ?_) (fun h => ?_)) <;> first | (exfalso; omega) | (conv => whnf)) | ((refine BoolB.mk (fun h => ?_) (fun h => ?_)) <;> first | (exact absurd h (by decide)) | (conv => whnf)) | ((first | refine ⟨_, wrap_ok (by omega) (by omega), ?_⟩ | refine and_idx (by omega) (by omega) ?_ | refine reg_ok (by decide +kernel) ?_ | refine bar_ok (by decide +kernel) (by decide +kernel) ?_ | refine late_ok rfl rfl ?_ | refine src_ok rfl ?_ | refine .inl ⟨_, _, qcall_pure (oo) rfl rfl, ?_⟩ | refine .inl ⟨_, _, qcall_pure (5) rfl rfl, ?_⟩ | refine bar_late [5] (by decide +kernel) (by decide +kernel) ?_ | refine LitB.data ?_ | refine BoxB.own ?_); conv => whnf)))
          all_goals first
            | (exfalso; omega)
            | exact ⟨hkt, trivial, [some 0, some 1, some 2, some 3], rfl, rfl, ⟨⟨rfl, rfl, rfl, .inr ⟨⟨rfl, rfl, trivial⟩, trivial⟩⟩, ⟨rfl, rfl, rfl, .inl ⟨rfl, rowsT_mvB x⟩⟩, ⟨rfl, rfl, rfl, .inl ⟨rfl, rowsT_one16 _⟩⟩, ⟨rfl, rfl, rfl, .inl ⟨rfl, rowsT_one16 _⟩⟩, trivial⟩, ⟨rfl, rfl, ⟨rfl, rfl, rfl⟩, rfl, ⟨rfl, rfl, rfl⟩, ⟨rfl, rfl, rfl⟩, ⟨rfl, rfl, rfl⟩, rfl, ent_i (by omega), rfl, trivial⟩⟩
            | skip
      · have hke : k = (evRows e).length := by omega
        subst hke
        have ce := count_end hm1 hx
        rw [List.take_length]
        have ce2 : countW i (evRows e) = if x.scale = -1 then 0 else 2 := by
          rw [ce]; unfold ivOf
          by_cases hsc : x.scale = -1
          · rw [if_pos hsc, if_pos hsc]; rfl
          · rw [if_neg hsc, if_neg hsc, hiv]; rfl
        by_cases hsc : x.scale = -1
        · rw [if_pos hsc] at ce2
          conv => whnf
          (repeat' (first | ((refine DecB.mk (fun h => ?_) (fun h => ?_)) <;> first | (exfalso; omega) | (conv => whnf)) | ((refine BoolB.mk (fun h => ?_) (fun h => ?_)) <;> first | (exact absurd h (by decide)) | (conv => whnf)) | ((first | refine ⟨_, wrap_ok (by omega) (by omega), ?_⟩ | refine and_idx (by omega) (by omega) ?_ | refine reg_ok (by decide +kernel) ?_ | refine bar_ok (by decide +kernel) (by decide +kernel) ?_ | refine late_ok rfl rfl ?_ | refine src_ok rfl ?_ | refine LitB.data ?_ | refine BoxB.own ?_); conv => whnf)))
          all_goals first
            | (exfalso; omega)
            | exact ⟨hlt, trivial, [some 0], rfl, rfl, ⟨⟨rfl, rfl, rfl, .inr ⟨⟨rfl, rfl, trivial⟩, trivial⟩⟩, trivial⟩, ⟨rfl, rfl, ⟨rfl, rfl, rfl⟩, rfl, trivial⟩⟩
        · rw [if_neg hsc] at ce2
          conv => whnf
          (repeat' (first | ((refine DecB.mk (fun h => ?_) (fun h => ?_)) <;> first | (exfalso; omega) | (conv => whnf)) | ((refine BoolB.mk (fun h => ?_) (fun h => ?_)) <;> first | (exact absurd h (by decide)) | (conv => whnf)) | ((first | refine ⟨_, wrap_ok (by omega) (by omega), ?_⟩ | refine and_idx (by omega) (by omega) ?_ | refine reg_ok (by decide +kernel) ?_ | refine bar_ok (by decide +kernel) (by decide +kernel) ?_ | refine late_ok rfl rfl ?_ | refine src_ok rfl ?_ | refine LitB.data ?_ | refine BoxB.own ?_); conv => whnf)))
          all_goals first
            | (exfalso; omega)
            | exact ⟨hlt, trivial, [some 0], rfl, rfl, ⟨⟨rfl, rfl, rfl, .inr ⟨⟨rfl, rfl, trivial⟩, trivial⟩⟩, trivial⟩, ⟨rfl, rfl, ⟨rfl, rfl, rfl⟩, rfl, trivial⟩⟩
  · have hke : i = e.moves.length := by omega
    subst hke
    conv => whnf
    (repeat' (first | ((refine DecB.mk (fun h => ?_) (fun h => ?_)) <;> first | (exfalso; omega) | (conv => whnf)) | ((refine BoolB.mk (fun h => ?_) (fun h => ?_)) <;> first | (exact absurd h (by decide)) | (conv => whnf)) | ((first | refine ⟨_, wrap_ok (by omega) (by omega), ?_⟩ | refine and_idx (by omega) (by omega) ?_ | refine reg_ok (by decide +kernel) ?_ | refine bar_ok (by decide +kernel) (by decide +kernel) ?_ | refine late_ok rfl rfl ?_ | refine src_ok rfl ?_ | refine LitB.data ?_ | refine BoxB.own ?_); conv => whnf)))
    all_goals first
      | (exfalso; omega)
      | exact fin_bool rfl
end Go.Proofs.YtfieodjihaodiaaGreat
/- EvidenceMore: its walk. -/
namespace Go.Proofs.YtfieodjihaodiaaGreat
open Go.RowKit
set_option linter.unusedVariables false
set_option linter.unusedSimpArgs false
set_option maxRecDepth 100000

def purK (e : Ev) (n k : Nat) : List Purity := (e.purities.take k).filter fun q => decide (q.move < (n : Int))
theorem purK_yes {e : Ev} {n k : Nat} {x : Purity} (h : e.purities[k]? = some x) (hx : x.move < (n : Int)) : purK e n (k + 1) = purK e n k ++ [x] := by
  unfold purK; rw [take_snocE h, List.filter_append]; simp [hx]
theorem purK_no {e : Ev} {n k : Nat} {x : Purity} (h : e.purities[k]? = some x) (hx : ¬ x.move < (n : Int)) : purK e n (k + 1) = purK e n k := by
  unfold purK; rw [take_snocE h, List.filter_append]; simp [hx]
abbrev lessB16 (e : Ev) (n : Nat) (m : Nat) : Blk := newBlk 28 8 [[.t (ti e.mats), .t (ti e.hhs), .t (ti e.scs), .t (placesT e.places), .t (.sl 6 .any ((e.moves.map Move.row).take n)), .t (certsT e.certs), .t (recallsT e.recalls), .own 1 0 m true]] true
abbrev purB16 (l : List Purity) : Blk := { mode := .live, elem := 69, size := 4, rows := toC (l.map Purity.row), box := false }
theorem vs_lessM {e : Ev} {n : Nat} {ps : List Purity} (hp : ps = (lessM e n).purities) {p : Nat → Prop} {H : Hp} (h2 : p 1) {k : Blk} (hk : H[1]? = some k) (hd : ¬ k.mode.gone) (hs : k.size = 4) (hr : k.rows = toC (ps.map Purity.row)) {m : Nat} (hm : m = ps.length) :
    VS H p (.agg [.t (ti e.mats), .t (ti e.hhs), .t (ti e.scs), .t (placesT e.places), .t (.sl 6 .any ((e.moves.map Move.row).take n)), .t (certsT e.certs), .t (recallsT e.recalls), .own 1 0 m true]) (evS (lessM e n)) := by
  subst hp; subst hm
  refine vs_agg (ts := evT (lessM e n)) (vl_cons (vc_t rfl) (vl_cons (vc_t rfl) (vl_cons (vc_t rfl) (vl_cons (vc_t rfl) (vl_cons (vc_t ?_) (vl_cons (vc_t rfl) (vl_cons (vc_t rfl) (vl_cons (vc_all h2 hk hd hs hr (by simp)) vl_nil))))))))
  exact congrArg (T.sl 6 .any) (by simp [lessM])
theorem lessM_sm {e : Ev} (hE : EvSm e) (n : Nat) : EvSm (lessM e n) := by
  have h1 : (lessM e n).purities.length ≤ e.purities.length := List.length_filter_le _ _
  have h2 : (lessM e n).moves.length ≤ e.moves.length := by show (e.moves.take n).length ≤ _; rw [List.length_take]; omega
  exact ⟨⟨hE.sz.s1, Nat.le_trans h2 hE.sz.s2, hE.sz.s3, hE.sz.s4, Nat.le_trans h1 hE.sz.s5⟩, hE.m1, hE.m6, Nat.le_trans h2 hE.mv, Nat.le_trans h1 hE.pu,
    fun x hx => hE.src x (List.mem_of_mem_take hx), fun p hp => hE.pq p (List.mem_filter.1 hp).1⟩
set_option maxHeartbeats 8000000 in
theorem a_EvidenceMore (e : Ev) (first : Int) : ACall Tryz.prog 7 [evS e, intS .i64 first] [] (boolS true) [] := by
  have sa := a_sane16
  have f1 := a_Few16 e 8
  have m0 : (e.moves.map Move.row).length = e.moves.length := by simp
  have m9 : (e.purities.map Purity.row).length = e.purities.length := by simp
  cases h1 : few16 e 8 with
  | false =>
    rw [h1] at f1
    (refine acall_of tab_ok Tryz.func7 rfl (by decide) ?_; (conv => whnf); repeat (first | (refine LitB.data ?_; conv => whnf) | (refine BoxB.data ?_; conv => whnf)))
    (repeat' (first | ((refine DecB.mk (fun h => ?_) (fun h => ?_)) <;> first | (exfalso; omega) | (conv => whnf)) | ((refine BoolB.mk (fun h => ?_) (fun h => ?_)) <;> first | (exact absurd h (by decide)) | (conv => whnf)) | ((first | refine ⟨_, wrap_ok (by omega) (by omega), ?_⟩ | refine and_idx (by omega) (by omega) ?_ | refine reg_ok (by decide +kernel) ?_ | refine bar_ok (by decide +kernel) (by decide +kernel) ?_ | refine late_ok rfl rfl ?_ | refine src_ok rfl ?_ | refine .inl ⟨_, _, qcall_pure (sa) rfl rfl, ?_⟩ | refine .inl ⟨_, _, qcall_pure (f1) rfl rfl, ?_⟩ | refine LitB.data ?_ | refine BoxB.own ?_); conv => whnf)))
    all_goals first
      | (exfalso; omega)
      | exact fin_bool rfl
  | true =>
  rw [h1] at f1
  have hs := few16_sized h1
  have ck := a_Check e hs
  by_cases h30 : ¬ (check e = 0 ∧ 0 ≤ first ∧ first ≤ e.moves.length)
  · by_cases h4 : check e = 0
    · (refine acall_of tab_ok Tryz.func7 rfl (by decide) ?_; (conv => whnf); repeat (first | (refine LitB.data ?_; conv => whnf) | (refine BoxB.data ?_; conv => whnf)))
      (repeat' (first | ((refine DecB.mk (fun h => ?_) (fun h => ?_)) <;> first | (exfalso; omega) | (conv => whnf)) | ((refine BoolB.mk (fun h => ?_) (fun h => ?_)) <;> first | (exact absurd h (by decide)) | (conv => whnf)) | ((first | refine ⟨_, wrap_ok (by omega) (by omega), ?_⟩ | refine and_idx (by omega) (by omega) ?_ | refine reg_ok (by decide +kernel) ?_ | refine bar_ok (by decide +kernel) (by decide +kernel) ?_ | refine late_ok rfl rfl ?_ | refine src_ok rfl ?_ | refine .inl ⟨_, _, qcall_pure (sa) rfl rfl, ?_⟩ | refine .inl ⟨_, _, qcall_pure (f1) rfl rfl, ?_⟩ | refine .inl ⟨_, _, qcall_pure (ck) rfl rfl, ?_⟩ | refine LitB.data ?_ | refine BoxB.own ?_); conv => whnf)))
      all_goals first
        | (exfalso; omega)
        | exact fin_bool rfl
    · (refine acall_of tab_ok Tryz.func7 rfl (by decide) ?_; (conv => whnf); repeat (first | (refine LitB.data ?_; conv => whnf) | (refine BoxB.data ?_; conv => whnf)))
      (repeat' (first | ((refine DecB.mk (fun h => ?_) (fun h => ?_)) <;> first | (exfalso; omega) | (conv => whnf)) | ((refine BoolB.mk (fun h => ?_) (fun h => ?_)) <;> first | (exact absurd h (by decide)) | (conv => whnf)) | ((first | refine ⟨_, wrap_ok (by omega) (by omega), ?_⟩ | refine and_idx (by omega) (by omega) ?_ | refine reg_ok (by decide +kernel) ?_ | refine bar_ok (by decide +kernel) (by decide +kernel) ?_ | refine late_ok rfl rfl ?_ | refine src_ok rfl ?_ | refine .inl ⟨_, _, qcall_pure (sa) rfl rfl, ?_⟩ | refine .inl ⟨_, _, qcall_pure (f1) rfl rfl, ?_⟩ | refine .inl ⟨_, _, qcall_pure (ck) rfl rfl, ?_⟩ | refine LitB.data ?_ | refine BoxB.own ?_); conv => whnf)))
      all_goals first
        | (exfalso; omega)
        | exact fin_bool rfl
  obtain ⟨h3, h4, h5⟩ := Decidable.not_not.1 h30
  obtain ⟨n, rfl⟩ := Int.eq_ofNat_of_zero_le h4
  have hn : n ≤ e.moves.length := by omega
  have hE := few16_small h1 h3
  have hE2 := lessM_sm hE n
  have c2 := lessM_check h3 hn
  have sy := a_ESystem e hs (fun _ => hE)
  have e1 : evSysR e = evSys e := by unfold evSysR; rw [if_neg (by omega)]
  rw [e1, h3] at sy
  have sy2 := a_ESystem (lessM e n) hE2.sz (fun _ => hE2)
  have e2 : evSysR (lessM e n) = evSys (lessM e n) := by unfold evSysR; rw [if_neg (by omega)]
  rw [e2, c2] at sy2
  rw [h3] at ck
  have hmv := hE.mv
  have hm1 := hE.m1
  have hm6 := hE.m6
  have hpu := hE.pu
  obtain ⟨rr, hrr⟩ := rows_less hn
  have hll : (evSys e).rows.length = (evSys (lessM e n)).rows.length + rr.length := by rw [hrr, List.length_append]
  have rl0 := rows_len e
  have rl1 : (evRows e).length ≤ 400 := evTo_small hE (Nat.le_refl _)
  have m3 : ((evSys e).rows.map rowRow).length = (evSys e).rows.length := by simp
  have m4 : ((evSys (lessM e n)).rows.map rowRow).length = (evSys (lessM e n)).rows.length := by simp
  have n0 : 0 ≤ (n : Int) * e.mats := Int.mul_nonneg (by omega) (by omega)
  have n1 : (n : Int) * e.mats ≤ 8 * 6 := Int.mul_le_mul (by omega) hm6 (by omega) (by decide)
  have nn : (evSys (lessM e n)).n = (n : Int) * e.mats := by show ((e.moves.take n).length : Int) * e.mats = _; rw [List.length_take, Nat.min_eq_left hn]
  (refine acall_of tab_ok Tryz.func7 rfl (by decide) ?_; (conv => whnf); repeat (first | (refine LitB.data ?_; conv => whnf) | (refine BoxB.data ?_; conv => whnf)))
  (repeat' (first | ((refine DecB.mk (fun h => ?_) (fun h => ?_)) <;> first | (exfalso; omega) | (conv => whnf)) | ((refine BoolB.mk (fun h => ?_) (fun h => ?_)) <;> first | (exact absurd h (by decide)) | (conv => whnf)) | ((first | refine ⟨_, wrap_ok (by omega) (by omega), ?_⟩ | refine and_idx (by omega) (by omega) ?_ | refine reg_ok (by decide +kernel) ?_ | refine bar_ok (by decide +kernel) (by decide +kernel) ?_ | refine late_ok rfl rfl ?_ | refine src_ok rfl ?_ | refine .inl ⟨_, _, qcall_pure (sa) rfl rfl, ?_⟩ | refine .inl ⟨_, _, qcall_pure (f1) rfl rfl, ?_⟩ | refine .inl ⟨_, _, qcall_pure (ck) rfl rfl, ?_⟩ | refine sl_ok (by omega) (by omega) (by omega) ?_ | refine LitB.data ?_ | refine BoxB.own ?_); conv => whnf)))
  all_goals try (exfalso; omega)
  refine awp_for tab_ok (fun k => ([J, intS .i64 n, S.c (C.t (T.ptr (evT e))), J, J, boolS true, S.c (C.ptr 0 0 0), intS .i64 k, J, J, J, J, J, J, J, J, J, J, J, J, J, J, J, J, J, J, J, J, J, J, J, J, J, J, J, J, J, J, J, J, J, J, J, J, J, J, J, J, J, J, J, J, J, J, J, J, J, J, J, J, J, J, J, J, J, J, J, J, J, J, J, J, J, J, J, J, J, J, J, J, J, J, J, J, J, J, J, J, J, J, J, J, J, J, J, J, J, J, J, J, J, J, J, J, J, J, J, J, J, J, J, J, J, J, J, J, J, J, J, J], [lessB16 e n (purK e n k).length, purB16 (purK e n k)])) e.purities.length (fun _ => True) [some 0, none] trivial
    ⟨rfl, rfl, ⟨⟨rfl, rfl, rfl, .inr ⟨⟨rfl, rfl, rfl, rfl, rfl, rfl, rfl, ⟨rfl, rfl, rfl⟩, trivial⟩, trivial⟩⟩, ⟨rfl, rfl⟩, trivial⟩, ⟨rfl, rfl, rfl, ⟨rfl, rfl, rfl⟩, rfl, trivial⟩⟩ ?_
  intro k hk _
  have hpl : (purK e n k).length ≤ e.purities.length := Nat.le_trans (List.length_filter_le _ _) (by rw [List.length_take]; omega)
  have lA : (purK e n k).length ≤ (purB16 (purK e n k)).rows.length := by show _ ≤ (toC _).length; simp [toC]
  have lC : ((purK e n k).length + 1) * 33 ≤ 140737488355328 := by omega
  by_cases hkt : k < e.purities.length
  · obtain ⟨x, hx⟩ : ∃ x, e.purities[k]? = some x := ⟨_, List.getElem?_eq_getElem hkt⟩
    by_cases hb : x.move < (n : Int)
    · conv => whnf
      (repeat' (first | ((refine DecB.mk (fun h => ?_) (fun h => ?_)) <;> first | (exfalso; omega) | (conv => whnf)) | ((refine BoolB.mk (fun h => ?_) (fun h => ?_)) <;> first | (exact absurd h (by decide)) | (conv => whnf)) | ((first | refine ⟨_, wrap_ok (by omega) (by omega), ?_⟩ | refine and_idx (by omega) (by omega) ?_ | refine reg_ok (by decide +kernel) ?_ | refine bar_ok (by decide +kernel) (by decide +kernel) ?_ | refine late_ok rfl rfl ?_ | refine src_ok rfl ?_ | refine ex_row hx ?_ | refine app_ok lA lC ?_ | refine LitB.data ?_ | refine BoxB.own ?_); conv => whnf)))
      all_goals try (exfalso; omega)
      refine ⟨hkt, trivial, [some 0, some 2], rfl, rfl, ⟨⟨rfl, rfl, rfl, .inr ⟨⟨rfl, rfl, rfl, rfl, rfl, rfl, rfl, ⟨rfl, rfl, ?_, fun h => h⟩, trivial⟩, trivial⟩⟩, entB_rows rfl rfl rfl ?_ rfl, trivial⟩, ⟨rfl, rfl, rfl, ⟨rfl, rfl, rfl⟩, rfl, trivial⟩⟩
      · rw [purK_yes hx hb]; simp [toC]
      · rw [purK_yes hx hb]; exact ext_pair (f := Purity.row) (x := x) rfl
    · conv => whnf
      (repeat' (first | ((refine DecB.mk (fun h => ?_) (fun h => ?_)) <;> first | (exfalso; omega) | (conv => whnf)) | ((refine BoolB.mk (fun h => ?_) (fun h => ?_)) <;> first | (exact absurd h (by decide)) | (conv => whnf)) | ((first | refine ⟨_, wrap_ok (by omega) (by omega), ?_⟩ | refine and_idx (by omega) (by omega) ?_ | refine reg_ok (by decide +kernel) ?_ | refine bar_ok (by decide +kernel) (by decide +kernel) ?_ | refine late_ok rfl rfl ?_ | refine src_ok rfl ?_ | refine ex_row hx ?_ | refine LitB.data ?_ | refine BoxB.own ?_); conv => whnf)))
      all_goals try (exfalso; omega)
      refine ⟨hkt, trivial, [some 0, some 1], rfl, rfl, ⟨⟨rfl, rfl, rfl, .inr ⟨⟨rfl, rfl, rfl, rfl, rfl, rfl, rfl, ⟨rfl, rfl, ?_, fun h => h⟩, trivial⟩, trivial⟩⟩, entB_rows rfl rfl rfl ?_ rfl, trivial⟩, ⟨rfl, rfl, rfl, ⟨rfl, rfl, rfl⟩, rfl, trivial⟩⟩
      · rw [purK_no hx hb]
      · rw [purK_no hx hb]
  · have hke : k = e.purities.length := by omega
    subst hke
    have hpp : purK e n e.purities.length = (lessM e n).purities := by unfold purK lessM; rw [List.take_length]
    conv => whnf
    (repeat' (first | ((refine DecB.mk (fun h => ?_) (fun h => ?_)) <;> first | (exfalso; omega) | (conv => whnf)) | ((refine BoolB.mk (fun h => ?_) (fun h => ?_)) <;> first | (exact absurd h (by decide)) | (conv => whnf)) | ((first | refine ⟨_, wrap_ok (by omega) (by omega), ?_⟩ | refine and_idx (by omega) (by omega) ?_ | refine reg_ok (by decide +kernel) ?_ | refine bar_ok (by decide +kernel) (by decide +kernel) ?_ | refine late_ok rfl rfl ?_ | refine src_ok rfl ?_ | refine .inl ⟨_, _, qcall_pure (sy) rfl rfl, ?_⟩ | refine .inl ⟨_, _, qcall_pure (1) rfl rfl, ?_⟩ | refine .inl ⟨_, _, qcall_pure (1) rfl rfl, ?_⟩ | refine .inl ⟨_, _, qcall_pure (4) rfl rfl, ?_⟩ | refine .inr ⟨_, _, acall_freeze [1] sy2 ⟨vs_lessM (p := (· ∈ [1])) hpp (by simp) rfl (by intro h; cases h) rfl rfl rfl, trivial⟩ rfl, ?_⟩ | refine bar_late [4] (by decide +kernel) (by decide +kernel) ?_ | refine LitB.data ?_ | refine BoxB.own ?_); conv => whnf)))
    all_goals try (exfalso; omega)
    refine awp_for tab_ok (fun k => ([J, J, J, J, J, boolS true, J, J, S.c (C.ptr 0 0 0), J, S.c (C.ptr 1 0 0), J, intS .i64 k, J, J, J, J, J, J, J, J, J, J, J, J, J, J, J, J, J, J, J, J, J, J, J, J, J, J, J, J, J, J, J, J, J, J, J, J, J, J, J, J, J, J, J, J, J, J, J, J, J, J, J, J, J, J, J, J, J, J, J, J, J, J, J, J, J, J, J, J, J, J, J, J, J, J, J, J, J, J, J, J, J, J, J, J, J, J, J, J, J, J, J, J, J, J, J, J, J, J, J, J, J, J, J, J, J, J, J], [sysXB (evSys (lessM e n)), sysXB (evSys e)])) (evSys (lessM e n)).rows.length (fun _ => True) [some 2, some 3] trivial
      ⟨rfl, rfl, ⟨⟨rfl, rfl, rfl, .inr ⟨⟨rfl, rfl, trivial⟩, trivial⟩⟩, ⟨rfl, rfl, rfl, .inr ⟨⟨rfl, rfl, trivial⟩, trivial⟩⟩, trivial⟩, ⟨rfl, ⟨rfl, rfl, rfl⟩, ⟨rfl, rfl, rfl⟩, rfl, trivial⟩⟩ ?_
    intro j hj _
    by_cases hjt : j < (evSys (lessM e n)).rows.length
    · obtain ⟨w, hw⟩ : ∃ w, (evSys (lessM e n)).rows[j]? = some w := ⟨_, List.getElem?_eq_getElem hjt⟩
      have hw2 : (evSys e).rows[j]? = some w := by rw [hrr, List.getElem?_append_left hjt]; exact hw
      have hb := (ev_sb hE).t w (List.mem_of_getElem? hw2)
      have sr := a_SameRow16 w hb.1 hb.2.1 hb.2.2
      conv => whnf
      (repeat' (first | ((refine DecB.mk (fun h => ?_) (fun h => ?_)) <;> first | (exfalso; omega) | (conv => whnf)) | ((refine BoolB.mk (fun h => ?_) (fun h => ?_)) <;> first | (exact absurd h (by decide)) | (conv => whnf)) | ((first | refine ⟨_, wrap_ok (by omega) (by omega), ?_⟩ | refine and_idx (by omega) (by omega) ?_ | refine reg_ok (by decide +kernel) ?_ | refine bar_ok (by decide +kernel) (by decide +kernel) ?_ | refine late_ok rfl rfl ?_ | refine src_ok rfl ?_ | refine .inl ⟨_, _, qcall_pure (sr) rfl rfl, ?_⟩ | refine ex_row hw ?_ | refine ex_row hw2 ?_ | refine LitB.data ?_ | refine BoxB.own ?_); conv => whnf)))
      all_goals first
        | (exfalso; omega)
        | exact ⟨hjt, trivial, [some 0, some 1], rfl, rfl, ⟨⟨rfl, rfl, rfl, .inr ⟨⟨rfl, rfl, trivial⟩, trivial⟩⟩, ⟨rfl, rfl, rfl, .inr ⟨⟨rfl, rfl, trivial⟩, trivial⟩⟩, trivial⟩, ⟨rfl, ⟨rfl, rfl, rfl⟩, ⟨rfl, rfl, rfl⟩, rfl, trivial⟩⟩
    · have hje : j = (evSys (lessM e n)).rows.length := by omega
      subst hje
      conv => whnf
      (repeat' (first | ((refine DecB.mk (fun h => ?_) (fun h => ?_)) <;> first | (exfalso; omega) | (conv => whnf)) | ((refine BoolB.mk (fun h => ?_) (fun h => ?_)) <;> first | (exact absurd h (by decide)) | (conv => whnf)) | ((first | refine ⟨_, wrap_ok (by omega) (by omega), ?_⟩ | refine and_idx (by omega) (by omega) ?_ | refine reg_ok (by decide +kernel) ?_ | refine bar_ok (by decide +kernel) (by decide +kernel) ?_ | refine late_ok rfl rfl ?_ | refine src_ok rfl ?_ | refine LitB.data ?_ | refine BoxB.own ?_); conv => whnf)))
      all_goals first
        | (exfalso; omega)
        | exact fin_bool rfl
end Go.Proofs.YtfieodjihaodiaaGreat
/- EvidenceMore: at every input the law returns true, and its arguments read as before. Conditions: none. -/
namespace Go.Proofs.YtfieodjihaodiaaGreat
open Go.RowKit Go.ChangeShapes Go.WideShapes Go.ChangeAt

set_option maxRecDepth 100000 in
theorem evidenceMore_lifted (os : Os) (started : os.Started) (H : Type) (enc : TypeId × Value → H) :
    ReturnsInHanded {} Tryz.checked os 7 .any (Rows.evidenceMoreSpec.pre6 enc Tryz.prog Tryz.f7 Rows.evidenceMoreRow.domain false) (Rows.evidenceMoreSpec.post enc Tryz.prog Tryz.f7 false true false false) := by
  refine returnsInHanded_of_change (C := Tryz.checked) law_own started (by kernel_rfl) Tryz.func7
    (ChangeSpec.witness6 (enc := enc) (C := Tryz.checked) false ⟨#[], #[.agg #[.int .i64 0, .int .i64 0, .int .i64 0, .slice none 0 0, .slice none 0 0, .slice none 0 0, .slice none 0 0, .slice none 0 0], .int .i64 0], []⟩ 12 (by kernel_rfl) (by kernel_rfl) (by kernel_rfl) (by kernel_rfl)) ?_
  intro W base args ds gs before hval0 hW hcnd _
  have hval : ∀ (j : Nat) t v, Tryz.f7.params[j]? = some t → args[j]? = some v → Value.okWide Tryz.prog W .any base t v := hval0
  have hW' := hW
  obtain ⟨p, q, hA0, hV, rfl, hfz, hnd⟩ := hW
  have hA : DataW.TrodAll enc Tryz.prog W 0 (fun _ => true) true Tryz.f7.params.toList args.toList ds p := hA0
  rw [Tryz.params7] at hA hval
  obtain ⟨v0, vs0, d0, ds0, p0, q0, hargs, rfl, rfl, h0, r0⟩ := trodAll_cons hA
  obtain ⟨v1, vs1, d1, ds1, p1, q1, rfl, rfl, rfl, h1, r1⟩ := trodAll_cons r0
  obtain ⟨rfl, rfl, rfl⟩ := trodAll_nil r1
  obtain rfl : args = #[v0, v1] := by cases args; simp_all
  obtain ⟨rfl, rfl⟩ := trodVars_none hV
  obtain ⟨m, h, s, A1, n1, c1, A2, n2, c2, A3, n3, c3, A4, n4, c4, A5, n5, c5, e, rfl, hr, hb⟩ := open_ev (hval 0 28 v0 rfl rfl) h0
  obtain ⟨a1, rfl, rfl, rfl, w1⟩ := open_int Tryz.underlying3 (hval 1 3 v1 rfl rfl) h1
  refine (law_of_acall (a_EvidenceMore e a1) (.cons (rs_ev hr hb) (.cons (rs_int) (.nil)))).mono fun ee W' ⟨he, hg⟩ => ?_
  subst he
  exact ⟨_, rfl, law_post hW' law_laid (by rw [Tryz.params7]; intro t ht; simp at ht; rcases ht with rfl | rfl <;> exact ⟨by kernel_rfl, of_decide_eq_true (by kernel_rfl)⟩) rfl rfl (by kernel_rfl) Tryz.underlying4 hg⟩

theorem evidenceMore_holds : Rows.EvidenceMoreSaid :=
  OpenClaim.holds_of_wide 7 Tryz.f7 rfl rfl rfl rfl rfl rfl rfl ⟨rfl, rfl, rfl, rfl, rfl⟩ rfl rfl rfl rfl rfl (by kernel_rfl) Tryz.func7 (by kernel_rfl)
    (of_decide_eq_true (by kernel_rfl)) (by unfold Func.isWrapper; first | (rw [if_pos (by decide +kernel)]; kernel_rfl) | (rw [if_neg (by decide +kernel)]; exact ⟨rfl, rfl⟩))
    (fun os started H enc _ => evidenceMore_lifted os started H enc)
end Go.Proofs.YtfieodjihaodiaaGreat
/- EvidenceWeights: at every input the law returns true, and its arguments read as before. Conditions: none. -/
namespace Go.Proofs.YtfieodjihaodiaaGreat
open Go.RowKit Go.ChangeShapes Go.WideShapes Go.ChangeAt

set_option maxRecDepth 100000 in
theorem evidenceWeights_lifted (os : Os) (started : os.Started) (H : Type) (enc : TypeId × Value → H) :
    ReturnsInHanded {} Tryz.checked os 9 .any (Rows.evidenceWeightsSpec.pre6 enc Tryz.prog Tryz.f9 Rows.evidenceWeightsRow.domain false) (Rows.evidenceWeightsSpec.post enc Tryz.prog Tryz.f9 false true false false) := by
  refine returnsInHanded_of_change (C := Tryz.checked) law_own started (by kernel_rfl) Tryz.func9
    (ChangeSpec.witness6 (enc := enc) (C := Tryz.checked) false ⟨#[], #[.agg #[.int .i64 0, .int .i64 0, .int .i64 0, .slice none 0 0, .slice none 0 0, .slice none 0 0, .slice none 0 0, .slice none 0 0]], []⟩ 12 (by kernel_rfl) (by kernel_rfl) (by kernel_rfl) (by kernel_rfl)) ?_
  intro W base args ds gs before hval0 hW hcnd _
  have hval : ∀ (j : Nat) t v, Tryz.f9.params[j]? = some t → args[j]? = some v → Value.okWide Tryz.prog W .any base t v := hval0
  have hW' := hW
  obtain ⟨p, q, hA0, hV, rfl, hfz, hnd⟩ := hW
  have hA : DataW.TrodAll enc Tryz.prog W 0 (fun _ => true) true Tryz.f9.params.toList args.toList ds p := hA0
  rw [Tryz.params9] at hA hval
  obtain ⟨v0, vs0, d0, ds0, p0, q0, hargs, rfl, rfl, h0, r0⟩ := trodAll_cons hA
  obtain ⟨rfl, rfl, rfl⟩ := trodAll_nil r0
  obtain rfl : args = #[v0] := by cases args; simp_all
  obtain ⟨rfl, rfl⟩ := trodVars_none hV
  obtain ⟨m, h, s, A1, n1, c1, A2, n2, c2, A3, n3, c3, A4, n4, c4, A5, n5, c5, e, rfl, hr, hb⟩ := open_ev (hval 0 28 v0 rfl rfl) h0
  refine (law_of_acall (a_EvidenceWeights e) (.cons (rs_ev hr hb) (.nil))).mono fun ee W' ⟨he, hg⟩ => ?_
  subst he
  exact ⟨_, rfl, law_post hW' law_laid (by rw [Tryz.params9]; intro t ht; simp at ht; subst ht <;> exact ⟨by kernel_rfl, of_decide_eq_true (by kernel_rfl)⟩) rfl rfl (by kernel_rfl) Tryz.underlying4 hg⟩

theorem evidenceWeights_holds : Rows.EvidenceWeightsSaid :=
  OpenClaim.holds_of_wide 9 Tryz.f9 rfl rfl rfl rfl rfl rfl rfl ⟨rfl, rfl, rfl, rfl, rfl⟩ rfl rfl rfl rfl rfl (by kernel_rfl) Tryz.func9 (by kernel_rfl)
    (of_decide_eq_true (by kernel_rfl)) (by unfold Func.isWrapper; first | (rw [if_pos (by decide +kernel)]; kernel_rfl) | (rw [if_neg (by decide +kernel)]; exact ⟨rfl, rfl⟩))
    (fun os started H enc _ => evidenceWeights_lifted os started H enc)
end Go.Proofs.YtfieodjihaodiaaGreat

