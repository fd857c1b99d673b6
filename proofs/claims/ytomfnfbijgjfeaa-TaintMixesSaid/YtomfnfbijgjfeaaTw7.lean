/- Law 21: the rows of TaintMore, TaintBins, TaintMixes, TaintHolds, TaintMass. Conditions: none. -/
import Derived.Test.YtomfnfbijgjfeaaRows
import Derived.Test.YtomfnfbijgjfeaaTw6
/- Arguments opened by the shape of their type: integers, truth values, structs and slices, however nested. -/
namespace Go.Proofs.Ytomfnfbijgjfeaa
open Go.RowKit Go.ChangeShapes Go.WideShapes Go.Deep
set_option linter.unusedVariables false

inductive Sh where
  | int (k : IntKind)
  | bool
  | sl (row : List Sh)
inductive Fit : Sh → T → Prop
  | int {k : IntKind} {n : Int} (h : (Lit.int k n).wf = true) : Fit (.int k) (.atm (.int k n))
  | bool {b : Bool} : Fit .bool (.atm (.bool b))
  | sl {row : List Sh} {rows : List (List T)} (hl : ∀ r ∈ rows, r.length = row.length) (h : ∀ r ∈ rows, ∀ (j : Nat) (s : Sh) (t : T), row[j]? = some s → r[j]? = some t → Fit s t) : Fit (.sl row) (.sl row.length .any rows)
inductive HasSh (P : Program) : TypeId → List Sh → Prop
  | int {t : TypeId} {k : IntKind} (h : P.underlying t = some (.int k)) : HasSh P t [.int k]
  | bool {t : TypeId} (h : P.underlying t = some .bool) : HasSh P t [.bool]
  | sl {t e : TypeId} {row : List Sh} (h : P.underlying t = some (.slice e)) (hc : P.cellsOf e = row.length) (hp : 0 < row.length) (he : HasSh P e row) : HasSh P t [.sl row]
  | struct {t : TypeId} {fs : Array Field} (parts : List (List Sh)) (h : P.underlying t = some (.struct fs)) (hl : parts.length = fs.size)
      (ho : ∀ (i : Nat) (f : Field) (p : List Sh), fs[i]? = some f → parts[i]? = some p → f.offset = (parts.take i).flatten.length ∧ P.cellsOf f.type = p.length)
      (hc : P.cellsOf t = parts.flatten.length)
      (he : ∀ (i : Nat) (f : Field) (p : List Sh), fs[i]? = some f → parts[i]? = some p → HasSh P f.type p) : HasSh P t parts.flatten

section
variable {H : Type} {enc : TypeId × Value → H} {P : Program} {w : World} {base : Nat} {spare : Nat → Bool} {held : Bool}
/-- cells that read as trees of these shapes -/
def OpenAs (w : World) (shs : List Sh) (cs : List Value) : Prop :=
  cs.length = shs.length ∧ ∃ ts : List T, ts.length = shs.length ∧ ∀ (j : Nat) (s : Sh), shs[j]? = some s → ∃ u t, cs[j]? = some u ∧ ts[j]? = some t ∧ RT w (fun _ => False) t u ∧ Fit s t
theorem flatten_at {α : Type} : ∀ (parts : List (List α)) (j : Nat) (x : α), parts.flatten[j]? = some x → ∃ i p k, parts[i]? = some p ∧ p[k]? = some x ∧ j = (parts.take i).flatten.length + k
  | [], j, x, h => by simp at h
  | p :: r, j, x, h => by
    rw [List.flatten_cons] at h
    by_cases hj : j < p.length
    · rw [List.getElem?_append_left hj] at h
      exact ⟨0, p, j, rfl, h, by simp⟩
    · rw [List.getElem?_append_right (by omega)] at h
      obtain ⟨i, q, k, h1, h2, h3⟩ := flatten_at r _ x h
      exact ⟨i + 1, q, k, by simpa using h1, h2, by rw [List.take_succ_cons, List.flatten_cons, List.length_append]; omega⟩
theorem lists_choose {α : Type} {p : Nat → α → Prop} : ∀ (n : Nat), (∀ i, i < n → ∃ x, p i x) → ∃ xs : List α, xs.length = n ∧ ∀ i x, xs[i]? = some x → p i x
  | 0, _ => ⟨[], rfl, by simp⟩
  | n + 1, h => by
    obtain ⟨xs, h1, h2⟩ := lists_choose n fun i hi => h i (by omega)
    obtain ⟨x, hx⟩ := h n (by omega)
    refine ⟨xs ++ [x], by simp [h1], fun i y hy => ?_⟩
    by_cases hi : i < xs.length
    · rw [List.getElem?_append_left hi] at hy; exact h2 i y hy
    · rw [List.getElem?_append_right (by omega)] at hy
      have : i = n := by
        have := (List.getElem?_eq_some_iff.1 hy).1
        simp at this; omega
      subst this
      rw [h1] at hy
      simp at hy
      subst hy
      exact hx
theorem open_sh {t : TypeId} {shs : List Sh} (h : HasSh P t shs) : ∀ (n : Nat) (cs : List Value) (x : DataW H × List MemPlace), DataW.trod enc P w base spare held n t cs = some x → OpenAs w shs cs := by
  induction h with
  | int h =>
    intro n cs x hx
    obtain ⟨a, rfl, _, hw⟩ := DataW.trod_int h hx
    exact ⟨rfl, [.atm (.int _ a)], rfl, fun j s hj => by
      match j, hj with
      | 0, hj => simp at hj; subst hj; exact ⟨_, _, rfl, rfl, .atm rfl, .int hw⟩⟩
  | bool h =>
    intro n cs x hx
    obtain ⟨a, rfl, _⟩ := DataW.trod_bool h hx
    exact ⟨rfl, [.atm (.bool a)], rfl, fun j s hj => by
      match j, hj with
      | 0, hj => simp at hj; subst hj; exact ⟨_, _, rfl, rfl, .atm rfl, .bool⟩⟩
  | @sl t e row h hc hp he ih =>
    intro n cs x hx
    have key : ∀ (rows : List (List T)) (u : Value), cs = [u] → RT w (fun _ => False) (.sl row.length .any rows) u → (∀ r ∈ rows, r.length = row.length) → (∀ r ∈ rows, ∀ (j : Nat) (s : Sh) (t : T), row[j]? = some s → r[j]? = some t → Fit s t) → OpenAs w [.sl row] cs := by
      rintro rows u rfl hu h1 h2
      exact ⟨rfl, [.sl row.length .any rows], rfl, fun j s hj => by
        match j, hj with
        | 0, hj => simp at hj; subst hj; exact ⟨_, _, rfl, rfl, hu, .sl h1 h2⟩⟩
    rcases open_slice h hx with ⟨h0, _⟩ | ⟨a, len, cap, m, n, D, Pl, hcs, hb, hl, hm, hmm, hx, hi⟩
    · exact key [] _ h0 (.sl (b := 0) (off := 0) (fun _ _ => undef) (by simp) (by simp) (by unfold maxLen; omega) (by intro h; cases h) (by intro h; cases h) (by simp) (by simp [at2]) (by simp [at2])) (by simp) (by simp)
    · by_cases hz : len = 0
      · subst hz
        exact key [] _ hcs (.sl (b := 0) (off := 0) (fun _ _ => undef) (by simp) (by simp) hm (by intro h; cases h) (by intro h; cases h) (by simp) (by simp [at2]) (by simp [at2])) (by simp) (by simp)
      have hlm : len ≤ m := by rw [hmm]; split <;> omega
      have each : ∀ i, i < len → ∃ cs' : List Value, (∀ j, j < row.length → w.cell? (a.add (i * row.length + j)) = cs'[j]?) ∧ OpenAs w row cs' := by
        intro i hil
        obtain ⟨cs', hc', ht'⟩ := hi i (by omega)
        rw [hc] at hc'
        obtain ⟨_, hcl, hat⟩ := World.cells?_some hc'
        exact ⟨cs', fun j hj => by rw [← Go.Deep.add_add]; exact hat j hj, ih n cs' _ ht'⟩
      obtain ⟨css, hcl, hcs2⟩ := lists_choose len each
      obtain ⟨rows, hrl, hrows⟩ := lists_choose (α := List T) (p := fun i ts => ts.length = row.length ∧ ∀ (j : Nat) (s : Sh), row[j]? = some s → ∃ u t, (css.getD i [])[j]? = some u ∧ ts[j]? = some t ∧ RT w (fun _ => False) t u ∧ Fit s t) len (fun i hi => by
        have hg : css[i]? = some (css[i]'(by omega)) := List.getElem?_eq_getElem (by omega)
        obtain ⟨_, _, ts, h1, h2⟩ := hcs2 i _ hg
        refine ⟨ts, h1, ?_⟩
        rw [List.getD_eq_getElem?_getD, hg]
        exact h2)
      have hcell : ∀ i j, i < len → j < row.length → w.cell? (a.add (i * row.length + j)) = some ((css.getD i []).getD j undef) := by
        intro i j hi hj
        have hg : css[i]? = some (css[i]'(by omega)) := List.getElem?_eq_getElem (by omega)
        obtain ⟨h1, h2, _⟩ := hcs2 i _ hg
        rw [h1 j hj]
        have hgd : css.getD i [] = css[i]'(by omega) := by rw [List.getD_eq_getElem?_getD, hg]; rfl
        rw [hgd, List.getD_eq_getElem?_getD, List.getElem?_eq_getElem (by omega)]; rfl
      have hspot : a.spot = none := by
        have := World.cell?_spot (hcell 0 0 (by omega) hp)
        simpa [Addr.add] using this
      obtain ⟨b, off, sp⟩ := a
      simp only at hspot
      subst hspot
      have hadd : ∀ k, (⟨b, off, none⟩ : Addr).add k = ⟨b, off + k, none⟩ := by
        intro k
        unfold Addr.add
        split
        · subst_vars; rfl
        · rfl
      have hat : ∀ i j c, at2 rows i j = some c → i < len ∧ j < row.length ∧ ∃ r s, rows[i]? = some r ∧ r[j]? = some c ∧ row[j]? = some s := by
        intro i j c hc
        obtain ⟨r, q1, q2⟩ := at2_inv hc
        have hil : i < len := by rw [← hrl]; exact (List.getElem?_eq_some_iff.1 q1).1
        have hjl : j < row.length := by rw [← (hrows i r q1).1]; exact (List.getElem?_eq_some_iff.1 q2).1
        exact ⟨hil, hjl, r, _, q1, q2, List.getElem?_eq_getElem hjl⟩
      refine key rows (.slice (some ⟨b, off, none⟩) len cap) hcs ?_ ?_ ?_
      · rw [← hrl]
        refine .sl (b := b) (off := off) (fun i j => (css.getD i []).getD j undef) ?_ (by omega) hm (by intro h; cases h) (by intro h; cases h) (fun _ => rfl) ?_ ?_
        · intro r hr
          obtain ⟨i, hi⟩ := List.mem_iff_getElem?.1 hr
          exact (hrows i r hi).1
        · intro i j c hc
          obtain ⟨hil, hjl, _⟩ := hat i j c hc
          have := hcell i j hil hjl
          rw [hadd] at this
          exact ⟨this, fun h => h⟩
        · intro i j c hc
          obtain ⟨hil, hjl, r, s, q1, q2, q3⟩ := hat i j c hc
          obtain ⟨u, t, h1, h2, h3, h4⟩ := (hrows i r q1).2 j s q3
          rw [q2] at h2
          injection h2 with h2
          subst h2
          rw [List.getD_eq_getElem?_getD (l := css.getD i []), h1]
          exact h3
      · intro r hr
        obtain ⟨i, hi⟩ := List.mem_iff_getElem?.1 hr
        exact (hrows i r hi).1
      · intro r hr j s t hs ht
        obtain ⟨i, hi⟩ := List.mem_iff_getElem?.1 hr
        obtain ⟨u, t', h1, h2, h3, h4⟩ := (hrows i r hi).2 j s hs
        rw [ht] at h2
        injection h2 with h2
        subst h2
        exact h4
  | @struct t fs parts h hl ho hc he ih =>
    intro n cs x hx
    obtain ⟨xs, n', hn', hy, hlen, hyl, hf⟩ := DataW.trod_struct h hx
    have hlen' : cs.length = parts.flatten.length := by rw [hlen, hc]
    have each : ∀ j, j < parts.flatten.length → ∃ t, ∀ s, parts.flatten[j]? = some s → ∃ u, cs[j]? = some u ∧ RT w (fun _ => False) t u ∧ Fit s t := by
      intro j hj
      obtain ⟨i, p, k, q1, q2, q3⟩ := flatten_at parts j _ (List.getElem?_eq_getElem hj)
      have hi : i < fs.size := by rw [← hl]; exact (List.getElem?_eq_some_iff.1 q1).1
      have hfi : fs[i]? = some fs[i] := Array.getElem?_eq_getElem hi
      obtain ⟨o1, o2⟩ := ho i _ p hfi q1
      have h1 := hf i _ hfi
      have hxi : xs[i]? = some (xs[i]'(by omega)) := List.getElem?_eq_getElem (by omega)
      obtain ⟨r1, ts, r2, r3⟩ := ih i _ p hfi q1 n' _ _ (h1.trans hxi)
      obtain ⟨u, t, e1, e2, e3, e4⟩ := r3 k _ q2
      refine ⟨t, fun s hs => ⟨u, ?_, e3, ?_⟩⟩
      · have hk : k < p.length := (List.getElem?_eq_some_iff.1 q2).1
        rw [List.getElem?_take, o2, if_pos hk, List.getElem?_drop, o1, ← q3] at e1
        exact e1
      · rw [List.getElem?_eq_getElem hj] at hs
        injection hs with hs
        rw [← hs]; exact e4
    obtain ⟨ts, t1, t2⟩ := lists_choose parts.flatten.length each
    refine ⟨hlen', ts, t1, fun j s hj => ?_⟩
    have hjl := (List.getElem?_eq_some_iff.1 hj).1
    have htj : ts[j]? = some (ts[j]'(by omega)) := List.getElem?_eq_getElem (by omega)
    obtain ⟨u, h1, h2, h3⟩ := t2 j _ htj s hj
    exact ⟨u, _, h1, htj, h2, h3⟩
end
theorem Fit.int_inv {k : IntKind} {t : T} (h : Fit (.int k) t) : ∃ n, t = .atm (.int k n) ∧ (Lit.int k n).wf = true := by cases h with | int h => exact ⟨_, rfl, h⟩
theorem Fit.bool_inv {t : T} (h : Fit .bool t) : ∃ b, t = .atm (.bool b) := by cases h with | bool => exact ⟨_, rfl⟩
/-- rows that are each the row of something -/
theorem rows_map {α : Type} {f : α → List T} {p : α → Prop} : ∀ {rows : List (List T)}, (∀ r ∈ rows, ∃ x, r = f x ∧ p x) → ∃ xs : List α, rows = xs.map f ∧ ∀ x ∈ xs, p x
  | [], _ => ⟨[], rfl, by simp⟩
  | r :: rs, h => by
    obtain ⟨x, rfl, hx⟩ := h r (by simp)
    obtain ⟨xs, rfl, hxs⟩ := rows_map (rows := rs) (f := f) (p := p) fun r hr => h r (List.mem_cons_of_mem _ hr)
    exact ⟨x :: xs, rfl, fun y hy => by rcases List.mem_cons.1 hy with rfl | hy; exact hx; exact hxs y hy⟩
theorem Fit.sl_inv {α : Type} (f : α → List T) (p : α → Prop) {row : List Sh} {t : T} (h : Fit (.sl row) t)
    (hrow : ∀ r : List T, r.length = row.length → (∀ (j : Nat) (s : Sh) (t : T), row[j]? = some s → r[j]? = some t → Fit s t) → ∃ x, r = f x ∧ p x) :
    ∃ xs : List α, t = .sl row.length .any (xs.map f) ∧ ∀ x ∈ xs, p x := by
  cases h with
  | sl hl h =>
    obtain ⟨xs, rfl, hx⟩ := rows_map (f := f) (p := p) (fun r hr => hrow r (hl r hr) (h r hr))
    exact ⟨xs, rfl, hx⟩
end Go.Proofs.Ytomfnfbijgjfeaa
/- Arguments of the histories: lists of fractions, picks, fractions, recalls. -/
namespace Go.Proofs.Ytomfnfbijgjfeaa
open Go.RowKit Go.ChangeShapes Go.WideShapes Go.Deep
set_option linter.unusedVariables false
set_option linter.unusedSimpArgs false
set_option maxRecDepth 100000

abbrev shInt : Sh := .int .i64
abbrev shBig : List Sh := [shInt, .sl [shInt]]
abbrev shFrac : List Sh := [shInt, .sl [shInt], shInt, .sl [shInt]]
theorem has_int : HasSh Try.prog 3 [shInt] := .int Try.underlying3
theorem has_ints : HasSh Try.prog 47 [.sl [shInt]] := .sl Try.underlying47 (by kernel_rfl) (by decide) has_int
theorem has_struct2 {P : Program} {t : TypeId} {fs : Array Field} {p0 p1 : List Sh} (h : P.underlying t = some (.struct fs)) (hl : fs.size = 2)
    (h0 : ∃ f, fs[0]? = some f ∧ f.offset = 0 ∧ P.cellsOf f.type = p0.length ∧ HasSh P f.type p0) (h1 : ∃ f, fs[1]? = some f ∧ f.offset = p0.length ∧ P.cellsOf f.type = p1.length ∧ HasSh P f.type p1)
    (hc : P.cellsOf t = p0.length + p1.length) : HasSh P t (p0 ++ p1) := by
  obtain ⟨f0, a1, a2, a3, a4⟩ := h0
  obtain ⟨f1, b1, b2, b3, b4⟩ := h1
  have := HasSh.struct (P := P) (t := t) (fs := fs) [p0, p1] h (by simp [hl]) (fun i f p hf hp => by
    match i, hp with
    | 0, hp => simp at hp; subst hp; rw [a1] at hf; injection hf with hf; subst hf; exact ⟨by simp [a2], a3⟩
    | 1, hp => simp at hp; subst hp; rw [b1] at hf; injection hf with hf; subst hf; exact ⟨by simp [b2], b3⟩
    | n + 2, hp => simp at hp) (by simp [hc]) (fun i f p hf hp => by
    match i, hp with
    | 0, hp => simp at hp; subst hp; rw [a1] at hf; injection hf with hf; subst hf; exact a4
    | 1, hp => simp at hp; subst hp; rw [b1] at hf; injection hf with hf; subst hf; exact b4
    | n + 2, hp => simp at hp)
  simpa using this
theorem has_big : HasSh Try.prog 49 shBig :=
  has_struct2 (p0 := [shInt]) (p1 := [.sl [shInt]]) Try.underlying49 (by kernel_rfl) ⟨_, rfl, rfl, by kernel_rfl, has_int⟩ ⟨_, rfl, rfl, by kernel_rfl, has_ints⟩ (by kernel_rfl)
theorem has_frac : HasSh Try.prog 51 shFrac :=
  has_struct2 (p0 := shBig) (p1 := shBig) Try.underlying51 (by kernel_rfl) ⟨_, rfl, rfl, by kernel_rfl, has_big⟩ ⟨_, rfl, rfl, by kernel_rfl, has_big⟩ (by kernel_rfl)
theorem has_fracs : HasSh Try.prog 33 [.sl shFrac] := .sl Try.underlying33 (by kernel_rfl) (by decide) has_frac
theorem has_hist : HasSh Try.prog 72 [.sl [.sl shFrac]] := .sl Try.underlying72 (by kernel_rfl) (by decide) has_fracs
theorem has_recall : HasSh Try.prog 39 [shInt, shInt] :=
  has_struct2 (p0 := [shInt]) (p1 := [shInt]) Try.underlying39 (by kernel_rfl) ⟨_, rfl, rfl, by kernel_rfl, has_int⟩ ⟨_, rfl, rfl, by kernel_rfl, has_int⟩ (by kernel_rfl)
theorem fit_ints {t : T} (h : Fit (.sl [shInt]) t) : ∃ l : List Int, t = intsT l := by
  obtain ⟨xs, rfl, _⟩ := h.sl_inv intRow (fun _ => True) (fun r hl hr => by
    match r, hl with
    | [u], _ =>
      obtain ⟨n, rfl, _⟩ := (hr 0 _ _ rfl rfl).int_inv
      exact ⟨n, rfl, trivial⟩)
  exact ⟨xs, rfl⟩
theorem fit_fracrow {r : List T} (hl : r.length = 4) (hr : ∀ (j : Nat) (s : Sh) (t : T), shFrac[j]? = some s → r[j]? = some t → Fit s t) : ∃ f : Fr, r = frRow f := by
  match r, hl with
  | [a, b, c, d], _ =>
    obtain ⟨n, rfl, _⟩ := (hr 0 _ _ rfl rfl).int_inv
    obtain ⟨l, rfl⟩ := fit_ints (hr 1 _ _ rfl rfl)
    obtain ⟨m, rfl, _⟩ := (hr 2 _ _ rfl rfl).int_inv
    obtain ⟨k, rfl⟩ := fit_ints (hr 3 _ _ rfl rfl)
    exact ⟨⟨⟨n, l⟩, ⟨m, k⟩⟩, rfl⟩
theorem fit_fracs {t : T} (h : Fit (.sl shFrac) t) : ∃ l : List Fr, t = fracsT l := by
  obtain ⟨xs, rfl, _⟩ := h.sl_inv frRow (fun _ => True) (fun r hl hr => by
    obtain ⟨f, rfl⟩ := fit_fracrow hl hr
    exact ⟨f, rfl, trivial⟩)
  exact ⟨xs, rfl⟩
theorem fit_hist {t : T} (h : Fit (.sl [.sl shFrac]) t) : ∃ l : List (List Fr), t = histT l := by
  obtain ⟨xs, rfl, _⟩ := h.sl_inv fracsRow (fun _ => True) (fun r hl hr => by
    match r, hl with
    | [u], _ =>
      obtain ⟨l, rfl⟩ := fit_fracs (hr 0 _ _ rfl rfl)
      exact ⟨l, rfl, trivial⟩)
  exact ⟨xs, rfl⟩
section
variable {H : Type} {enc : TypeId × Value → H} {w : World} {base : Nat} {spare : Nat → Bool} {held : Bool}
theorem open_hist {v : Value} {d : DataW H} {p : List MemPlace} {r : Reach} {b0 : Nat} (hv : Value.okWide Try.prog w r b0 72 v) (h : DataW.Trod enc Try.prog w base spare held 72 v d p) : ∃ hh, RS w (fun _ => none) (fun _ => False) (histS hh) v := by
  obtain ⟨a, len, cap, rfl⟩ := okWide_slice Try.underlying72 hv
  obtain ⟨fuel, hf⟩ := h
  obtain ⟨_, ts, h1, h2⟩ := open_sh has_hist fuel _ _ hf
  obtain ⟨u, t, e1, e2, e3, e4⟩ := h2 0 _ rfl
  obtain ⟨hh, rfl⟩ := fit_hist e4
  injection e1 with e1
  subst e1
  exact ⟨hh, .c (.t e3)⟩
theorem rs_cells {shs : List Sh} {l : List Value} (h : OpenAs w shs l) : ∃ ts : List T, ts.length = shs.length ∧ (∀ (j : Nat) (s : Sh) (t : T), shs[j]? = some s → ts[j]? = some t → Fit s t) ∧ RS w (fun _ => none) (fun _ => False) (.agg (ts.map C.t)) (.agg ⟨l⟩) := by
  obtain ⟨h0, ts, h1, h2⟩ := h
  refine ⟨ts, h1, fun j s t hs ht => ?_, ?_⟩
  · obtain ⟨u, t', e1, e2, e3, e4⟩ := h2 j s hs
    rw [ht] at e2; injection e2 with e2; subst e2; exact e4
  · refine .agg l (by simp [h0, h1]) fun j c hc => ?_
    rw [List.getElem?_map] at hc
    obtain ⟨t, ht, rfl⟩ := Option.map_eq_some_iff.1 hc
    have hj : j < shs.length := by rw [← h1]; exact (List.getElem?_eq_some_iff.1 ht).1
    obtain ⟨u, t', e1, e2, e3, e4⟩ := h2 j _ (List.getElem?_eq_getElem hj)
    rw [ht] at e2; injection e2 with e2; subst e2
    rw [List.getD_eq_getElem?_getD, e1]
    exact .t e3
theorem open_recall {v : Value} {d : DataW H} {p : List MemPlace} {r : Reach} {b0 : Nat} (hv : Value.okWide Try.prog w r b0 39 v) (h : DataW.Trod enc Try.prog w base spare held 39 v d p) : ∃ x : Recall, RS w (fun _ => none) (fun _ => False) (.agg (x.row.map .t)) v := by
  obtain ⟨⟨l⟩, rfl, _⟩ := okWide_struct Try.underlying39 hv
  obtain ⟨fuel, hf⟩ := h
  obtain ⟨ts, h1, h2, h3⟩ := rs_cells (open_sh has_recall fuel _ _ hf)
  match ts, h1 with
  | [a, b], _ =>
    obtain ⟨n, rfl, _⟩ := (h2 0 _ _ rfl rfl).int_inv
    obtain ⟨m, rfl, _⟩ := (h2 1 _ _ rfl rfl).int_inv
    exact ⟨⟨n, m⟩, h3⟩
theorem open_frac {v : Value} {d : DataW H} {p : List MemPlace} {r : Reach} {b0 : Nat} (hv : Value.okWide Try.prog w r b0 51 v) (h : DataW.Trod enc Try.prog w base spare held 51 v d p) : ∃ f : Fr, RS w (fun _ => none) (fun _ => False) (.agg ((frRow f).map .t)) v := by
  obtain ⟨⟨l⟩, rfl, _⟩ := okWide_struct Try.underlying51 hv
  obtain ⟨fuel, hf⟩ := h
  obtain ⟨ts, h1, h2, h3⟩ := rs_cells (open_sh has_frac fuel _ _ hf)
  obtain ⟨f, rfl⟩ := fit_fracrow h1 h2
  exact ⟨f, h3⟩
end
end Go.Proofs.Ytomfnfbijgjfeaa
/- Arguments of the traces: traces, evidence by its shape, lists of fractions, finds, cleans, recalls. -/
namespace Go.Proofs.Ytomfnfbijgjfeaa
open Go.RowKit Go.ChangeShapes Go.WideShapes Go.Deep
set_option linter.unusedVariables false
set_option linter.unusedSimpArgs false
set_option maxRecDepth 100000

/-- the fields lie one after the other, and have these shapes -/
def FldOK (P : Program) : List Field → List (List Sh) → Nat → Prop
  | [], [], _ => True
  | f :: fs, p :: ps, o => (f.offset = o ∧ P.cellsOf f.type = p.length ∧ HasSh P f.type p) ∧ FldOK P fs ps (o + p.length)
  | _, _, _ => False
theorem FldOK.get {P : Program} : ∀ {fs : List Field} {ps : List (List Sh)} {o : Nat}, FldOK P fs ps o → ps.length = fs.length ∧ ∀ (i : Nat) (f : Field) (p : List Sh), fs[i]? = some f → ps[i]? = some p → f.offset = o + (ps.take i).flatten.length ∧ P.cellsOf f.type = p.length ∧ HasSh P f.type p
  | [], [], o, _ => ⟨rfl, by simp⟩
  | f :: fs, p :: ps, o, h => by
    obtain ⟨⟨h1, h2, h3⟩, h4⟩ := h
    obtain ⟨l, g⟩ := FldOK.get h4
    refine ⟨by simp [l], fun i f' p' hf hp => ?_⟩
    cases i with
    | zero => simp at hf hp; subst hf hp; exact ⟨by simp [h1], h2, h3⟩
    | succ i =>
      obtain ⟨g1, g2, g3⟩ := g i f' p' (by simpa using hf) (by simpa using hp)
      exact ⟨by rw [g1]; simp; omega, g2, g3⟩
  | [], _ :: _, _, h => h.elim
  | _ :: _, [], _, h => h.elim
theorem has_struct {P : Program} {t : TypeId} {fs : Array Field} (parts : List (List Sh)) (h : P.underlying t = some (.struct fs)) (hf : FldOK P fs.toList parts 0) (hc : P.cellsOf t = parts.flatten.length) : HasSh P t parts.flatten := by
  obtain ⟨l, g⟩ := hf.get
  refine HasSh.struct parts h (by simpa using l) (fun i f p hi hp => ?_) hc (fun i f p hi hp => ?_)
  · obtain ⟨g1, g2, g3⟩ := g i f p (by simpa using hi) hp
    exact ⟨by rw [g1]; simp, g2⟩
  · exact (g i f p (by simpa using hi) hp).2.2
theorem has_bool : HasSh Try.prog 4 [.bool] := .bool Try.underlying4
theorem has_place : HasSh Try.prog 80 [shInt, shInt, shInt] :=
  has_struct [[shInt], [shInt], [shInt]] Try.underlying80 ⟨⟨by kernel_rfl, by kernel_rfl, has_int⟩, ⟨by kernel_rfl, by kernel_rfl, has_int⟩, ⟨by kernel_rfl, by kernel_rfl, has_int⟩, trivial⟩ (by kernel_rfl)
theorem has_move : HasSh Try.prog 55 [shInt, shInt, shInt, shInt, shInt, .bool] :=
  has_struct [[shInt], [shInt], [shInt], [shInt], [shInt], [.bool]] Try.underlying55 ⟨⟨by kernel_rfl, by kernel_rfl, has_int⟩, ⟨by kernel_rfl, by kernel_rfl, has_int⟩, ⟨by kernel_rfl, by kernel_rfl, has_int⟩, ⟨by kernel_rfl, by kernel_rfl, has_int⟩, ⟨by kernel_rfl, by kernel_rfl, has_int⟩, ⟨by kernel_rfl, by kernel_rfl, has_bool⟩, trivial⟩ (by kernel_rfl)
theorem has_cert : HasSh Try.prog 132 [shInt, shInt, shInt, shInt, shInt, shInt] :=
  has_struct [[shInt], [shInt], [shInt], [shInt], [shInt], [shInt]] Try.underlying132 ⟨⟨by kernel_rfl, by kernel_rfl, has_int⟩, ⟨by kernel_rfl, by kernel_rfl, has_int⟩, ⟨by kernel_rfl, by kernel_rfl, has_int⟩, ⟨by kernel_rfl, by kernel_rfl, has_int⟩, ⟨by kernel_rfl, by kernel_rfl, has_int⟩, ⟨by kernel_rfl, by kernel_rfl, has_int⟩, trivial⟩ (by kernel_rfl)
theorem has_purity : HasSh Try.prog 141 [shInt, shInt, shInt, shInt] :=
  has_struct [[shInt], [shInt], [shInt], [shInt]] Try.underlying141 ⟨⟨by kernel_rfl, by kernel_rfl, has_int⟩, ⟨by kernel_rfl, by kernel_rfl, has_int⟩, ⟨by kernel_rfl, by kernel_rfl, has_int⟩, ⟨by kernel_rfl, by kernel_rfl, has_int⟩, trivial⟩ (by kernel_rfl)
theorem has_find : HasSh Try.prog 35 [shInt, shInt, shInt] :=
  has_struct [[shInt], [shInt], [shInt]] Try.underlying35 ⟨⟨by kernel_rfl, by kernel_rfl, has_int⟩, ⟨by kernel_rfl, by kernel_rfl, has_int⟩, ⟨by kernel_rfl, by kernel_rfl, has_int⟩, trivial⟩ (by kernel_rfl)
theorem has_clean : HasSh Try.prog 37 [shInt, shInt] :=
  has_struct [[shInt], [shInt]] Try.underlying37 ⟨⟨by kernel_rfl, by kernel_rfl, has_int⟩, ⟨by kernel_rfl, by kernel_rfl, has_int⟩, trivial⟩ (by kernel_rfl)
theorem has_places : HasSh Try.prog 22 [.sl [shInt, shInt, shInt]] := .sl Try.underlying22 (by kernel_rfl) (by decide) has_place
theorem has_moves : HasSh Try.prog 23 [.sl [shInt, shInt, shInt, shInt, shInt, .bool]] := .sl Try.underlying23 (by kernel_rfl) (by decide) has_move
theorem has_certs : HasSh Try.prog 24 [.sl [shInt, shInt, shInt, shInt, shInt, shInt]] := .sl Try.underlying24 (by kernel_rfl) (by decide) has_cert
theorem has_recalls : HasSh Try.prog 25 [.sl [shInt, shInt]] := .sl Try.underlying25 (by kernel_rfl) (by decide) has_recall
theorem has_purities : HasSh Try.prog 26 [.sl [shInt, shInt, shInt, shInt]] := .sl Try.underlying26 (by kernel_rfl) (by decide) has_purity
theorem has_finds : HasSh Try.prog 29 [.sl [shInt, shInt, shInt]] := .sl Try.underlying29 (by kernel_rfl) (by decide) has_find
theorem has_cleans : HasSh Try.prog 30 [.sl [shInt, shInt]] := .sl Try.underlying30 (by kernel_rfl) (by decide) has_clean
abbrev shEv : List Sh := [shInt, shInt, shInt, .sl [shInt, shInt, shInt], .sl [shInt, shInt, shInt, shInt, shInt, .bool], .sl [shInt, shInt, shInt, shInt, shInt, shInt], .sl [shInt, shInt], .sl [shInt, shInt, shInt, shInt]]
theorem has_ev : HasSh Try.prog 28 shEv :=
  has_struct [[shInt], [shInt], [shInt], [.sl [shInt, shInt, shInt]], [.sl [shInt, shInt, shInt, shInt, shInt, .bool]], [.sl [shInt, shInt, shInt, shInt, shInt, shInt]], [.sl [shInt, shInt]], [.sl [shInt, shInt, shInt, shInt]]] Try.underlying28
    ⟨⟨by kernel_rfl, by kernel_rfl, has_int⟩, ⟨by kernel_rfl, by kernel_rfl, has_int⟩, ⟨by kernel_rfl, by kernel_rfl, has_int⟩, ⟨by kernel_rfl, by kernel_rfl, has_places⟩, ⟨by kernel_rfl, by kernel_rfl, has_moves⟩, ⟨by kernel_rfl, by kernel_rfl, has_certs⟩, ⟨by kernel_rfl, by kernel_rfl, has_recalls⟩, ⟨by kernel_rfl, by kernel_rfl, has_purities⟩, trivial⟩ (by kernel_rfl)
abbrev shTr : List Sh := shEv ++ [.sl [shInt, shInt, shInt], .sl [shInt, shInt]]
theorem has_tr : HasSh Try.prog 32 shTr :=
  has_struct [shEv, [.sl [shInt, shInt, shInt]], [.sl [shInt, shInt]]] Try.underlying32
    ⟨⟨by kernel_rfl, by kernel_rfl, has_ev⟩, ⟨by kernel_rfl, by kernel_rfl, has_finds⟩, ⟨by kernel_rfl, by kernel_rfl, has_cleans⟩, trivial⟩ (by kernel_rfl)
theorem fit_is {t : T} (h : Fit shInt t) : ∃ n, t = ti n := by obtain ⟨n, h, _⟩ := h.int_inv; exact ⟨n, h⟩
section
variable {α : Type} {t : T}
theorem fit_places (h : Fit (.sl [shInt, shInt, shInt]) t) : ∃ l : List Place, t = placesT l := by
  obtain ⟨xs, rfl, _⟩ := h.sl_inv Place.row (fun _ => True) (fun r hl hr => by
    match r, hl with
    | [a, b, c], _ =>
      obtain ⟨a, rfl⟩ := fit_is (hr 0 _ _ rfl rfl)
      obtain ⟨b, rfl⟩ := fit_is (hr 1 _ _ rfl rfl)
      obtain ⟨c, rfl⟩ := fit_is (hr 2 _ _ rfl rfl)
      exact ⟨⟨a, b, c⟩, rfl, trivial⟩)
  exact ⟨xs, rfl⟩
theorem fit_finds (h : Fit (.sl [shInt, shInt, shInt]) t) : ∃ l : List Find, t = findsT l := by
  obtain ⟨xs, rfl, _⟩ := h.sl_inv Find.row (fun _ => True) (fun r hl hr => by
    match r, hl with
    | [a, b, c], _ =>
      obtain ⟨a, rfl⟩ := fit_is (hr 0 _ _ rfl rfl)
      obtain ⟨b, rfl⟩ := fit_is (hr 1 _ _ rfl rfl)
      obtain ⟨c, rfl⟩ := fit_is (hr 2 _ _ rfl rfl)
      exact ⟨⟨a, b, c⟩, rfl, trivial⟩)
  exact ⟨xs, rfl⟩
theorem fit_cleans (h : Fit (.sl [shInt, shInt]) t) : ∃ l : List Clean, t = cleansT l := by
  obtain ⟨xs, rfl, _⟩ := h.sl_inv Clean.row (fun _ => True) (fun r hl hr => by
    match r, hl with
    | [a, b], _ =>
      obtain ⟨a, rfl⟩ := fit_is (hr 0 _ _ rfl rfl)
      obtain ⟨b, rfl⟩ := fit_is (hr 1 _ _ rfl rfl)
      exact ⟨⟨a, b⟩, rfl, trivial⟩)
  exact ⟨xs, rfl⟩
theorem fit_recalls (h : Fit (.sl [shInt, shInt]) t) : ∃ l : List Recall, t = recallsT l := by
  obtain ⟨xs, rfl, _⟩ := h.sl_inv Recall.row (fun _ => True) (fun r hl hr => by
    match r, hl with
    | [a, b], _ =>
      obtain ⟨a, rfl⟩ := fit_is (hr 0 _ _ rfl rfl)
      obtain ⟨b, rfl⟩ := fit_is (hr 1 _ _ rfl rfl)
      exact ⟨⟨a, b⟩, rfl, trivial⟩)
  exact ⟨xs, rfl⟩
theorem fit_purities (h : Fit (.sl [shInt, shInt, shInt, shInt]) t) : ∃ l : List Purity, t = puritiesT l := by
  obtain ⟨xs, rfl, _⟩ := h.sl_inv Purity.row (fun _ => True) (fun r hl hr => by
    match r, hl with
    | [a, b, c, d], _ =>
      obtain ⟨a, rfl⟩ := fit_is (hr 0 _ _ rfl rfl)
      obtain ⟨b, rfl⟩ := fit_is (hr 1 _ _ rfl rfl)
      obtain ⟨c, rfl⟩ := fit_is (hr 2 _ _ rfl rfl)
      obtain ⟨d, rfl⟩ := fit_is (hr 3 _ _ rfl rfl)
      exact ⟨⟨a, b, c, d⟩, rfl, trivial⟩)
  exact ⟨xs, rfl⟩
theorem fit_certs (h : Fit (.sl [shInt, shInt, shInt, shInt, shInt, shInt]) t) : ∃ l : List Cert, t = certsT l := by
  obtain ⟨xs, rfl, _⟩ := h.sl_inv Cert.row (fun _ => True) (fun r hl hr => by
    match r, hl with
    | [a, b, c, d, e, f], _ =>
      obtain ⟨a, rfl⟩ := fit_is (hr 0 _ _ rfl rfl)
      obtain ⟨b, rfl⟩ := fit_is (hr 1 _ _ rfl rfl)
      obtain ⟨c, rfl⟩ := fit_is (hr 2 _ _ rfl rfl)
      obtain ⟨d, rfl⟩ := fit_is (hr 3 _ _ rfl rfl)
      obtain ⟨e, rfl⟩ := fit_is (hr 4 _ _ rfl rfl)
      obtain ⟨f, rfl⟩ := fit_is (hr 5 _ _ rfl rfl)
      exact ⟨⟨a, b, c, d, e, f⟩, rfl, trivial⟩)
  exact ⟨xs, rfl⟩
theorem fit_moves (h : Fit (.sl [shInt, shInt, shInt, shInt, shInt, .bool]) t) : ∃ l : List Move, t = movesT l := by
  obtain ⟨xs, rfl, _⟩ := h.sl_inv Move.row (fun _ => True) (fun r hl hr => by
    match r, hl with
    | [a, b, c, d, e, f], _ =>
      obtain ⟨a, rfl⟩ := fit_is (hr 0 _ _ rfl rfl)
      obtain ⟨b, rfl⟩ := fit_is (hr 1 _ _ rfl rfl)
      obtain ⟨c, rfl⟩ := fit_is (hr 2 _ _ rfl rfl)
      obtain ⟨d, rfl⟩ := fit_is (hr 3 _ _ rfl rfl)
      obtain ⟨e, rfl⟩ := fit_is (hr 4 _ _ rfl rfl)
      obtain ⟨f, rfl⟩ := (hr 5 _ _ rfl rfl).bool_inv
      exact ⟨⟨a, b, c, d, e, f⟩, rfl, trivial⟩)
  exact ⟨xs, rfl⟩
end
section
variable {H : Type} {enc : TypeId × Value → H} {w : World} {base : Nat} {spare : Nat → Bool} {held : Bool}
theorem open_fracs {v : Value} {d : DataW H} {p : List MemPlace} {r : Reach} {b0 : Nat} (hv : Value.okWide Try.prog w r b0 33 v) (h : DataW.Trod enc Try.prog w base spare held 33 v d p) : ∃ l, RS w (fun _ => none) (fun _ => False) (fracsS l) v := by
  obtain ⟨a, len, cap, rfl⟩ := okWide_slice Try.underlying33 hv
  obtain ⟨fuel, hf⟩ := h
  obtain ⟨_, ts, h1, h2⟩ := open_sh has_fracs fuel _ _ hf
  obtain ⟨u, t, e1, e2, e3, e4⟩ := h2 0 _ rfl
  obtain ⟨hh, rfl⟩ := fit_fracs e4
  injection e1 with e1
  subst e1
  exact ⟨hh, .c (.t e3)⟩
theorem open_find {v : Value} {d : DataW H} {p : List MemPlace} {r : Reach} {b0 : Nat} (hv : Value.okWide Try.prog w r b0 35 v) (h : DataW.Trod enc Try.prog w base spare held 35 v d p) : ∃ x : Find, RS w (fun _ => none) (fun _ => False) (.agg (x.row.map .t)) v := by
  obtain ⟨⟨l⟩, rfl, _⟩ := okWide_struct Try.underlying35 hv
  obtain ⟨fuel, hf⟩ := h
  obtain ⟨ts, h1, h2, h3⟩ := rs_cells (open_sh has_find fuel _ _ hf)
  match ts, h1 with
  | [a, b, c], _ =>
    obtain ⟨a, rfl⟩ := fit_is (h2 0 _ _ rfl rfl)
    obtain ⟨b, rfl⟩ := fit_is (h2 1 _ _ rfl rfl)
    obtain ⟨c, rfl⟩ := fit_is (h2 2 _ _ rfl rfl)
    exact ⟨⟨a, b, c⟩, h3⟩
theorem open_clean {v : Value} {d : DataW H} {p : List MemPlace} {r : Reach} {b0 : Nat} (hv : Value.okWide Try.prog w r b0 37 v) (h : DataW.Trod enc Try.prog w base spare held 37 v d p) : ∃ x : Clean, RS w (fun _ => none) (fun _ => False) (.agg (x.row.map .t)) v := by
  obtain ⟨⟨l⟩, rfl, _⟩ := okWide_struct Try.underlying37 hv
  obtain ⟨fuel, hf⟩ := h
  obtain ⟨ts, h1, h2, h3⟩ := rs_cells (open_sh has_clean fuel _ _ hf)
  match ts, h1 with
  | [a, b], _ =>
    obtain ⟨a, rfl⟩ := fit_is (h2 0 _ _ rfl rfl)
    obtain ⟨b, rfl⟩ := fit_is (h2 1 _ _ rfl rfl)
    exact ⟨⟨a, b⟩, h3⟩
theorem open_trace {v : Value} {d : DataW H} {p : List MemPlace} {r : Reach} {b0 : Nat} (hv : Value.okWide Try.prog w r b0 32 v) (h : DataW.Trod enc Try.prog w base spare held 32 v d p) : ∃ t : Trace, RS w (fun _ => none) (fun _ => False) (trS t) v := by
  obtain ⟨⟨l⟩, rfl, _⟩ := okWide_struct Try.underlying32 hv
  obtain ⟨fuel, hf⟩ := h
  obtain ⟨ts, h1, h2, h3⟩ := rs_cells (open_sh has_tr fuel _ _ hf)
  match ts, h1 with
  | [a, b, c, d, e, f, g, h, i, j], _ =>
    obtain ⟨a, rfl⟩ := fit_is (h2 0 _ _ rfl rfl)
    obtain ⟨b, rfl⟩ := fit_is (h2 1 _ _ rfl rfl)
    obtain ⟨c, rfl⟩ := fit_is (h2 2 _ _ rfl rfl)
    obtain ⟨d, rfl⟩ := fit_places (h2 3 _ _ rfl rfl)
    obtain ⟨e, rfl⟩ := fit_moves (h2 4 _ _ rfl rfl)
    obtain ⟨f, rfl⟩ := fit_certs (h2 5 _ _ rfl rfl)
    obtain ⟨g, rfl⟩ := fit_recalls (h2 6 _ _ rfl rfl)
    obtain ⟨h, rfl⟩ := fit_purities (h2 7 _ _ rfl rfl)
    obtain ⟨i, rfl⟩ := fit_finds (h2 8 _ _ rfl rfl)
    obtain ⟨j, rfl⟩ := fit_cleans (h2 9 _ _ rfl rfl)
    exact ⟨⟨⟨a, b, c, d, e, f, g, h⟩, i, j⟩, h3⟩
end
end Go.Proofs.Ytomfnfbijgjfeaa
/- TaintMore: at every input the law returns true, and its arguments read as before. Conditions: none. -/
namespace Go.Proofs.Ytomfnfbijgjfeaa
open Go.RowKit Go.ChangeShapes Go.WideShapes Go.ChangeAt

set_option maxRecDepth 100000 in
theorem taintMore_lifted (os : Os) (started : os.Started) (H : Type) (enc : TypeId × Value → H) :
    ReturnsInHanded {} Try.checked os 3 .any (Rows.taintMoreSpec.pre6 enc Try.prog Try.f3 Rows.taintMoreRow.domain false) (Rows.taintMoreSpec.post enc Try.prog Try.f3 false true false false) := by
  refine returnsInHanded_of_change (C := Try.checked) law_own started (by kernel_rfl) Try.func3
    (ChangeSpec.witness6 (enc := enc) (C := Try.checked) false ⟨#[], #[.agg #[.int .i64 0, .int .i64 0, .int .i64 0, .slice none 0 0, .slice none 0 0, .slice none 0 0, .slice none 0 0, .slice none 0 0, .slice none 0 0, .slice none 0 0], .int .i64 0, .slice none 0 0, .agg #[.int .i64 0, .int .i64 0, .int .i64 0], .agg #[.int .i64 0, .int .i64 0], .agg #[.int .i64 0, .int .i64 0]], []⟩ 12 (by kernel_rfl) (by kernel_rfl) (by kernel_rfl) (by kernel_rfl)) ?_
  intro W base args ds gs before hval0 hW hcnd _
  have hval : ∀ (j : Nat) t v, Try.f3.params[j]? = some t → args[j]? = some v → Value.okWide Try.prog W .any base t v := hval0
  have hW' := hW
  obtain ⟨p, q, hA0, hV, rfl, hfz, hnd⟩ := hW
  have hA : DataW.TrodAll enc Try.prog W 0 (fun _ => true) true Try.f3.params.toList args.toList ds p := hA0
  rw [Try.params3] at hA hval
  obtain ⟨v0, vs0, d0, ds0, p0, q0, hargs, rfl, rfl, h0, r0⟩ := trodAll_cons hA
  obtain ⟨v1, vs1, d1, ds1, p1, q1, rfl, rfl, rfl, h1, r1⟩ := trodAll_cons r0
  obtain ⟨v2, vs2, d2, ds2, p2, q2, rfl, rfl, rfl, h2, r2⟩ := trodAll_cons r1
  obtain ⟨v3, vs3, d3, ds3, p3, q3, rfl, rfl, rfl, h3, r3⟩ := trodAll_cons r2
  obtain ⟨v4, vs4, d4, ds4, p4, q4, rfl, rfl, rfl, h4, r4⟩ := trodAll_cons r3
  obtain ⟨v5, vs5, d5, ds5, p5, q5, rfl, rfl, rfl, h5, r5⟩ := trodAll_cons r4
  obtain ⟨rfl, rfl, rfl⟩ := trodAll_nil r5
  obtain rfl : args = #[v0, v1, v2, v3, v4, v5] := by cases args; simp_all
  obtain ⟨rfl, rfl⟩ := trodVars_none hV
  obtain ⟨a0, t0⟩ := Go.Proofs.Ytomfnfbijgjfeaa.open_trace (hval 0 32 v0 rfl rfl) h0
  obtain ⟨a1, rfl, rfl, rfl, w1⟩ := open_int Try.underlying3 (hval 1 3 v1 rfl rfl) h1
  obtain ⟨a2, t2⟩ := Go.Proofs.Ytomfnfbijgjfeaa.open_fracs (hval 2 33 v2 rfl rfl) h2
  obtain ⟨a3, t3⟩ := Go.Proofs.Ytomfnfbijgjfeaa.open_find (hval 3 35 v3 rfl rfl) h3
  obtain ⟨a4, t4⟩ := Go.Proofs.Ytomfnfbijgjfeaa.open_clean (hval 4 37 v4 rfl rfl) h4
  obtain ⟨a5, t5⟩ := Go.Proofs.Ytomfnfbijgjfeaa.open_recall (hval 5 39 v5 rfl rfl) h5
  refine (law_of_acall (a_TaintMore a0 a1 a2 a3 a4 a5) (.cons (t0) (.cons (rs_int) (.cons (t2) (.cons (t3) (.cons (t4) (.cons (t5) (.nil)))))))).mono fun ee W' ⟨he, hg⟩ => ?_
  subst he
  exact ⟨_, rfl, law_post hW' law_laid (by rw [Try.params3]; intro t ht; simp at ht; rcases ht with rfl | rfl | rfl | rfl | rfl | rfl <;> exact ⟨by kernel_rfl, of_decide_eq_true (by kernel_rfl)⟩) rfl rfl (by kernel_rfl) Try.underlying4 hg⟩

theorem taintMore_holds : Rows.TaintMoreSaid :=
  OpenClaim.holds_of_wide 3 Try.f3 rfl rfl rfl rfl rfl rfl rfl ⟨rfl, rfl, rfl, rfl, rfl⟩ rfl rfl rfl rfl rfl (by kernel_rfl) Try.func3 (by kernel_rfl)
    (of_decide_eq_true (by kernel_rfl)) (by unfold Func.isWrapper; first | (rw [if_pos (by decide +kernel)]; kernel_rfl) | (rw [if_neg (by decide +kernel)]; exact ⟨rfl, rfl⟩))
    (fun os started H enc _ => taintMore_lifted os started H enc)
end Go.Proofs.Ytomfnfbijgjfeaa
/- Package flow: Source, moves, Lifts, Into, Out. -/
namespace Go.Proofs.Ytomfnfbijgjfeaa
open Go.RowKit
set_option linter.unusedVariables false
set_option linter.unusedSimpArgs false
set_option maxRecDepth 100000

theorem a_Source (e : Ev) (hs : e.Sized) (p : Int) : ACall Try.prog 15 [evS e, intS .i64 p] [] (boolS (source e p)) [] := by
  have l1 := hs.s1
  have l2 : (e.places.map Place.row).length = e.places.length := by simp
  by_cases hx : idx p e.places.length = true
  · obtain ⟨hp0, x, hx', kx⟩ := place_get hx
    (refine acall_of tab_ok Try.func15 rfl (by decide) ?_; (conv => whnf); repeat (first | (refine LitB.data ?_; conv => whnf) | (refine BoxB.own ?_; conv => whnf)))
    rw [← l2] at hx
    (repeat' (first | ((refine DecB.mk (fun h => ?_) (fun h => ?_)) <;> first | (exfalso; omega) | (conv => whnf)) | ((refine BoolB.mk (fun h => ?_) (fun h => ?_)) <;> first | (exact absurd h (by decide)) | (conv => whnf)) | (refine ⟨_, wrap_ok (by omega) (by omega), ?_⟩; conv => whnf) | (refine and_idx (by omega) (by omega) ?_; conv => whnf) | (refine reg_ok (by decide +kernel) ?_; conv => whnf) | (refine bar_ok (by decide +kernel) (by decide +kernel) ?_; conv => whnf) | (refine late_ok rfl rfl ?_; conv => whnf) | (refine src_ok rfl ?_; conv => whnf) | (refine .inl ⟨_, _, qcall_pure (a_Check _ hs) rfl rfl, ?_⟩; conv => whnf) | (refine .inl ⟨_, _, qcall_pure (a_index _ _) rfl rfl, ?_⟩; conv => whnf) | (refine ex_rowI hp0 hx' ?_; conv => whnf) | (refine LitB.data ?_; conv => whnf) | (refine BoxB.own ?_; conv => whnf)))
    all_goals (refine fin_bool ?_; simp_all [source]; done)
  · (refine acall_of tab_ok Try.func15 rfl (by decide) ?_; (conv => whnf); repeat (first | (refine LitB.data ?_; conv => whnf) | (refine BoxB.own ?_; conv => whnf)))
    rw [← l2] at hx
    (repeat' (first | ((refine DecB.mk (fun h => ?_) (fun h => ?_)) <;> first | (exfalso; omega) | (conv => whnf)) | ((refine BoolB.mk (fun h => ?_) (fun h => ?_)) <;> first | (exact absurd h (by decide)) | (conv => whnf)) | (refine ⟨_, wrap_ok (by omega) (by omega), ?_⟩; conv => whnf) | (refine and_idx (by omega) (by omega) ?_; conv => whnf) | (refine reg_ok (by decide +kernel) ?_; conv => whnf) | (refine bar_ok (by decide +kernel) (by decide +kernel) ?_; conv => whnf) | (refine late_ok rfl rfl ?_; conv => whnf) | (refine src_ok rfl ?_; conv => whnf) | (refine .inl ⟨_, _, qcall_pure (a_Check _ hs) rfl rfl, ?_⟩; conv => whnf) | (refine .inl ⟨_, _, qcall_pure (a_index _ _) rfl rfl, ?_⟩; conv => whnf) | (refine LitB.data ?_; conv => whnf) | (refine BoxB.own ?_; conv => whnf)))
    all_goals first | (exfalso; simp_all; done) | (refine fin_bool ?_; simp_all [source]; done)

end Go.Proofs.Ytomfnfbijgjfeaa
/- TaintBins: its walk. -/
namespace Go.Proofs.Ytomfnfbijgjfeaa
open Go.RowKit
set_option linter.unusedVariables false
set_option linter.unusedSimpArgs false
set_option maxRecDepth 100000

abbrev oneB (f : Fr) : Blk := { mode := .live, elem := 51, size := 4, rows := [frC f], box := true }
theorem rowsT_frC (f : Fr) : rowsT [frC f] := by simp [rowsT, frC, frRow, C.isT]
theorem rl_sumN {f : Nat → Rat} {C : Nat} (h : ∀ p, rl (f p) ≤ C) : ∀ n, rl (sumN f n) ≤ n * (C + 1) + 1
  | 0 => by unfold sumN; rw [rl_zero]; omega
  | n + 1 => by
    have ih := rl_sumN h n
    have h1 := rl_add (sumN f n) (f n)
    have h2 := h n
    unfold sumN
    rw [Nat.succ_mul]; omega
theorem rl_lift {e : Ev} {Z : List Rat} (h : ∀ v ∈ Z, rl v ≤ 6) (j : Nat) : rl (liftF e Z j) ≤ 6 := by
  have h0 : rl (0 : Rat) ≤ 6 := Nat.le_trans (rl_ir (n := 0) (by decide)) (by decide)
  unfold liftF
  split
  · exact h0
  · split
    · by_cases hj : j < Z.length
      · exact h _ (List.mem_of_getElem? (getD_some hj))
      · rw [List.getD_eq_getElem?_getD, List.getElem?_eq_none (by omega)]; exact h0
    · exact h0
set_option maxHeartbeats 4000000 in
theorem a_TaintBins (t : Trace) (kind : Int) (z : List Fr) : ACall Try.prog 4 [trS t, intS .i64 kind, fracsS z] [] (boolS true) [] := by
  have sm := a_small21
  have fw := a_few21 t z
  have m1 : (z.map frRow).length = z.length := by simp
  have m2 : (t.ev.moves.map Move.row).length = t.ev.moves.length := by simp
  have m4 : (t.finds.map Find.row).length = t.finds.length := by simp
  cases h1 : fewT t z with
  | false =>
    rw [h1] at fw
    (refine acall_of tab_ok Try.func4 rfl (by decide) ?_; (conv => whnf); repeat (first | (refine LitB.data ?_; conv => whnf) | (refine BoxB.data ?_; conv => whnf)))
    (repeat' (first | ((refine DecB.mk (fun h => ?_) (fun h => ?_)) <;> first | (exfalso; omega) | (conv => whnf)) | ((refine BoolB.mk (fun h => ?_) (fun h => ?_)) <;> first | (exact absurd h (by decide)) | (conv => whnf)) | (refine ⟨_, wrap_ok (by omega) (by omega), ?_⟩; conv => whnf) | (refine and_idx (by omega) (by omega) ?_; conv => whnf) | (refine reg_ok (by decide +kernel) ?_; conv => whnf) | (refine bar_ok (by decide +kernel) (by decide +kernel) ?_; conv => whnf) | (refine late_ok rfl rfl ?_; conv => whnf) | (refine src_ok rfl ?_; conv => whnf) | (refine .inl ⟨_, _, qcall_pure (sm) rfl rfl, ?_⟩; conv => whnf) | (refine .inl ⟨_, _, qcall_pure (fw) rfl rfl, ?_⟩; conv => whnf) | (refine LitB.data ?_; conv => whnf) | (refine BoxB.own ?_; conv => whnf)))
    all_goals first
      | (exfalso; omega)
      | exact fin_bool rfl
  | true =>
  rw [h1] at fw
  unfold fewT at h1
  simp only [Bool.and_eq_true] at h1
  obtain ⟨hs, l1, l2, l3, l4⟩ := littleT_sized h1.1
  obtain ⟨z1, z2⟩ := shorts_small h1.2
  have ma := a_Matter t kind z hs (by omega) (fun f hf => by have := z2 f hf; omega)
  by_cases h7 : ¬ (matterE t kind z = 0)
  · (refine acall_of tab_ok Try.func4 rfl (by decide) ?_; (conv => whnf); repeat (first | (refine LitB.data ?_; conv => whnf) | (refine BoxB.data ?_; conv => whnf)))
    (repeat' (first | ((refine DecB.mk (fun h => ?_) (fun h => ?_)) <;> first | (exfalso; omega) | (conv => whnf)) | ((refine BoolB.mk (fun h => ?_) (fun h => ?_)) <;> first | (exact absurd h (by decide)) | (conv => whnf)) | (refine ⟨_, wrap_ok (by omega) (by omega), ?_⟩; conv => whnf) | (refine and_idx (by omega) (by omega) ?_; conv => whnf) | (refine reg_ok (by decide +kernel) ?_; conv => whnf) | (refine bar_ok (by decide +kernel) (by decide +kernel) ?_; conv => whnf) | (refine late_ok rfl rfl ?_; conv => whnf) | (refine src_ok rfl ?_; conv => whnf) | (refine .inl ⟨_, _, qcall_pure (sm) rfl rfl, ?_⟩; conv => whnf) | (refine .inl ⟨_, _, qcall_pure (fw) rfl rfl, ?_⟩; conv => whnf) | (refine .inl ⟨_, _, qcall_pure (ma) rfl rfl, ?_⟩; conv => whnf) | (refine LitB.data ?_; conv => whnf) | (refine BoxB.own ?_; conv => whnf)))
    all_goals first
      | (exfalso; omega)
      | exact fin_bool rfl
  have h7 : matterE t kind z = 0 := Decidable.not_not.1 h7
  rw [h7] at ma
  obtain ⟨Z, rfl, pZ⟩ := matter_zero.1 h7
  have zl := pZ.len
  have m3 : (Z.map fz).length = Z.length := by simp
  have rZ : ∀ v ∈ Z, rl v ≤ 6 := fun v hv => by
    have := z2 (fz v) (List.mem_map.2 ⟨v, hv, rfl⟩)
    exact Nat.max_le.2 this
  have q1 := (traceE_zero pZ.tr).1
  have q4 := (traceE_zero pZ.tr).2.2.2.1
  have i0 : ACall Try.prog 14 [intS .i64 0] [] (frS (fz zR)) [] := r5Int 0 (by decide) (by decide)
  obtain ⟨L, hL⟩ : ∃ L : Nat → Rat, ∀ i, L i = sumN (liftF t.ev Z) i := ⟨_, fun _ => rfl⟩
  have L0 : L 0 = zR := by rw [hL]; rfl
  have bL : ∀ i, i ≤ 14 → rl (L i) ≤ 99 := fun i hi => by
    have := rl_sumN (rl_lift (e := t.ev) rZ) i
    have h2 := Nat.mul_le_mul_right (6 + 1) hi
    rw [hL]; omega
  (refine acall_of tab_ok Try.func4 rfl (by decide) ?_; (conv => whnf); repeat (first | (refine LitB.data ?_; conv => whnf) | (refine BoxB.data ?_; conv => whnf)))
  (repeat' (first | ((refine DecB.mk (fun h => ?_) (fun h => ?_)) <;> first | (exfalso; omega) | (conv => whnf)) | ((refine BoolB.mk (fun h => ?_) (fun h => ?_)) <;> first | (exact absurd h (by decide)) | (conv => whnf)) | (refine ⟨_, wrap_ok (by omega) (by omega), ?_⟩; conv => whnf) | (refine and_idx (by omega) (by omega) ?_; conv => whnf) | (refine reg_ok (by decide +kernel) ?_; conv => whnf) | (refine bar_ok (by decide +kernel) (by decide +kernel) ?_; conv => whnf) | (refine late_ok rfl rfl ?_; conv => whnf) | (refine src_ok rfl ?_; conv => whnf) | (refine .inl ⟨_, _, qcall_pure (sm) rfl rfl, ?_⟩; conv => whnf) | (refine .inl ⟨_, _, qcall_pure (fw) rfl rfl, ?_⟩; conv => whnf) | (refine .inl ⟨_, _, qcall_pure (ma) rfl rfl, ?_⟩; conv => whnf) | (refine .inl ⟨_, _, qcall_pure (i0) rfl rfl, ?_⟩; conv => whnf) | (refine LitB.data ?_; conv => whnf) | (refine BoxB.own ?_; conv => whnf)))
  all_goals try (exfalso; omega)
  refine awp_for tab_ok (fun i => ([S.junk, intS .i64 kind, fracsS (Z.map fz), S.c (C.t (T.ptr (trT t))), S.junk, S.junk, S.junk, boolS true, S.c (C.ptr 0 0 0), S.c (C.ptr 1 0 0), intS .i64 i, S.junk, S.junk, S.junk, S.junk, S.junk, S.junk, S.junk, S.junk, S.junk, S.junk, S.junk, S.junk, S.junk, S.junk, S.junk, S.junk, S.junk, S.junk, S.junk, S.junk, S.junk, S.junk, S.junk, S.junk, S.junk, S.junk, S.junk, S.junk, S.junk, S.junk, S.junk, S.junk, S.junk, S.junk, S.junk, S.junk, S.junk, S.junk, S.junk, S.junk, S.junk, S.junk, S.junk, S.junk, S.junk, S.junk, S.junk, S.junk, S.junk, S.junk, S.junk, S.junk, S.junk, S.junk, S.junk, S.junk, S.junk, S.junk, S.junk, S.junk, S.junk, S.junk, S.junk, S.junk, S.junk, S.junk, S.junk, S.junk, S.junk, S.junk, S.junk, S.junk, S.junk, S.junk, S.junk, S.junk, S.junk, S.junk, S.junk, S.junk, S.junk, S.junk, S.junk, S.junk, S.junk], [evB t.ev, oneB (fz (L i))])) Z.length (fun _ => True) [some 0, some 1] trivial
    ⟨rfl, rfl, ⟨⟨rfl, rfl, rfl, .inl ⟨rfl, rowsT_ev _⟩⟩, ⟨rfl, rfl, rfl, .inl ⟨by rw [L0]; rfl, rowsT_frC _⟩⟩, trivial⟩, ⟨rfl, rfl, rfl, rfl, ⟨rfl, rfl, rfl⟩, ⟨rfl, rfl, rfl⟩, rfl, trivial⟩⟩ ?_
  intro i hi _
  by_cases hlt : i < Z.length
  · obtain ⟨x, hx⟩ : ∃ x, t.ev.moves[i]? = some x := ⟨_, List.getElem?_eq_getElem (by omega)⟩
    obtain ⟨v, hv⟩ : ∃ v, Z[i]? = some v := ⟨_, List.getElem?_eq_getElem (by omega)⟩
    have hvd := getD_of hv
    have zv := zero_get Z hv
    have bv := rZ v (List.mem_of_getElem? hv)
    have b1 := bL i (by omega)
    have b2 := bL (i + 1) (by omega)
    have ge := lift_ge pZ hx
    rw [hvd, ← hL] at ge
    have so := a_Source t.ev hs.ev x.src
    have hmo := check_move q1 (List.mem_of_getElem? hx)
    have ms := moveOk_src hmo
    have hso : source t.ev x.src = decide (kindAt t.ev x.src = 0) := by
      unfold source
      have : idx x.src t.ev.places.length = true := by rw [idx_iff]; omega
      rw [this]; simp [q1]
    rw [hso] at so
    have ad := z_fAdd (L i) v (by omega) (by omega)
    have cm := z_fCompare v (L (i + 1)) (by omega) (by omega)
    have cg := cmpR_lt' (x := v) (y := L (i + 1))
    have hng : ¬ cmpR v (L (i + 1)) > 0 := fun h => by have := cg.1 h; grind
    have hLs : L (i + 1) = L i + liftF t.ev Z i := by rw [hL, hL]; rfl
    have hli : liftF t.ev Z i = if kindAt t.ev x.src = 0 then v else 0 := by unfold liftF; rw [hx]; simp only; rw [hvd]
    have fd : ∀ f ∈ t.finds, 1 ≤ f.grams ∧ f.grams ≤ 1099511627776 := fun f hf => by have := findsE_get q4 f hf; omega
    generalize hU : cmpR v (L (i + 1)) = U at cm hng
    have st : ∀ k : Int, True := fun _ => trivial
    cases hb : decide (kindAt t.ev x.src = 0) <;> rw [hb] at so
    · have eL : L (i + 1) = L i := by rw [hLs, hli, if_neg (by simpa using hb)]; grind
      rw [eL] at cm
      conv => whnf
      (repeat' (first | ((refine DecB.mk (fun h => ?_) (fun h => ?_)) <;> first | (exfalso; omega) | (conv => whnf)) | ((refine BoolB.mk (fun h => ?_) (fun h => ?_)) <;> first | (exact absurd h (by decide)) | (conv => whnf)) | (refine ⟨_, wrap_ok (by omega) (by omega), ?_⟩; conv => whnf) | (refine and_idx (by omega) (by omega) ?_; conv => whnf) | (refine reg_ok (by decide +kernel) ?_; conv => whnf) | (refine bar_ok (by decide +kernel) (by decide +kernel) ?_; conv => whnf) | (refine late_ok rfl rfl ?_; conv => whnf) | (refine src_ok rfl ?_; conv => whnf) | (refine .inl ⟨_, _, qcall_pure (so) rfl rfl, ?_⟩; conv => whnf) | (refine .inl ⟨_, _, qcall_pure (cm) rfl rfl, ?_⟩; conv => whnf) | (refine ex_row hx ?_; conv => whnf) | (refine ex_row zv ?_; conv => whnf) | (refine LitB.data ?_; conv => whnf) | (refine BoxB.own ?_; conv => whnf)))
      all_goals try (exfalso; omega)
      refine awp_for tab_ok (fun j => ([S.junk, intS .i64 kind, fracsS (Z.map fz), S.c (C.t (T.ptr (trT t))), S.junk, S.junk, S.junk, boolS true, S.c (C.ptr 0 0 0), S.c (C.ptr 1 0 0), intS .i64 i, intS .i64 j, S.junk, S.junk, S.junk, S.junk, S.junk, S.junk, S.junk, S.junk, S.junk, S.junk, S.junk, S.junk, S.junk, S.junk, S.junk, S.junk, S.junk, S.junk, S.junk, S.junk, S.junk, S.junk, S.junk, S.junk, S.junk, S.junk, S.junk, S.junk, S.junk, S.junk, S.junk, S.junk, S.junk, S.junk, S.junk, S.junk, S.junk, S.junk, S.junk, S.junk, S.junk, S.junk, S.junk, S.junk, S.junk, S.junk, S.junk, S.junk, S.junk, S.junk, S.junk, S.junk, S.junk, S.junk, S.junk, S.junk, S.junk, S.junk, S.junk, S.junk, S.junk, S.junk, S.junk, S.junk, S.junk, S.junk, S.junk, S.junk, S.junk, S.junk, S.junk, S.junk, S.junk, S.junk, S.junk, S.junk, S.junk, S.junk, S.junk, S.junk, S.junk, S.junk, S.junk, S.junk], [evB t.ev, oneB (fz (L (i + 1)))])) t.finds.length (fun _ => True) [some 0, some 1] trivial
        ⟨rfl, rfl, ⟨⟨rfl, rfl, rfl, .inl ⟨rfl, rowsT_ev _⟩⟩, ⟨rfl, rfl, rfl, .inl ⟨by rw [eL], rowsT_frC _⟩⟩, trivial⟩, ⟨rfl, rfl, rfl, rfl, ⟨rfl, rfl, rfl⟩, ⟨rfl, rfl, rfl⟩, rfl, rfl, trivial⟩⟩ ?_
      intro j hj _
      by_cases hjt : j < t.finds.length
      · obtain ⟨f, hf⟩ : ∃ f, t.finds[j]? = some f := ⟨_, List.getElem?_eq_getElem hjt⟩
        have hfm := List.mem_of_getElem? hf
        have fb := fd f hfm
        have ig := r5Int f.grams (by omega) (by omega)
        have hb4 := bl_int (x := f.grams) (by omega) (by omega)
        have cf := z_fCompare (L (i + 1)) (f.grams : Rat) (by omega) (by rw [rl_int]; omega)
        have cl := cmpR_lt (x := L (i + 1)) (y := (f.grams : Rat))
        have hno : f.mv = (i : Int) → f.kind = kind → ¬ cmpR (L (i + 1)) (f.grams : Rat) < 0 := fun e1 e2 h => by
          have h2 := grams_le pZ hx hfm e1 e2
          rw [← hL] at h2
          have := cl.1 h
          grind
        generalize cmpR (L (i + 1)) (f.grams : Rat) = V at cf hno
        conv => whnf
        (repeat' (first | ((refine DecB.mk (fun h => ?_) (fun h => ?_)) <;> first | (exfalso; omega) | (conv => whnf)) | ((refine BoolB.mk (fun h => ?_) (fun h => ?_)) <;> first | (exact absurd h (by decide)) | (conv => whnf)) | (refine ⟨_, wrap_ok (by omega) (by omega), ?_⟩; conv => whnf) | (refine and_idx (by omega) (by omega) ?_; conv => whnf) | (refine reg_ok (by decide +kernel) ?_; conv => whnf) | (refine bar_ok (by decide +kernel) (by decide +kernel) ?_; conv => whnf) | (refine late_ok rfl rfl ?_; conv => whnf) | (refine src_ok rfl ?_; conv => whnf) | (refine .inl ⟨_, _, qcall_pure (ig) rfl rfl, ?_⟩; conv => whnf) | (refine .inl ⟨_, _, qcall_pure (cf) rfl rfl, ?_⟩; conv => whnf) | (refine ex_row hf ?_; conv => whnf) | (refine LitB.data ?_; conv => whnf) | (refine BoxB.own ?_; conv => whnf)))
        all_goals first
          | (exfalso; omega)
          | (exfalso; exact hno (by assumption) (by assumption) (by assumption))
          | exact ⟨hjt, trivial, [some 0, some 1], rfl, rfl, ⟨⟨rfl, rfl, rfl, .inl ⟨rfl, rowsT_ev _⟩⟩, ⟨rfl, rfl, rfl, .inl ⟨rfl, rowsT_frC _⟩⟩, trivial⟩, ⟨rfl, rfl, rfl, rfl, ⟨rfl, rfl, rfl⟩, ⟨rfl, rfl, rfl⟩, rfl, rfl, trivial⟩⟩
      · conv => whnf
        (repeat' (first | ((refine DecB.mk (fun h => ?_) (fun h => ?_)) <;> first | (exfalso; omega) | (conv => whnf)) | ((refine BoolB.mk (fun h => ?_) (fun h => ?_)) <;> first | (exact absurd h (by decide)) | (conv => whnf)) | (refine ⟨_, wrap_ok (by omega) (by omega), ?_⟩; conv => whnf) | (refine and_idx (by omega) (by omega) ?_; conv => whnf) | (refine reg_ok (by decide +kernel) ?_; conv => whnf) | (refine bar_ok (by decide +kernel) (by decide +kernel) ?_; conv => whnf) | (refine late_ok rfl rfl ?_; conv => whnf) | (refine src_ok rfl ?_; conv => whnf) | (refine LitB.data ?_; conv => whnf) | (refine BoxB.own ?_; conv => whnf)))
        all_goals first
          | (exfalso; omega)
          | exact ⟨hlt, trivial, [some 0, some 1], rfl, rfl, ⟨⟨rfl, rfl, rfl, .inl ⟨rfl, rowsT_ev _⟩⟩, ⟨rfl, rfl, rfl, .inl ⟨rfl, rowsT_frC _⟩⟩, trivial⟩, ⟨rfl, rfl, rfl, rfl, ⟨rfl, rfl, rfl⟩, ⟨rfl, rfl, rfl⟩, rfl, trivial⟩⟩
    · have eL : L i + v = L (i + 1) := by rw [hLs, hli, if_pos (by simpa using hb)]
      rw [eL] at ad
      conv => whnf
      (repeat' (first | ((refine DecB.mk (fun h => ?_) (fun h => ?_)) <;> first | (exfalso; omega) | (conv => whnf)) | ((refine BoolB.mk (fun h => ?_) (fun h => ?_)) <;> first | (exact absurd h (by decide)) | (conv => whnf)) | (refine ⟨_, wrap_ok (by omega) (by omega), ?_⟩; conv => whnf) | (refine and_idx (by omega) (by omega) ?_; conv => whnf) | (refine reg_ok (by decide +kernel) ?_; conv => whnf) | (refine bar_ok (by decide +kernel) (by decide +kernel) ?_; conv => whnf) | (refine late_ok rfl rfl ?_; conv => whnf) | (refine src_ok rfl ?_; conv => whnf) | (refine .inl ⟨_, _, qcall_pure (so) rfl rfl, ?_⟩; conv => whnf) | (refine .inl ⟨_, _, qcall_pure (ad) rfl rfl, ?_⟩; conv => whnf) | (refine .inl ⟨_, _, qcall_pure (cm) rfl rfl, ?_⟩; conv => whnf) | (refine .inl ⟨_, _, qcall_pure (8) rfl rfl, ?_⟩; conv => whnf) | (refine ex_row hx ?_; conv => whnf) | (refine ex_row zv ?_; conv => whnf) | (refine bar_late [8] (by decide +kernel) (by decide +kernel) ?_; conv => whnf) | (refine LitB.data ?_; conv => whnf) | (refine BoxB.own ?_; conv => whnf)))
      all_goals try (exfalso; omega)
      refine awp_for tab_ok (fun j => ([S.junk, intS .i64 kind, fracsS (Z.map fz), S.c (C.t (T.ptr (trT t))), S.junk, S.junk, S.junk, boolS true, S.c (C.ptr 0 0 0), S.c (C.ptr 1 0 0), intS .i64 i, intS .i64 j, S.junk, S.junk, S.junk, S.junk, S.junk, S.junk, S.junk, S.junk, S.junk, S.junk, S.junk, S.junk, S.junk, S.junk, S.junk, S.junk, S.junk, S.junk, S.junk, S.junk, S.junk, S.junk, S.junk, S.junk, S.junk, S.junk, S.junk, S.junk, S.junk, S.junk, S.junk, S.junk, S.junk, S.junk, S.junk, S.junk, S.junk, S.junk, S.junk, S.junk, S.junk, S.junk, S.junk, S.junk, S.junk, S.junk, S.junk, S.junk, S.junk, S.junk, S.junk, S.junk, S.junk, S.junk, S.junk, S.junk, S.junk, S.junk, S.junk, S.junk, S.junk, S.junk, S.junk, S.junk, S.junk, S.junk, S.junk, S.junk, S.junk, S.junk, S.junk, S.junk, S.junk, S.junk, S.junk, S.junk, S.junk, S.junk, S.junk, S.junk, S.junk, S.junk, S.junk, S.junk], [evB t.ev, oneB (fz (L (i + 1)))])) t.finds.length (fun _ => True) [some 0, some 1] trivial
        ⟨rfl, rfl, ⟨⟨rfl, rfl, rfl, .inl ⟨rfl, rowsT_ev _⟩⟩, ⟨rfl, rfl, rfl, .inl ⟨rfl, rowsT_frC _⟩⟩, trivial⟩, ⟨rfl, rfl, rfl, rfl, ⟨rfl, rfl, rfl⟩, ⟨rfl, rfl, rfl⟩, rfl, rfl, trivial⟩⟩ ?_
      intro j hj _
      by_cases hjt : j < t.finds.length
      · obtain ⟨f, hf⟩ : ∃ f, t.finds[j]? = some f := ⟨_, List.getElem?_eq_getElem hjt⟩
        have hfm := List.mem_of_getElem? hf
        have fb := fd f hfm
        have ig := r5Int f.grams (by omega) (by omega)
        have hb4 := bl_int (x := f.grams) (by omega) (by omega)
        have cf := z_fCompare (L (i + 1)) (f.grams : Rat) (by omega) (by rw [rl_int]; omega)
        have cl := cmpR_lt (x := L (i + 1)) (y := (f.grams : Rat))
        have hno : f.mv = (i : Int) → f.kind = kind → ¬ cmpR (L (i + 1)) (f.grams : Rat) < 0 := fun e1 e2 h => by
          have h2 := grams_le pZ hx hfm e1 e2
          rw [← hL] at h2
          have := cl.1 h
          grind
        generalize cmpR (L (i + 1)) (f.grams : Rat) = V at cf hno
        conv => whnf
        (repeat' (first | ((refine DecB.mk (fun h => ?_) (fun h => ?_)) <;> first | (exfalso; omega) | (conv => whnf)) | ((refine BoolB.mk (fun h => ?_) (fun h => ?_)) <;> first | (exact absurd h (by decide)) | (conv => whnf)) | (refine ⟨_, wrap_ok (by omega) (by omega), ?_⟩; conv => whnf) | (refine and_idx (by omega) (by omega) ?_; conv => whnf) | (refine reg_ok (by decide +kernel) ?_; conv => whnf) | (refine bar_ok (by decide +kernel) (by decide +kernel) ?_; conv => whnf) | (refine late_ok rfl rfl ?_; conv => whnf) | (refine src_ok rfl ?_; conv => whnf) | (refine .inl ⟨_, _, qcall_pure (ig) rfl rfl, ?_⟩; conv => whnf) | (refine .inl ⟨_, _, qcall_pure (cf) rfl rfl, ?_⟩; conv => whnf) | (refine ex_row hf ?_; conv => whnf) | (refine LitB.data ?_; conv => whnf) | (refine BoxB.own ?_; conv => whnf)))
        all_goals first
          | (exfalso; omega)
          | (exfalso; exact hno (by assumption) (by assumption) (by assumption))
          | exact ⟨hjt, trivial, [some 0, some 1], rfl, rfl, ⟨⟨rfl, rfl, rfl, .inl ⟨rfl, rowsT_ev _⟩⟩, ⟨rfl, rfl, rfl, .inl ⟨rfl, rowsT_frC _⟩⟩, trivial⟩, ⟨rfl, rfl, rfl, rfl, ⟨rfl, rfl, rfl⟩, ⟨rfl, rfl, rfl⟩, rfl, rfl, trivial⟩⟩
      · conv => whnf
        (repeat' (first | ((refine DecB.mk (fun h => ?_) (fun h => ?_)) <;> first | (exfalso; omega) | (conv => whnf)) | ((refine BoolB.mk (fun h => ?_) (fun h => ?_)) <;> first | (exact absurd h (by decide)) | (conv => whnf)) | (refine ⟨_, wrap_ok (by omega) (by omega), ?_⟩; conv => whnf) | (refine and_idx (by omega) (by omega) ?_; conv => whnf) | (refine reg_ok (by decide +kernel) ?_; conv => whnf) | (refine bar_ok (by decide +kernel) (by decide +kernel) ?_; conv => whnf) | (refine late_ok rfl rfl ?_; conv => whnf) | (refine src_ok rfl ?_; conv => whnf) | (refine LitB.data ?_; conv => whnf) | (refine BoxB.own ?_; conv => whnf)))
        all_goals first
          | (exfalso; omega)
          | exact ⟨hlt, trivial, [some 0, some 1], rfl, rfl, ⟨⟨rfl, rfl, rfl, .inl ⟨rfl, rowsT_ev _⟩⟩, ⟨rfl, rfl, rfl, .inl ⟨rfl, rowsT_frC _⟩⟩, trivial⟩, ⟨rfl, rfl, rfl, rfl, ⟨rfl, rfl, rfl⟩, ⟨rfl, rfl, rfl⟩, rfl, trivial⟩⟩
  · conv => whnf
    (repeat' (first | ((refine DecB.mk (fun h => ?_) (fun h => ?_)) <;> first | (exfalso; omega) | (conv => whnf)) | ((refine BoolB.mk (fun h => ?_) (fun h => ?_)) <;> first | (exact absurd h (by decide)) | (conv => whnf)) | (refine ⟨_, wrap_ok (by omega) (by omega), ?_⟩; conv => whnf) | (refine and_idx (by omega) (by omega) ?_; conv => whnf) | (refine reg_ok (by decide +kernel) ?_; conv => whnf) | (refine bar_ok (by decide +kernel) (by decide +kernel) ?_; conv => whnf) | (refine late_ok rfl rfl ?_; conv => whnf) | (refine src_ok rfl ?_; conv => whnf) | (refine LitB.data ?_; conv => whnf) | (refine BoxB.own ?_; conv => whnf)))
    all_goals first
      | (exfalso; omega)
      | exact fin_bool rfl
end Go.Proofs.Ytomfnfbijgjfeaa
/- TaintBins: at every input the law returns true, and its arguments read as before. Conditions: none. -/
namespace Go.Proofs.Ytomfnfbijgjfeaa
open Go.RowKit Go.ChangeShapes Go.WideShapes Go.ChangeAt

set_option maxRecDepth 100000 in
theorem taintBins_lifted (os : Os) (started : os.Started) (H : Type) (enc : TypeId × Value → H) :
    ReturnsInHanded {} Try.checked os 4 .any (Rows.taintBinsSpec.pre6 enc Try.prog Try.f4 Rows.taintBinsRow.domain false) (Rows.taintBinsSpec.post enc Try.prog Try.f4 false true false false) := by
  refine returnsInHanded_of_change (C := Try.checked) law_own started (by kernel_rfl) Try.func4
    (ChangeSpec.witness6 (enc := enc) (C := Try.checked) false ⟨#[], #[.agg #[.int .i64 0, .int .i64 0, .int .i64 0, .slice none 0 0, .slice none 0 0, .slice none 0 0, .slice none 0 0, .slice none 0 0, .slice none 0 0, .slice none 0 0], .int .i64 0, .slice none 0 0], []⟩ 12 (by kernel_rfl) (by kernel_rfl) (by kernel_rfl) (by kernel_rfl)) ?_
  intro W base args ds gs before hval0 hW hcnd _
  have hval : ∀ (j : Nat) t v, Try.f4.params[j]? = some t → args[j]? = some v → Value.okWide Try.prog W .any base t v := hval0
  have hW' := hW
  obtain ⟨p, q, hA0, hV, rfl, hfz, hnd⟩ := hW
  have hA : DataW.TrodAll enc Try.prog W 0 (fun _ => true) true Try.f4.params.toList args.toList ds p := hA0
  rw [Try.params4] at hA hval
  obtain ⟨v0, vs0, d0, ds0, p0, q0, hargs, rfl, rfl, h0, r0⟩ := trodAll_cons hA
  obtain ⟨v1, vs1, d1, ds1, p1, q1, rfl, rfl, rfl, h1, r1⟩ := trodAll_cons r0
  obtain ⟨v2, vs2, d2, ds2, p2, q2, rfl, rfl, rfl, h2, r2⟩ := trodAll_cons r1
  obtain ⟨rfl, rfl, rfl⟩ := trodAll_nil r2
  obtain rfl : args = #[v0, v1, v2] := by cases args; simp_all
  obtain ⟨rfl, rfl⟩ := trodVars_none hV
  obtain ⟨a0, t0⟩ := Go.Proofs.Ytomfnfbijgjfeaa.open_trace (hval 0 32 v0 rfl rfl) h0
  obtain ⟨a1, rfl, rfl, rfl, w1⟩ := open_int Try.underlying3 (hval 1 3 v1 rfl rfl) h1
  obtain ⟨a2, t2⟩ := Go.Proofs.Ytomfnfbijgjfeaa.open_fracs (hval 2 33 v2 rfl rfl) h2
  refine (law_of_acall (a_TaintBins a0 a1 a2) (.cons (t0) (.cons (rs_int) (.cons (t2) (.nil))))).mono fun ee W' ⟨he, hg⟩ => ?_
  subst he
  exact ⟨_, rfl, law_post hW' law_laid (by rw [Try.params4]; intro t ht; simp at ht; rcases ht with rfl | rfl | rfl <;> exact ⟨by kernel_rfl, of_decide_eq_true (by kernel_rfl)⟩) rfl rfl (by kernel_rfl) Try.underlying4 hg⟩

theorem taintBins_holds : Rows.TaintBinsSaid :=
  OpenClaim.holds_of_wide 4 Try.f4 rfl rfl rfl rfl rfl rfl rfl ⟨rfl, rfl, rfl, rfl, rfl⟩ rfl rfl rfl rfl rfl (by kernel_rfl) Try.func4 (by kernel_rfl)
    (of_decide_eq_true (by kernel_rfl)) (by unfold Func.isWrapper; first | (rw [if_pos (by decide +kernel)]; kernel_rfl) | (rw [if_neg (by decide +kernel)]; exact ⟨rfl, rfl⟩))
    (fun os started H enc _ => taintBins_lifted os started H enc)
end Go.Proofs.Ytomfnfbijgjfeaa
/- TaintMixes: at every input the law returns true, and its arguments read as before. Conditions: none. -/
namespace Go.Proofs.Ytomfnfbijgjfeaa
open Go.RowKit Go.ChangeShapes Go.WideShapes Go.ChangeAt

set_option maxRecDepth 100000 in
theorem taintMixes_lifted (os : Os) (started : os.Started) (H : Type) (enc : TypeId × Value → H) :
    ReturnsInHanded {} Try.checked os 5 .any (Rows.taintMixesSpec.pre6 enc Try.prog Try.f5 Rows.taintMixesRow.domain false) (Rows.taintMixesSpec.post enc Try.prog Try.f5 false true false false) := by
  refine returnsInHanded_of_change (C := Try.checked) law_own started (by kernel_rfl) Try.func5
    (ChangeSpec.witness6 (enc := enc) (C := Try.checked) false ⟨#[], #[.agg #[.int .i64 0, .int .i64 0, .int .i64 0, .slice none 0 0, .slice none 0 0, .slice none 0 0, .slice none 0 0, .slice none 0 0, .slice none 0 0, .slice none 0 0], .int .i64 0, .slice none 0 0, .slice none 0 0, .agg #[.int .i64 0, .slice none 0 0, .int .i64 0, .slice none 0 0]], []⟩ 12 (by kernel_rfl) (by kernel_rfl) (by kernel_rfl) (by kernel_rfl)) ?_
  intro W base args ds gs before hval0 hW hcnd _
  have hval : ∀ (j : Nat) t v, Try.f5.params[j]? = some t → args[j]? = some v → Value.okWide Try.prog W .any base t v := hval0
  have hW' := hW
  obtain ⟨p, q, hA0, hV, rfl, hfz, hnd⟩ := hW
  have hA : DataW.TrodAll enc Try.prog W 0 (fun _ => true) true Try.f5.params.toList args.toList ds p := hA0
  rw [Try.params5] at hA hval
  obtain ⟨v0, vs0, d0, ds0, p0, q0, hargs, rfl, rfl, h0, r0⟩ := trodAll_cons hA
  obtain ⟨v1, vs1, d1, ds1, p1, q1, rfl, rfl, rfl, h1, r1⟩ := trodAll_cons r0
  obtain ⟨v2, vs2, d2, ds2, p2, q2, rfl, rfl, rfl, h2, r2⟩ := trodAll_cons r1
  obtain ⟨v3, vs3, d3, ds3, p3, q3, rfl, rfl, rfl, h3, r3⟩ := trodAll_cons r2
  obtain ⟨v4, vs4, d4, ds4, p4, q4, rfl, rfl, rfl, h4, r4⟩ := trodAll_cons r3
  obtain ⟨rfl, rfl, rfl⟩ := trodAll_nil r4
  obtain rfl : args = #[v0, v1, v2, v3, v4] := by cases args; simp_all
  obtain ⟨rfl, rfl⟩ := trodVars_none hV
  obtain ⟨a0, t0⟩ := Go.Proofs.Ytomfnfbijgjfeaa.open_trace (hval 0 32 v0 rfl rfl) h0
  obtain ⟨a1, rfl, rfl, rfl, w1⟩ := open_int Try.underlying3 (hval 1 3 v1 rfl rfl) h1
  obtain ⟨a2, t2⟩ := Go.Proofs.Ytomfnfbijgjfeaa.open_fracs (hval 2 33 v2 rfl rfl) h2
  obtain ⟨a3, t3⟩ := Go.Proofs.Ytomfnfbijgjfeaa.open_fracs (hval 3 33 v3 rfl rfl) h3
  obtain ⟨a4, t4⟩ := Go.Proofs.Ytomfnfbijgjfeaa.open_frac (hval 4 51 v4 rfl rfl) h4
  refine (law_of_acall (a_TaintMixes a0 a1 a2 a3 a4) (.cons (t0) (.cons (rs_int) (.cons (t2) (.cons (t3) (.cons (t4) (.nil))))))).mono fun ee W' ⟨he, hg⟩ => ?_
  subst he
  exact ⟨_, rfl, law_post hW' law_laid (by rw [Try.params5]; intro t ht; simp at ht; rcases ht with rfl | rfl | rfl | rfl <;> exact ⟨by kernel_rfl, of_decide_eq_true (by kernel_rfl)⟩) rfl rfl (by kernel_rfl) Try.underlying4 hg⟩

theorem taintMixes_holds : Rows.TaintMixesSaid :=
  OpenClaim.holds_of_wide 5 Try.f5 rfl rfl rfl rfl rfl rfl rfl ⟨rfl, rfl, rfl, rfl, rfl⟩ rfl rfl rfl rfl rfl (by kernel_rfl) Try.func5 (by kernel_rfl)
    (of_decide_eq_true (by kernel_rfl)) (by unfold Func.isWrapper; first | (rw [if_pos (by decide +kernel)]; kernel_rfl) | (rw [if_neg (by decide +kernel)]; exact ⟨rfl, rfl⟩))
    (fun os started H enc _ => taintMixes_lifted os started H enc)
end Go.Proofs.Ytomfnfbijgjfeaa
/- TaintHolds: at every input the law returns true, and its arguments read as before. Conditions: none. -/
namespace Go.Proofs.Ytomfnfbijgjfeaa
open Go.RowKit Go.ChangeShapes Go.WideShapes Go.ChangeAt

set_option maxRecDepth 100000 in
theorem taintHolds_lifted (os : Os) (started : os.Started) (H : Type) (enc : TypeId × Value → H) :
    ReturnsInHanded {} Try.checked os 6 .any (Rows.taintHoldsSpec.pre6 enc Try.prog Try.f6 Rows.taintHoldsRow.domain false) (Rows.taintHoldsSpec.post enc Try.prog Try.f6 false true false false) := by
  refine returnsInHanded_of_change (C := Try.checked) law_own started (by kernel_rfl) Try.func6
    (ChangeSpec.witness6 (enc := enc) (C := Try.checked) false ⟨#[], #[.agg #[.int .i64 0, .int .i64 0, .int .i64 0, .slice none 0 0, .slice none 0 0, .slice none 0 0, .slice none 0 0, .slice none 0 0, .slice none 0 0, .slice none 0 0], .int .i64 0, .slice none 0 0], []⟩ 12 (by kernel_rfl) (by kernel_rfl) (by kernel_rfl) (by kernel_rfl)) ?_
  intro W base args ds gs before hval0 hW hcnd _
  have hval : ∀ (j : Nat) t v, Try.f6.params[j]? = some t → args[j]? = some v → Value.okWide Try.prog W .any base t v := hval0
  have hW' := hW
  obtain ⟨p, q, hA0, hV, rfl, hfz, hnd⟩ := hW
  have hA : DataW.TrodAll enc Try.prog W 0 (fun _ => true) true Try.f6.params.toList args.toList ds p := hA0
  rw [Try.params6] at hA hval
  obtain ⟨v0, vs0, d0, ds0, p0, q0, hargs, rfl, rfl, h0, r0⟩ := trodAll_cons hA
  obtain ⟨v1, vs1, d1, ds1, p1, q1, rfl, rfl, rfl, h1, r1⟩ := trodAll_cons r0
  obtain ⟨v2, vs2, d2, ds2, p2, q2, rfl, rfl, rfl, h2, r2⟩ := trodAll_cons r1
  obtain ⟨rfl, rfl, rfl⟩ := trodAll_nil r2
  obtain rfl : args = #[v0, v1, v2] := by cases args; simp_all
  obtain ⟨rfl, rfl⟩ := trodVars_none hV
  obtain ⟨a0, t0⟩ := Go.Proofs.Ytomfnfbijgjfeaa.open_trace (hval 0 32 v0 rfl rfl) h0
  obtain ⟨a1, rfl, rfl, rfl, w1⟩ := open_int Try.underlying3 (hval 1 3 v1 rfl rfl) h1
  obtain ⟨a2, t2⟩ := Go.Proofs.Ytomfnfbijgjfeaa.open_fracs (hval 2 33 v2 rfl rfl) h2
  refine (law_of_acall (a_TaintHolds a0 a1 a2) (.cons (t0) (.cons (rs_int) (.cons (t2) (.nil))))).mono fun ee W' ⟨he, hg⟩ => ?_
  subst he
  exact ⟨_, rfl, law_post hW' law_laid (by rw [Try.params6]; intro t ht; simp at ht; rcases ht with rfl | rfl | rfl <;> exact ⟨by kernel_rfl, of_decide_eq_true (by kernel_rfl)⟩) rfl rfl (by kernel_rfl) Try.underlying4 hg⟩

theorem taintHolds_holds : Rows.TaintHoldsSaid :=
  OpenClaim.holds_of_wide 6 Try.f6 rfl rfl rfl rfl rfl rfl rfl ⟨rfl, rfl, rfl, rfl, rfl⟩ rfl rfl rfl rfl rfl (by kernel_rfl) Try.func6 (by kernel_rfl)
    (of_decide_eq_true (by kernel_rfl)) (by unfold Func.isWrapper; first | (rw [if_pos (by decide +kernel)]; kernel_rfl) | (rw [if_neg (by decide +kernel)]; exact ⟨rfl, rfl⟩))
    (fun os started H enc _ => taintHolds_lifted os started H enc)
end Go.Proofs.Ytomfnfbijgjfeaa
/- TaintMass: its walk. -/
namespace Go.Proofs.Ytomfnfbijgjfeaa
open Go.RowKit
set_option linter.unusedVariables false
set_option linter.unusedSimpArgs false
set_option maxRecDepth 100000

def massZ (G : List (List Rat)) (m : Nat) (s : Rat) : List Rat := (List.range G.length).map fun i => hAt G i m * s
theorem massZ_get {G : List (List Rat)} {m : Nat} {s : Rat} {i : Nat} (h : i < G.length) : (massZ G m s)[i]? = some (hAt G i m * s) := by unfold massZ; rw [List.getElem?_map, List.getElem?_range h]; rfl
theorem massZ_len {G : List (List Rat)} {m : Nat} {s : Rat} : (massZ G m s).length = G.length := by simp [massZ]
theorem hAt_of {G : List (List Rat)} {i m : Nat} {l : List Rat} (h : G[i]? = some l) : hAt G i m = l.getD m 0 := by
  have : G.getD i [] = l := by rw [List.getD_eq_getElem?_getD, h]; rfl
  unfold hAt; rw [this]
set_option maxHeartbeats 4000000 in
theorem a_TaintMass (t : Trace) (hh : List (List Fr)) (mat kind : Int) (k : Fr) (hm0 : 0 ≤ mat) (hm1 : mat ≤ 255) (hk0 : 0 ≤ kind) (hk1 : kind ≤ 255) :
    ACall Try.prog 7 [trS t, histS hh, intS .u8 mat, intS .u8 kind, frS k] [] (boolS true) [] := by
  have sm := a_small21
  have fl := a_LittleT t
  have fh := a_FewH hh
  have fk := a_FewF k 2
  cases h1 : littleT t with
  | false =>
    rw [h1] at fl
    (refine acall_of tab_ok Try.func7 rfl (by decide) ?_; (conv => whnf); repeat (first | (refine LitB.data ?_; conv => whnf) | (refine BoxB.data ?_; conv => whnf)))
    (repeat' (first | ((refine DecB.mk (fun h => ?_) (fun h => ?_)) <;> first | (exfalso; omega) | (conv => whnf)) | ((refine BoolB.mk (fun h => ?_) (fun h => ?_)) <;> first | (exact absurd h (by decide)) | (conv => whnf)) | (refine ⟨_, wrap_ok (by omega) (by omega), ?_⟩; conv => whnf) | (refine and_idx (by omega) (by omega) ?_; conv => whnf) | (refine reg_ok (by decide +kernel) ?_; conv => whnf) | (refine bar_ok (by decide +kernel) (by decide +kernel) ?_; conv => whnf) | (refine late_ok rfl rfl ?_; conv => whnf) | (refine src_ok rfl ?_; conv => whnf) | (refine .inl ⟨_, _, qcall_pure (sm) rfl rfl, ?_⟩; conv => whnf) | (refine .inl ⟨_, _, qcall_pure (fl) rfl rfl, ?_⟩; conv => whnf) | (refine LitB.data ?_; conv => whnf) | (refine BoxB.own ?_; conv => whnf)))
    all_goals first
      | (exfalso; omega)
      | exact fin_bool rfl
  | true =>
  rw [h1] at fl
  cases h2 : fewH hh with
  | false =>
    rw [h2] at fh
    (refine acall_of tab_ok Try.func7 rfl (by decide) ?_; (conv => whnf); repeat (first | (refine LitB.data ?_; conv => whnf) | (refine BoxB.data ?_; conv => whnf)))
    (repeat' (first | ((refine DecB.mk (fun h => ?_) (fun h => ?_)) <;> first | (exfalso; omega) | (conv => whnf)) | ((refine BoolB.mk (fun h => ?_) (fun h => ?_)) <;> first | (exact absurd h (by decide)) | (conv => whnf)) | (refine ⟨_, wrap_ok (by omega) (by omega), ?_⟩; conv => whnf) | (refine and_idx (by omega) (by omega) ?_; conv => whnf) | (refine reg_ok (by decide +kernel) ?_; conv => whnf) | (refine bar_ok (by decide +kernel) (by decide +kernel) ?_; conv => whnf) | (refine late_ok rfl rfl ?_; conv => whnf) | (refine src_ok rfl ?_; conv => whnf) | (refine .inl ⟨_, _, qcall_pure (sm) rfl rfl, ?_⟩; conv => whnf) | (refine .inl ⟨_, _, qcall_pure (fl) rfl rfl, ?_⟩; conv => whnf) | (refine .inl ⟨_, _, qcall_pure (fh) rfl rfl, ?_⟩; conv => whnf) | (refine LitB.data ?_; conv => whnf) | (refine BoxB.own ?_; conv => whnf)))
    all_goals first
      | (exfalso; omega)
      | exact fin_bool rfl
  | true =>
  rw [h2] at fh
  cases h3 : fewF 2 k with
  | false =>
    rw [h3] at fk
    (refine acall_of tab_ok Try.func7 rfl (by decide) ?_; (conv => whnf); repeat (first | (refine LitB.data ?_; conv => whnf) | (refine BoxB.data ?_; conv => whnf)))
    (repeat' (first | ((refine DecB.mk (fun h => ?_) (fun h => ?_)) <;> first | (exfalso; omega) | (conv => whnf)) | ((refine BoolB.mk (fun h => ?_) (fun h => ?_)) <;> first | (exact absurd h (by decide)) | (conv => whnf)) | (refine ⟨_, wrap_ok (by omega) (by omega), ?_⟩; conv => whnf) | (refine and_idx (by omega) (by omega) ?_; conv => whnf) | (refine reg_ok (by decide +kernel) ?_; conv => whnf) | (refine bar_ok (by decide +kernel) (by decide +kernel) ?_; conv => whnf) | (refine late_ok rfl rfl ?_; conv => whnf) | (refine src_ok rfl ?_; conv => whnf) | (refine .inl ⟨_, _, qcall_pure (sm) rfl rfl, ?_⟩; conv => whnf) | (refine .inl ⟨_, _, qcall_pure (fl) rfl rfl, ?_⟩; conv => whnf) | (refine .inl ⟨_, _, qcall_pure (fh) rfl rfl, ?_⟩; conv => whnf) | (refine .inl ⟨_, _, qcall_pure (fk) rfl rfl, ?_⟩; conv => whnf) | (refine LitB.data ?_; conv => whnf) | (refine BoxB.own ?_; conv => whnf)))
    all_goals first
      | (exfalso; omega)
      | exact fin_bool rfl
  | true =>
  rw [h3] at fk
  have h3' : k.p.dl.length ≤ 2 ∧ k.q.dl.length ≤ 2 := by unfold fewF at h3; simp at h3; omega
  have fr := a_fRight k (by omega) (by omega)
  cases h5 : rightF k with
  | false =>
    rw [h5] at fr
    (refine acall_of tab_ok Try.func7 rfl (by decide) ?_; (conv => whnf); repeat (first | (refine LitB.data ?_; conv => whnf) | (refine BoxB.data ?_; conv => whnf)))
    (repeat' (first | ((refine DecB.mk (fun h => ?_) (fun h => ?_)) <;> first | (exfalso; omega) | (conv => whnf)) | ((refine BoolB.mk (fun h => ?_) (fun h => ?_)) <;> first | (exact absurd h (by decide)) | (conv => whnf)) | (refine ⟨_, wrap_ok (by omega) (by omega), ?_⟩; conv => whnf) | (refine and_idx (by omega) (by omega) ?_; conv => whnf) | (refine reg_ok (by decide +kernel) ?_; conv => whnf) | (refine bar_ok (by decide +kernel) (by decide +kernel) ?_; conv => whnf) | (refine late_ok rfl rfl ?_; conv => whnf) | (refine src_ok rfl ?_; conv => whnf) | (refine .inl ⟨_, _, qcall_pure (sm) rfl rfl, ?_⟩; conv => whnf) | (refine .inl ⟨_, _, qcall_pure (fl) rfl rfl, ?_⟩; conv => whnf) | (refine .inl ⟨_, _, qcall_pure (fh) rfl rfl, ?_⟩; conv => whnf) | (refine .inl ⟨_, _, qcall_pure (fk) rfl rfl, ?_⟩; conv => whnf) | (refine .inl ⟨_, _, qcall_pure (fr) rfl rfl, ?_⟩; conv => whnf) | (refine LitB.data ?_; conv => whnf) | (refine BoxB.own ?_; conv => whnf)))
    all_goals first
      | (exfalso; omega)
      | exact fin_bool rfl
  | true =>
  rw [h5] at fr
  have ht := rl_fv h5 (n := 2) (by omega) (by omega)
  obtain ⟨s, rfl⟩ : ∃ s, k = fz s := ⟨_, fz_fv h5⟩
  rw [fv_fz] at ht
  have sg := z_fSign s (by omega)
  have i1 := r5Int 1 (by decide) (by decide)
  have b1 : rl ((1 : Int) : Rat) ≤ 1 := rl_ir (by decide)
  have cm := z_fCompare s ((1 : Int) : Rat) (by omega) (by omega)
  by_cases h6 : ¬ (¬ sgR s < 0 ∧ ¬ cmpR s ((1 : Int) : Rat) > 0)
  · (refine acall_of tab_ok Try.func7 rfl (by decide) ?_; (conv => whnf); repeat (first | (refine LitB.data ?_; conv => whnf) | (refine BoxB.data ?_; conv => whnf)))
    (repeat' (first | ((refine DecB.mk (fun h => ?_) (fun h => ?_)) <;> first | (exfalso; omega) | (conv => whnf)) | ((refine BoolB.mk (fun h => ?_) (fun h => ?_)) <;> first | (exact absurd h (by decide)) | (conv => whnf)) | (refine ⟨_, wrap_ok (by omega) (by omega), ?_⟩; conv => whnf) | (refine and_idx (by omega) (by omega) ?_; conv => whnf) | (refine reg_ok (by decide +kernel) ?_; conv => whnf) | (refine bar_ok (by decide +kernel) (by decide +kernel) ?_; conv => whnf) | (refine late_ok rfl rfl ?_; conv => whnf) | (refine src_ok rfl ?_; conv => whnf) | (refine .inl ⟨_, _, qcall_pure (sm) rfl rfl, ?_⟩; conv => whnf) | (refine .inl ⟨_, _, qcall_pure (fl) rfl rfl, ?_⟩; conv => whnf) | (refine .inl ⟨_, _, qcall_pure (fh) rfl rfl, ?_⟩; conv => whnf) | (refine .inl ⟨_, _, qcall_pure (fk) rfl rfl, ?_⟩; conv => whnf) | (refine .inl ⟨_, _, qcall_pure (fr) rfl rfl, ?_⟩; conv => whnf) | (refine .inl ⟨_, _, qcall_pure (sg) rfl rfl, ?_⟩; conv => whnf) | (refine .inl ⟨_, _, qcall_pure (i1) rfl rfl, ?_⟩; conv => whnf) | (refine .inl ⟨_, _, qcall_pure (cm) rfl rfl, ?_⟩; conv => whnf) | (refine LitB.data ?_; conv => whnf) | (refine BoxB.own ?_; conv => whnf)))
    all_goals first
      | (exfalso; omega)
      | exact fin_bool rfl
  have h6 : ¬ sgR s < 0 ∧ ¬ cmpR s ((1 : Int) : Rat) > 0 := Decidable.not_not.1 h6
  have t0 : 0 ≤ s := by have := h6.1; rw [sgR_neg] at this; exact Rat.not_lt.1 this
  have t1 : s ≤ 1 := by have := h6.2; rw [cmpR_lt'] at this; exact Rat.not_lt.1 this
  obtain ⟨hs, l1, l2, l3, l4⟩ := littleT_sized h1
  obtain ⟨hS3, hS2, _⟩ := few_small h2
  have hS := hS3.mono (show 3 ≤ 200 by decide)
  have ct := a_TCheck t hs
  have hc := a_hCheck t.ev hh hs.ev hS
  by_cases h7 : ¬ (traceE t = 0 ∧ histCheck t.ev hh = 0 ∧ 1 ≤ t.ev.mats)
  · (refine acall_of tab_ok Try.func7 rfl (by decide) ?_; (conv => whnf); repeat (first | (refine LitB.data ?_; conv => whnf) | (refine BoxB.data ?_; conv => whnf)))
    (repeat' (first | ((refine DecB.mk (fun h => ?_) (fun h => ?_)) <;> first | (exfalso; omega) | (conv => whnf)) | ((refine BoolB.mk (fun h => ?_) (fun h => ?_)) <;> first | (exact absurd h (by decide)) | (conv => whnf)) | (refine ⟨_, wrap_ok (by omega) (by omega), ?_⟩; conv => whnf) | (refine and_idx (by omega) (by omega) ?_; conv => whnf) | (refine reg_ok (by decide +kernel) ?_; conv => whnf) | (refine bar_ok (by decide +kernel) (by decide +kernel) ?_; conv => whnf) | (refine late_ok rfl rfl ?_; conv => whnf) | (refine src_ok rfl ?_; conv => whnf) | (refine .inl ⟨_, _, qcall_pure (sm) rfl rfl, ?_⟩; conv => whnf) | (refine .inl ⟨_, _, qcall_pure (fl) rfl rfl, ?_⟩; conv => whnf) | (refine .inl ⟨_, _, qcall_pure (fh) rfl rfl, ?_⟩; conv => whnf) | (refine .inl ⟨_, _, qcall_pure (fk) rfl rfl, ?_⟩; conv => whnf) | (refine .inl ⟨_, _, qcall_pure (fr) rfl rfl, ?_⟩; conv => whnf) | (refine .inl ⟨_, _, qcall_pure (sg) rfl rfl, ?_⟩; conv => whnf) | (refine .inl ⟨_, _, qcall_pure (i1) rfl rfl, ?_⟩; conv => whnf) | (refine .inl ⟨_, _, qcall_pure (cm) rfl rfl, ?_⟩; conv => whnf) | (refine .inl ⟨_, _, qcall_pure (ct) rfl rfl, ?_⟩; conv => whnf) | (refine .inl ⟨_, _, qcall_pure (hc) rfl rfl, ?_⟩; conv => whnf) | (refine LitB.data ?_; conv => whnf) | (refine BoxB.own ?_; conv => whnf)))
    all_goals first
      | (exfalso; omega)
      | exact fin_bool rfl
  obtain ⟨u1, u2, u3⟩ : traceE t = 0 ∧ histCheck t.ev hh = 0 ∧ 1 ≤ t.ev.mats := Decidable.not_not.1 h7
  rw [u1] at ct
  rw [u2] at hc
  obtain ⟨q1, q2, q3⟩ := histCheck_zero u2
  obtain ⟨G, rfl, sG⟩ := shaped_rats q2
  have q3' : histE t.ev G = 0 := by rw [← unhz G]; exact q3
  have rG := small_rats hS3
  have gl := sG.len
  have m1 : ((hz G).map fracsRow).length = t.ev.moves.length := by simp [hz, gl]
  have hmod : 0 ≤ mat.tmod t.ev.mats ∧ mat.tmod t.ev.mats < t.ev.mats := by
    rw [Int.tmod_eq_emod_of_nonneg hm0]
    exact ⟨Int.emod_nonneg _ (by omega), Int.emod_lt_of_pos _ (by omega)⟩
  have kmod : 0 ≤ kind.tmod 8 ∧ kind.tmod 8 < 8 := by
    rw [Int.tmod_eq_emod_of_nonneg hk0]; omega
  obtain ⟨m, hm⟩ := Int.eq_ofNat_of_zero_le hmod.1
  rw [hm] at hmod
  have hm2 : (m : Int) < t.ev.mats := hmod.2
  have bA : ∀ i, i < G.length → rl (hAt G i m) ≤ 3 := fun i hi => by
    obtain ⟨l, hl⟩ : ∃ l, G[i]? = some l := ⟨_, List.getElem?_eq_getElem hi⟩
    have hw := sG.wid l (List.mem_of_getElem? hl)
    have e : hAt G i m = l.getD m 0 := hAt_of hl
    rw [e]
    exact rG l (List.mem_of_getElem? hl) _ (List.mem_of_getElem? (getD_some (by omega)))
  have bW : ∀ v ∈ massZ G m s, rl v ≤ 5 := fun v hv => by
    obtain ⟨i, hi, rfl⟩ := List.mem_map.1 hv
    have := bA i (List.mem_range.1 hi)
    have := rl_mul (hAt G i m) s
    omega
  have hw : ∀ i, i < t.ev.moves.length → (massZ G m s).getD i 0 = s * hAt G i m := fun i hi => by rw [getD_of (massZ_get (by omega))]; grind
  have pO := mass_only (kind := kind.tmod 8) q1 q3' sG hm2 t0 t1 kmod.1 kmod.2 (massZ_len.trans gl) hw
  have pS := mass_some (kind := kind.tmod 8) u1 q3' sG hm2 t0 t1 kmod.1 kmod.2 (massZ_len.trans gl) hw
  have hs2 : (onlyE t.ev).Sized := ⟨hs.ev, by simp [onlyE], by simp [onlyE]⟩
  have bWf : ∀ f ∈ (massZ G m s).map fz, f.p.dl.length ≤ 200 ∧ f.q.dl.length ≤ 200 := fun f hf => by
    obtain ⟨v, hv, rfl⟩ := List.mem_map.1 hf
    exact fz_small (Nat.le_trans (bW v hv) (by decide))
  have mS := a_Matter t (kind.tmod 8) ((massZ G m s).map fz) hs (by simp [massZ_len]; omega) bWf
  have mO := a_Matter (onlyE t.ev) (kind.tmod 8) ((massZ G m s).map fz) hs2 (by simp [massZ_len]; omega) bWf
  rw [matter_map.2 pO] at mO
  have lM : ((massZ G m s).map fz).length = t.ev.moves.length := by rw [List.length_map, massZ_len]; exact gl
  (refine acall_of tab_ok Try.func7 rfl (by decide) ?_; (conv => whnf); repeat (first | (refine LitB.data ?_; conv => whnf) | (refine BoxB.data ?_; conv => whnf)))
  (repeat' (first | ((refine DecB.mk (fun h => ?_) (fun h => ?_)) <;> first | (exfalso; omega) | (conv => whnf)) | ((refine BoolB.mk (fun h => ?_) (fun h => ?_)) <;> first | (exact absurd h (by decide)) | (conv => whnf)) | (refine ⟨_, wrap_ok (by omega) (by omega), ?_⟩; conv => whnf) | (refine and_idx (by omega) (by omega) ?_; conv => whnf) | (refine reg_ok (by decide +kernel) ?_; conv => whnf) | (refine bar_ok (by decide +kernel) (by decide +kernel) ?_; conv => whnf) | (refine late_ok rfl rfl ?_; conv => whnf) | (refine src_ok rfl ?_; conv => whnf) | (refine .inl ⟨_, _, qcall_pure (sm) rfl rfl, ?_⟩; conv => whnf) | (refine .inl ⟨_, _, qcall_pure (fl) rfl rfl, ?_⟩; conv => whnf) | (refine .inl ⟨_, _, qcall_pure (fh) rfl rfl, ?_⟩; conv => whnf) | (refine .inl ⟨_, _, qcall_pure (fk) rfl rfl, ?_⟩; conv => whnf) | (refine .inl ⟨_, _, qcall_pure (fr) rfl rfl, ?_⟩; conv => whnf) | (refine .inl ⟨_, _, qcall_pure (sg) rfl rfl, ?_⟩; conv => whnf) | (refine .inl ⟨_, _, qcall_pure (i1) rfl rfl, ?_⟩; conv => whnf) | (refine .inl ⟨_, _, qcall_pure (cm) rfl rfl, ?_⟩; conv => whnf) | (refine .inl ⟨_, _, qcall_pure (ct) rfl rfl, ?_⟩; conv => whnf) | (refine .inl ⟨_, _, qcall_pure (hc) rfl rfl, ?_⟩; conv => whnf) | (refine LitB.own ?_; conv => whnf) | (refine ne_ok (by omega) ?_; conv => whnf) | (refine LitB.data ?_; conv => whnf) | (refine BoxB.own ?_; conv => whnf)))
  all_goals try (exfalso; omega)
  refine awp_for tab_ok (fun i => ([S.junk, histS (hz G), S.junk, intS .u8 kind, S.junk, S.c (C.t (T.ptr (trT t))), S.junk, S.junk, S.junk, S.c (C.t (T.ptr (frRow (fz s)))), S.junk, boolS true, S.c (C.ptr 0 0 0), intS .i64 m, S.c (C.own 1 0 i true), intS .i64 i, S.junk, S.junk, S.junk, S.junk, S.junk, S.junk, S.junk, S.junk, S.junk, S.junk, S.junk, S.junk, S.junk, S.junk, S.junk, S.junk, S.junk, S.junk, S.junk, S.junk, S.junk, S.junk, S.junk, S.junk, S.junk, S.junk, S.junk, S.junk, S.junk, S.junk, S.junk, S.junk, S.junk, S.junk, S.junk, S.junk, S.junk, S.junk, S.junk, S.junk, S.junk, S.junk, S.junk, S.junk, S.junk, S.junk, S.junk, S.junk, S.junk, S.junk, S.junk, S.junk, S.junk, S.junk, S.junk, S.junk, S.junk, S.junk, S.junk, S.junk, S.junk, S.junk, S.junk, S.junk, S.junk, S.junk, S.junk, S.junk, S.junk, S.junk, S.junk, S.junk, S.junk, S.junk, S.junk, S.junk, S.junk, S.junk, S.junk, S.junk, S.junk, S.junk, S.junk, S.junk, S.junk, S.junk, S.junk, S.junk, S.junk, S.junk, S.junk, S.junk, S.junk, S.junk, S.junk, S.junk, S.junk, S.junk, S.junk, S.junk, S.junk, S.junk, S.junk, S.junk, S.junk, S.junk, S.junk, S.junk], [evB t.ev, fracsB (((massZ G m s).map fz).take i)])) t.ev.moves.length (fun _ => True) [some 0, some 1] trivial
    ⟨rfl, rfl, ⟨⟨rfl, rfl, rfl, .inl ⟨rfl, rowsT_ev _⟩⟩, entB_rows (rows := []) rfl rfl rfl rfl rfl, trivial⟩, ⟨rfl, rfl, rfl, rfl, rfl, ⟨rfl, rfl, rfl⟩, ent_i hm, ⟨rfl, rfl, rfl, fun h => h⟩, rfl, trivial⟩⟩ ?_
  intro i hi _
  by_cases hlt : i < t.ev.moves.length
  · obtain ⟨l, hl⟩ : ∃ l, G[i]? = some l := ⟨_, List.getElem?_eq_getElem (by omega)⟩
    have hwl := sG.wid l (List.mem_of_getElem? hl)
    have e : hAt G i m = l.getD m 0 := hAt_of hl
    have hg : l[m]? = some (hAt G i m) := by rw [e]; exact getD_some (by omega)
    have ba := bA i (by omega)
    have c1 := z_fMul (hAt G i m) s (by omega) (by omega)
    have xp := zero_get _ (massZ_get (G := G) (m := m) (s := s) (i := i) (by omega))
    have lt1 : (((massZ G m s).map fz).take i).length = i := by rw [List.length_take]; omega
    have lA : i ≤ (fracsB (((massZ G m s).map fz).take i)).rows.length := by show i ≤ (toC _).length; simp only [toC, List.length_map, lt1]; omega
    have lC : (i + 1) * 65 ≤ 140737488355328 := by omega
    conv => whnf
    (repeat' (first | ((refine DecB.mk (fun h => ?_) (fun h => ?_)) <;> first | (exfalso; omega) | (conv => whnf)) | ((refine BoolB.mk (fun h => ?_) (fun h => ?_)) <;> first | (exact absurd h (by decide)) | (conv => whnf)) | (refine ⟨_, wrap_ok (by omega) (by omega), ?_⟩; conv => whnf) | (refine and_idx (by omega) (by omega) ?_; conv => whnf) | (refine reg_ok (by decide +kernel) ?_; conv => whnf) | (refine bar_ok (by decide +kernel) (by decide +kernel) ?_; conv => whnf) | (refine late_ok rfl rfl ?_; conv => whnf) | (refine src_ok rfl ?_; conv => whnf) | (refine .inl ⟨_, _, qcall_pure (c1) rfl rfl, ?_⟩; conv => whnf) | (refine .inl ⟨_, _, qcall_pure (11) rfl rfl, ?_⟩; conv => whnf) | (refine ex_row (hz_get hl) ?_; conv => whnf) | (refine ex_row (zero_get l hg) ?_; conv => whnf) | (refine bar_late [11] (by decide +kernel) (by decide +kernel) ?_; conv => whnf) | (refine app_ok lA lC ?_; conv => whnf) | (refine LitB.data ?_; conv => whnf) | (refine BoxB.own ?_; conv => whnf)))
    all_goals try (exfalso; omega)
    exact ⟨hlt, trivial, [some 0, some 3], rfl, rfl, ⟨⟨rfl, rfl, rfl, .inl ⟨rfl, rowsT_ev _⟩⟩, entB_rows rfl rfl rfl (ext_fracs xp rfl) rfl, trivial⟩, ⟨rfl, rfl, rfl, rfl, rfl, ⟨rfl, rfl, rfl⟩, rfl, ⟨rfl, rfl, rfl, fun h => h⟩, rfl, trivial⟩⟩
  · have hie : i = t.ev.moves.length := by omega
    subst hie
    have hM : ((massZ G m s).map fz).take t.ev.moves.length = (massZ G m s).map fz := List.take_of_length_le (by omega)
    rw [hM]
    conv => whnf
    (repeat' (first | ((refine DecB.mk (fun h => ?_) (fun h => ?_)) <;> first | (exfalso; omega) | (conv => whnf)) | ((refine BoolB.mk (fun h => ?_) (fun h => ?_)) <;> first | (exact absurd h (by decide)) | (conv => whnf)) | (refine ⟨_, wrap_ok (by omega) (by omega), ?_⟩; conv => whnf) | (refine and_idx (by omega) (by omega) ?_; conv => whnf) | (refine reg_ok (by decide +kernel) ?_; conv => whnf) | (refine bar_ok (by decide +kernel) (by decide +kernel) ?_; conv => whnf) | (refine late_ok rfl rfl ?_; conv => whnf) | (refine src_ok rfl ?_; conv => whnf) | (refine .inl ⟨_, _, qcall_pure (List.length_map) rfl rfl, ?_⟩; conv => whnf) | (refine .inl ⟨_, _, qcall_pure (List.length_map) rfl rfl, ?_⟩; conv => whnf) | (refine ne_ok (by decide) ?_; conv => whnf) | (refine .inl ⟨_, _, qcall_view mS ⟨vs_tr t, vs_t, vs_c (vc_all trivial rfl (by intro h; cases h) rfl rfl (by rw [List.length_map]; exact lM.symm)), trivial⟩ rfl, ?_⟩; conv => whnf) | (refine .inl ⟨_, _, qcall_view mO ⟨vs_agg (ts := trT (onlyE t.ev)) (vl_cons (vc_t rfl) (vl_cons (vc_t rfl) (vl_cons (vc_t rfl) (vl_cons (vc_t rfl) (vl_cons (vc_t rfl) (vl_cons (vc_t rfl) (vl_cons (vc_t rfl) (vl_cons (vc_t rfl) (vl_cons (vc_t rfl) (vl_cons (vc_t rfl) vl_nil)))))))))), vs_t, vs_c (vc_all trivial rfl (by intro h; cases h) rfl rfl (by rw [List.length_map]; exact lM.symm)), trivial⟩ rfl, ?_⟩; conv => whnf) | (refine LitB.data ?_; conv => whnf) | (refine BoxB.own ?_; conv => whnf)))
    all_goals first
      | (exfalso; omega)
      | exact fin_bool rfl
end Go.Proofs.Ytomfnfbijgjfeaa
/- TaintMass: at every input the law returns true, and its arguments read as before. Conditions: none. -/
namespace Go.Proofs.Ytomfnfbijgjfeaa
open Go.RowKit Go.ChangeShapes Go.WideShapes Go.ChangeAt

set_option maxRecDepth 100000 in
theorem taintMass_lifted (os : Os) (started : os.Started) (H : Type) (enc : TypeId × Value → H) :
    ReturnsInHanded {} Try.checked os 7 .any (Rows.taintMassSpec.pre6 enc Try.prog Try.f7 Rows.taintMassRow.domain false) (Rows.taintMassSpec.post enc Try.prog Try.f7 false true false false) := by
  refine returnsInHanded_of_change (C := Try.checked) law_own started (by kernel_rfl) Try.func7
    (ChangeSpec.witness6 (enc := enc) (C := Try.checked) false ⟨#[], #[.agg #[.int .i64 0, .int .i64 0, .int .i64 0, .slice none 0 0, .slice none 0 0, .slice none 0 0, .slice none 0 0, .slice none 0 0, .slice none 0 0, .slice none 0 0], .slice none 0 0, .int .u8 0, .int .u8 0, .agg #[.int .i64 0, .slice none 0 0, .int .i64 0, .slice none 0 0]], []⟩ 12 (by kernel_rfl) (by kernel_rfl) (by kernel_rfl) (by kernel_rfl)) ?_
  intro W base args ds gs before hval0 hW hcnd _
  have hval : ∀ (j : Nat) t v, Try.f7.params[j]? = some t → args[j]? = some v → Value.okWide Try.prog W .any base t v := hval0
  have hW' := hW
  obtain ⟨p, q, hA0, hV, rfl, hfz, hnd⟩ := hW
  have hA : DataW.TrodAll enc Try.prog W 0 (fun _ => true) true Try.f7.params.toList args.toList ds p := hA0
  rw [Try.params7] at hA hval
  obtain ⟨v0, vs0, d0, ds0, p0, q0, hargs, rfl, rfl, h0, r0⟩ := trodAll_cons hA
  obtain ⟨v1, vs1, d1, ds1, p1, q1, rfl, rfl, rfl, h1, r1⟩ := trodAll_cons r0
  obtain ⟨v2, vs2, d2, ds2, p2, q2, rfl, rfl, rfl, h2, r2⟩ := trodAll_cons r1
  obtain ⟨v3, vs3, d3, ds3, p3, q3, rfl, rfl, rfl, h3, r3⟩ := trodAll_cons r2
  obtain ⟨v4, vs4, d4, ds4, p4, q4, rfl, rfl, rfl, h4, r4⟩ := trodAll_cons r3
  obtain ⟨rfl, rfl, rfl⟩ := trodAll_nil r4
  obtain rfl : args = #[v0, v1, v2, v3, v4] := by cases args; simp_all
  obtain ⟨rfl, rfl⟩ := trodVars_none hV
  obtain ⟨a0, t0⟩ := Go.Proofs.Ytomfnfbijgjfeaa.open_trace (hval 0 32 v0 rfl rfl) h0
  obtain ⟨a1, t1⟩ := Go.Proofs.Ytomfnfbijgjfeaa.open_hist (hval 1 72 v1 rfl rfl) h1
  obtain ⟨a2, rfl, rfl, rfl, w2⟩ := open_int Try.underlying5 (hval 2 5 v2 rfl rfl) h2
  obtain ⟨a3, rfl, rfl, rfl, w3⟩ := open_int Try.underlying5 (hval 3 5 v3 rfl rfl) h3
  obtain ⟨a4, t4⟩ := Go.Proofs.Ytomfnfbijgjfeaa.open_frac (hval 4 51 v4 rfl rfl) h4
  refine (law_of_acall (a_TaintMass a0 a1 a2 a3 a4 (wf_rangeU w2).1 (wf_rangeU w2).2 (wf_rangeU w3).1 (wf_rangeU w3).2) (.cons (t0) (.cons (t1) (.cons (rs_u8) (.cons (rs_u8) (.cons (t4) (.nil))))))).mono fun ee W' ⟨he, hg⟩ => ?_
  subst he
  exact ⟨_, rfl, law_post hW' law_laid (by rw [Try.params7]; intro t ht; simp at ht; rcases ht with rfl | rfl | rfl | rfl <;> exact ⟨by kernel_rfl, of_decide_eq_true (by kernel_rfl)⟩) rfl rfl (by kernel_rfl) Try.underlying4 hg⟩

theorem taintMass_holds : Rows.TaintMassSaid :=
  OpenClaim.holds_of_wide 7 Try.f7 rfl rfl rfl rfl rfl rfl rfl ⟨rfl, rfl, rfl, rfl, rfl⟩ rfl rfl rfl rfl rfl (by kernel_rfl) Try.func7 (by kernel_rfl)
    (of_decide_eq_true (by kernel_rfl)) (by unfold Func.isWrapper; first | (rw [if_pos (by decide +kernel)]; kernel_rfl) | (rw [if_neg (by decide +kernel)]; exact ⟨rfl, rfl⟩))
    (fun os started H enc _ => taintMass_lifted os started H enc)
end Go.Proofs.Ytomfnfbijgjfeaa

