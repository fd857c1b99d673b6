/- ReachTells, ReachPaths, ReachMore: at every input each law returns true, and its arguments read as before. Conditions: none. -/
import Derived.ProofKit
import Derived.OpenShut
import Derived.Deep.Slices
import Derived.Deep.Fields
import Derived.Test.YthjgbjakpbfnoaaRows
import Derived.Test.YthjgbjakpbfnoaaR4
/- More words on memory: boxes of evidence; an append whose value is written out. -/
namespace Go.Proofs.Ythjgbjakpbfnoaa
open Go.RowKit

/-- 'append(s, x)': one element, s of the call's own; the new slice written out -/
theorem wpList_app1s {P : Program} {w : World} {ops : Array Oper} {rest : List Oper} {o : Oper} {a : Act} {Q : Exit → Act → World → Prop} (hgd : o.guard = none) (s x : Operand) (t e : TypeId)
    (ho : o.op = .call { callee := .builtin .append, args := #[s, x], argTypes := #[t, t] })
    {z : Value} {size bytes : Nat} (ht : P.underlying t = some (.slice e)) (hinfo : (P.info? e).map (fun i => (i.zero, i.size, i.bytes)) = some (some z, size, bytes)) (hzs : z.cells.size = size) (hsz : 0 < size) (hby : bytes ≤ 1000)
    {base : Nat} {v : Value} {n : Nat} {xs : List Value} (hown : w.ownsRow base e size v n xs) (hs : a.eval s = v)
    {us : Array Value} (hus : us.size = size) (h1 : ∀ u ∈ us.toList, u.oneCell' = true) {b0 : Nat} (hx : a.eval x = .slice (some ⟨b0, 0, none⟩) 1 1) (hb0 : b0 = w.heap.size) (hbase : base ≤ w.heap.size) (hn : n ≤ 100000000)
    (h : ∀ g cap w', w'.ownsRow base e size (.slice (some ⟨g, 0, none⟩) (n + 1) cap) (n + 1) (xs ++ us.toList) → (∀ b, b < w.heap.size → some b ≠ v.ownBlock → w'.heap[b]? = w.heap[b]?) → Later base w w' → base ≤ g → g < w'.heap.size → wpList P ops Q rest (a.put o.dst (.slice (some ⟨g, 0, none⟩) (n + 1) cap)) w') :
    wpList P ops Q (o :: rest) a (w.alloc (.cells us e)) := by
  subst hb0
  obtain ⟨i0, hi, hz0, hz1, hz2⟩ := info_parts hinfo
  refine wpList_append_own _ hgd s x t ho base e i0 z size bytes ht hi hz0 hz1 hz2 hzs hsz v n xs hs (hown.alloc _) ⟨w.heap.size, 0, none⟩ 1 1 us.toList hx ?_ ?_ h1 ?_ ?_ ?_ ?_
  · simp [hus]
  · intro j u hj
    have hadd : (⟨w.heap.size, 0, none⟩ : Addr).add j = ⟨w.heap.size, j, none⟩ := by unfold Addr.add; split <;> simp_all
    rw [hadd, cell_of_row _ _ j us e (0, 0) (heap_alloc_new w _)]
    simpa using hj
  · unfold maxLen; omega
  · have : (n + 1) * bytes ≤ 100000001 * 1000 := Nat.mul_le_mul (by omega) hby
    omega
  · simp; omega
  · intro v' w' hown' hgrow hne
    obtain ⟨g, cap, hv, hb, hlt⟩ := hown'.form (by omega)
    subst hv
    refine h g cap w' hown' ?_ ⟨?_, ?_⟩ hb hlt
    · intro b hlb hne2
      exact (hgrow.block b (by simp; omega) hne2).trans (Below.heap_alloc w _ b hlb)
    · have := hgrow.size; simp at this; omega
    · intro w0 B hb0 hB
      refine (hb0.alloc (by omega) _).grown hgrow (by simp; omega) ?_
      intro k hk
      have := hown.lt k hk
      omega

/-- Block b holds evidence of these parts. -/
structure EvBox (w : World) (b : Nat) (m h s : Int) (A1 : Option Addr) (n1 c1 : Nat) (A2 : Option Addr) (n2 c2 : Nat) (A3 : Option Addr) (n3 c3 : Nat) (A4 : Option Addr) (n4 c4 : Nat) (A5 : Option Addr) (n5 c5 : Nat) : Prop where
  b0 : w.cell? ⟨b, 0, none⟩ = some (vi m)
  b1 : w.cell? ⟨b, 1, none⟩ = some (vi h)
  b2 : w.cell? ⟨b, 2, none⟩ = some (vi s)
  b3 : w.cell? ⟨b, 3, none⟩ = some (.slice A1 n1 c1)
  b4 : w.cell? ⟨b, 4, none⟩ = some (.slice A2 n2 c2)
  b5 : w.cell? ⟨b, 5, none⟩ = some (.slice A3 n3 c3)
  b6 : w.cell? ⟨b, 6, none⟩ = some (.slice A4 n4 c4)
  b7 : w.cell? ⟨b, 7, none⟩ = some (.slice A5 n5 c5)
section
variable {w w' : World} {b : Nat} {m h s : Int} {A1 A2 A3 A4 A5 : Option Addr} {n1 n2 n3 n4 n5 c1 c2 c3 c4 c5 : Nat}
theorem EvBox.lt (h0 : EvBox w b m h s A1 n1 c1 A2 n2 c2 A3 n3 c3 A4 n4 c4 A5 n5 c5) : b < w.heap.size := lt_of_cell h0.b0
theorem EvBox.keep {B : Nat} (h0 : EvBox w b m h s A1 n1 c1 A2 n2 c2 A3 n3 c3 A4 n4 c4 A5 n5 c5) (hb : Below B w w') (hB : b < B) : EvBox w' b m h s A1 n1 c1 A2 n2 c2 A3 n3 c3 A4 n4 c4 A5 n5 c5 :=
  ⟨(hb.cell (p := ⟨b, 0, none⟩) hB).trans h0.b0, (hb.cell (p := ⟨b, 1, none⟩) hB).trans h0.b1, (hb.cell (p := ⟨b, 2, none⟩) hB).trans h0.b2, (hb.cell (p := ⟨b, 3, none⟩) hB).trans h0.b3,
   (hb.cell (p := ⟨b, 4, none⟩) hB).trans h0.b4, (hb.cell (p := ⟨b, 5, none⟩) hB).trans h0.b5, (hb.cell (p := ⟨b, 6, none⟩) hB).trans h0.b6, (hb.cell (p := ⟨b, 7, none⟩) hB).trans h0.b7⟩
theorem EvBox.later (h0 : EvBox w b m h s A1 n1 c1 A2 n2 c2 A3 n3 c3 A4 n4 c4 A5 n5 c5) (hb : Below w.heap.size w w') : EvBox w' b m h s A1 n1 c1 A2 n2 c2 A3 n3 c3 A4 n4 c4 A5 n5 c5 := h0.keep hb h0.lt
theorem EvBox.new (w : World) (m h s : Int) (A1 : Option Addr) (n1 c1 : Nat) (A2 : Option Addr) (n2 c2 : Nat) (A3 : Option Addr) (n3 c3 : Nat) (A4 : Option Addr) (n4 c4 : Nat) (A5 : Option Addr) (n5 c5 : Nat) (t : TypeId) :
    EvBox (w.alloc (.cells #[.int .i64 m, .int .i64 h, .int .i64 s, .slice A1 n1 c1, .slice A2 n2 c2, .slice A3 n3 c3, .slice A4 n4 c4, .slice A5 n5 c5] t)) w.heap.size m h s A1 n1 c1 A2 n2 c2 A3 n3 c3 A4 n4 c4 A5 n5 c5 := by
  have hc := fun i => cell_of_row (w.alloc (.cells #[.int .i64 m, .int .i64 h, .int .i64 s, .slice A1 n1 c1, .slice A2 n2 c2, .slice A3 n3 c3, .slice A4 n4 c4, .slice A5 n5 c5] t)) w.heap.size i _ t (0, 0) (heap_alloc_new w _)
  exact ⟨hc 0, hc 1, hc 2, hc 3, hc 4, hc 5, hc 6, hc 7⟩
end
/-- a block known whole reads as a list -/
theorem Rd.of_block {α : Type} {k : Nat} {f : α → List Value} {w : World} {g : Nat} {cs : Array Value} {t : TypeId} {xs : List α} {n : Nat} (hk : ∀ x, (f x).length = k) (h : w.heap[g]? = some (.cells cs t (0, 0))) (hn : n = xs.length) (hcs : cs.toList = xs.flatMap f) :
    Rd k f w (some ⟨g, 0, none⟩) n xs := by
  refine ⟨hn, fun _ => ⟨g, 0, rfl, fun i x hx j u hu => ?_⟩⟩
  rw [cell_of_row w g _ cs t (0, 0) h]
  have := flat_at hk xs i x hx j u hu
  rw [← hcs] at this
  simpa using this
theorem own_of_block {w : World} {base g : Nat} {cs : Array Value} {t : TypeId} {size n : Nat} (hb : base ≤ g) (h : w.heap[g]? = some (.cells cs t (0, 0))) (hcs : cs.size = n * size) (hn : n ≤ maxLen) :
    w.ownsRow base t size (.slice (some ⟨g, 0, none⟩) n n) n cs.toList :=
  ⟨by simp [hcs], .inr ⟨g, n, cs, rfl, hb, h, Nat.le_refl _, hn, hcs, by rw [List.take_of_length_le (by simp [hcs])]⟩⟩
theorem heap_a3 (w : World) (o o2 o3 : Obj) : (((w.alloc o).alloc o2).alloc o3).heap[w.heap.size + 2]? = some o3 := by
  have := heap_alloc_new ((w.alloc o).alloc o2) o3
  rwa [size_a, size_a] at this
theorem heap_a1 (w : World) (o : Obj) : (w.alloc o).heap[w.heap.size]? = some o := heap_alloc_new w o
theorem heap_later (w : World) (o : Obj) {g : Nat} {x : Obj} (h : w.heap[g]? = some x) : (w.alloc o).heap[g]? = some x :=
  (Below.heap_alloc w o g (Array.getElem?_eq_some_iff.1 h).1).trans h

theorem blk_lt {w : World} {g : Nat} {o : Obj} (h : w.heap[g]? = some o) : g < w.heap.size := (Array.getElem?_eq_some_iff.1 h).1
theorem blk_cell {w : World} {g : Nat} {cs : Array Value} {t : TypeId} (h : w.heap[g]? = some (.cells cs t (0, 0))) (i : Nat) : w.cell? ⟨g, i, none⟩ = cs[i]? := cell_of_row w g i cs t (0, 0) h
theorem blk_frozen {w : World} {g : Nat} {cs : Array Value} {t : TypeId} (h : w.heap[g]? = some (.cells cs t (0, 0))) (i : Nat) : w.frozen? ⟨g, i, none⟩ = false := by simp [World.frozen?, h]
theorem blk_set {w : World} {g : Nat} {cs : Array Value} {t : TypeId} (h : w.heap[g]? = some (.cells cs t (0, 0))) (i : Nat) (u : Value) : (w.setCell ⟨g, i, none⟩ u).heap[g]? = some (.cells (cs.setIfInBounds i u) t (0, 0)) := by
  simp [World.setCell, Array.getElem?_modify, h]
theorem blk_far {w : World} {g b i : Nat} {o : Obj} (h : w.heap[g]? = some o) (hne : g ≠ b) (u : Value) : (w.setCell ⟨b, i, none⟩ u).heap[g]? = some o := (Below.heap_setCell w ⟨b, i, none⟩ u g hne).trans h
theorem blk_later {w w' : World} {g : Nat} {o : Obj} (h : w.heap[g]? = some o) (hb : Below w.heap.size w w') : w'.heap[g]? = some o := (hb.block g (blk_lt h)).trans h
theorem size_set (w : World) (p : Addr) (u : Value) : (w.setCell p u).heap.size = w.heap.size := by simp [World.setCell]
theorem own_set {w : World} {base : Nat} {e : TypeId} {size : Nat} {v : Value} {n b i : Nat} {xs : List Value} (h : w.ownsRow base e size v n xs) (hne : v.ownBlock ≠ some b) (u : Value) : (w.setCell ⟨b, i, none⟩ u).ownsRow base e size v n xs := by
  refine ⟨h.1, ?_⟩
  rcases h.2 with hn | ⟨g, cap, cur, rfl, hb0, hgg, rest⟩
  · exact .inl hn
  · exact .inr ⟨g, cap, cur, rfl, hb0, blk_far hgg (by simpa [Value.ownBlock] using hne) u, rest⟩
theorem own_ne {w : World} {base : Nat} {e t : TypeId} {size : Nat} {v : Value} {n b : Nat} {xs : List Value} {cs : Array Value} (h : w.ownsRow base e size v n xs) (hb : w.heap[b]? = some (.cells cs t (0, 0))) (hne : e ≠ t) : v.ownBlock ≠ some b := by
  rcases h.2 with ⟨rfl, _⟩ | ⟨g, cap, cur, rfl, hb0, hgg, rest⟩
  · simp [Value.ownBlock]
  · intro e1
    simp [Value.ownBlock] at e1
    subst e1
    rw [hgg] at hb
    injection hb with hb
    injection hb with _ hb
    exact hne hb
theorem EvBox.of_blk {w : World} {b : Nat} {m h s : Int} {A1 A2 A3 A4 A5 : Option Addr} {n1 n2 n3 n4 n5 c1 c2 c3 c4 c5 : Nat} {t : TypeId} (hb : w.heap[b]? = some (.cells #[.int .i64 m, .int .i64 h, .int .i64 s, .slice A1 n1 c1, .slice A2 n2 c2, .slice A3 n3 c3, .slice A4 n4 c4, .slice A5 n5 c5] t (0, 0))) :
    EvBox w b m h s A1 n1 c1 A2 n2 c2 A3 n3 c3 A4 n4 c4 A5 n5 c5 :=
  ⟨blk_cell hb 0, blk_cell hb 1, blk_cell hb 2, blk_cell hb 3, blk_cell hb 4, blk_cell hb 5, blk_cell hb 6, blk_cell hb 7⟩

end Go.Proofs.Ythjgbjakpbfnoaa
/- From a walk to a row: every law of the seat is closed by these, over any program. And: arguments opened to cells. -/
namespace Go.Proofs.Ythjgbjakpbfnoaa
open Go.RowKit Go.ChangeShapes Go.WideShapes Go.Deep

section
variable {H : Type} {enc : TypeId × Value → H} {P : Program}
theorem trodAll_stays (hl : laidOutB P = true) {W W' : World} {sp : Nat → Bool} : ∀ {ts : List TypeId} {vs : List Value} {ds : List (DataW H)} {ps : List MemPlace}, (∀ t ∈ ts, P.readableRec t = true ∧ t < P.types.size) →
    DataW.TrodAll enc P W 0 (fun _ => true) true ts vs ds ps → (∀ p ∈ ps, W.sameAt W' p) → (∀ p ∈ ps, sp p.block = true) → DataW.TrodAll enc P W' 0 sp true ts vs ds ps := by
  intro ts
  induction ts with
  | nil =>
    intro vs ds ps _ h _ _
    obtain ⟨rfl, rfl, rfl⟩ := trodAll_nil h
    exact trodAll_mk0
  | cons t ts ih =>
    intro vs ds ps hr h hsame hs
    obtain ⟨v, vs', d, ds', p, q, rfl, rfl, rfl, h1, h2⟩ := trodAll_cons h
    obtain ⟨ht, hlt⟩ := hr t (by simp)
    exact trodAll_cons_mk (WideElems.Trod_stays hl ht hlt h1 (fun x hx => hsame x (by simp [hx])) (fun x hx => hs x (by simp [hx]))) (ih (fun t ht => hr t (by simp [ht])) h2 (fun x hx => hsame x (by simp [hx])) (fun x hx => hs x (by simp [hx])))

/-- A law's post: it returned true, and old memory is as it was. -/
theorem law_post {f : Func} {s : ChangeSpec} {fresh handsOn : Bool} {W W' : World} {args : Array Value} {ds gs : List (DataW H)} {before : List MemPlace} {tb : TypeId}
    (hW : DataW.Whole enc P f.params.toList s.vars false W args.toList ds gs before) (hl : laidOutB P = true) (hr : ∀ t ∈ f.params.toList, P.readableRec t = true ∧ t < P.types.size) (hv : s.vars = [])
    (hfn : s.fn H (ds ++ gs) = { results := [.lit (.bool true)], args := ds }) (hres : f.resultTypes = #[tb]) (hbool : P.underlying tb = some .bool) (hb : Below W.heap.size W W') :
    s.post enc P f false fresh handsOn false W args (.bool true) W' := by
  have hW' := hW
  obtain ⟨p, q, hA, hV, rfl, hfz, hnd⟩ := hW
  rw [hv] at hV
  obtain ⟨rfl, rfl⟩ := trodVars_none hV
  have hlt : ∀ x ∈ p, x.block < W.heap.size := fun x hx => by have := hW'.lt x (by simpa using hx); simpa using this
  refine ⟨ds, [], p ++ [], [], p, [], hW', ?_, ?_, ?_, hb.frame _, fun h => by cases h⟩
  · rw [hfn, hres]
    exact trodAll_mk1 (shut_bool hbool true)
  · rw [hfn]
    exact trodAll_stays hl hr hA (fun x hx => hb.same (hlt x hx)) (fun x hx => by simpa using hlt x hx)
  · rw [hv, hfn]
    exact rfl

/-- lists out of cells that can be read one by one -/
theorem Rd.of_each {α : Type} {k : Nat} {f : α → List Value} {w : World} {b off : Nat} : ∀ (n : Nat), (∀ i, i < n → ∃ x : α, ∀ j u, (f x)[j]? = some u → w.cell? ⟨b, off + (i * k + j), none⟩ = some u) → ∃ xs, Rd k f w (some ⟨b, off, none⟩) n xs := by
  intro n
  induction n with
  | zero => intro _; exact ⟨[], Rd.nil _⟩
  | succ n ih =>
    intro h
    obtain ⟨xs, hx⟩ := ih (fun i hi => h i (by omega))
    obtain ⟨x, hxn⟩ := h n (by omega)
    have hl := hx.len
    refine ⟨xs ++ [x], by simp [← hl], fun _ => ⟨b, off, rfl, fun i y hy j u hu => ?_⟩⟩
    by_cases hi : i < xs.length
    · rw [List.getElem?_append_left hi] at hy
      obtain ⟨b', off', e, hc⟩ := hx.2 (by omega)
      injection e with e
      injection e with e1 e2
      subst e1 e2
      exact hc i y hy j u hu
    · have hi2 : i = n := by
        have := (List.getElem?_eq_some_iff.1 hy).1
        simp at this
        omega
      subst hi2
      have hy2 : x = y := by
        rw [List.getElem?_append_right (by omega), ← hl] at hy
        simpa using hy
      subst hy2
      exact hxn j u hu

variable {w : World} {base : Nat} {spare : Nat → Bool} {held : Bool}
/-- a slice of structs whose fields are one cell each -/
theorem open_structs {α : Type} (f : α → List Value) {t e : TypeId} {fs : Array Field} {fuel : Nat} {v : Value} {x : DataW H × List MemPlace} (ht : P.underlying t = some (.slice e)) (he : P.underlying e = some (.struct fs))
    (hone : oneCellFields P fs = true) (hC : P.cellsOf e = fs.size) (hpos : 0 < fs.size)
    (hdec : ∀ vs : Nat → Value, (∀ j fld, fs[j]? = some fld → ∃ y n, DataW.trod enc P w base spare held n fld.type [vs j] = some y) → ∃ x : α, ∀ j u, (f x)[j]? = some u → vs j = u ∧ j < fs.size)
    (h : DataW.trod enc P w base spare held fuel t [v] = some x) : ∃ A n c xs, v = .slice A n c ∧ Rd fs.size f w A n xs ∧ n ≤ c ∧ c ≤ maxLen := by
  rcases open_slice ht h with ⟨h0, _⟩ | ⟨a, len, cap, m, n, D, Pl, hcs, hb, hl, hm, hmm, hx, hi⟩
  · injection h0 with h0
    exact ⟨none, 0, 0, [], h0, Rd.nil _, Nat.le_refl _, by unfold maxLen; omega⟩
  · injection hcs with hv
    by_cases hz : len = 0
    · subst hz
      exact ⟨some a, 0, cap, [], hv, Rd.nil _, hl, hm⟩
    have hlm : len ≤ m := by rw [hmm]; split <;> omega
    have key : ∀ i, i < m → ∀ j fld, fs[j]? = some fld → ∃ u y n, w.cell? (a.add (i * fs.size + j)) = some u ∧ DataW.trod enc P w base spare held n fld.type [u] = some y := by
      intro i him j fld hj
      obtain ⟨cs', hc, ht'⟩ := hi i him
      rw [hC] at hc
      obtain ⟨ys, n', hn', hy, hlen, hyl, hf⟩ := DataW.trod_struct he ht'
      obtain ⟨_, hcl, hat⟩ := World.cells?_some hc
      obtain ⟨ho, hk⟩ := hone_of hone j fld hj
      have hjl : j < fs.size := (Array.getElem?_eq_some_iff.1 hj).1
      have hcell := hat j hjl
      have hv : cs'[j]? = some (cs'[j]'(by omega)) := List.getElem?_eq_getElem (by omega)
      have h1 := hf j fld hj
      rw [ho, hk] at h1
      have hone' : (cs'.drop j).take 1 = [cs'[j]'(by omega)] := by
        rw [List.drop_eq_getElem_cons (by omega)]
        rfl
      rw [hone'] at h1
      have hys : ys[j]? = some (ys[j]'(by omega)) := List.getElem?_eq_getElem (by omega)
      exact ⟨_, _, _, by rw [← Go.Deep.add_add, hcell, hv], h1.trans hys⟩
    obtain ⟨f0, hf0⟩ : ∃ f0, fs[0]? = some f0 := ⟨_, Array.getElem?_eq_getElem hpos⟩
    obtain ⟨u0, _, _, hu0, _⟩ := key 0 (by omega) 0 f0 hf0
    have hspot : a.spot = none := by
      have := World.cell?_spot hu0
      simpa [Addr.add] using this
    obtain ⟨b, off, sp⟩ := a
    simp only at hspot
    subst hspot
    have hadd : ∀ k, (⟨b, off, none⟩ : Addr).add k = ⟨b, off + k, none⟩ := by
      intro k
      unfold Addr.add
      split
      · subst_vars; rfl
      · rfl
    obtain ⟨xs, hxs⟩ := Rd.of_each (k := fs.size) (f := f) (w := w) (b := b) (off := off) len (fun i hil => by
      have hsel : ∀ j, ∃ u, ∀ fld, fs[j]? = some fld → w.cell? ⟨b, off + (i * fs.size + j), none⟩ = some u ∧ ∃ y n, DataW.trod enc P w base spare held n fld.type [u] = some y := by
        intro j
        by_cases hj : j < fs.size
        · obtain ⟨u, y, n, hu, hy⟩ := key i (by omega) j fs[j] (Array.getElem?_eq_getElem hj)
          rw [hadd] at hu
          refine ⟨u, fun fld hfld => ?_⟩
          rw [Array.getElem?_eq_getElem hj] at hfld
          injection hfld with hfld
          subst hfld
          exact ⟨hu, y, n, hy⟩
        · exact ⟨.nilFunc, fun fld hfld => absurd (Array.getElem?_eq_some_iff.1 hfld).1 hj⟩
      let vs : Nat → Value := fun j => Classical.choose (hsel j)
      obtain ⟨x, hx⟩ := hdec vs (fun j fld hj => (Classical.choose_spec (hsel j) fld hj).2)
      refine ⟨x, fun j u hu => ?_⟩
      obtain ⟨hvu, hjl⟩ := hx j u hu
      rw [← hvu]
      exact (Classical.choose_spec (hsel j) fs[j] (Array.getElem?_eq_getElem hjl)).1)
    exact ⟨_, len, cap, xs, hv, hxs, hl, hm⟩
/-- a slice whose elements are one cell each -/
theorem open_ones {α : Type} (f : α → Value) {t e : TypeId} {fuel : Nat} {v : Value} {x : DataW H × List MemPlace} (ht : P.underlying t = some (.slice e)) (hC : P.cellsOf e = 1)
    (hdec : ∀ (u : Value) y n, DataW.trod enc P w base spare held n e [u] = some y → ∃ x : α, u = f x)
    (h : DataW.trod enc P w base spare held fuel t [v] = some x) : ∃ A n c xs, v = .slice A n c ∧ Rd 1 (fun x => [f x]) w A n xs ∧ n ≤ c ∧ c ≤ maxLen := by
  rcases open_slice ht h with ⟨h0, _⟩ | ⟨a, len, cap, m, n, D, Pl, hcs, hb, hl, hm, hmm, hx, hi⟩
  · injection h0 with h0
    exact ⟨none, 0, 0, [], h0, Rd.nil _, Nat.le_refl _, by unfold maxLen; omega⟩
  · injection hcs with hv
    by_cases hz : len = 0
    · subst hz
      exact ⟨some a, 0, cap, [], hv, Rd.nil _, hl, hm⟩
    have hlm : len ≤ m := by rw [hmm]; split <;> omega
    have key : ∀ i, i < m → ∃ x : α, w.cell? (a.add i) = some (f x) := by
      intro i him
      obtain ⟨cs', hc, ht'⟩ := hi i him
      rw [hC, Nat.mul_one] at hc
      obtain ⟨_, hcl, hat⟩ := World.cells?_some hc
      match cs', hcl with
      | [u], _ =>
        obtain ⟨x, rfl⟩ := hdec u _ _ ht'
        exact ⟨x, by have := hat 0 (by omega); rw [Go.Deep.add_add, Nat.add_zero] at this; simpa using this⟩
    obtain ⟨x0, hu0⟩ := key 0 (by omega)
    have hspot : a.spot = none := by
      have := World.cell?_spot hu0
      simpa [Addr.add] using this
    obtain ⟨b, off, sp⟩ := a
    simp only at hspot
    subst hspot
    have hadd : ∀ k, (⟨b, off, none⟩ : Addr).add k = ⟨b, off + k, none⟩ := by
      intro k
      unfold Addr.add
      split
      · subst_vars; rfl
      · rfl
    obtain ⟨xs, hxs⟩ := Rd.of_each (k := 1) (f := fun x => [f x]) (w := w) (b := b) (off := off) len (fun i hil => by
      obtain ⟨x, hx⟩ := key i (by omega)
      rw [hadd] at hx
      refine ⟨x, fun j u hu => ?_⟩
      match j, hu with
      | 0, hu => simp at hu; subst hu; simpa using hx)
    exact ⟨_, len, cap, xs, hv, hxs, hl, hm⟩
end
end Go.Proofs.Ythjgbjakpbfnoaa
/- An argument 'e api.Evidence' opened to its parts. -/
namespace Go.Proofs.Ythjgbjakpbfnoaa
open Go.RowKit Go.ChangeShapes Go.WideShapes Go.Deep

section
variable {H : Type} {enc : TypeId × Value → H} {w : World} {base : Nat} {spare : Nat → Bool} {held : Bool}
theorem dec_int {k : TypeId} (hk : Try.prog.underlying k = some (.int .i64)) {u : Value} (h : ∃ y n, DataW.trod enc Try.prog w base spare held n k [u] = some y) : ∃ a : Int, u = .int .i64 a := by
  obtain ⟨y, n, h⟩ := h
  obtain ⟨a, e, _, _⟩ := DataW.trod_int hk h
  injection e with e
  exact ⟨a, e⟩
theorem dec_bool {k : TypeId} (hk : Try.prog.underlying k = some .bool) {u : Value} (h : ∃ y n, DataW.trod enc Try.prog w base spare held n k [u] = some y) : ∃ a : Bool, u = .bool a := by
  obtain ⟨y, n, h⟩ := h
  obtain ⟨a, e, _⟩ := DataW.trod_bool hk h
  injection e with e
  exact ⟨a, e⟩

theorem open_ev {r : Reach} {b0 : Nat} {v : Value} {d : DataW H} {p : List MemPlace} (hv : Value.okWide Try.prog w r b0 28 v) (h : DataW.Trod enc Try.prog w base spare held 28 v d p) :
    ∃ m h s A1 n1 c1 A2 n2 c2 A3 n3 c3 A4 n4 c4 A5 n5 c5 e, v = .agg #[.int .i64 m, .int .i64 h, .int .i64 s, .slice A1 n1 c1, .slice A2 n2 c2, .slice A3 n3 c3, .slice A4 n4 c4, .slice A5 n5 c5] ∧ EvR w m h s A1 n1 A2 n2 A3 n3 A4 n4 A5 n5 e ∧ n1 ≤ c1 ∧ n2 ≤ c2 ∧ n3 ≤ c3 ∧ n4 ≤ c4 ∧ n5 ≤ c5 ∧ c1 ≤ maxLen ∧ c2 ≤ maxLen ∧ c3 ≤ maxLen ∧ c4 ≤ maxLen ∧ c5 ≤ maxLen := by
  obtain ⟨fs, hs, hone, hC, hty⟩ : ∃ fs : Array Field, Try.prog.underlying 28 = some (.struct fs) ∧ oneCellFields Try.prog fs = true ∧ Try.prog.cellsOf 28 = 8 ∧ fs.map (·.type) = #[3, 3, 3, 22, 23, 24, 25, 26] :=
    ⟨_, Try.underlying28, by kernel_rfl, by kernel_rfl, by kernel_rfl⟩
  obtain ⟨cs, rfl, hsz⟩ := okWide_struct hs hv
  obtain ⟨l⟩ := cs
  obtain ⟨fuel, hf⟩ := h
  obtain ⟨xs, n, _, hx, _, hlen, hg⟩ := DataW.trod_struct hs hf
  have hl8 : l.length = 8 := by simpa [hC] using hsz
  have hfs : fs.size = 8 := by have := congrArg Array.size hty; simpa using this
  have hfld : ∀ j, j < 8 → ∃ u y m, l[j]? = some u ∧ DataW.trod enc Try.prog w base spare held m ((#[3, 3, 3, 22, 23, 24, 25, 26] : Array TypeId).getD j 0) [u] = some y := by
    intro j hj
    have hjf : fs[j]? = some (fs[j]'(by omega)) := Array.getElem?_eq_getElem (by omega)
    obtain ⟨ho, hk⟩ := hone_of hone j _ hjf
    have h1 := hg j _ hjf
    rw [ho, hk] at h1
    have hone' : ((Value.agg ⟨l⟩).cells.toList.drop j).take 1 = [l[j]'(by omega)] := by
      show (l.drop j).take 1 = _
      rw [List.drop_eq_getElem_cons (by omega)]
      rfl
    rw [hone'] at h1
    have hxl : j < xs.length := by omega
    rw [List.getElem?_eq_getElem hxl] at h1
    have htj : (#[3, 3, 3, 22, 23, 24, 25, 26] : Array TypeId).getD j 0 = (fs[j]'(by omega)).type := by
      rw [← hty, Array.getD_eq_getD_getElem?, Array.getElem?_map, hjf]
      rfl
    rw [htj]
    exact ⟨_, _, n, List.getElem?_eq_getElem (by omega), h1⟩
  match l, hl8 with
  | [v0, v1, v2, v3, v4, v5, v6, v7], _ =>
    obtain ⟨u0, y0, m0, e0, t0⟩ := hfld 0 (by omega)
    obtain ⟨u1, y1, m1, e1, t1⟩ := hfld 1 (by omega)
    obtain ⟨u2, y2, m2, e2, t2⟩ := hfld 2 (by omega)
    obtain ⟨u3, y3, m3, e3, t3⟩ := hfld 3 (by omega)
    obtain ⟨u4, y4, m4, e4, t4⟩ := hfld 4 (by omega)
    obtain ⟨u5, y5, m5, e5, t5⟩ := hfld 5 (by omega)
    obtain ⟨u6, y6, m6, e6, t6⟩ := hfld 6 (by omega)
    obtain ⟨u7, y7, m7, e7, t7⟩ := hfld 7 (by omega)
    simp at e0 e1 e2 e3 e4 e5 e6 e7
    subst e0 e1 e2 e3 e4 e5 e6 e7
    obtain ⟨a0, rfl⟩ := dec_int Try.underlying3 ⟨_, _, t0⟩
    obtain ⟨a1, rfl⟩ := dec_int Try.underlying3 ⟨_, _, t1⟩
    obtain ⟨a2, rfl⟩ := dec_int Try.underlying3 ⟨_, _, t2⟩
    obtain ⟨A1, n1, c1, ps, rfl, r1, l1, g1⟩ := open_structs Place.cells Try.underlying22 Try.underlying41 (by kernel_rfl) (by kernel_rfl) (by decide)
      (fun vs hd => by
        obtain ⟨b0, h0⟩ := dec_int Try.underlying3 (hd 0 _ rfl)
        obtain ⟨b1, h1⟩ := dec_int Try.underlying3 (hd 1 _ rfl)
        obtain ⟨b2, h2⟩ := dec_int Try.underlying3 (hd 2 _ rfl)
        refine ⟨⟨b0, b1, b2⟩, fun j u hu => ?_⟩
        match j, hu with
        | 0, hu => exact ⟨h0.trans (by simpa [Place.cells] using hu), by decide⟩
        | 1, hu => exact ⟨h1.trans (by simpa [Place.cells] using hu), by decide⟩
        | 2, hu => exact ⟨h2.trans (by simpa [Place.cells] using hu), by decide⟩
        | n + 3, hu => simp [Place.cells] at hu) t3
    obtain ⟨A2, n2, c2, ms, rfl, r2, l2, g2⟩ := open_structs Move.cells Try.underlying23 Try.underlying43 (by kernel_rfl) (by kernel_rfl) (by decide)
      (fun vs hd => by
        obtain ⟨b0, h0⟩ := dec_int Try.underlying3 (hd 0 _ rfl)
        obtain ⟨b1, h1⟩ := dec_int Try.underlying3 (hd 1 _ rfl)
        obtain ⟨b2, h2⟩ := dec_int Try.underlying3 (hd 2 _ rfl)
        obtain ⟨b3, h3⟩ := dec_int Try.underlying3 (hd 3 _ rfl)
        obtain ⟨b4, h4⟩ := dec_int Try.underlying3 (hd 4 _ rfl)
        obtain ⟨b5, h5⟩ := dec_bool Try.underlying4 (hd 5 _ rfl)
        refine ⟨⟨b0, b1, b2, b3, b4, b5⟩, fun j u hu => ?_⟩
        match j, hu with
        | 0, hu => exact ⟨h0.trans (by simpa [Move.cells] using hu), by decide⟩
        | 1, hu => exact ⟨h1.trans (by simpa [Move.cells] using hu), by decide⟩
        | 2, hu => exact ⟨h2.trans (by simpa [Move.cells] using hu), by decide⟩
        | 3, hu => exact ⟨h3.trans (by simpa [Move.cells] using hu), by decide⟩
        | 4, hu => exact ⟨h4.trans (by simpa [Move.cells] using hu), by decide⟩
        | 5, hu => exact ⟨h5.trans (by simpa [Move.cells] using hu), by decide⟩
        | n + 6, hu => simp [Move.cells] at hu) t4
    obtain ⟨A3, n3, c3, cts, rfl, r3, l3, g3⟩ := open_structs Cert.cells Try.underlying24 Try.underlying76 (by kernel_rfl) (by kernel_rfl) (by decide)
      (fun vs hd => by
        obtain ⟨b0, h0⟩ := dec_int Try.underlying3 (hd 0 _ rfl)
        obtain ⟨b1, h1⟩ := dec_int Try.underlying3 (hd 1 _ rfl)
        obtain ⟨b2, h2⟩ := dec_int Try.underlying3 (hd 2 _ rfl)
        obtain ⟨b3, h3⟩ := dec_int Try.underlying3 (hd 3 _ rfl)
        obtain ⟨b4, h4⟩ := dec_int Try.underlying3 (hd 4 _ rfl)
        obtain ⟨b5, h5⟩ := dec_int Try.underlying3 (hd 5 _ rfl)
        refine ⟨⟨b0, b1, b2, b3, b4, b5⟩, fun j u hu => ?_⟩
        match j, hu with
        | 0, hu => exact ⟨h0.trans (by simpa [Cert.cells] using hu), by decide⟩
        | 1, hu => exact ⟨h1.trans (by simpa [Cert.cells] using hu), by decide⟩
        | 2, hu => exact ⟨h2.trans (by simpa [Cert.cells] using hu), by decide⟩
        | 3, hu => exact ⟨h3.trans (by simpa [Cert.cells] using hu), by decide⟩
        | 4, hu => exact ⟨h4.trans (by simpa [Cert.cells] using hu), by decide⟩
        | 5, hu => exact ⟨h5.trans (by simpa [Cert.cells] using hu), by decide⟩
        | n + 6, hu => simp [Cert.cells] at hu) t5
    obtain ⟨A4, n4, c4, rcs, rfl, r4, l4, g4⟩ := open_structs Recall.cells Try.underlying25 Try.underlying78 (by kernel_rfl) (by kernel_rfl) (by decide)
      (fun vs hd => by
        obtain ⟨b0, h0⟩ := dec_int Try.underlying3 (hd 0 _ rfl)
        obtain ⟨b1, h1⟩ := dec_int Try.underlying3 (hd 1 _ rfl)
        refine ⟨⟨b0, b1⟩, fun j u hu => ?_⟩
        match j, hu with
        | 0, hu => exact ⟨h0.trans (by simpa [Recall.cells] using hu), by decide⟩
        | 1, hu => exact ⟨h1.trans (by simpa [Recall.cells] using hu), by decide⟩
        | n + 2, hu => simp [Recall.cells] at hu) t6
    obtain ⟨A5, n5, c5, pus, rfl, r5, l5, g5⟩ := open_structs Purity.cells Try.underlying26 Try.underlying46 (by kernel_rfl) (by kernel_rfl) (by decide)
      (fun vs hd => by
        obtain ⟨b0, h0⟩ := dec_int Try.underlying3 (hd 0 _ rfl)
        obtain ⟨b1, h1⟩ := dec_int Try.underlying3 (hd 1 _ rfl)
        obtain ⟨b2, h2⟩ := dec_int Try.underlying3 (hd 2 _ rfl)
        obtain ⟨b3, h3⟩ := dec_int Try.underlying3 (hd 3 _ rfl)
        refine ⟨⟨b0, b1, b2, b3⟩, fun j u hu => ?_⟩
        match j, hu with
        | 0, hu => exact ⟨h0.trans (by simpa [Purity.cells] using hu), by decide⟩
        | 1, hu => exact ⟨h1.trans (by simpa [Purity.cells] using hu), by decide⟩
        | 2, hu => exact ⟨h2.trans (by simpa [Purity.cells] using hu), by decide⟩
        | 3, hu => exact ⟨h3.trans (by simpa [Purity.cells] using hu), by decide⟩
        | n + 4, hu => simp [Purity.cells] at hu) t7
    exact ⟨a0, a1, a2, A1, n1, c1, A2, n2, c2, A3, n3, c3, A4, n4, c4, A5, n5, c5, ⟨a0, a1, a2, ps, ms, cts, rcs, pus⟩, rfl, ⟨rfl, rfl, rfl, r1, r2, r3, r4, r5⟩, l1, l2, l3, l4, l5, g1, g2, g3, g4, g5⟩
end
theorem law_own : ownKnob Try.prog.godebug = none := by kernel_rfl
theorem law_laid : laidOutB Try.prog = true := by kernel_rfl
end Go.Proofs.Ythjgbjakpbfnoaa
/- From a call's contract to what a law's row asks for. -/
namespace Go.Proofs.Ythjgbjakpbfnoaa
open Go.RowKit
set_option linter.unusedVariables false
set_option linter.unusedSimpArgs false

/-- a list that is read from the outside -/
theorem rt_of_rd {α : Type} {k : Nat} {f : α → List Value} {row : α → List T} (hrow : ∀ x, row x = (f x).map T.atm) (hone : ∀ x, ∀ v ∈ f x, v.oneCell' = true) (hk : ∀ x, (f x).length = k)
    {w : World} {A : Option Addr} {n c : Nat} {xs : List α} (h : Rd k f w A n xs) (h1 : n ≤ c) (h2 : c ≤ maxLen) : RT w (fun _ => False) (.sl k .any (xs.map row)) (.slice A n c) := by
  obtain ⟨hn, hc⟩ := h
  have hlen : (xs.map row).length = n := by simp [hn]
  rw [← hlen]
  have hat : ∀ i j t, at2 (xs.map row) i j = some t → ∃ x v, xs[i]? = some x ∧ (f x)[j]? = some v ∧ t = .atm v := fun i j t ht => by
    obtain ⟨r, q1, q2⟩ := at2_inv ht
    rw [List.getElem?_map] at q1
    cases hx : xs[i]? with
    | none => rw [hx] at q1; cases q1
    | some x =>
      rw [hx] at q1
      injection q1 with q1
      subst q1
      rw [hrow, List.getElem?_map] at q2
      cases hv : (f x)[j]? with
      | none => rw [hv] at q2; cases q2
      | some v => rw [hv] at q2; injection q2 with q2; exact ⟨x, v, rfl, hv, q2.symm⟩
  rcases Nat.eq_zero_or_pos n with h0 | h0
  · have hx : xs = [] := List.eq_nil_of_length_eq_zero (by omega)
    subst hx
    exact .sl (b := 0) (off := 0) (fun _ _ => undef) (by simp) (by simp) h2 (by intro h; cases h) (by intro h; cases h) (by simp) (by simp [at2]) (by simp [at2])
  · obtain ⟨b, off, hA, hcell⟩ := hc h0
    refine .sl (b := b) (off := off) (fun i j => ((xs[i]?).bind fun x => (f x)[j]?).getD undef) ?_ (by omega) h2 (by intro h; cases h) (by intro h; cases h) (fun _ => hA) ?_ ?_
    · intro r hr
      obtain ⟨x, _, rfl⟩ := List.mem_map.1 hr
      rw [hrow, List.length_map, hk]
    · intro i j t ht
      obtain ⟨x, v, hx, hv, rfl⟩ := hat i j t ht
      exact ⟨by rw [hcell i x hx j v hv]; simp [hx, hv], fun h => h⟩
    · intro i j t ht
      obtain ⟨x, v, hx, hv, rfl⟩ := hat i j t ht
      have : ((xs[i]?).bind fun x => (f x)[j]?).getD undef = v := by simp [hx, hv]
      rw [this]
      exact .atm (hone x v (List.mem_of_getElem? hv))

theorem rs_ev {w : World} {m h s : Int} {A1 A2 A3 A4 A5 : Option Addr} {n1 n2 n3 n4 n5 c1 c2 c3 c4 c5 : Nat} {e : Ev} (hr : EvR w m h s A1 n1 A2 n2 A3 n3 A4 n4 A5 n5 e)
    (hb : n1 ≤ c1 ∧ n2 ≤ c2 ∧ n3 ≤ c3 ∧ n4 ≤ c4 ∧ n5 ≤ c5 ∧ c1 ≤ maxLen ∧ c2 ≤ maxLen ∧ c3 ≤ maxLen ∧ c4 ≤ maxLen ∧ c5 ≤ maxLen) :
    RS w (fun _ => none) (fun _ => False) (evS e) (.agg #[.int .i64 m, .int .i64 h, .int .i64 s, .slice A1 n1 c1, .slice A2 n2 c2, .slice A3 n3 c3, .slice A4 n4 c4, .slice A5 n5 c5]) := by
  obtain ⟨rfl, rfl, rfl, r1, r2, r3, r4, r5⟩ := hr
  obtain ⟨b1, b2, b3, b4, b5, d1, d2, d3, d4, d5⟩ := hb
  have t1 := rt_of_rd (k := 3) (f := Place.cells) (row := Place.row) (fun _ => rfl) (by intro x v hv; simp [Place.cells] at hv; rcases hv with rfl | rfl | rfl <;> rfl) (fun _ => rfl) r1 b1 d1
  have t2 := rt_of_rd (k := 6) (f := Move.cells) (row := Move.row) (fun _ => rfl) (by intro x v hv; simp [Move.cells] at hv; rcases hv with rfl | rfl | rfl | rfl | rfl | rfl <;> rfl) (fun _ => rfl) r2 b2 d2
  have t3 := rt_of_rd (k := 6) (f := Cert.cells) (row := Cert.row) (fun _ => rfl) (by intro x v hv; simp [Cert.cells] at hv; rcases hv with rfl | rfl | rfl | rfl | rfl | rfl <;> rfl) (fun _ => rfl) r3 b3 d3
  have t4 := rt_of_rd (k := 2) (f := Recall.cells) (row := Recall.row) (fun _ => rfl) (by intro x v hv; simp [Recall.cells] at hv; rcases hv with rfl | rfl <;> rfl) (fun _ => rfl) r4 b4 d4
  have t5 := rt_of_rd (k := 4) (f := Purity.cells) (row := Purity.row) (fun _ => rfl) (by intro x v hv; simp [Purity.cells] at hv; rcases hv with rfl | rfl | rfl | rfl <;> rfl) (fun _ => rfl) r5 b5 d5
  refine .agg [.int .i64 e.mats, .int .i64 e.hhs, .int .i64 e.scs, .slice A1 n1 c1, .slice A2 n2 c2, .slice A3 n3 c3, .slice A4 n4 c4, .slice A5 n5 c5] rfl fun j c hj => ?_
  match j, hj with
  | 0, hj => injection hj with hj; subst hj; exact .t (.atm rfl)
  | 1, hj => injection hj with hj; subst hj; exact .t (.atm rfl)
  | 2, hj => injection hj with hj; subst hj; exact .t (.atm rfl)
  | 3, hj => injection hj with hj; subst hj; exact .t t1
  | 4, hj => injection hj with hj; subst hj; exact .t t2
  | 5, hj => injection hj with hj; subst hj; exact .t t3
  | 6, hj => injection hj with hj; subst hj; exact .t t4
  | 7, hj => injection hj with hj; subst hj; exact .t t5
  | j + 8, hj => simp [evC] at hj

theorem wf_rangeU {n : Int} (h : (Lit.int .u8 n).wf = true) : 0 ≤ n ∧ n ≤ 255 := by
  simp only [Lit.wf, Bool.and_eq_true, decide_eq_true_eq] at h
  exact h
theorem rs_u8 {w : World} {n : Int} : RS w (fun _ => none) (fun _ => False) (intS .u8 n) (.int .u8 n) := RS.int
theorem rs_bool {w : World} {b : Bool} : RS w (fun _ => none) (fun _ => False) (boolS b) (.bool b) := RS.bool
theorem wf_range {n : Int} (h : (Lit.int .i64 n).wf = true) : -9223372036854775808 ≤ n ∧ n ≤ 9223372036854775807 := by
  simp only [Lit.wf, Bool.and_eq_true, decide_eq_true_eq] at h
  exact h
theorem rs_int {w : World} {n : Int} : RS w (fun _ => none) (fun _ => False) (intS .i64 n) (.int .i64 n) := RS.int

/-- arguments one by one -/
inductive RArgs (w : World) : List S → List Value → Prop
  | nil : RArgs w [] []
  | cons {s : S} {v : Value} {ss : List S} {vs : List Value} (h : RS w (fun _ => none) (fun _ => False) s v) (hs : RArgs w ss vs) : RArgs w (s :: ss) (v :: vs)
theorem RArgs.get {w : World} {ss : List S} {vs : List Value} (h : RArgs w ss vs) : vs.length = ss.length ∧ ∀ (j : Nat) (s : S), ss[j]? = some s → RS w (fun _ => none) (fun _ => False) s (vs.getD j undef) := by
  induction h with
  | nil => exact ⟨rfl, by simp⟩
  | cons h hs ih =>
    refine ⟨by simp [ih.1], fun j s hj => ?_⟩
    cases j with
    | zero => simp at hj; subst hj; exact h
    | succ j => simpa using ih.2 j s (by simpa using hj)

theorem law_of_acall {P : Program} {g : FuncId} {ss : List S} {b : Bool} (h : ACall P g ss [] (boolS b) []) {w : World} {vs : List Value} (ha : RArgs w ss vs) :
    Calls P g vs.toArray w fun e w' => e = .returned (.bool b) ∧ Below w.heap.size w w' := by
  obtain ⟨h1, h2⟩ := ha.get
  refine Calls.mono (h.2 w (fun _ => none) (fun _ => False) vs h1 h2 ⟨by simp, by simp, by simp, by simp, by simp⟩ (fun _ h => h.elim) (fun _ _ => rfl)) ?_
  rintro e w' ⟨v, rfl, ι', M', q1, q2, q3, q4, q5⟩
  rw [q1.inv_atm]
  exact ⟨rfl, q5.os, q5.tape, q5.output, q5.size, fun k hk => q5.keep k hk (by rintro ⟨id, k, _, _, hk, _⟩; simp at hk)⟩
end Go.Proofs.Ythjgbjakpbfnoaa
/- Arguments of type []bool and []int opened. -/
namespace Go.Proofs.Ythjgbjakpbfnoaa
open Go.RowKit Go.ChangeShapes Go.WideShapes Go.Deep

section
variable {H : Type} {enc : TypeId × Value → H} {w : World} {base : Nat} {spare : Nat → Bool} {held : Bool}
theorem open_bools {r : Reach} {b0 : Nat} {v : Value} {d : DataW H} {p : List MemPlace} (hv : Value.okWide Try.prog w r b0 48 v) (h : DataW.Trod enc Try.prog w base spare held 48 v d p) :
    ∃ A n c xs, v = .slice A n c ∧ Rd 1 (fun x => [Value.bool x]) w A n xs ∧ n ≤ c ∧ c ≤ maxLen := by
  obtain ⟨a, len, cap, rfl⟩ := okWide_slice Try.underlying48 hv
  obtain ⟨fuel, hf⟩ := h
  exact open_ones (f := Value.bool) Try.underlying48 (by kernel_rfl) (fun u y n hy => dec_bool Try.underlying4 ⟨y, n, hy⟩) hf
theorem open_ints {r : Reach} {b0 : Nat} {v : Value} {d : DataW H} {p : List MemPlace} (hv : Value.okWide Try.prog w r b0 35 v) (h : DataW.Trod enc Try.prog w base spare held 35 v d p) :
    ∃ A n c xs, v = .slice A n c ∧ Rd 1 (fun x => [Value.int .i64 x]) w A n xs ∧ n ≤ c ∧ c ≤ maxLen := by
  obtain ⟨a, len, cap, rfl⟩ := okWide_slice Try.underlying35 hv
  obtain ⟨fuel, hf⟩ := h
  exact open_ones (f := Value.int .i64) Try.underlying35 (by kernel_rfl) (fun u y n hy => dec_int Try.underlying3 ⟨y, n, hy⟩) hf
end
theorem rs_bools {w : World} {A : Option Addr} {n c : Nat} {xs : List Bool} (h : Rd 1 (fun x => [Value.bool x]) w A n xs) (h1 : n ≤ c) (h2 : c ≤ maxLen) : RS w (fun _ => none) (fun _ => False) (boolsS xs) (.slice A n c) :=
  .c (.t (rt_of_rd (k := 1) (f := fun x => [Value.bool x]) (row := boolRow) (fun _ => rfl) (by intro x v hv; simp at hv; subst hv; rfl) (fun _ => rfl) h h1 h2))
theorem rs_ints {w : World} {A : Option Addr} {n c : Nat} {xs : List Int} (h : Rd 1 (fun x => [Value.int .i64 x]) w A n xs) (h1 : n ≤ c) (h2 : c ≤ maxLen) : RS w (fun _ => none) (fun _ => False) (intsS xs) (.slice A n c) :=
  .c (.t (rt_of_rd (k := 1) (f := fun x => [Value.int .i64 x]) (row := intRow) (fun _ => rfl) (by intro x v hv; simp at hv; subst hv; rfl) (fun _ => rfl) h h1 h2))
end Go.Proofs.Ythjgbjakpbfnoaa
/- ReachTells: at every input the law returns true, and its arguments read as before. Conditions: none. -/
namespace Go.Proofs.Ythjgbjakpbfnoaa
open Go.RowKit Go.ChangeShapes Go.WideShapes Go.ChangeAt

set_option maxRecDepth 100000 in
theorem reachTells_lifted (os : Os) (started : os.Started) (H : Type) (enc : TypeId × Value → H) :
    ReturnsInHanded {} Try.checked os 7 .any (Rows.reachTellsSpec.pre6 enc Try.prog Try.f7 Rows.reachTellsRow.domain false) (Rows.reachTellsSpec.post enc Try.prog Try.f7 false true false false) := by
  refine returnsInHanded_of_change (C := Try.checked) law_own started (by kernel_rfl) Try.func7
    (ChangeSpec.witness6 (enc := enc) (C := Try.checked) false ⟨#[], #[.agg #[.int .i64 0, .int .i64 0, .int .i64 0, .slice none 0 0, .slice none 0 0, .slice none 0 0, .slice none 0 0, .slice none 0 0], .int .i64 0, .int .i64 0, .slice none 0 0, .slice none 0 0], []⟩ 12 (by kernel_rfl) (by kernel_rfl) (by kernel_rfl) (by kernel_rfl)) ?_
  intro W base args ds gs before hval0 hW hcnd _
  have hval : ∀ (j : Nat) t v, Try.f7.params[j]? = some t → args[j]? = some v → Value.okWide Try.prog W .any base t v := hval0
  have hW' := hW
  obtain ⟨p, q, hA0, hV, rfl, hfz, hnd⟩ := hW
  have hA : DataW.TrodAll enc Try.prog W 0 (fun _ => true) true Try.f7.params.toList args.toList ds p := hA0
  rw [Try.params7] at hA hval
  obtain ⟨v0, vs0, d0, ds0, p0, q0, hargs, rfl, rfl, h0, r0⟩ := trodAll_cons hA
  obtain ⟨v1, vs1, d1, ds1, p1, q1, rfl, rfl, rfl, h1, r1⟩ := trodAll_cons r0
  obtain ⟨v2, vs2, d2, ds2, p2, q2, rfl, rfl, rfl, h2, r2⟩ := trodAll_cons r1
  obtain ⟨v3, vs3, d3, ds3, p3, q3, rfl, rfl, rfl, h3, r3⟩ := trodAll_cons r2
  obtain ⟨v4, vs4, d4, ds4, p4, q4, rfl, rfl, rfl, h4, r4⟩ := trodAll_cons r3
  obtain ⟨rfl, rfl, rfl⟩ := trodAll_nil r4
  obtain rfl : args = #[v0, v1, v2, v3, v4] := by cases args; simp_all
  obtain ⟨rfl, rfl⟩ := trodVars_none hV
  obtain ⟨m, h, s, A1, n1, c1, A2, n2, c2, A3, n3, c3, A4, n4, c4, A5, n5, c5, e, rfl, hr, hb⟩ := open_ev (hval 0 28 v0 rfl rfl) h0
  obtain ⟨a1, rfl, rfl, rfl, w1⟩ := open_int Try.underlying3 (hval 1 3 v1 rfl rfl) h1
  obtain ⟨a2, rfl, rfl, rfl, w2⟩ := open_int Try.underlying3 (hval 2 3 v2 rfl rfl) h2
  obtain ⟨A3, n3, c3, a3, rfl, s3, k3, l3⟩ := Go.Proofs.Ythjgbjakpbfnoaa.open_bools (hval 3 48 v3 rfl rfl) h3
  obtain ⟨A4, n4, c4, a4, rfl, s4, k4, l4⟩ := Go.Proofs.Ythjgbjakpbfnoaa.open_ints (hval 4 35 v4 rfl rfl) h4
  refine (law_of_acall (a_ReachTells e a1 a2 a3 a4) (.cons (rs_ev hr hb) (.cons (rs_int) (.cons (rs_int) (.cons (rs_bools s3 k3 l3) (.cons (rs_ints s4 k4 l4) (.nil))))))).mono fun ee W' ⟨he, hg⟩ => ?_
  subst he
  exact ⟨_, rfl, law_post hW' law_laid (by rw [Try.params7]; intro t ht; simp at ht; rcases ht with rfl | rfl | rfl | rfl <;> exact ⟨by kernel_rfl, of_decide_eq_true (by kernel_rfl)⟩) rfl rfl (by kernel_rfl) Try.underlying4 hg⟩

theorem reachTells_holds : Rows.ReachTellsSaid :=
  OpenClaim.holds_of_wide 7 Try.f7 rfl rfl rfl rfl rfl rfl rfl ⟨rfl, rfl, rfl, rfl, rfl⟩ rfl rfl rfl rfl rfl (by kernel_rfl) Try.func7 (by kernel_rfl)
    (of_decide_eq_true (by kernel_rfl)) (by unfold Func.isWrapper; first | (rw [if_pos (by decide +kernel)]; kernel_rfl) | (rw [if_neg (by decide +kernel)]; exact ⟨rfl, rfl⟩))
    (fun os started H enc _ => reachTells_lifted os started H enc)
end Go.Proofs.Ythjgbjakpbfnoaa
/- The law ReachPaths, walked. -/
namespace Go.Proofs.Ythjgbjakpbfnoaa
open Go.RowKit
set_option linter.unusedVariables false
set_option linter.unusedSimpArgs false
set_option maxRecDepth 100000

set_option maxHeartbeats 2000000 in
theorem a_ReachPaths (e : Ev) (m : Int) (bl : List Bool) (other : List Int) : ACall Try.prog 8 [evS e, intS .i64 m, boolsS bl, intsS other] [] (boolS true) [] := by
  have f0 := a_fine24 e 20
  have l2 : (e.moves.map Move.row).length = e.moves.length := by simp
  have l3 : (bl.map boolRow).length = bl.length := by simp
  have l4 : (other.map intRow).length = other.length := by simp
  cases hf : fineB e 20 with
  | false =>
    rw [hf] at f0
    (refine acall_of tab_ok Try.func8 rfl (by decide) ?_; (conv => whnf); repeat (refine LitB.data ?_; conv => whnf))
    (repeat' (first | ((refine DecB.mk (fun h => ?_) (fun h => ?_)) <;> first | (exfalso; omega) | (conv => whnf)) | ((refine BoolB.mk (fun h => ?_) (fun h => ?_)) <;> first | (exact absurd h (by decide)) | (conv => whnf)) | (refine ⟨_, wrap_ok (by omega) (by omega), ?_⟩; conv => whnf) | (refine and_idx (by omega) (by omega) ?_; conv => whnf) | (refine reg_ok (by decide +kernel) ?_; conv => whnf) | (refine bar_ok (by decide +kernel) (by decide +kernel) ?_; conv => whnf) | (refine late_ok rfl rfl ?_; conv => whnf) | (refine src_ok rfl ?_; conv => whnf) | (refine .inl ⟨_, _, qcall_pure (a_sane24) rfl rfl, ?_⟩; conv => whnf) | (refine .inl ⟨_, _, qcall_pure (f0) rfl rfl, ?_⟩; conv => whnf) | (refine LitB.data ?_; conv => whnf)))
    all_goals first | exact fin_bool rfl | (exfalso; simp_all; done)
  | true =>
    rw [hf] at f0
    obtain ⟨hs, h0, hn⟩ := fine_iff hf
    have la := a_LoadsAll e hs h0 m bl
    obtain ⟨kA, _⟩ := loads_len hs (m := m) (bl := bl)
    (refine acall_of tab_ok Try.func8 rfl (by decide) ?_; (conv => whnf); repeat (refine LitB.data ?_; conv => whnf))
    (repeat' (first | ((refine DecB.mk (fun h => ?_) (fun h => ?_)) <;> first | (exfalso; omega) | (conv => whnf)) | ((refine BoolB.mk (fun h => ?_) (fun h => ?_)) <;> first | (exact absurd h (by decide)) | (conv => whnf)) | (refine ⟨_, wrap_ok (by omega) (by omega), ?_⟩; conv => whnf) | (refine and_idx (by omega) (by omega) ?_; conv => whnf) | (refine reg_ok (by decide +kernel) ?_; conv => whnf) | (refine bar_ok (by decide +kernel) (by decide +kernel) ?_; conv => whnf) | (refine late_ok rfl rfl ?_; conv => whnf) | (refine src_ok rfl ?_; conv => whnf) | (refine .inl ⟨_, _, qcall_pure (a_sane24) rfl rfl, ?_⟩; conv => whnf) | (refine .inl ⟨_, _, qcall_pure (f0) rfl rfl, ?_⟩; conv => whnf) | (refine .inl ⟨_, _, qcall_pure (la) rfl rfl, ?_⟩; conv => whnf) | (refine LitB.data ?_; conv => whnf)))
    all_goals first | exact fin_bool rfl | (exfalso; simp_all; done) | skip
    obtain ⟨q, rfl⟩ := Int.eq_ofNat_of_zero_le (show 0 ≤ m by omega)
    have hq : q < e.moves.length := by omega
    have hbl : bl.length = e.moves.length := by omega
    have hol : other.length ≤ 10 := by omega
    obtain ⟨x0, hx0⟩ : ∃ x, e.moves[q]? = some x := ⟨_, List.getElem?_eq_getElem hq⟩
    obtain ⟨i0, p0, hsrc, hpl2, -⟩ := place_at h0 (List.mem_of_getElem? hx0)
    have hkx : kindAt e x0.src = p0.kind := by rw [hsrc, kindAt_of hpl2]
    have hfac := fun k (hk1 : q < k) (hk2 : k < e.moves.length) => path_facts h0 hbl hq hk1 hk2
    generalize hA : (loads e q bl).1 = A at *
    refine awp_for tab_ok (fun j => ([S.junk, intS .i64 q, boolsS bl, intsS other, S.c (C.ptr 0 0 0), S.junk, S.junk, S.junk, S.junk, boolS true, intsS A, S.junk, intS .i64 ((q + 1 + j : Nat) : Int), S.junk, S.junk, S.junk, S.junk, S.junk, S.junk, S.junk, S.junk, S.junk, S.junk, S.junk, S.junk, S.junk, S.junk, S.junk, S.junk, S.junk, S.junk, S.junk, S.junk, S.junk, S.junk, S.junk, S.junk, S.junk, S.junk, S.junk, S.junk, S.junk, S.junk, S.junk, S.junk, S.junk, S.junk, S.junk, S.junk, S.junk, S.junk, S.junk, S.junk, S.junk, S.junk, S.junk, S.junk, S.junk, S.junk, S.junk, S.junk, S.junk, S.junk, S.junk, S.junk, S.junk, S.junk, S.junk, S.junk, S.junk, S.junk, S.junk, S.junk, S.junk, S.junk, S.junk, S.junk, S.junk, S.junk, S.junk, S.junk, S.junk, S.junk, S.junk, S.junk, S.junk, S.junk, S.junk, S.junk, S.junk, S.junk, S.junk, S.junk, S.junk, S.junk, S.junk, S.junk, S.junk, S.junk, S.junk, S.junk, S.junk, S.junk, S.junk, S.junk, S.junk, S.junk, S.junk, S.junk, S.junk, S.junk, S.junk, S.junk, S.junk, S.junk, S.junk, S.junk, S.junk, S.junk, S.junk, S.junk, S.junk, S.junk, S.junk, S.junk, S.junk, S.junk, S.junk, S.junk, S.junk, S.junk, S.junk, S.junk, S.junk, S.junk, S.junk, S.junk, S.junk, S.junk, S.junk, S.junk, S.junk, S.junk, S.junk, S.junk, S.junk, S.junk, S.junk, S.junk, S.junk, S.junk, S.junk, S.junk, S.junk, S.junk, S.junk], [evB e])) (e.moves.length - (q + 1)) (fun k => True) [some 0] trivial
      ⟨rfl, rfl, ⟨⟨rfl, rfl, rfl, .inl ⟨rfl, rowsT_ev e⟩⟩, trivial⟩, ⟨rfl, ent_t rfl, ent_t rfl, ⟨rfl, rfl, rfl⟩, rfl, ent_t (by rw [← hA]), ent_i rfl, trivial⟩⟩ ?_
    intro j hj hI
    conv => whnf
    (repeat' (first | ((refine DecB.mk (fun h => ?_) (fun h => ?_)) <;> first | (exfalso; omega) | (conv => whnf)) | ((refine BoolB.mk (fun h => ?_) (fun h => ?_)) <;> first | (exact absurd h (by decide)) | (conv => whnf)) | (refine ⟨_, wrap_ok (by omega) (by omega), ?_⟩; conv => whnf) | (refine and_idx (by omega) (by omega) ?_; conv => whnf) | (refine reg_ok (by decide +kernel) ?_; conv => whnf) | (refine bar_ok (by decide +kernel) (by decide +kernel) ?_; conv => whnf) | (refine late_ok rfl rfl ?_; conv => whnf) | (refine src_ok rfl ?_; conv => whnf) | (refine LitB.data ?_; conv => whnf)))
    · have hlt : q + 1 + j < e.moves.length := by omega
      obtain ⟨g1, g2⟩ := hfac (q + 1 + j) (by omega) hlt
      have pa := a_Path e hs q ((q + 1 + j : Nat) : Int) bl
      have kP := pathF_len (e := e) (bl := bl) (m := (q : Int)) (k := ((q + 1 + j : Nat) : Int))
      have ch := a_Has24 A ((q + 1 + j : Nat) : Int) kA
      have li := a_Lifts24 e hs h0 ((q + 1 + j : Nat) : Int) bl
      have kL : (liftsF e bl ((q + 1 + j : Nat) : Int)).length ≤ e.moves.length := by
        unfold liftsF
        split
        · exact length_pickFrom _ _ _
        · simp
      have cl := a_Has24 (liftsF e bl ((q + 1 + j : Nat) : Int)) (q : Int) (by omega)
      have glf := lift_facts hbl hx0 hlt
      rw [hkx] at glf
      generalize pathF e bl q ((q + 1 + j : Nat) : Int) = P at *
      generalize liftsF e bl ((q + 1 + j : Nat) : Int) = K at *
      have lP : (P.map intRow).length = P.length := by simp
      by_cases hP : 0 < P.length
      · rw [any_iff.2 (g1.2 hP)] at ch
        obtain ⟨e1, e2, e3⟩ := g2 hP
        have fo := a_Follows e hs P bl (by omega)
        rw [e3] at fo
        have hp0 : P[0]? = some (q : Int) := by rw [List.getElem?_eq_getElem hP, ← e1, List.getD_eq_getElem?_getD, List.getElem?_eq_getElem hP]; rfl
        have hp1 : P[P.length - 1]? = some ((q + 1 + j : Nat) : Int) := by rw [List.getElem?_eq_getElem (by omega), ← e2, List.getD_eq_getElem?_getD, List.getElem?_eq_getElem (by omega)]; rfl
        have hlk : (K.any fun x => decide (x = (q : Int))) = decide (p0.kind = 0) := by rw [Bool.eq_iff_iff, any_iff, glf, decide_eq_true_iff]; exact ⟨fun h => h.1, fun h => ⟨h, hP⟩⟩
        rw [hlk] at cl
        by_cases hkd : p0.kind = 0
        · rw [decide_eq_true hkd] at cl
          (repeat' (first | ((refine DecB.mk (fun h => ?_) (fun h => ?_)) <;> first | (exfalso; omega) | (conv => whnf)) | ((refine BoolB.mk (fun h => ?_) (fun h => ?_)) <;> first | (exact absurd h (by decide)) | (conv => whnf)) | (refine ⟨_, wrap_ok (by omega) (by omega), ?_⟩; conv => whnf) | (refine and_idx (by omega) (by omega) ?_; conv => whnf) | (refine reg_ok (by decide +kernel) ?_; conv => whnf) | (refine bar_ok (by decide +kernel) (by decide +kernel) ?_; conv => whnf) | (refine late_ok rfl rfl ?_; conv => whnf) | (refine src_ok rfl ?_; conv => whnf) | (refine .inl ⟨_, _, qcall_pure (pa) rfl rfl, ?_⟩; conv => whnf) | (refine .inl ⟨_, _, qcall_pure (ch) rfl rfl, ?_⟩; conv => whnf) | (refine .inl ⟨_, _, qcall_pure (fo) rfl rfl, ?_⟩; conv => whnf) | (refine .inl ⟨_, _, qcall_pure (li) rfl rfl, ?_⟩; conv => whnf) | (refine .inl ⟨_, _, qcall_pure (cl) rfl rfl, ?_⟩; conv => whnf) | (refine ex_rowE (k := 0) rfl hp0 ?_; conv => whnf) | (refine ex_rowE (k := P.length - 1) (by omega) hp1 ?_; conv => whnf) | (refine ex_row hx0 ?_; conv => whnf) | (refine ex_rowE hsrc hpl2 ?_; conv => whnf) | (refine LitB.data ?_; conv => whnf)))
          all_goals first
            | exact ⟨by omega, trivial, [some 0], rfl, rfl, ⟨⟨rfl, rfl, rfl, .inl ⟨rfl, rowsT_ev e⟩⟩, trivial⟩, ⟨rfl, rfl, rfl, ⟨rfl, rfl, rfl⟩, rfl, rfl, rfl, trivial⟩⟩
            | (exfalso; first | omega | (simp_all; done))
        · rw [decide_eq_false hkd] at cl
          (repeat' (first | ((refine DecB.mk (fun h => ?_) (fun h => ?_)) <;> first | (exfalso; omega) | (conv => whnf)) | ((refine BoolB.mk (fun h => ?_) (fun h => ?_)) <;> first | (exact absurd h (by decide)) | (conv => whnf)) | (refine ⟨_, wrap_ok (by omega) (by omega), ?_⟩; conv => whnf) | (refine and_idx (by omega) (by omega) ?_; conv => whnf) | (refine reg_ok (by decide +kernel) ?_; conv => whnf) | (refine bar_ok (by decide +kernel) (by decide +kernel) ?_; conv => whnf) | (refine late_ok rfl rfl ?_; conv => whnf) | (refine src_ok rfl ?_; conv => whnf) | (refine .inl ⟨_, _, qcall_pure (pa) rfl rfl, ?_⟩; conv => whnf) | (refine .inl ⟨_, _, qcall_pure (ch) rfl rfl, ?_⟩; conv => whnf) | (refine .inl ⟨_, _, qcall_pure (fo) rfl rfl, ?_⟩; conv => whnf) | (refine .inl ⟨_, _, qcall_pure (li) rfl rfl, ?_⟩; conv => whnf) | (refine .inl ⟨_, _, qcall_pure (cl) rfl rfl, ?_⟩; conv => whnf) | (refine ex_rowE (k := 0) rfl hp0 ?_; conv => whnf) | (refine ex_rowE (k := P.length - 1) (by omega) hp1 ?_; conv => whnf) | (refine ex_row hx0 ?_; conv => whnf) | (refine ex_rowE hsrc hpl2 ?_; conv => whnf) | (refine LitB.data ?_; conv => whnf)))
          all_goals first
            | exact ⟨by omega, trivial, [some 0], rfl, rfl, ⟨⟨rfl, rfl, rfl, .inl ⟨rfl, rowsT_ev e⟩⟩, trivial⟩, ⟨rfl, rfl, rfl, ⟨rfl, rfl, rfl⟩, rfl, rfl, rfl, trivial⟩⟩
            | (exfalso; first | omega | (simp_all; done))
      · have hnA : (A.any fun x => decide (x = ((q + 1 + j : Nat) : Int))) = false := by
          rw [← Bool.not_eq_true, any_iff]; exact fun h => hP (g1.1 h)
        rw [hnA] at ch
        have hlk : (K.any fun x => decide (x = (q : Int))) = false := by rw [← Bool.not_eq_true, any_iff, glf]; exact fun h => hP h.2
        rw [hlk] at cl
        by_cases hkd : p0.kind = 0
        all_goals
          (repeat' (first | ((refine DecB.mk (fun h => ?_) (fun h => ?_)) <;> first | (exfalso; omega) | (conv => whnf)) | ((refine BoolB.mk (fun h => ?_) (fun h => ?_)) <;> first | (exact absurd h (by decide)) | (conv => whnf)) | (refine ⟨_, wrap_ok (by omega) (by omega), ?_⟩; conv => whnf) | (refine and_idx (by omega) (by omega) ?_; conv => whnf) | (refine reg_ok (by decide +kernel) ?_; conv => whnf) | (refine bar_ok (by decide +kernel) (by decide +kernel) ?_; conv => whnf) | (refine late_ok rfl rfl ?_; conv => whnf) | (refine src_ok rfl ?_; conv => whnf) | (refine .inl ⟨_, _, qcall_pure (pa) rfl rfl, ?_⟩; conv => whnf) | (refine .inl ⟨_, _, qcall_pure (ch) rfl rfl, ?_⟩; conv => whnf) | (refine .inl ⟨_, _, qcall_pure (li) rfl rfl, ?_⟩; conv => whnf) | (refine .inl ⟨_, _, qcall_pure (cl) rfl rfl, ?_⟩; conv => whnf) | (refine ex_row hx0 ?_; conv => whnf) | (refine ex_rowE hsrc hpl2 ?_; conv => whnf) | (refine LitB.data ?_; conv => whnf)))
          all_goals first
            | exact ⟨by omega, trivial, [some 0], rfl, rfl, ⟨⟨rfl, rfl, rfl, .inl ⟨rfl, rowsT_ev e⟩⟩, trivial⟩, ⟨rfl, rfl, rfl, ⟨rfl, rfl, rfl⟩, rfl, rfl, rfl, trivial⟩⟩
            | (exfalso; first | omega | (simp_all; done))
    · have fo := a_Follows e hs other bl (by omega)
      cases hfo : followsB e bl other with
      | false =>
        rw [hfo] at fo
        (repeat' (first | ((refine DecB.mk (fun h => ?_) (fun h => ?_)) <;> first | (exfalso; omega) | (conv => whnf)) | ((refine BoolB.mk (fun h => ?_) (fun h => ?_)) <;> first | (exact absurd h (by decide)) | (conv => whnf)) | (refine ⟨_, wrap_ok (by omega) (by omega), ?_⟩; conv => whnf) | (refine and_idx (by omega) (by omega) ?_; conv => whnf) | (refine reg_ok (by decide +kernel) ?_; conv => whnf) | (refine bar_ok (by decide +kernel) (by decide +kernel) ?_; conv => whnf) | (refine late_ok rfl rfl ?_; conv => whnf) | (refine src_ok rfl ?_; conv => whnf) | (refine .inl ⟨_, _, qcall_pure (fo) rfl rfl, ?_⟩; conv => whnf) | (refine LitB.data ?_; conv => whnf)))
        all_goals first | exact fin_bool rfl | (exfalso; simp_all; done)
      | true =>
        rw [hfo] at fo
        obtain ⟨o1, o2, o3⟩ := other_facts hfo
        obtain ⟨a, ha⟩ : ∃ a, other[0]? = some a := ⟨_, List.getElem?_eq_getElem o1⟩
        obtain ⟨b, hb⟩ : ∃ a, other[other.length - 1]? = some a := ⟨_, List.getElem?_eq_getElem (by omega)⟩
        have ga : other.getD 0 0 = a := by rw [List.getD_eq_getElem?_getD, ha]; rfl
        have gb : other.getD (other.length - 1) 0 = b := by rw [List.getD_eq_getElem?_getD, hb]; rfl
        rw [ga, gb] at o2 o3
        have pa := a_Path e hs a b bl
        generalize pathF e bl a b = P at *
        have lP : (P.map intRow).length = P.length := by simp
        (repeat' (first | ((refine DecB.mk (fun h => ?_) (fun h => ?_)) <;> first | (exfalso; omega) | (conv => whnf)) | ((refine BoolB.mk (fun h => ?_) (fun h => ?_)) <;> first | (exact absurd h (by decide)) | (conv => whnf)) | (refine ⟨_, wrap_ok (by omega) (by omega), ?_⟩; conv => whnf) | (refine and_idx (by omega) (by omega) ?_; conv => whnf) | (refine reg_ok (by decide +kernel) ?_; conv => whnf) | (refine bar_ok (by decide +kernel) (by decide +kernel) ?_; conv => whnf) | (refine late_ok rfl rfl ?_; conv => whnf) | (refine src_ok rfl ?_; conv => whnf) | (refine .inl ⟨_, _, qcall_pure (fo) rfl rfl, ?_⟩; conv => whnf) | (refine .inl ⟨_, _, qcall_pure (pa) rfl rfl, ?_⟩; conv => whnf) | (refine ex_rowE (k := 0) rfl ha ?_; conv => whnf) | (refine ex_rowE (k := other.length - 1) (by omega) hb ?_; conv => whnf) | (refine LitB.data ?_; conv => whnf)))
        all_goals first | (refine fin_bool ?_; simp; omega) | exact fin_bool rfl | (exfalso; first | omega | (simp_all; done))
end Go.Proofs.Ythjgbjakpbfnoaa
/- ReachPaths: at every input the law returns true, and its arguments read as before. Conditions: none. -/
namespace Go.Proofs.Ythjgbjakpbfnoaa
open Go.RowKit Go.ChangeShapes Go.WideShapes Go.ChangeAt

set_option maxRecDepth 100000 in
theorem reachPaths_lifted (os : Os) (started : os.Started) (H : Type) (enc : TypeId × Value → H) :
    ReturnsInHanded {} Try.checked os 8 .any (Rows.reachPathsSpec.pre6 enc Try.prog Try.f8 Rows.reachPathsRow.domain false) (Rows.reachPathsSpec.post enc Try.prog Try.f8 false true false false) := by
  refine returnsInHanded_of_change (C := Try.checked) law_own started (by kernel_rfl) Try.func8
    (ChangeSpec.witness6 (enc := enc) (C := Try.checked) false ⟨#[], #[.agg #[.int .i64 0, .int .i64 0, .int .i64 0, .slice none 0 0, .slice none 0 0, .slice none 0 0, .slice none 0 0, .slice none 0 0], .int .i64 0, .slice none 0 0, .slice none 0 0], []⟩ 12 (by kernel_rfl) (by kernel_rfl) (by kernel_rfl) (by kernel_rfl)) ?_
  intro W base args ds gs before hval0 hW hcnd _
  have hval : ∀ (j : Nat) t v, Try.f8.params[j]? = some t → args[j]? = some v → Value.okWide Try.prog W .any base t v := hval0
  have hW' := hW
  obtain ⟨p, q, hA0, hV, rfl, hfz, hnd⟩ := hW
  have hA : DataW.TrodAll enc Try.prog W 0 (fun _ => true) true Try.f8.params.toList args.toList ds p := hA0
  rw [Try.params8] at hA hval
  obtain ⟨v0, vs0, d0, ds0, p0, q0, hargs, rfl, rfl, h0, r0⟩ := trodAll_cons hA
  obtain ⟨v1, vs1, d1, ds1, p1, q1, rfl, rfl, rfl, h1, r1⟩ := trodAll_cons r0
  obtain ⟨v2, vs2, d2, ds2, p2, q2, rfl, rfl, rfl, h2, r2⟩ := trodAll_cons r1
  obtain ⟨v3, vs3, d3, ds3, p3, q3, rfl, rfl, rfl, h3, r3⟩ := trodAll_cons r2
  obtain ⟨rfl, rfl, rfl⟩ := trodAll_nil r3
  obtain rfl : args = #[v0, v1, v2, v3] := by cases args; simp_all
  obtain ⟨rfl, rfl⟩ := trodVars_none hV
  obtain ⟨m, h, s, A1, n1, c1, A2, n2, c2, A3, n3, c3, A4, n4, c4, A5, n5, c5, e, rfl, hr, hb⟩ := open_ev (hval 0 28 v0 rfl rfl) h0
  obtain ⟨a1, rfl, rfl, rfl, w1⟩ := open_int Try.underlying3 (hval 1 3 v1 rfl rfl) h1
  obtain ⟨A2, n2, c2, a2, rfl, s2, k2, l2⟩ := Go.Proofs.Ythjgbjakpbfnoaa.open_bools (hval 2 48 v2 rfl rfl) h2
  obtain ⟨A3, n3, c3, a3, rfl, s3, k3, l3⟩ := Go.Proofs.Ythjgbjakpbfnoaa.open_ints (hval 3 35 v3 rfl rfl) h3
  refine (law_of_acall (a_ReachPaths e a1 a2 a3) (.cons (rs_ev hr hb) (.cons (rs_int) (.cons (rs_bools s2 k2 l2) (.cons (rs_ints s3 k3 l3) (.nil)))))).mono fun ee W' ⟨he, hg⟩ => ?_
  subst he
  exact ⟨_, rfl, law_post hW' law_laid (by rw [Try.params8]; intro t ht; simp at ht; rcases ht with rfl | rfl | rfl | rfl <;> exact ⟨by kernel_rfl, of_decide_eq_true (by kernel_rfl)⟩) rfl rfl (by kernel_rfl) Try.underlying4 hg⟩

theorem reachPaths_holds : Rows.ReachPathsSaid :=
  OpenClaim.holds_of_wide 8 Try.f8 rfl rfl rfl rfl rfl rfl rfl ⟨rfl, rfl, rfl, rfl, rfl⟩ rfl rfl rfl rfl rfl (by kernel_rfl) Try.func8 (by kernel_rfl)
    (of_decide_eq_true (by kernel_rfl)) (by unfold Func.isWrapper; first | (rw [if_pos (by decide +kernel)]; kernel_rfl) | (rw [if_neg (by decide +kernel)]; exact ⟨rfl, rfl⟩))
    (fun os started H enc _ => reachPaths_lifted os started H enc)
end Go.Proofs.Ythjgbjakpbfnoaa
/- ReachMore: at every input the law returns true, and its arguments read as before. Conditions: none. -/
namespace Go.Proofs.Ythjgbjakpbfnoaa
open Go.RowKit Go.ChangeShapes Go.WideShapes Go.ChangeAt

set_option maxRecDepth 100000 in
theorem reachMore_lifted (os : Os) (started : os.Started) (H : Type) (enc : TypeId × Value → H) :
    ReturnsInHanded {} Try.checked os 9 .any (Rows.reachMoreSpec.pre6 enc Try.prog Try.f9 Rows.reachMoreRow.domain false) (Rows.reachMoreSpec.post enc Try.prog Try.f9 false true false false) := by
  refine returnsInHanded_of_change (C := Try.checked) law_own started (by kernel_rfl) Try.func9
    (ChangeSpec.witness6 (enc := enc) (C := Try.checked) false ⟨#[], #[.agg #[.int .i64 0, .int .i64 0, .int .i64 0, .slice none 0 0, .slice none 0 0, .slice none 0 0, .slice none 0 0, .slice none 0 0], .int .i64 0, .slice none 0 0, .slice none 0 0, .int .i64 0], []⟩ 12 (by kernel_rfl) (by kernel_rfl) (by kernel_rfl) (by kernel_rfl)) ?_
  intro W base args ds gs before hval0 hW hcnd _
  have hval : ∀ (j : Nat) t v, Try.f9.params[j]? = some t → args[j]? = some v → Value.okWide Try.prog W .any base t v := hval0
  have hW' := hW
  obtain ⟨p, q, hA0, hV, rfl, hfz, hnd⟩ := hW
  have hA : DataW.TrodAll enc Try.prog W 0 (fun _ => true) true Try.f9.params.toList args.toList ds p := hA0
  rw [Try.params9] at hA hval
  obtain ⟨v0, vs0, d0, ds0, p0, q0, hargs, rfl, rfl, h0, r0⟩ := trodAll_cons hA
  obtain ⟨v1, vs1, d1, ds1, p1, q1, rfl, rfl, rfl, h1, r1⟩ := trodAll_cons r0
  obtain ⟨v2, vs2, d2, ds2, p2, q2, rfl, rfl, rfl, h2, r2⟩ := trodAll_cons r1
  obtain ⟨v3, vs3, d3, ds3, p3, q3, rfl, rfl, rfl, h3, r3⟩ := trodAll_cons r2
  obtain ⟨v4, vs4, d4, ds4, p4, q4, rfl, rfl, rfl, h4, r4⟩ := trodAll_cons r3
  obtain ⟨rfl, rfl, rfl⟩ := trodAll_nil r4
  obtain rfl : args = #[v0, v1, v2, v3, v4] := by cases args; simp_all
  obtain ⟨rfl, rfl⟩ := trodVars_none hV
  obtain ⟨m, h, s, A1, n1, c1, A2, n2, c2, A3, n3, c3, A4, n4, c4, A5, n5, c5, e, rfl, hr, hb⟩ := open_ev (hval 0 28 v0 rfl rfl) h0
  obtain ⟨a1, rfl, rfl, rfl, w1⟩ := open_int Try.underlying3 (hval 1 3 v1 rfl rfl) h1
  obtain ⟨A2, n2, c2, a2, rfl, s2, k2, l2⟩ := Go.Proofs.Ythjgbjakpbfnoaa.open_bools (hval 2 48 v2 rfl rfl) h2
  obtain ⟨A3, n3, c3, a3, rfl, s3, k3, l3⟩ := Go.Proofs.Ythjgbjakpbfnoaa.open_bools (hval 3 48 v3 rfl rfl) h3
  obtain ⟨a4, rfl, rfl, rfl, w4⟩ := open_int Try.underlying3 (hval 4 3 v4 rfl rfl) h4
  refine (law_of_acall (a_ReachMore e a1 a2 a3 a4) (.cons (rs_ev hr hb) (.cons (rs_int) (.cons (rs_bools s2 k2 l2) (.cons (rs_bools s3 k3 l3) (.cons (rs_int) (.nil))))))).mono fun ee W' ⟨he, hg⟩ => ?_
  subst he
  exact ⟨_, rfl, law_post hW' law_laid (by rw [Try.params9]; intro t ht; simp at ht; rcases ht with rfl | rfl | rfl | rfl <;> exact ⟨by kernel_rfl, of_decide_eq_true (by kernel_rfl)⟩) rfl rfl (by kernel_rfl) Try.underlying4 hg⟩

theorem reachMore_holds : Rows.ReachMoreSaid :=
  OpenClaim.holds_of_wide 9 Try.f9 rfl rfl rfl rfl rfl rfl rfl ⟨rfl, rfl, rfl, rfl, rfl⟩ rfl rfl rfl rfl rfl (by kernel_rfl) Try.func9 (by kernel_rfl)
    (of_decide_eq_true (by kernel_rfl)) (by unfold Func.isWrapper; first | (rw [if_pos (by decide +kernel)]; kernel_rfl) | (rw [if_neg (by decide +kernel)]; exact ⟨rfl, rfl⟩))
    (fun os started H enc _ => reachMore_lifted os started H enc)
end Go.Proofs.Ythjgbjakpbfnoaa
namespace Go.Proofs.Ythjgbjakpbfnoaa
theorem reach_all : Rows.ReachTellsSaid ∧ Rows.ReachPathsSaid ∧ Rows.ReachMoreSaid := ⟨reachTells_holds, reachPaths_holds, reachMore_holds⟩
end Go.Proofs.Ythjgbjakpbfnoaa
