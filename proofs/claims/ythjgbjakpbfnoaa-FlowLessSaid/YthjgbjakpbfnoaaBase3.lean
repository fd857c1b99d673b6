/- More words on memory: boxes of evidence; an append whose value is written out. -/
import Derived.Test.YthjgbjakpbfnoaaBase2
namespace Go.Proofs.Ythjgbjakpbfnoaa
open Go.RowKit

/-- 'append(s, x)': one element, s of the call's own; the new slice written out -/
theorem wpList_app1s {P : Program} {w : World} {ops : Array Oper} {rest : List Oper} {o : Oper} {a : Act} {Q : Exit → Act → World → Prop} (hgd : o.guard = none) (s x : Operand) (t e : TypeId)
    (ho : o.op = .call { callee := .builtin .append, args := #[s, x], argTypes := #[t, t] })
    {z : Value} {size bytes : Nat} (ht : P.underlying t = some (.slice e)) (hinfo : (P.info? e).map (fun i => (i.zero, i.size, i.bytes)) = some (some z, size, bytes)) (hzs : z.cells.size = size) (hsz : 0 < size) (hby : bytes ≤ 1000)
    {base : Nat} {v : Value} {n : Nat} {xs : List Value} (hown : w.ownsRow base e size v n xs) (hs : a.eval s = v)
    {us : Array Value} (hus : us.size = size) (h1 : ∀ u ∈ us.toList, u.oneCell' = true) {b0 : Nat} (hx : a.eval x = .slice (some ⟨b0, 0, none⟩) 1 1) (hb0 : b0 = w.heap.size) (hbase : base ≤ w.heap.size) (hn : n ≤ 100000000)
    (h : ∀ g cap w', w'.ownsRow base e size (.slice (some ⟨g, 0, none⟩) (n + 1) cap) (n + 1) (xs ++ us.toList) → (∀ b, b < w.heap.size → some b ≠ v.ownBlock → w'.heap[b]? = w.heap[b]?) → Later base w w' → base ≤ g → g < w'.heap.size → wpList P ops Q rest (a.put o.dst (.slice (some ⟨g, 0, none⟩) (n + 1) cap)) w') :
    wpList P ops Q (o :: rest) a (w.alloc (.cells us e)) := by
  subst hb0
  obtain ⟨i0, hi, hz0, hz1, hz2⟩ := info_parts hinfo
  refine wpList_append_own _ hgd s x t ho base e i0 z size bytes ht hi hz0 hz1 hz2 hzs hsz v n xs hs (hown.alloc _) ⟨w.heap.size, 0, none⟩ 1 1 us.toList hx ?_ ?_ h1 ?_ ?_ ?_ ?_
  · simp [hus]
  · intro j u hj
    have hadd : (⟨w.heap.size, 0, none⟩ : Addr).add j = ⟨w.heap.size, j, none⟩ := by unfold Addr.add; split <;> simp_all
    rw [hadd, cell_of_row _ _ j us e (0, 0) (heap_alloc_new w _)]
    simpa using hj
  · unfold maxLen; omega
  · have : (n + 1) * bytes ≤ 100000001 * 1000 := Nat.mul_le_mul (by omega) hby
    omega
  · simp; omega
  · intro v' w' hown' hgrow hne
    obtain ⟨g, cap, hv, hb, hlt⟩ := hown'.form (by omega)
    subst hv
    refine h g cap w' hown' ?_ ⟨?_, ?_⟩ hb hlt
    · intro b hlb hne2
      exact (hgrow.block b (by simp; omega) hne2).trans (Below.heap_alloc w _ b hlb)
    · have := hgrow.size; simp at this; omega
    · intro w0 B hb0 hB
      refine (hb0.alloc (by omega) _).grown hgrow (by simp; omega) ?_
      intro k hk
      have := hown.lt k hk
      omega

/-- Block b holds evidence of these parts. -/
structure EvBox (w : World) (b : Nat) (m h s : Int) (A1 : Option Addr) (n1 c1 : Nat) (A2 : Option Addr) (n2 c2 : Nat) (A3 : Option Addr) (n3 c3 : Nat) (A4 : Option Addr) (n4 c4 : Nat) (A5 : Option Addr) (n5 c5 : Nat) : Prop where
  b0 : w.cell? ⟨b, 0, none⟩ = some (vi m)
  b1 : w.cell? ⟨b, 1, none⟩ = some (vi h)
  b2 : w.cell? ⟨b, 2, none⟩ = some (vi s)
  b3 : w.cell? ⟨b, 3, none⟩ = some (.slice A1 n1 c1)
  b4 : w.cell? ⟨b, 4, none⟩ = some (.slice A2 n2 c2)
  b5 : w.cell? ⟨b, 5, none⟩ = some (.slice A3 n3 c3)
  b6 : w.cell? ⟨b, 6, none⟩ = some (.slice A4 n4 c4)
  b7 : w.cell? ⟨b, 7, none⟩ = some (.slice A5 n5 c5)
section
variable {w w' : World} {b : Nat} {m h s : Int} {A1 A2 A3 A4 A5 : Option Addr} {n1 n2 n3 n4 n5 c1 c2 c3 c4 c5 : Nat}
theorem EvBox.lt (h0 : EvBox w b m h s A1 n1 c1 A2 n2 c2 A3 n3 c3 A4 n4 c4 A5 n5 c5) : b < w.heap.size := lt_of_cell h0.b0
theorem EvBox.keep {B : Nat} (h0 : EvBox w b m h s A1 n1 c1 A2 n2 c2 A3 n3 c3 A4 n4 c4 A5 n5 c5) (hb : Below B w w') (hB : b < B) : EvBox w' b m h s A1 n1 c1 A2 n2 c2 A3 n3 c3 A4 n4 c4 A5 n5 c5 :=
  ⟨(hb.cell (p := ⟨b, 0, none⟩) hB).trans h0.b0, (hb.cell (p := ⟨b, 1, none⟩) hB).trans h0.b1, (hb.cell (p := ⟨b, 2, none⟩) hB).trans h0.b2, (hb.cell (p := ⟨b, 3, none⟩) hB).trans h0.b3,
   (hb.cell (p := ⟨b, 4, none⟩) hB).trans h0.b4, (hb.cell (p := ⟨b, 5, none⟩) hB).trans h0.b5, (hb.cell (p := ⟨b, 6, none⟩) hB).trans h0.b6, (hb.cell (p := ⟨b, 7, none⟩) hB).trans h0.b7⟩
theorem EvBox.later (h0 : EvBox w b m h s A1 n1 c1 A2 n2 c2 A3 n3 c3 A4 n4 c4 A5 n5 c5) (hb : Below w.heap.size w w') : EvBox w' b m h s A1 n1 c1 A2 n2 c2 A3 n3 c3 A4 n4 c4 A5 n5 c5 := h0.keep hb h0.lt
theorem EvBox.new (w : World) (m h s : Int) (A1 : Option Addr) (n1 c1 : Nat) (A2 : Option Addr) (n2 c2 : Nat) (A3 : Option Addr) (n3 c3 : Nat) (A4 : Option Addr) (n4 c4 : Nat) (A5 : Option Addr) (n5 c5 : Nat) (t : TypeId) :
    EvBox (w.alloc (.cells #[.int .i64 m, .int .i64 h, .int .i64 s, .slice A1 n1 c1, .slice A2 n2 c2, .slice A3 n3 c3, .slice A4 n4 c4, .slice A5 n5 c5] t)) w.heap.size m h s A1 n1 c1 A2 n2 c2 A3 n3 c3 A4 n4 c4 A5 n5 c5 := by
  have hc := fun i => cell_of_row (w.alloc (.cells #[.int .i64 m, .int .i64 h, .int .i64 s, .slice A1 n1 c1, .slice A2 n2 c2, .slice A3 n3 c3, .slice A4 n4 c4, .slice A5 n5 c5] t)) w.heap.size i _ t (0, 0) (heap_alloc_new w _)
  exact ⟨hc 0, hc 1, hc 2, hc 3, hc 4, hc 5, hc 6, hc 7⟩
end
/-- a block known whole reads as a list -/
theorem Rd.of_block {α : Type} {k : Nat} {f : α → List Value} {w : World} {g : Nat} {cs : Array Value} {t : TypeId} {xs : List α} {n : Nat} (hk : ∀ x, (f x).length = k) (h : w.heap[g]? = some (.cells cs t (0, 0))) (hn : n = xs.length) (hcs : cs.toList = xs.flatMap f) :
    Rd k f w (some ⟨g, 0, none⟩) n xs := by
  refine ⟨hn, fun _ => ⟨g, 0, rfl, fun i x hx j u hu => ?_⟩⟩
  rw [cell_of_row w g _ cs t (0, 0) h]
  have := flat_at hk xs i x hx j u hu
  rw [← hcs] at this
  simpa using this
theorem own_of_block {w : World} {base g : Nat} {cs : Array Value} {t : TypeId} {size n : Nat} (hb : base ≤ g) (h : w.heap[g]? = some (.cells cs t (0, 0))) (hcs : cs.size = n * size) (hn : n ≤ maxLen) :
    w.ownsRow base t size (.slice (some ⟨g, 0, none⟩) n n) n cs.toList :=
  ⟨by simp [hcs], .inr ⟨g, n, cs, rfl, hb, h, Nat.le_refl _, hn, hcs, by rw [List.take_of_length_le (by simp [hcs])]⟩⟩
theorem heap_a3 (w : World) (o o2 o3 : Obj) : (((w.alloc o).alloc o2).alloc o3).heap[w.heap.size + 2]? = some o3 := by
  have := heap_alloc_new ((w.alloc o).alloc o2) o3
  rwa [size_a, size_a] at this
theorem heap_a1 (w : World) (o : Obj) : (w.alloc o).heap[w.heap.size]? = some o := heap_alloc_new w o
theorem heap_later (w : World) (o : Obj) {g : Nat} {x : Obj} (h : w.heap[g]? = some x) : (w.alloc o).heap[g]? = some x :=
  (Below.heap_alloc w o g (Array.getElem?_eq_some_iff.1 h).1).trans h

theorem blk_lt {w : World} {g : Nat} {o : Obj} (h : w.heap[g]? = some o) : g < w.heap.size := (Array.getElem?_eq_some_iff.1 h).1
theorem blk_cell {w : World} {g : Nat} {cs : Array Value} {t : TypeId} (h : w.heap[g]? = some (.cells cs t (0, 0))) (i : Nat) : w.cell? ⟨g, i, none⟩ = cs[i]? := cell_of_row w g i cs t (0, 0) h
theorem blk_frozen {w : World} {g : Nat} {cs : Array Value} {t : TypeId} (h : w.heap[g]? = some (.cells cs t (0, 0))) (i : Nat) : w.frozen? ⟨g, i, none⟩ = false := by simp [World.frozen?, h]
theorem blk_set {w : World} {g : Nat} {cs : Array Value} {t : TypeId} (h : w.heap[g]? = some (.cells cs t (0, 0))) (i : Nat) (u : Value) : (w.setCell ⟨g, i, none⟩ u).heap[g]? = some (.cells (cs.setIfInBounds i u) t (0, 0)) := by
  simp [World.setCell, Array.getElem?_modify, h]
theorem blk_far {w : World} {g b i : Nat} {o : Obj} (h : w.heap[g]? = some o) (hne : g ≠ b) (u : Value) : (w.setCell ⟨b, i, none⟩ u).heap[g]? = some o := (Below.heap_setCell w ⟨b, i, none⟩ u g hne).trans h
theorem blk_later {w w' : World} {g : Nat} {o : Obj} (h : w.heap[g]? = some o) (hb : Below w.heap.size w w') : w'.heap[g]? = some o := (hb.block g (blk_lt h)).trans h
theorem size_set (w : World) (p : Addr) (u : Value) : (w.setCell p u).heap.size = w.heap.size := by simp [World.setCell]
theorem own_set {w : World} {base : Nat} {e : TypeId} {size : Nat} {v : Value} {n b i : Nat} {xs : List Value} (h : w.ownsRow base e size v n xs) (hne : v.ownBlock ≠ some b) (u : Value) : (w.setCell ⟨b, i, none⟩ u).ownsRow base e size v n xs := by
  refine ⟨h.1, ?_⟩
  rcases h.2 with hn | ⟨g, cap, cur, rfl, hb0, hgg, rest⟩
  · exact .inl hn
  · exact .inr ⟨g, cap, cur, rfl, hb0, blk_far hgg (by simpa [Value.ownBlock] using hne) u, rest⟩
theorem own_ne {w : World} {base : Nat} {e t : TypeId} {size : Nat} {v : Value} {n b : Nat} {xs : List Value} {cs : Array Value} (h : w.ownsRow base e size v n xs) (hb : w.heap[b]? = some (.cells cs t (0, 0))) (hne : e ≠ t) : v.ownBlock ≠ some b := by
  rcases h.2 with ⟨rfl, _⟩ | ⟨g, cap, cur, rfl, hb0, hgg, rest⟩
  · simp [Value.ownBlock]
  · intro e1
    simp [Value.ownBlock] at e1
    subst e1
    rw [hgg] at hb
    injection hb with hb
    injection hb with _ hb
    exact hne hb
theorem EvBox.of_blk {w : World} {b : Nat} {m h s : Int} {A1 A2 A3 A4 A5 : Option Addr} {n1 n2 n3 n4 n5 c1 c2 c3 c4 c5 : Nat} {t : TypeId} (hb : w.heap[b]? = some (.cells #[.int .i64 m, .int .i64 h, .int .i64 s, .slice A1 n1 c1, .slice A2 n2 c2, .slice A3 n3 c3, .slice A4 n4 c4, .slice A5 n5 c5] t (0, 0))) :
    EvBox w b m h s A1 n1 c1 A2 n2 c2 A3 n3 c3 A4 n4 c4 A5 n5 c5 :=
  ⟨blk_cell hb 0, blk_cell hb 1, blk_cell hb 2, blk_cell hb 3, blk_cell hb 4, blk_cell hb 5, blk_cell hb 6, blk_cell hb 7⟩

end Go.Proofs.Ythjgbjakpbfnoaa
