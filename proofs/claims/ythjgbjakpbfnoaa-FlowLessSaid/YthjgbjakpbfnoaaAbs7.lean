/- The abstract machine is sound: structs, new blocks. -/
import Derived.Test.YthjgbjakpbfnoaaAbs6
import Derived.Great.BuildSlice
import Derived.Laws.MakeOwn
import Derived.Laws.Tables
namespace Go.Proofs.Ythjgbjakpbfnoaa
open Go.RowKit
set_option linter.unusedVariables false
set_option linter.unusedSimpArgs false

/-- cells read as a list of abstract cells -/
def ARel (w : World) (ι : Io) (M : Ms) (cs : List C) (vs : Array Value) : Prop := vs.size = cs.length ∧ ∀ (j : Nat) (c : C), cs[j]? = some c → ∃ u, vs[j]? = some u ∧ RC w ι M c u

theorem RS.cells {w : World} {ι : Io} {M : Ms} {s : S} {v : Value} (h : RS w ι M s v) {cs : List C} (hc : (∃ c, s = .c c ∧ cs = [c]) ∨ s = .agg cs) : ARel w ι M cs v.cells := by
  rcases hc with ⟨c, rfl, rfl⟩ | rfl
  · have hr := h.inv_c
    have h1 := hr.one
    have : v.cells = #[v] := by cases v <;> first | rfl | (simp [Value.oneCell'] at h1)
    rw [this]
    refine ⟨rfl, fun j c' hj => ?_⟩
    cases j with
    | zero => simp at hj; subst hj; exact ⟨v, rfl, hr⟩
    | succ j => simp at hj
  · cases h with
    | agg vs hl hr =>
      refine ⟨by simpa [Value.cells] using hl, fun j c hj => ?_⟩
      have hlt : j < vs.length := by rw [hl]; exact (List.getElem?_eq_some_iff.1 hj).1
      have := hr j c hj
      rw [List.getD_eq_getElem?_getD, List.getElem?_eq_getElem hlt] at this
      exact ⟨vs[j], by simp [Value.cells, hlt], this⟩

theorem ARel.agg {w : World} {ι : Io} {M : Ms} {cs : List C} {vs : Array Value} (h : ARel w ι M cs vs) : RS w ι M (.agg cs) (.agg vs) := by
  have : RS w ι M (.agg cs) (.agg vs.toList.toArray) := .agg vs.toList (by simpa using h.1) fun j c hj => by
    obtain ⟨u, h1, h2⟩ := h.2 j c hj
    rw [List.getD_eq_getElem?_getD]
    simpa [h1] using h2
  simpa using this
theorem ARel.const {w : World} {ι : Io} {M : Ms} {vs : Array Value} (h : ∀ v ∈ vs.toList, v.oneCell' = true) : ARel w ι M (vs.toList.map constC) vs :=
  ⟨by simp, fun j c hj => by
    rw [List.getElem?_map] at hj
    cases hv : vs.toList[j]? with
    | none => rw [hv] at hj; cases hj
    | some v =>
      rw [hv] at hj
      injection hj with hj
      subst hj
      exact ⟨v, by simpa using hv, RC.const (h v (List.mem_of_getElem? hv))⟩⟩
theorem ARel.one {w : World} {ι : Io} {M : Ms} {cs : List C} {vs : Array Value} (h : ARel w ι M cs vs) : ∀ v ∈ vs.toList, v.oneCell' = true := fun v hv => by
  obtain ⟨j, hj⟩ := List.mem_iff_getElem?.1 hv
  have hlt : j < cs.length := by
    have := (List.getElem?_eq_some_iff.1 hj).1
    rw [← h.1]; simpa using this
  obtain ⟨u, h1, h2⟩ := h.2 j _ (List.getElem?_eq_getElem hlt)
  have : u = v := by
    have hj' : vs[j]? = some v := by simpa using hj
    rw [hj'] at h1; injection h1 with h1; exact h1.symm
  exact this ▸ h2.one

/-- what the model's filling does to an array -/
theorem foldl_over (off : Nat) (vs : Array Value) (cells : Array Value) (h : off + vs.size ≤ cells.size) :
    ∃ r, vs.zipIdx.foldl (fun cs (x : Value × Nat) => cs.setIfInBounds (off + x.2) x.1) cells = r ∧ r.size = cells.size ∧
      ∀ m, r[m]? = if off ≤ m ∧ m < off + vs.size then vs[m - off]? else cells[m]? := by
  refine ⟨_, rfl, ?_⟩
  rw [← Array.foldl_toList, Array.toList_zipIdx]
  have key : ∀ (l : List Value) (j : Nat) (c : Array Value), off + j + l.length ≤ c.size →
      ((l.zipIdx j).foldl (fun cs (x : Value × Nat) => cs.setIfInBounds (off + x.2) x.1) c).size = c.size ∧
      ∀ m, ((l.zipIdx j).foldl (fun cs (x : Value × Nat) => cs.setIfInBounds (off + x.2) x.1) c)[m]? = if off + j ≤ m ∧ m < off + j + l.length then l[m - (off + j)]? else c[m]? := by
    intro l
    induction l with
    | nil => intro j c hc; simp
             intro m h1 h2; omega
    | cons v l ih =>
      intro j c hc
      simp only [List.length_cons] at hc
      obtain ⟨h1, h2⟩ := ih (j + 1) (c.setIfInBounds (off + j) v) (by rw [Array.size_setIfInBounds]; omega)
      simp only [List.zipIdx_cons, List.foldl_cons]
      refine ⟨by rw [h1]; simp, fun m => ?_⟩
      rw [h2]
      by_cases hm : m = off + j
      · subst hm
        rw [if_neg (by omega), if_pos (by simp)]
        simp [show off + j < c.size by omega]
      · by_cases hm2 : off + (j + 1) ≤ m ∧ m < off + (j + 1) + l.length
        · rw [if_pos hm2, if_pos (by simp only [List.length_cons]; omega), show m - (off + j) = (m - (off + (j + 1))) + 1 by omega]
          simp
        · rw [if_neg hm2, if_neg (by simp only [List.length_cons]; omega), Array.getElem?_setIfInBounds_ne (by omega)]
  have := key vs.toList 0 cells (by simpa using h)
  simpa using this

theorem ARel.over {w : World} {ι : Io} {M : Ms} {cells cs : List C} {arr vs : Array Value} (h : ARel w ι M cells arr) (h' : ARel w ι M cs vs) {off : Nat} (hl : off + cs.length ≤ cells.length) :
    ARel w ι M (cells.take off ++ cs ++ cells.drop (off + cs.length)) (vs.zipIdx.foldl (fun cs (x : Value × Nat) => cs.setIfInBounds (off + x.2) x.1) arr) := by
  obtain ⟨r, hr, hs, hm⟩ := foldl_over off vs arr (by rw [h.1, h'.1]; exact hl)
  rw [hr]
  refine ⟨by rw [hs, h.1]; simp; omega, fun j c hj => ?_⟩
  rw [hm, h'.1]
  by_cases h1 : j < off
  · rw [if_neg (by omega)]
    rw [List.append_assoc, List.getElem?_append_left (by simp; omega), List.getElem?_take_of_lt h1] at hj
    exact h.2 j c hj
  · by_cases h2 : j < off + cs.length
    · rw [if_pos (by omega)]
      rw [List.getElem?_append_left (by simp; omega), List.getElem?_append_right (by simp; omega)] at hj
      have : (cells.take off).length = off := by simp; omega
      rw [this] at hj
      exact h'.2 _ c hj
    · rw [if_neg (by omega)]
      rw [List.getElem?_append_right (by simp; omega), List.getElem?_drop] at hj
      have : (cells.take off ++ cs).length = off + cs.length := by simp; omega
      rw [this, show off + cs.length + (j - (off + cs.length)) = j by omega] at hj
      exact h.2 j c hj

section
variable {P : Program} {τ : Tab} {o : Oper} {ev : Operand → S} {H : Hp}

/-- the parts of a literal, as values -/
theorem fillS_run {w : World} {ι : Io} {M : Ms} {a : Act} (he : EvRel w ι M ev a) {fs : List (Nat × Nat × Bool)} : ∀ (parts : List (Nat × Operand)) (cells : List C) (arr : Array Value) {k : List C → Prop},
    ARel w ι M cells arr → fillS fs cells (parts.map fun p => (p.1, ev p.2)) k →
    ∃ cells', k cells' ∧ ∃ r, Instr.fill ((fs.map (fun x => (x.1, x.2.1)))[·]?) arr (parts.map fun p => (p.1, a.eval p.2)) = some r ∧ ARel w ι M cells' r
  | [], cells, arr, k, hr, h => ⟨cells, h, arr, rfl, hr⟩
  | (i, x) :: rest, cells, arr, k, hr, h => by
    obtain ⟨cs, h, hcs⟩ := cellsK_iff h
    unfold fieldPl at h
    split at h
    · rename_i off size ag hf
      obtain ⟨hb, h⟩ := cond_iff h
      have hb : cs.length = size ∧ 0 < size := by simpa [Nat.blt_eq] using hb
      obtain ⟨hlen, h⟩ := overK_k h (by intro e; subst e; simp at hb; omega)
      have hv := (he x).cells hcs
      obtain ⟨cells', hk, r, hr1, hr2⟩ := fillS_run he rest _ _ (hr.over hv hlen) h
      refine ⟨cells', hk, r, ?_, hr2⟩
      simp only [List.map_cons, Instr.fill]
      rw [List.getElem?_map, hf]
      simp only [Option.map_some]
      rw [if_neg (by have q1 := hv.1; have q2 := hr.1; have q3 := hlen; simp at q3 ⊢; omega)]
      exact hr1
    · exact h.elim
theorem fillA_run {w : World} {ι : Io} {M : Ms} {a : Act} (he : EvRel w ι M ev a) {size : Nat} : ∀ (parts : List (Nat × Operand)) (cells : List C) (arr : Array Value) {k : List C → Prop},
    ARel w ι M cells arr → fillA size cells (parts.map fun p => (p.1, ev p.2)) k →
    ∃ cells', k cells' ∧ ∃ r, Instr.fill (fun i => some (i * size, size)) arr (parts.map fun p => (p.1, a.eval p.2)) = some r ∧ ARel w ι M cells' r
  | [], cells, arr, k, hr, h => ⟨cells, h, arr, rfl, hr⟩
  | (i, x) :: rest, cells, arr, k, hr, h => by
    obtain ⟨cs, h, hcs⟩ := cellsK_iff h
    obtain ⟨hb, h⟩ := cond_iff h
    have hb : cs.length = size ∧ 0 < size := by simpa [Nat.blt_eq] using hb
    obtain ⟨hlen, h⟩ := overK_k h (by intro e; subst e; simp at hb; omega)
    have hv := (he x).cells hcs
    obtain ⟨cells', hk, r, hr1, hr2⟩ := fillA_run he rest _ _ (hr.over hv hlen) h
    refine ⟨cells', hk, r, ?_, hr2⟩
    simp only [List.map_cons, Instr.fill]
    rw [if_neg (by have q1 := hv.1; have q2 := hr.1; have q3 := hlen; simp at q3 ⊢; omega)]
    exact hr1

theorem cellsK_det {s : S} {k : List C → Prop} (h : cellsK s k) : ∃ cs, k cs ∧ cellsK s (· = cs) := by
  cases s <;> first | exact ⟨_, h, rfl⟩ | exact h.elim
theorem cellsK_mono {s : S} {k k' : List C → Prop} (h : cellsK s k) (hk : ∀ cs, k cs → k' cs) : cellsK s k' := by
  cases s <;> first | exact hk _ h | exact h.elim
theorem fillS_det {fs : List (Nat × Nat × Bool)} : ∀ (parts : List (Nat × S)) (cells : List C) {k : List C → Prop}, fillS fs cells parts k → ∃ c, k c ∧ fillS fs cells parts (· = c)
  | [], cells, k, h => ⟨cells, h, rfl⟩
  | (i, s) :: rest, cells, k, h => by
    obtain ⟨cs, h, hcs⟩ := cellsK_det h
    unfold fieldPl at h
    split at h
    · rename_i off size ag hf
      obtain ⟨hb, h⟩ := cond_iff h
      have hb' : cs.length = size ∧ 0 < size := by simpa [Nat.blt_eq] using hb
      have hne : cs ≠ [] := by intro e; subst e; simp at hb'; omega
      obtain ⟨hlen, h⟩ := overK_k h hne
      obtain ⟨c, h1, h2⟩ := fillS_det rest _ h
      refine ⟨c, h1, cellsK_mono hcs ?_⟩
      rintro _ rfl
      unfold fieldPl
      rw [hf]
      simp only [hb, cond_true]
      exact overK_of hlen hne h2
    · exact h.elim
theorem fillA_det {size : Nat} : ∀ (parts : List (Nat × S)) (cells : List C) {k : List C → Prop}, fillA size cells parts k → ∃ c, k c ∧ fillA size cells parts (· = c)
  | [], cells, k, h => ⟨cells, h, rfl⟩
  | (i, s) :: rest, cells, k, h => by
    obtain ⟨cs, h, hcs⟩ := cellsK_det h
    obtain ⟨hb, h⟩ := cond_iff h
    have hb' : cs.length = size ∧ 0 < size := by simpa [Nat.blt_eq] using hb
    have hne : cs ≠ [] := by intro e; subst e; simp at hb'; omega
    obtain ⟨hlen, h⟩ := overK_k h hne
    obtain ⟨c, h1, h2⟩ := fillA_det rest _ h
    refine ⟨c, h1, cellsK_mono hcs ?_⟩
    rintro _ rfl
    simp only [hb, cond_true]
    exact overK_of hlen hne h2
theorem aparts_eq (a : Act) (parts : Array (Nat × Operand)) : (parts.map fun (i, x) => (i, a.eval x)).toList = parts.toList.map fun p => (p.1, a.eval p.2) := by simp

/-- a filling succeeds with the same places at every state -/
theorem abuild_sound (hτ : TabOK P τ) {t : TypeId} {parts : Array (Nat × Operand)} (ho : o.op = .build t parts) {K : S → Prop} (h : abuild τ ev t parts.toList K) : ∃ s, K s ∧ QOp P o ev H s [] := by
  unfold abuild at h
  split at h
  · rename_i fs _ _ _ z ht
    rw [mapK_iff] at h
    obtain ⟨u, hu, _, fields, rfl, _, _, hm⟩ := (hτ.td _ _ ht).und
    obtain ⟨i, hi, _, _, z', hz, hzs, hone, _⟩ := (hτ.td _ _ ht).info
    simp only at hzs hone
    subst hzs
    obtain ⟨cs, hk, hd⟩ := fillS_det _ _ h
    refine ⟨_, hk, qop_same fun a w ι M he hh => ?_⟩
    obtain ⟨cs', rfl, r, h1, h2⟩ := fillS_run he parts.toList _ z'.cells (ARel.const hone) hd
    refine ⟨.agg r, ?_, h2.agg⟩
    have hb : P.built t (parts.map fun (i, x) => (i, a.eval x)).toList = some r := by
      rw [aparts_eq]
      simp only [Program.built, hi, hu, hz, hm]
      simpa using h1
    simp only [execOp, ho, Sem.run_bind, run_build w t _ r hb, Result.andThen_ok]
    rfl
  · rename_i n e _ _ _ z ht
    obtain ⟨d, hd, h, _⟩ := sizeK_iff hτ h
    rw [mapK_iff] at h
    have hu := und_arr hτ ht
    obtain ⟨i, hi, _, _, z', hz, hzs, hone, _⟩ := (hτ.td _ _ ht).info
    obtain ⟨ie, hie, hse, _⟩ := (hτ.td _ _ hd).info
    simp only at hzs hone
    subst hzs
    obtain ⟨cs, hk, hd'⟩ := fillA_det _ _ h
    refine ⟨_, hk, qop_same fun a w ι M he hh => ?_⟩
    obtain ⟨cs', rfl, r, h1, h2⟩ := fillA_run he parts.toList _ z'.cells (ARel.const hone) hd'
    refine ⟨.agg r, ?_, h2.agg⟩
    have hb : P.built t (parts.map fun (i, x) => (i, a.eval x)).toList = some r := by
      rw [aparts_eq]
      simp only [Program.built, hi, hu, hz, hie, hse]
      exact h1
    simp only [execOp, ho, Sem.run_bind, run_build w t _ r hb, Result.andThen_ok]
    rfl
  · exact h.elim

/-- a new block of one's own -/
theorem QPost.new {w w' : World} {ι : Io} {M : Ms} {n : Nat} {s : S} {v : Value} {e : TypeId} {size cap : Nat} {rows : List (List C)} {box : Bool} {cur : Array Value}
    (hos : w'.os = w.os) (htape : w'.tape = w.tape) (hout : w'.output = w.output) (hheap : w'.heap = w.heap.push (.cells cur e (0, 0)))
    (hn : ι n = none) (h0 : 0 < size) (hl : rows.length ≤ cap) (hm : cap ≤ maxLen) (hrow : ∀ r ∈ rows, r.length = size) (hsz : cur.size = cap * size)
    (hc : ∀ i j c, at2 rows i j = some c → ∃ u, cur[i * size + j]? = some u ∧ RC w ι M c u)
    (hs : ∀ (ι' : Io) (M' : Ms), ι' n = some (.blk w.heap.size cap size) → RS w' ι' M' s v) : QPost w ι M n s [newBlk e size rows box] v w' := by
  have hsize : w'.heap.size = w.heap.size + 1 := by rw [hheap]; simp
  have hold : ∀ b, b < w.heap.size → w'.heap[b]? = w.heap[b]? := fun b hb => by rw [hheap, Array.getElem?_push, if_neg (by omega)]
  have hnew : w'.heap[w.heap.size]? = some (.cells cur e (0, 0)) := by rw [hheap]; simp
  refine ⟨fun _ => .blk w.heap.size cap size, hs _ _ ?_, ⟨hos, htape, hout, by omega, hold⟩, ?_, ?_, ?_⟩
  · unfold addIo; rw [if_pos (by simp)]
  · intro k blk hk
    cases k with
    | succ k => simp at hk
    | zero =>
      simp at hk
      subst hk
      refine ⟨rfl, rfl, h0, hl, hm, hrow, cur, hnew, hsz, fun i j c hij => ?_⟩
      obtain ⟨u, h1, h2⟩ := hc i j c hij
      refine ⟨u, h1, h2.keep (fun b hb _ => hold b hb) ?_ (fun id l hid => ?_)⟩
      · rintro b (hb | ⟨k, hk, c', s', he⟩)
        · exact .inl hb
        · injection he with he; exact .inr (by omega)
      · unfold addIo
        split
        · rename_i hc'
          have : id = n := by simp at hc'; omega
          subst this
          rw [hn] at hid
          cases hid
        · exact hid
  · intro k b c s' hk he
    injection he with he
    omega
  · intro k k' b c s' c' s'' hk hk' _ _
    simp at hk hk'
    omega

theorem at2_single {cs : List C} {i j : Nat} {c : C} (h : at2 [cs] i j = some c) : i = 0 ∧ cs[j]? = some c := by
  obtain ⟨row, h1, h2⟩ := at2_inv h
  cases i with
  | zero => simp at h1; subst h1; exact ⟨rfl, h2⟩
  | succ i => simp at h1

theorem abox_sound {t : TypeId} {x : Operand} (ho : o.op = .box t x) {K : S → List Blk → Prop} (h : abox ev H.length t x K) : ∃ s B, K s B ∧ QOp P o ev H s B := by
  unfold abox at h
  obtain ⟨cs, h, hcs⟩ := cellsK_iff h
  split at h
  · exact h.elim
  rename_i c r
  refine ⟨_, _, h, fun a w ι M he hh hm hf => ?_⟩
  obtain ⟨ha1, ha2⟩ := (he x).cells hcs
  refine runs_value (w' := w.alloc (.cells (a.eval x).cells t)) (v := .pointer (some ⟨w.heap.size, 0, none⟩)) (by simp [execOp, ho, Instr.box, newVar, newRow]) ?_
  refine QPost.new (cap := 1) (cur := (a.eval x).cells) rfl rfl rfl rfl (hf 0 (by simp)) (by simp) (by simp) (by unfold maxLen; omega) (by simp) (by rw [ha1]; simp) ?_ ?_
  · intro i j c' hij
    obtain ⟨rfl, hj⟩ := at2_single hij
    obtain ⟨u, h1, h2⟩ := ha2 j c' hj
    exact ⟨u, by simpa using h1, h2⟩
  · intro ι' M' hi
    have := RC.ptr (w := w.alloc (.cells (a.eval x).cells t)) (M := M') (r := 0) (o := 0) hi
    simp only [Nat.zero_mul, Nat.zero_add] at this
    exact .c this

theorem aalloc_sound (hτ : TabOK P τ) {t : TypeId} (ho : o.op = .alloc t) {K : S → List Blk → Prop} (h : aalloc τ H.length t K) : ∃ s B, K s B ∧ QOp P o ev H s B := by
  unfold aalloc at h
  split at h
  · rename_i d hd
    rw [mapK_iff] at h
    obtain ⟨hb, h⟩ := cond_iff' h
    have hb : d.zero.length ≠ 0 := by intro e; simp [e] at hb
    refine ⟨_, _, h, fun a w ι M he hh hm hf => ?_⟩
    obtain ⟨i, hi, _, _, z, hz, hzs, hone, _⟩ := (hτ.td _ _ hd).info
    obtain ⟨ha1, ha2⟩ := ARel.const (w := w) (ι := ι) (M := M) (vs := z.cells) (by rw [hzs]; exact hone)
    rw [hzs] at ha1 ha2
    refine runs_value (w' := w.alloc (.cells z.cells t)) (v := .pointer (some ⟨w.heap.size, 0, none⟩)) (by simp [execOp, ho, Instr.alloc, zeroValue, typeInfo, hi, hz, newVar, newRow]) ?_
    refine QPost.new (cap := 1) (cur := z.cells) rfl rfl rfl rfl (hf 0 (by simp)) (by simp; omega) (by simp) (by unfold maxLen; omega) (by simp) (by rw [ha1]; simp) ?_ ?_
    · intro i j c' hij
      obtain ⟨rfl, hj⟩ := at2_single hij
      obtain ⟨u, h1, h2⟩ := ha2 j c' hj
      exact ⟨u, by simpa using h1, h2⟩
    · intro ι' M' hi
      have := RC.ptr (w := w.alloc (.cells z.cells t)) (M := M') (r := 0) (o := 0) hi
      simp only [Nat.zero_mul, Nat.zero_add] at this
      exact .c this
  · exact h.elim

theorem madeCells_get {z : Array Value} {size n i j : Nat} (hz : z.size = size) (hi : i < n) (hj : j < size) : (madeCells z (n * size))[i * size + j]? = z[j]? := by
  have hlt : i * size + j < n * size := by
    have : i * size + size ≤ n * size := by rw [← Nat.succ_mul]; exact Nat.mul_le_mul_right _ hi
    omega
  unfold madeCells
  rw [Array.getElem?_map, Array.getElem?_range, if_pos hlt]
  have hmod : (i * size + j) % z.size = j := by rw [hz, Nat.mul_comm, Nat.mul_add_mod]; exact Nat.mod_eq_of_lt hj
  simp only [Option.map_some, hmod]
  rw [Array.getElem?_eq_getElem (by omega), getElem!_pos]

theorem amake_sound (hτ : TabOK P τ) {t : TypeId} {l c : Operand} (ho : o.op = .makeSlice t l c) {K : S → List Blk → Prop} (h : amake τ ev H.length t l c K) : ∃ s B, K s B ∧ QOp P o ev H s B := by
  unfold amake at h
  split at h
  · rename_i k1 p k2 q e _ _ _ _ hl hc ht
    split at h
    · rename_i d hd
      obtain ⟨hb, ⟨h0, h1, h2⟩, h⟩ := cond_iff' h
      rw [mapK_iff] at h
      have hb : d.size ≠ 0 := by intro e; simp [e] at hb
      refine ⟨_, _, h, fun a w ι M he hh hm hf => ?_⟩
      obtain ⟨i, hi, hs, hby, z, hz, hzs, hone, hzl⟩ := (hτ.td _ _ hd).info
      have hu := und_slice hτ ht
      have hq : q * (i.bytes : Int) ≤ q * ((d.bytes : Int) + 1) := Int.mul_le_mul_of_nonneg_left (by omega) (by omega)
      have hq1 : q ≤ q * ((d.bytes : Int) + 1) := by
        have : q * 1 ≤ q * ((d.bytes : Int) + 1) := Int.mul_le_mul_of_nonneg_left (by omega) (by omega)
        omega
      have hmk := run_make (P := P) w t e i z hu hi hz k1 k2 p q h0 h1 (by rw [Int.mul_comm]; omega) (by omega)
      have hsz : z.cells.size = i.size := by
        rw [hs, ← hzl, ← hzs]; simp
      refine runs_value (w' := w.alloc (.cells (madeCells z.cells (q.toNat * i.size)) e)) (v := .slice (some ⟨w.heap.size, 0, none⟩) p.toNat q.toNat)
        (by simp only [execOp, ho, (he.to hl).inv_atm, (he.to hc).inv_atm, Sem.run_bind, hmk, Result.andThen_ok]; rfl) ?_
      obtain ⟨ha1, ha2⟩ := ARel.const (w := w) (ι := ι) (M := M) (vs := z.cells) (by rw [hzs]; exact hone)
      rw [hzs] at ha1 ha2
      refine QPost.new (cap := q.toNat) (cur := madeCells z.cells (q.toNat * i.size)) rfl rfl rfl rfl (hf 0 (by simp)) (by omega) (by simp; omega) (by unfold maxLen; omega) ?_ (by rw [size_madeCells, hs]) ?_ ?_
      · intro r hr
        rw [(List.mem_replicate.1 hr).2, ← ha1, hsz, hs]
      · intro i' j c' hij
        obtain ⟨row, hr1, hr2⟩ := at2_inv hij
        rw [List.getElem?_replicate] at hr1
        split at hr1
        · rename_i hlt
          injection hr1 with hr1
          subst hr1
          obtain ⟨u, q1, q2⟩ := ha2 j c' hr2
          have hj : j < i.size := by rw [← hsz]; exact (Array.getElem?_eq_some_iff.1 q1).1
          exact ⟨u, by rw [← hs, madeCells_get hsz (by omega) hj, q1], q2⟩
        · cases hr1
      · intro ι' M' hi
        exact .c (.own hi (by omega) (fun _ => by rw [Nat.zero_mul]) (by omega) (by unfold maxLen; omega) (fun _ => ⟨rfl, rfl, rfl⟩))
    · exact h.elim
  · exact h.elim
end
end Go.Proofs.Ythjgbjakpbfnoaa
