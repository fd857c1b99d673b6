/- The abstract machine is sound: stores, slice literals, calls; every operation. -/
import Derived.Test.YthjgbjakpbfnoaaAbs10
namespace Go.Proofs.Ythjgbjakpbfnoaa
open Go.RowKit
set_option linter.unusedVariables false
set_option linter.unusedSimpArgs false

section
variable {P : Program} {τ : Tab} {o : Oper} {ev : Operand → S} {H : Hp}

/-- a store into a block of one's own -/
theorem GPost.store {w w' : World} {ι : Io} {M : Ms} (hH : HeapRel w ι M H) (hM : MB w M) (hF : Fresh ι H.length) {id b cap size : Nat} {k k' : Blk} (hk : H[id]? = some k) (hl : k.mode = .live)
    (hi : ι id = some (.blk b cap size)) (hl' : k'.mode = .live) (hos : w'.os = w.os) (htape : w'.tape = w.tape) (hout : w'.output = w.output)
    (hsize : w'.heap.size = w.heap.size) (hkeep : ∀ b', b' ≠ b → w'.heap[b']? = w.heap[b']?) (hnew : BlkRel w' ι M k' (.blk b cap size)) :
    GPost w ι M H .junk (H.set id k') undef w' := by
  have hMb : M b := hH.liv id k hk hl b cap size hi
  have hget : ∀ j kk, (H.set id k')[j]? = some kk → (j = id ∧ kk = k') ∨ (j ≠ id ∧ H[j]? = some kk) := fun j kk hj => set_get hj
  refine ⟨ι, M, .junk, ⟨?_, ?_, ?_, ?_⟩, fun b' h => by rw [hsize]; exact hM b' h, by simpa using hF, ⟨hos, htape, hout, by omega, ?_, fun _ _ => rfl, fun b' h => .inl h, fun b' h => .inl h, ?_, by simp⟩⟩
  · intro j kk hj hd l hl2
    rcases hget j kk hj with ⟨rfl, rfl⟩ | ⟨h1, h2⟩
    · rw [hi] at hl2; injection hl2 with hl2; subst hl2; exact hnew
    · exact hH.other hk hl hi (fun b' _ h => hkeep b' h) (fun b' h => .inl h) (fun _ _ h => h) j kk h1 h2 hd l hl2
  · intro j kk hj hm
    rcases hget j kk hj with ⟨rfl, rfl⟩ | ⟨h1, h2⟩
    · exact hH.liv j k hk hl
    · exact hH.liv j kk h2 hm
  · intro j kk hj hm
    rcases hget j kk hj with ⟨rfl, rfl⟩ | ⟨h1, h2⟩
    · rw [hl'] at hm; cases hm
    · exact hH.fro j kk h2 hm
  · intro j j' kk kk' hj hj' hm hm'
    rcases hget j kk hj with ⟨rfl, rfl⟩ | ⟨h1, h2⟩ <;> rcases hget j' kk' hj' with ⟨rfl, rfl⟩ | ⟨h1', h2'⟩
    · intros; rfl
    · exact hH.inj _ _ _ _ hk h2' hl hm'
    · exact hH.inj _ _ _ _ h2 hk hm hl
    · exact hH.inj _ _ _ _ h2 h2' hm hm'
  · intro b' _ hnl
    exact hkeep b' (by rintro rfl; exact hnl ⟨id, k, cap, size, hk, hl, hi⟩)
  · rintro b' ⟨j, kk, c', s', hj, hm, hi'⟩
    rcases hget j kk hj with ⟨rfl, rfl⟩ | ⟨h1, h2⟩
    · exact .inl ⟨j, k, c', s', hk, hl, hi'⟩
    · exact .inl ⟨j, kk, c', s', h2, hm, hi'⟩

theorem run_storeVar_at {t : TypeId} {d : TD} (h : TDok P t d) {w : World} {b off : Nat} {e : TypeId} {cur : Array Value} {v : Value} (hg : w.heap[b]? = some (.cells cur e (0, 0))) (hs : v.cells.size = d.size)
    (hl : off + v.cells.size ≤ cur.size) (h1 : ∀ u ∈ v.cells.toList, u.oneCell' = true) :
    (Instr.storeAt t (.pointer (some ⟨b, off, none⟩)) v).run P w = .ok () (w.setRow b (cur.toList.take off ++ v.cells.toList ++ cur.toList.drop (off + v.cells.size)).toArray) := by
  have := run_storeCells_at P b off e v.cells.toList 0 cur w hg (by simpa using hl) h1
  simp only [Nat.add_zero, Array.length_toList] at this
  simp [Instr.storeAt, Instr.sureAddr, storeVar, sizeOf_run h, hs, this]

theorem astore_sound (hτ : TabOK P τ) {t : TypeId} {x v : Operand} (ho : o.op = .store t x v) {K : Hp → Prop} (h : astore τ ev H t x v K) : ∃ H', K H' ∧ GOp P o ev H .junk H' := by
  unfold astore at h
  split at h
  · exact h.elim
  rename_i d hd
  split at h
  rotate_left
  · exact h.elim
  rename_i id r o' hx
  obtain ⟨k, hk, h⟩ := getK_iff h
  obtain ⟨hlv, h⟩ := writable_iff h
  obtain ⟨cs, h, hcs⟩ := cellsK_iff h
  obtain ⟨hsz, h⟩ := cond_iff h
  have hsz : cs.length = d.size := by simpa using hsz
  obtain ⟨row, hrow, h, hbox⟩ := rowK_iff h
  by_cases hne : cs = []
  · -- nothing is stored
    subst hne
    have hov : ∀ {kk : List C → Prop}, overK o' [] row kk → kk row := fun {kk} hh => by cases row <;> cases o' <;> exact hh
    have h := hov h
    have hsame : ∀ rows, setRows k rows = k ↔ rows = k.rows := fun rows => ⟨fun e => by rw [← congrArg Blk.rows e]; rfl, fun e => by subst e; cases k; rfl⟩
    have hset : H.set id k = H := by
      apply List.ext_getElem?
      intro j
      by_cases hj : j = id
      · subst hj; rw [List.getElem?_set_self (List.getElem?_eq_some_iff.1 hk).1, hk]
      · rw [getElem?_set_ne' hj]
    have hK : K H := by
      split at h
      · rename_i hb
        rw [setK_iff, (hsame _).2 (by rw [(hbox hb).1]), hset] at h
        exact h
      · rw [setK_iff, (hsame _).2 (by
          apply List.ext_getElem?
          intro j
          by_cases hj : j = r
          · subst hj; rw [List.getElem?_set_self (List.getElem?_eq_some_iff.1 hrow).1, hrow]
          · rw [List.getElem?_set_ne (Ne.symm hj)]), hset] at h
        exact h
    refine ⟨H, hK, fun a w ι M he hh hm hF => ?_⟩
    have hv := (he v).cells hcs
    generalize hvx : a.eval x = vx
    have hr := (he.to hx).inv_c
    rw [hvx] at hr
    cases hr with
    | @ptr _ _ _ b cap size hi =>
      have hbr := hh.blk id k hk (by rw [hlv]; intro h; cases h) _ hi
      obtain ⟨q1, q2, q3, q4, q5, cur, q6, q7, q8⟩ := hbr
      have hc0 : (a.eval v).cells.toList = [] := List.eq_nil_of_length_eq_zero (by simpa using hv.1)
      have hrun : (Instr.storeAt t (.pointer (some ⟨b, r * size + o', none⟩)) (a.eval v)).run P w = .ok () w := by
        simp [Instr.storeAt, Instr.sureAddr, storeVar, sizeOf_run (hτ.td t d hd), hc0, storeCells, show (a.eval v).cells.size = d.size by rw [hv.1]; exact hsz]
      refine runs_skip (by simp only [execOp, ho, hvx, Sem.run_bind, hrun, Result.andThen_ok]; rfl) ⟨ι, M, .junk, hh, hm, hF, Step.refl w ι M H⟩
  · obtain ⟨hlen, h'⟩ := overK_k h hne
    clear h
    revert h'
    intro h
    have hH' : ∃ rows', K (H.set id (setRows k rows')) ∧ rows'.length = k.rows.length ∧ rows' = k.rows.set r (row.take o' ++ cs ++ row.drop (o' + cs.length)) := by
      split at h
      · rename_i hb
        rw [setK_iff] at h
        obtain ⟨e1, e2⟩ := hbox hb
        exact ⟨_, h, by rw [e1]; rfl, by rw [e1, e2]; rfl⟩
      · rw [setK_iff] at h
        exact ⟨_, h, by simp, rfl⟩
    obtain ⟨rows', hK, hrl, hrows'⟩ := hH'
    refine ⟨_, hK, fun a w ι M he hh hm hF => ?_⟩
    have hv := (he v).cells hcs
    generalize hvx : a.eval x = vx
    have hr := (he.to hx).inv_c
    rw [hvx] at hr
    cases hr with
    | @ptr _ _ _ b cap size hi =>
      have hbr := hh.blk id k hk (by rw [hlv]; intro h; cases h) _ hi
      have hMb := hh.liv id k hk hlv _ _ _ hi
      obtain ⟨q1, q2, q3, q4, q5, cur, q6, q7, q8⟩ := hbr
      have hrlen : row.length = size := q5 row (List.mem_of_getElem? hrow)
      have hr0 : r < k.rows.length := (List.getElem?_eq_some_iff.1 hrow).1
      have hmul : r * size + size ≤ cap * size := by rw [← Nat.succ_mul]; exact Nat.mul_le_mul_right _ (by omega)
      have hfit : r * size + o' + (a.eval v).cells.size ≤ cur.size := by rw [hv.1, q7]; omega
      have hrun := run_storeVar_at (hτ.td t d hd) (b := b) (off := r * size + o') q6 (by rw [hv.1]; exact hsz) hfit hv.one
      refine runs_skip (by simp only [execOp, ho, hvx, Sem.run_bind, hrun, Result.andThen_ok]; rfl) ?_
      have hkeep : ∀ b', b' ≠ b → (w.setRow b (cur.toList.take (r * size + o') ++ (a.eval v).cells.toList ++ cur.toList.drop (r * size + o' + (a.eval v).cells.size)).toArray).heap[b']? = w.heap[b']? := fun b' hb' => setRow_other w b b' _ hb'
      refine GPost.store hh hm hF hk hlv hi (by exact hlv) rfl rfl rfl (by simp) hkeep ⟨q1, q2, by show rows'.length ≤ cap; omega, q4, ?_, _, setRow_heap w b cur _ k.elem _ q6, ?_, ?_⟩
      · show ∀ r ∈ rows', r.length = size
        rw [hrows']
        intro r' hr'
        rcases List.mem_or_eq_of_mem_set hr' with h | rfl
        · exact q5 r' h
        · simp; omega
      · simp only [List.size_toArray, List.length_append, List.length_take, List.length_drop, Array.length_toList]
        omega
      · intro i j c hc
        obtain ⟨row', s1, s2⟩ := at2_inv hc
        have s1' : rows'[i]? = some row' := s1
        rw [hrows'] at s1'
        have keepc : ∀ {c : C} {u : Value}, RC w ι M c u → RC (w.setRow b (cur.toList.take (r * size + o') ++ (a.eval v).cells.toList ++ cur.toList.drop (r * size + o' + (a.eval v).cells.size)).toArray) ι M c u :=
          fun h => h.keep (fun b' _ hb' => hkeep b' (by rintro rfl; exact hb' hMb)) (fun b' h => .inl h) (fun _ _ h => h)
        have hlt : i < k.rows.length := by have := (List.getElem?_eq_some_iff.1 s1).1; rw [← hrl]; exact this
        by_cases hir : i = r
        · subst hir
          rw [List.getElem?_set_self hlt] at s1'
          injection s1' with s1'
          subst s1'
          have hj : j < size := by have := (List.getElem?_eq_some_iff.1 s2).1; simp at this; omega
          by_cases hj1 : j < o'
          · rw [List.append_assoc, List.getElem?_append_left (by simp; omega), List.getElem?_take_of_lt hj1] at s2
            obtain ⟨u, t1, t2⟩ := q8 i j c (at2_some hrow s2)
            refine ⟨u, ?_, keepc t2⟩
            rw [List.getElem?_toArray, List.append_assoc, List.getElem?_append_left (by simp; omega), List.getElem?_take_of_lt (by omega)]
            simpa using t1
          · by_cases hj2 : j < o' + cs.length
            · rw [List.getElem?_append_left (by simp; omega), List.getElem?_append_right (by simp; omega)] at s2
              rw [show (row.take o').length = o' by simp; omega] at s2
              obtain ⟨u, t1, t2⟩ := hv.2 _ _ s2
              refine ⟨u, ?_, keepc t2⟩
              have hvl := hv.1
              rw [List.getElem?_toArray, List.getElem?_append_left (by simp; omega), List.getElem?_append_right (by simp; omega)]
              rw [show (cur.toList.take (i * size + o')).length = i * size + o' by simp; omega, show i * size + j - (i * size + o') = j - o' by omega]
              simpa using t1
            · rw [List.getElem?_append_right (by simp; omega), List.getElem?_drop] at s2
              rw [show (row.take o' ++ cs).length = o' + cs.length by simp; omega, show o' + cs.length + (j - (o' + cs.length)) = j by omega] at s2
              obtain ⟨u, t1, t2⟩ := q8 i j c (at2_some hrow s2)
              refine ⟨u, ?_, keepc t2⟩
              have hvl := hv.1
              rw [List.getElem?_toArray, List.getElem?_append_right (by simp; omega), List.getElem?_drop]
              rw [show (cur.toList.take (i * size + o') ++ (a.eval v).cells.toList).length = i * size + o' + (a.eval v).cells.size by simp; omega,
                show i * size + o' + (a.eval v).cells.size + (i * size + j - (i * size + o' + (a.eval v).cells.size)) = i * size + j by omega]
              simpa using t1
        · rw [List.getElem?_set_ne (Ne.symm hir)] at s1'
          obtain ⟨u, t1, t2⟩ := q8 i j c (at2_some s1' s2)
          refine ⟨u, ?_, keepc t2⟩
          have hj : j < size := by rw [← q5 row' (List.mem_of_getElem? s1')]; exact (List.getElem?_eq_some_iff.1 s2).1
          have hvl := hv.1
          rcases Nat.lt_or_gt_of_ne hir with hlt' | hgt'
          · have : i * size + size ≤ r * size := by rw [← Nat.succ_mul]; exact Nat.mul_le_mul_right _ hlt'
            rw [List.getElem?_toArray, List.append_assoc, List.getElem?_append_left (by simp; omega), List.getElem?_take_of_lt (by omega)]
            simpa using t1
          · have : r * size + size ≤ i * size := by rw [← Nat.succ_mul]; exact Nat.mul_le_mul_right _ hgt'
            rw [List.getElem?_toArray, List.getElem?_append_right (by simp; omega), List.getElem?_drop]
            rw [show (cur.toList.take (r * size + o') ++ (a.eval v).cells.toList).length = r * size + o' + (a.eval v).cells.size by simp; omega,
              show r * size + o' + (a.eval v).cells.size + (i * size + j - (r * size + o' + (a.eval v).cells.size)) = i * size + j by omega]
            simpa using t1

/-- rows of a literal, as an array -/
theorem fillR_det {size : Nat} : ∀ (parts : List (Nat × S)) (rows : List (List C)) {k : List (List C) → Prop}, fillR size rows parts k → ∃ c, k c ∧ fillR size rows parts (· = c)
  | [], rows, k, h => ⟨rows, h, rfl⟩
  | (i, s) :: rest, rows, k, h => by
    obtain ⟨cs, h, hcs⟩ := cellsK_det h
    obtain ⟨hb, h⟩ := cond_iff h
    rw [setK_iff] at h
    obtain ⟨c, h1, h2⟩ := fillR_det rest _ h
    refine ⟨c, h1, cellsK_mono hcs ?_⟩
    rintro _ rfl
    simp only [hb, cond_true]
    rw [setK_iff]
    exact h2
theorem fillR_run {w : World} {ι : Io} {M : Ms} {a : Act} (he : EvRel w ι M ev a) {size : Nat} (h0 : 0 < size) : ∀ (parts : List (Nat × Operand)) (rows : List (List C)) (arr : Array Value) {k : List (List C) → Prop},
    CellsOK w ι M size rows arr.toList → fillR size rows (parts.map fun p => (p.1, ev p.2)) k →
    ∃ rows', k rows' ∧ rows'.length = rows.length ∧ ∃ r, Instr.fill (fun i => some (i * size, size)) arr (parts.map fun p => (p.1, a.eval p.2)) = some r ∧ CellsOK w ι M size rows' r.toList
  | [], rows, arr, k, hr, h => ⟨rows, h, rfl, arr, rfl, hr⟩
  | (i, x) :: rest, rows, arr, k, hr, h => by
    obtain ⟨cs, h, hcs⟩ := cellsK_iff h
    obtain ⟨hb, h⟩ := cond_iff h
    rw [setK_iff] at h
    have hb : cs.length = size ∧ i < rows.length := by simpa [Nat.blt_eq] using hb
    have hv := (he x).cells hcs
    have hlen := hr.len
    rw [Array.length_toList] at hlen
    have hmul : i * size + size ≤ rows.length * size := by rw [← Nat.succ_mul]; exact Nat.mul_le_mul_right _ hb.2
    obtain ⟨r0, hr0, hs0, hm0⟩ := foldl_over (i * size) (a.eval x).cells arr (by rw [hv.1, hb.1, hlen]; exact hmul)
    have hok : CellsOK w ι M size (rows.set i cs) r0.toList := by
      refine ⟨by rw [Array.length_toList, hs0, hlen, List.length_set], ?_, ?_⟩
      · intro r hr'
        rcases List.mem_or_eq_of_mem_set hr' with h | rfl
        · exact hr.row r h
        · exact hb.1
      · intro i' j c hc
        obtain ⟨row, s1, s2⟩ := at2_inv hc
        rw [Array.getElem?_toList, hm0, hv.1, hb.1]
        by_cases hi : i' = i
        · subst hi
          rw [List.getElem?_set_self hb.2] at s1
          injection s1 with s1
          subst s1
          have hj : j < size := by rw [← hb.1]; exact (List.getElem?_eq_some_iff.1 s2).1
          rw [if_pos (by omega), show i' * size + j - i' * size = j by omega]
          exact hv.2 j c s2
        · rw [List.getElem?_set_ne (Ne.symm hi)] at s1
          have hj : j < size := by rw [← hr.row row (List.mem_of_getElem? s1)]; exact (List.getElem?_eq_some_iff.1 s2).1
          have hno : ¬ (i * size ≤ i' * size + j ∧ i' * size + j < i * size + size) := by
            rintro ⟨h1, h2⟩
            rcases Nat.lt_or_gt_of_ne hi with h | h
            · have : i' * size + size ≤ i * size := by rw [← Nat.succ_mul]; exact Nat.mul_le_mul_right _ h
              omega
            · have : i * size + size ≤ i' * size := by rw [← Nat.succ_mul]; exact Nat.mul_le_mul_right _ h
              omega
          rw [if_neg hno]
          have := hr.cell i' j c (at2_some s1 s2)
          simpa using this
    obtain ⟨rows', hk, hl', r, q1, q2⟩ := fillR_run he h0 rest _ r0 hok h
    refine ⟨rows', hk, by simpa using hl', r, ?_, q2⟩
    simp only [List.map_cons, Instr.fill]
    rw [if_neg (by have q1 := hv.1; simp; omega), hr0]
    exact q1

theorem made_ok {w : World} {ι : Io} {M : Ms} {z : Array Value} {size n : Nat} (hz : z.size = size) (hone : ∀ v ∈ z.toList, v.oneCell' = true) : CellsOK w ι M size (List.replicate n (z.toList.map constC)) (madeCells z (n * size)).toList := by
  refine ⟨by simp [madeCells], ?_, ?_⟩
  · intro r hr
    rw [(List.mem_replicate.1 hr).2]; simp [hz]
  · intro i j c hc
    obtain ⟨row, s1, s2⟩ := at2_inv hc
    rw [List.getElem?_replicate] at s1
    split at s1
    · rename_i hi
      injection s1 with s1
      subst s1
      obtain ⟨u, q1, q2⟩ := (ARel.const (w := w) (ι := ι) (M := M) hone).2 j c s2
      have hj : j < size := by rw [← hz]; exact (Array.getElem?_eq_some_iff.1 q1).1
      exact ⟨u, by rw [Array.getElem?_toList, madeCells_get hz hi hj]; exact q1, q2⟩
    · cases s1

theorem abuildSlice_sound (hτ : TabOK P τ) {t : TypeId} {len : Nat} {parts : Array (Nat × Operand)} (ho : o.op = .buildSlice t len parts) {K : S → List Blk → Prop} (h : abuildSlice τ ev H.length t len parts.toList K) :
    ∃ s B, K s B ∧ QOp P o ev H s B := by
  unfold abuildSlice at h
  split at h
  rotate_left
  · exact h.elim
  rename_i e _ _ _ _ ht
  have hu := und_slice hτ ht
  split at h
  rotate_left
  · exact h.elim
  rename_i d hd
  obtain ⟨hb, h⟩ := cond_iff' h
  rw [mapK_iff] at h
  have hb : d.size ≠ 0 ∧ len * d.size < 16777216 := by
    rw [Bool.or_eq_false_iff] at hb
    refine ⟨by intro e; simp [e] at hb, ?_⟩
    have := hb.2
    rw [← Bool.not_eq_true, Nat.ble_eq] at this
    omega
  obtain ⟨i, hi, hsz, hby, z, hz, hzs, hone, hzl⟩ := (hτ.td _ _ hd).info
  have hzsz : z.cells.size = d.size := by rw [← hzl, ← hzs]; simp
  obtain ⟨rows, h, hdet⟩ := fillR_det _ _ h
  have key : ∀ (a : Act) (w : World) (ι : Io) (M : Ms), EvRel w ι M ev a → ∃ r : Array Value, (Instr.buildSlice t len (parts.map fun (i, x) => (i, a.eval x))).run P w = .ok (.slice (some ⟨w.heap.size, 0, none⟩) len len) (w.alloc (.cells r e)) ∧
      CellsOK w ι M d.size rows r.toList ∧ rows.length = len := by
    intro a w ι M he
    obtain ⟨rows', rfl, hl, r, q1, q2⟩ := fillR_run he (size := d.size) (by omega) parts.toList _ (madeCells z.cells (len * d.size)) (by
      have := made_ok (w := w) (ι := ι) (M := M) (n := len) hzsz (by rw [hzs]; exact hone)
      rw [hzs] at this
      exact this) hdet
    by_cases hl0 : len = 0
    · subst hl0
      have hr0 : r = #[] := by
        have := q2.len
        rw [hl] at this
        simp at this
        exact this
      refine ⟨r, ?_, q2, by simpa using hl⟩
      have q1' : Instr.fill (fun i => some (i * d.size, d.size)) #[] (parts.toList.map fun p => (p.1, a.eval p.2)) = some r := by
        simpa [madeCells, Array.range_zero'] using q1
      simp [Instr.buildSlice, run_underlying hu, sizeOf, typeInfo, hi, hsz, newRow, q1', Array.range_zero']
    · refine ⟨r, ?_, q2, by simpa using hl⟩
      refine run_buildSlice w t e len _ r i z hu hi hz (by rw [hsz]; omega) (by rw [hsz]; intro h; rcases Nat.mul_eq_zero.1 h with h | h <;> omega) ?_
      rw [aparts_eq, hsz]
      exact q1
  split at h
  · rename_i rs hrs
    have hrs := allTT_some hrs
    refine ⟨_, _, h, fun a w ι M he hh hm hf => ?_⟩
    obtain ⟨r, q1, q2, q3⟩ := key a w ι M he
    refine runs_value (by simp only [execOp, ho, Sem.run_bind, q1, Result.andThen_ok]; rfl) ?_
    have hext : Ext w (w.alloc (.cells r e)) := ⟨rfl, rfl, rfl, by simp, fun b hb => heap_alloc_old w _ hb⟩
    refine QPost.of_none ?_ hext
    have hlen : rs.length = len := by rw [← q3, hrs]; simp [toC]
    have hmx : len ≤ maxLen := by
      have : len ≤ len * d.size := Nat.le_mul_of_pos_right _ (by omega)
      unfold maxLen; omega
    rw [← hlen]
    have hat : ∀ i j c, at2 rs i j = some c → at2 rows i j = some (.t c) := fun i j c hc => by
      obtain ⟨row, s1, s2⟩ := at2_inv hc
      rw [hrs]
      exact at2_some (row := row.map C.t) (by simp [toC, s1]) (by simp [s2])
    refine .c (.t (.sl (b := w.heap.size) (off := 0) (fun i j => r.getD (i * d.size + j) undef) ?_ (Nat.le_refl _) (by omega) (fun _ => rfl) (by intro h; cases h) (fun _ => rfl) ?_ ?_))
    · intro r' hr'
      have := q2.row (r'.map C.t) (by rw [hrs]; exact List.mem_map.2 ⟨r', hr', rfl⟩)
      simpa using this
    · intro i j c hc
      obtain ⟨u, s1, s2⟩ := q2.cell _ _ _ (hat i j c hc)
      rw [Array.getElem?_toList] at s1
      refine ⟨?_, fun hM => absurd (hm _ hM) (by omega)⟩
      have hn := heap_alloc_new w (.cells r e)
      simp only [World.cell?]
      rw [hn]
      simp [s1]
    · intro i j c hc
      obtain ⟨u, s1, s2⟩ := q2.cell _ _ _ (hat i j c hc)
      rw [Array.getElem?_toList] at s1
      have : r.getD (i * d.size + j) undef = u := by simp [s1]
      show RT _ M c (r.getD (i * d.size + j) undef)
      rw [this]
      cases s2 with
      | t s2 => exact s2.keep (fun b hb _ => hext.keep b hb) (fun b h => .inl h)
  · refine ⟨_, _, h, fun a w ι M he hh hm hf => ?_⟩
    obtain ⟨r, q1, q2, q3⟩ := key a w ι M he
    have hmx : len ≤ maxLen := by
      have : len ≤ len * d.size := Nat.le_mul_of_pos_right _ (by omega)
      unfold maxLen; omega
    refine runs_value (by simp only [execOp, ho, Sem.run_bind, q1, Result.andThen_ok]; rfl) ?_
    refine QPost.new (cap := len) (cur := r) rfl rfl rfl rfl (hf 0 (by simp)) (by omega) (by omega) hmx q2.row (by have := q2.len; rw [q3] at this; simpa using this) (fun i j c hc => by
      obtain ⟨u, s1, s2⟩ := q2.cell i j c hc
      exact ⟨u, by simpa using s1, s2⟩) fun ι' M' hi' => own_result hi' (Nat.le_refl _) hmx
end
end Go.Proofs.Ythjgbjakpbfnoaa
