/- Calls that write the caller's blocks: the callee sees a few of them under numbers of its own. -/
import Derived.WalkKit
import Derived.Test.YtfieodjihaodiaaGreatEc2
namespace Go.Proofs.YtfieodjihaodiaaGreat
open Go.RowKit
set_option linter.unusedVariables false
set_option linter.unusedSimpArgs false

mutual
def renC (σ : List Nat) : C → C
  | .t x => .t x
  | .ptr id r o => .ptr (σ.getD id 0) r o
  | .own id lo len app => .own (σ.getD id 0) lo len app
  | .fn f caps => .fn f (renL σ caps)
def renL (σ : List Nat) : List C → List C
  | [] => []
  | x :: r => renC σ x :: renL σ r
end
def renS (σ : List Nat) : S → S
  | .junk => .junk
  | .c x => .c (renC σ x)
  | .agg cs => .agg (renL σ cs)
  | .tup ss => .tup (ss.map fun s => match s with
    | .c x => .c (renC σ x)
    | .agg cs => .agg (renL σ cs)
    | s => s)
mutual
/-- all numbers are below n -/
def okC (n : Nat) : C → Bool
  | .t _ => true
  | .ptr id _ _ => Nat.blt id n
  | .own id _ _ _ => Nat.blt id n
  | .fn _ caps => okL n caps
def okL (n : Nat) : List C → Bool
  | [] => true
  | x :: r => okC n x && okL n r
end
def okS (n : Nat) : S → Bool
  | .junk => true
  | .c x => okC n x
  | .agg cs => okL n cs
  | .tup _ => false

theorem renL_eq (σ : List Nat) : ∀ l, renL σ l = l.map (renC σ)
  | [] => by simp [renL]
  | x :: r => by simp [renL, renL_eq σ r]
theorem okL_get {n : Nat} : ∀ {l : List C}, okL n l = true → ∀ c ∈ l, okC n c = true
  | [], _, c, h => by cases h
  | x :: r, h, c, hc => by
    simp only [okL, Bool.and_eq_true] at h
    rcases List.mem_cons.1 hc with rfl | hc
    · exact h.1
    · exact okL_get h.2 c hc
theorem renC_isT {σ : List Nat} {x : C} (h : x.isT = true) : renC σ x = x := by
  cases x <;> first | rfl | cases h

/-- the callee's places -/
def subIo (σ : List Nat) (ι : Io) : Io := fun id => (σ[id]?).bind ι

mutual
theorem renC_in {w : World} {ι : Io} {M : Ms} {σ : List Nat} : ∀ (x : C) (v : Value), okC σ.length x = true → RC w ι M (renC σ x) v → RC w (subIo σ ι) M x v
  | .t x, v, _, h => by
    simp only [renC] at h
    cases h with
    | t h => exact .t h
  | .ptr id r o, v, hk, h => by
    simp only [renC] at h
    have hlt : id < σ.length := by simpa [okC, Nat.blt_eq] using hk
    have e : subIo σ ι id = ι (σ.getD id 0) := by simp [subIo, List.getElem?_eq_getElem hlt, List.getD_eq_getElem?_getD]
    cases h with
    | ptr h => exact .ptr (e.trans h)
  | .own id lo len app, v, hk, h => by
    simp only [renC] at h
    have hlt : id < σ.length := by simpa [okC, Nat.blt_eq] using hk
    have e : subIo σ ι id = ι (σ.getD id 0) := by simp [subIo, List.getElem?_eq_getElem hlt, List.getD_eq_getElem?_getD]
    cases h with
    | own h h1 h2 h3 h4 h5 => exact .own (e.trans h) h1 h2 h3 h4 h5
    | nil h => exact .nil (e.trans h)
  | .fn f caps, v, hk, h => by
    simp only [renC] at h
    cases h with
    | fn vs hl hr =>
      rw [renL_eq, List.length_map] at hl
      refine .fn vs hl fun j c hj => ?_
      exact renL_in caps (by simpa [okC] using hk) c (List.mem_of_getElem? hj) _ (hr j _ (by rw [renL_eq, List.getElem?_map, hj]; rfl))
theorem renL_in {w : World} {ι : Io} {M : Ms} {σ : List Nat} : ∀ (l : List C), okL σ.length l = true → ∀ c ∈ l, ∀ v, RC w ι M (renC σ c) v → RC w (subIo σ ι) M c v
  | [], _, c, h, _, _ => by cases h
  | x :: r, hk, c, hc, v, h => by
    simp only [okL, Bool.and_eq_true] at hk
    rcases List.mem_cons.1 hc with hcx | hc
    · rw [hcx] at h ⊢
      exact renC_in x v hk.1 h
    · exact renL_in r hk.2 c hc v h
end
theorem renS_in {w : World} {ι : Io} {M : Ms} {σ : List Nat} {s : S} {v : Value} (hk : okS σ.length s = true) (h : RS w ι M (renS σ s) v) : RS w (subIo σ ι) M s v := by
  cases s with
  | junk => exact .junk
  | c x => cases h with
    | c h => exact .c (renC_in x v hk h)
  | agg cs =>
    have h : RS w ι M (.agg (renL σ cs)) v := h
    cases h with
    | agg vs hl hr =>
      rw [renL_eq, List.length_map] at hl
      refine .agg vs hl fun j c hj => ?_
      exact renL_in cs hk c (List.mem_of_getElem? hj) _ (hr j _ (by rw [renL_eq, List.getElem?_map, hj]; rfl))
  | tup ss => cases hk
theorem RC.ren {w : World} {ι ι' : Io} {M : Ms} {σ : List Nat} (hι : ∀ id l, ι id = some l → ι' (σ.getD id 0) = some l) {x : C} {v : Value} (h : RC w ι M x v) : RC w ι' M (renC σ x) v := by
  induction h with
  | t h => simp only [renC]; exact .t h
  | ptr h => simp only [renC]; exact .ptr (hι _ _ h)
  | own h h1 h2 h3 h4 h5 => simp only [renC]; exact .own (hι _ _ h) h1 h2 h3 h4 h5
  | nil h => simp only [renC]; exact .nil (hι _ _ h)
  | fn vs hl hr ih =>
    simp only [renC]
    refine .fn vs (by rw [renL_eq, List.length_map]; exact hl) fun j c hj => ?_
    rw [renL_eq, List.getElem?_map] at hj
    obtain ⟨c0, hc0, rfl⟩ := Option.map_eq_some_iff.1 hj
    exact ih j c0 hc0
theorem RS.ren1 {w : World} {ι ι' : Io} {M : Ms} {σ : List Nat} (hι : ∀ id l, ι id = some l → ι' (σ.getD id 0) = some l) {x : List C} {v : Value} (h : RS w ι M (.agg x) v) : RS w ι' M (.agg (renL σ x)) v := by
  cases h with
  | agg vs hl hr =>
    refine .agg vs (by rw [renL_eq, List.length_map]; exact hl) fun j c hj => ?_
    rw [renL_eq, List.getElem?_map] at hj
    obtain ⟨c0, hc0, rfl⟩ := Option.map_eq_some_iff.1 hj
    exact (hr j c0 hc0).ren hι
def flatS : S → Bool
  | .tup _ => false
  | _ => true
def flatT : S → Bool
  | .tup ss => ss.all flatS
  | _ => true
theorem RS.ren {w : World} {ι ι' : Io} {M : Ms} {σ : List Nat} (hι : ∀ id l, ι id = some l → ι' (σ.getD id 0) = some l) {s : S} {v : Value} (hs : flatT s = true) (h : RS w ι M s v) : RS w ι' M (renS σ s) v := by
  cases s with
  | junk => exact .junk
  | c x => cases h with
    | c h => exact .c (h.ren hι)
  | agg cs => exact RS.ren1 hι h
  | tup ss =>
    cases h with
    | tup vs hl hr =>
      refine .tup vs (by simpa using hl) fun j s hj => ?_
      rw [List.getElem?_map] at hj
      obtain ⟨s0, hs0, rfl⟩ := Option.map_eq_some_iff.1 hj
      have h0 := hr j s0 hs0
      have hno := List.all_eq_true.1 hs s0 (List.mem_of_getElem? hs0)
      cases s0 with
      | junk => exact .junk
      | c x => cases h0 with
        | c h => exact .c (h.ren hι)
      | agg cs => exact RS.ren1 hι h0
      | tup _ => cases hno

def renR (σ : List Nat) (rows : List (List C)) : List (List C) := rows.map (renL σ)
theorem renR_toC {σ : List Nat} (rows : List (List T)) : renR σ (toC rows) = toC rows := by
  unfold renR toC
  rw [List.map_map]
  apply List.map_congr_left
  intro r _
  show renL σ (r.map C.t) = r.map C.t
  rw [renL_eq, List.map_map]
  apply List.map_congr_left
  intro c _
  simp [renC]
theorem at2_ren {σ : List Nat} {rows : List (List C)} {i j : Nat} : at2 (renR σ rows) i j = (at2 rows i j).map (renC σ) := by
  unfold at2 renR
  rw [List.getElem?_map]
  cases rows[i]? with
  | none => rfl
  | some r => simp [renL_eq]
/-- a block under the callee's numbers (k) and under the caller's (k') -/
def RenB (σ : List Nat) (k k' : Blk) : Prop := k'.mode = k.mode ∧ k'.elem = k.elem ∧ k'.size = k.size ∧ k'.app = k.app ∧ k'.rows = renR σ k.rows
theorem renB_data {σ : List Nat} {k : Blk} {rows : List (List T)} (h : k.rows = toC rows) : RenB σ k k := ⟨rfl, rfl, rfl, rfl, by rw [h, renR_toC]⟩
theorem okL_ts {n : Nat} : ∀ l : List T, okL n (l.map C.t) = true
  | [] => by simp [okL]
  | x :: r => by simp [okL, okC, okL_ts r]
theorem okRows_toC {n : Nat} (rows : List (List T)) : ∀ r ∈ toC rows, okL n r = true := by
  intro r hr
  obtain ⟨r', _, rfl⟩ := List.mem_map.1 hr
  exact okL_ts r'
theorem BlkRel.ren {w : World} {ι ι' : Io} {M : Ms} {σ : List Nat} (hι : ∀ id l, ι id = some l → ι' (σ.getD id 0) = some l) {k k' : Blk} (hk : RenB σ k k') {l : Loc} (h : BlkRel w ι M k l) : BlkRel w ι' M k' l := by
  obtain ⟨e1, e2, e3, e4, e5⟩ := hk
  cases l with
  | nil =>
    have h : k.rows = [] := h
    show k'.rows = []
    rw [e5, h]; rfl
  | blk b cap size =>
    obtain ⟨q1, q2, q3, q4, q5, cur, q6, q7, q8⟩ := h
    refine ⟨by rw [e3]; exact q1, q2, by rw [e5]; simpa [renR] using q3, q4, ?_, cur, by rw [e2]; exact q6, q7, fun i j c hc => ?_⟩
    · intro r hr
      rw [e5] at hr
      obtain ⟨r0, h0, rfl⟩ := List.mem_map.1 hr
      rw [renL_eq, List.length_map]
      exact q5 r0 h0
    · rw [e5, at2_ren] at hc
      obtain ⟨c0, hc0, rfl⟩ := Option.map_eq_some_iff.1 hc
      obtain ⟨u, h1, h2⟩ := q8 i j c0 hc0
      exact ⟨u, h1, h2.ren hι⟩
theorem BlkRel.ren_in {w : World} {ι : Io} {M : Ms} {σ : List Nat} {k k' : Blk} (hk : RenB σ k k') (hok : ∀ r ∈ k.rows, okL σ.length r = true) {l : Loc} (h : BlkRel w ι M k' l) : BlkRel w (subIo σ ι) M k l := by
  obtain ⟨e1, e2, e3, e4, e5⟩ := hk
  cases l with
  | nil =>
    have h : k'.rows = [] := h
    show k.rows = []
    rw [e5] at h
    simpa [renR] using h
  | blk b cap size =>
    obtain ⟨q1, q2, q3, q4, q5, cur, q6, q7, q8⟩ := h
    refine ⟨by rw [← e3]; exact q1, q2, by rw [e5] at q3; simpa [renR] using q3, q4, ?_, cur, by rw [← e2]; exact q6, q7, fun i j c hc => ?_⟩
    · intro r hr
      have := q5 (renL σ r) (by rw [e5]; exact List.mem_map.2 ⟨r, hr, rfl⟩)
      rw [renL_eq, List.length_map] at this
      exact this
    · obtain ⟨u, h1, h2⟩ := q8 i j (renC σ c) (by rw [e5, at2_ren, hc]; rfl)
      obtain ⟨row, r1, r2⟩ := at2_inv hc
      exact ⟨u, h1, renC_in c u (okL_get (hok row (List.mem_of_getElem? r1)) c (List.mem_of_getElem? r2)) h2⟩

/-- the callee's numbers after the call -/
def extR (σ : List Nat) (n m : Nat) : List Nat := σ ++ (List.range m).map (n + ·)

/-- a call that writes some of the caller's blocks -/
theorem acall_frame {P : Program} {g : FuncId} {args args' : List S} {H H' Hs Hs' : Hp} {r r' : S} (σ : List Nat) (h : ACall P g args Hs r Hs')
    (hargs : args' = args.map (renS σ)) (hok : args.all (okS σ.length) = true) (hσl : σ.length = Hs.length) (hσn : σ.Nodup)
    (hin : ∀ i k, Hs[i]? = some k → k.mode = .live ∧ k.app = false ∧ (∀ r ∈ k.rows, okL σ.length r = true) ∧ ∃ k', H[σ.getD i 0]? = some k' ∧ RenB σ k k')
    (hno : ∀ k ∈ Hs', k.mode ≠ .old) (hlen : Hs.length ≤ Hs'.length)
    (hr : flatT r = true) (hr' : r' = renS (extR σ H.length (Hs'.length - Hs.length)) r)
    (hl' : H'.length = H.length + (Hs'.length - Hs.length)) (hout : ∀ i k, Hs'[i]? = some k → ∃ k', H'[(extR σ H.length (Hs'.length - Hs.length)).getD i 0]? = some k' ∧ RenB (extR σ H.length (Hs'.length - Hs.length)) k k')
    (hrest : ∀ j, j < H.length → j ∉ σ → H'[j]? = H[j]?) : ACall P g args' H r' H' := by
  refine ⟨h.1, fun w ι M vals hl hv hH hM hF => ?_⟩
  subst hargs
  have hσlt : ∀ i, i < σ.length → σ.getD i 0 < H.length := fun i hi => by
    obtain ⟨_, _, _, k', hk', _⟩ := hin i Hs[i] (List.getElem?_eq_getElem (by omega))
    exact (List.getElem?_eq_some_iff.1 hk').1
  have hsub : ∀ i, i < σ.length → subIo σ ι i = ι (σ.getD i 0) := fun i hi => by simp [subIo, List.getElem?_eq_getElem hi, List.getD_eq_getElem?_getD]
  have hsubn : ∀ i, σ.length ≤ i → subIo σ ι i = none := fun i hi => by simp [subIo, List.getElem?_eq_none hi]
  have hget : ∀ i k, Hs[i]? = some k → i < σ.length := fun i k hk => by rw [hσl]; exact (List.getElem?_eq_some_iff.1 hk).1
  have hHs : HeapRel w (subIo σ ι) M Hs := by
    refine ⟨?_, ?_, ?_, ?_, ?_⟩
    · intro id k hk hd l hl
      obtain ⟨h1, h2, h3, k', hk', hren⟩ := hin id k hk
      rw [hsub id (hget id k hk)] at hl
      exact (hH.blk _ k' hk' (by rw [hren.1]; exact hd) l hl).ren_in hren h3
    · intro id k hk hm b cap size hl
      obtain ⟨h1, h2, h3, k', hk', hren⟩ := hin id k hk
      rw [hsub id (hget id k hk)] at hl
      exact hH.liv _ k' hk' (by rw [hren.1]; exact hm) b cap size hl
    · intro id k hk hm
      obtain ⟨h1, h2, h3, k', hk', hren⟩ := hin id k hk
      rw [h1] at hm; cases hm
    · intro id id' k k2 hk hk2 hm hm2 b cap size cap' size' hl hl2
      obtain ⟨h1, h2, h3, k', hk', hren⟩ := hin id k hk
      obtain ⟨h1', h2', h3', k2', hk2', hren2⟩ := hin id' k2 hk2
      rw [hsub id (hget id k hk)] at hl
      rw [hsub id' (hget id' k2 hk2)] at hl2
      have := hH.inj _ _ k' k2' hk' hk2' (by rw [hren.1]; exact hm) (by rw [hren2.1]; exact hm2) _ _ _ _ _ hl hl2
      have hi := hget id k hk
      have hi' := hget id' k2 hk2
      rw [List.getD_eq_getElem?_getD, List.getD_eq_getElem?_getD, List.getElem?_eq_getElem hi, List.getElem?_eq_getElem hi'] at this
      simp only [Option.getD_some] at this
      have hp := List.pairwise_iff_getElem.1 hσn
      rcases Nat.lt_trichotomy id id' with hlt | heq | hgt
      · exact absurd this (hp id id' hi hi' hlt)
      · exact heq
      · exact absurd this.symm (hp id' id hi' hi hgt)
    · intro id id' k k2 hk hk2 hm
      obtain ⟨h1, _⟩ := hin id k hk
      rw [h1] at hm; cases hm
  have hlive : ∀ b, Live (subIo σ ι) Hs b → ∃ i k, i < σ.length ∧ H[σ.getD i 0]? = some k ∧ k.mode = .live ∧ k.app = false ∧ ∃ cap size, ι (σ.getD i 0) = some (.blk b cap size) := by
    rintro b ⟨i, k, cap, size, hk, hm, hi⟩
    obtain ⟨h1, h2, h3, k', hk', hren⟩ := hin i k hk
    rw [hsub i (hget i k hk)] at hi
    exact ⟨i, k', hget i k hk, hk', by rw [hren.1]; exact h1, by rw [hren.2.2.2.1]; exact h2, cap, size, hi⟩
  have hliveH : ∀ b, Live (subIo σ ι) Hs b → Live ι H b := fun b hb => by
    obtain ⟨i, k, _, hk, hm, _, cap, size, hi⟩ := hlive b hb
    exact ⟨_, k, cap, size, hk, hm, hi⟩
  have hvals : ∀ j s, args[j]? = some s → RS w (subIo σ ι) M s (vals.getD j undef) := fun j s hj =>
    renS_in (List.all_eq_true.1 hok s (List.mem_of_getElem? hj)) (hv j _ (by rw [List.getElem?_map, hj]; rfl))
  have hcall := h.2 w (subIo σ ι) M vals (by simpa using hl) hvals hHs hM (fun id hid => hsubn id (by omega))
  refine Calls.mono hcall ?_
  rintro e w' ⟨v, rfl, ι', M', h1, h2, h3, h4, h5⟩
  refine ⟨v, rfl, ?_⟩
  generalize hm : Hs'.length - Hs.length = m at *
  let σ' := extR σ H.length m
  let ι2 : Io := fun j => if j < H.length then ι j else ι' (Hs.length + (j - H.length))
  have hσ'l : σ'.length = Hs'.length := by simp [σ', extR]; omega
  have hσ'1 : ∀ i, i < σ.length → σ'.getD i 0 = σ.getD i 0 := fun i hi => by
    simp only [σ', extR, List.getD_eq_getElem?_getD, List.getElem?_append_left hi]
  have hσ'2 : ∀ i, σ.length ≤ i → i < Hs'.length → σ'.getD i 0 = H.length + (i - σ.length) := fun i hi hi' => by
    simp only [σ', extR, List.getD_eq_getElem?_getD]
    rw [List.getElem?_append_right hi, List.getElem?_map, List.getElem?_range (by omega)]
    rfl
  have hι2 : ∀ id l, ι' id = some l → ι2 (σ'.getD id 0) = some l := fun id l hid => by
    have hidl : id < Hs'.length := by
      rcases Nat.lt_or_ge id Hs'.length with h | h
      · exact h
      · rw [h4 id h] at hid; cases hid
    show (if _ then _ else _) = _
    by_cases hlt : id < σ.length
    · rw [hσ'1 id hlt, if_pos (hσlt id hlt), ← hsub id hlt, ← h5.same id (by omega)]
      exact hid
    · rw [hσ'2 id (by omega) hidl, if_neg (by omega), show Hs.length + (H.length + (id - σ.length) - H.length) = id by omega]
      exact hid
  have hkeepM : ∀ b, b < w.heap.size → ¬ M b → w'.heap[b]? = w.heap[b]? := fun b hb hnm => h5.keep b hb fun hl => hnm (Live.inM hHs hl)
  have hιext : ∀ id l, ι id = some l → ι2 id = some l := fun id l hid => by
    show (if _ then _ else _) = _
    rw [if_pos]
    · exact hid
    · rcases Nat.lt_or_ge id H.length with h | h
      · exact h
      · rw [hF id h] at hid; cases hid
  -- what lies at a place
  have hcase : ∀ j k', H'[j]? = some k' → (j < H.length ∧ j ∉ σ ∧ H[j]? = some k') ∨ ∃ i k, Hs'[i]? = some k ∧ σ'.getD i 0 = j ∧ RenB σ' k k' ∧ ι2 j = ι' i := fun j k' hj => by
    have hjl := (List.getElem?_eq_some_iff.1 hj).1
    have fromI : ∀ i, i < Hs'.length → σ'.getD i 0 = j → ∃ i k, Hs'[i]? = some k ∧ σ'.getD i 0 = j ∧ RenB σ' k k' ∧ ι2 j = ι' i := fun i hi hij => by
      obtain ⟨k2, hk2, hren⟩ := hout i Hs'[i] (List.getElem?_eq_getElem hi)
      have hk2' : H'[j]? = some k2 := by rw [← hij]; exact hk2
      rw [hj] at hk2'
      injection hk2' with hk2'
      subst hk2'
      refine ⟨i, _, List.getElem?_eq_getElem hi, hij, hren, ?_⟩
      show (if _ then _ else _) = _
      by_cases hlt : i < σ.length
      · rw [← hij, hσ'1 i hlt, if_pos (hσlt i hlt), ← hsub i hlt, ← h5.same i (by omega)]
      · rw [← hij, hσ'2 i (by omega) hi, if_neg (by omega), show Hs.length + (H.length + (i - σ.length) - H.length) = i by omega]
    by_cases hlt : j < H.length
    · by_cases hmem : j ∈ σ
      · obtain ⟨i, hi⟩ := List.mem_iff_getElem?.1 hmem
        have hil := (List.getElem?_eq_some_iff.1 hi).1
        refine .inr (fromI i (by omega) ?_)
        rw [hσ'1 i hil, List.getD_eq_getElem?_getD, hi]; rfl
      · rw [hrest j hlt hmem] at hj
        exact .inl ⟨hlt, hmem, hj⟩
    · refine .inr (fromI (σ.length + (j - H.length)) (by omega) ?_)
      rw [hσ'2 _ (by omega) (by omega)]; omega
  have hold2 : ∀ j, j < H.length → ι2 j = ι j := fun j hj => by show (if _ then _ else _) = _; rw [if_pos hj]
  have hmodeOut : ∀ j k', j < H.length → j ∉ σ → H[j]? = some k' → k'.mode = .live → ∀ b cap size, ι j = some (.blk b cap size) → ¬ Live (subIo σ ι) Hs b := fun j k' hjl hjn hk' hm' b cap size hi hb => by
    obtain ⟨i, k, hil, hk, hkm, _, c, s, hi2⟩ := hlive b hb
    have := hH.inj j _ k' k hk' hk hm' hkm _ _ _ _ _ hi hi2
    apply hjn
    rw [this, List.getD_eq_getElem?_getD, List.getElem?_eq_getElem hil]
    exact List.getElem_mem hil
  refine ⟨ι2, M', ?_, ⟨?_, ?_, ?_, ?_, ?_⟩, h3, ?_, ?_⟩
  · rw [hr']
    exact h1.ren hι2 hr
  · intro j k' hj hd l hl2
    rcases hcase j k' hj with ⟨hjl, hjn, hk'⟩ | ⟨i, k, hk, hij, hren, hιj⟩
    · rw [hold2 j hjl] at hl2
      have hb := hH.blk j k' hk' hd l hl2
      cases l with
      | nil => exact hb
      | blk b cap size =>
        obtain ⟨q1, q2, q3, q4, q5, cur, q6, q7, q8⟩ := hb
        have hnl : ¬ Live (subIo σ ι) Hs b := by
          intro hb
          cases hm' : k'.mode with
          | live => exact hmodeOut j k' hjl hjn hk' hm' b cap size hl2 hb
          | froz => exact hH.fro j k' hk' hm' _ _ _ hl2 (Live.inM hHs hb)
          | old =>
            obtain ⟨i, k, hil, hk, hkm, hka, c, s, hi2⟩ := hlive b hb
            have := (hH.old j _ k' k hk' hk hm' hkm _ _ _ _ _ hl2 hi2).1
            rw [hka] at this; cases this
          | dead => exact hd hm'
        refine ⟨q1, q2, q3, q4, q5, cur, (h5.keep b (block_lt q6) hnl).trans q6, q7, fun i j c hc => ?_⟩
        obtain ⟨u, r1, r2⟩ := q8 i j c hc
        exact ⟨u, r1, r2.keep hkeepM h5.mnew hιext⟩
    · rw [hιj] at hl2
      exact (h2.blk i k hk (by rw [← hren.1]; exact hd) l hl2).ren hι2 hren
  · intro j k' hj hm' b cap size hi
    rcases hcase j k' hj with ⟨hjl, hjn, hk'⟩ | ⟨i, k, hk, hij, hren, hιj⟩
    · rw [hold2 j hjl] at hi
      rcases h5.mold b (hH.liv j k' hk' hm' b cap size hi) with h | h
      · exact h
      · exact absurd h (hmodeOut j k' hjl hjn hk' hm' b cap size hi)
    · rw [hιj] at hi
      exact h2.liv i k hk (by rw [← hren.1]; exact hm') b cap size hi
  · intro j k' hj hm' b cap size hi hb
    rcases hcase j k' hj with ⟨hjl, hjn, hk'⟩ | ⟨i, k, hk, hij, hren, hιj⟩
    · rw [hold2 j hjl] at hi
      have hlt : b < w.heap.size := by
        obtain ⟨_, _, _, _, _, cur, q6, _⟩ := hH.blk j k' hk' (by rw [hm']; intro h; cases h) _ hi
        exact block_lt q6
      rcases h5.mnew b hb with h | h
      · exact hH.fro j k' hk' hm' b cap size hi h
      · omega
    · rw [hιj] at hi
      exact h2.fro i k hk (by rw [← hren.1]; exact hm') b cap size hi hb
  · have cross : ∀ j j' k' i k, j < H.length → j ∉ σ → H[j]? = some k' → k'.mode = .live → Hs'[i]? = some k → k.mode = .live → ∀ b cap size cap' size', ι j = some (.blk b cap size) → ι' i = some (.blk b cap' size') → j = j' := by
      intro j j' k' i k hjl hjn hk' hm' hk hkm b cap size cap' size' hi hi'
      have hlt : b < w.heap.size := by
        obtain ⟨_, _, _, _, _, cur, q6, _⟩ := hH.blk j k' hk' (by rw [hm']; intro h; cases h) _ hi
        exact block_lt q6
      rcases h5.live b ⟨i, k, cap', size', hk, hkm, hi'⟩ with h | h
      · exact absurd h (hmodeOut j k' hjl hjn hk' hm' b cap size hi)
      · omega
    intro j j' k1 k2 hj hj' hm1 hm2 b cap size cap' size' hi hi'
    rcases hcase j k1 hj with ⟨hjl, hjn, hk1⟩ | ⟨i, k, hk, hij, hren, hιj⟩ <;> rcases hcase j' k2 hj' with ⟨hjl', hjn', hk2⟩ | ⟨i', k0, hk0, hij', hren', hιj'⟩
    · rw [hold2 j hjl] at hi
      rw [hold2 j' hjl'] at hi'
      exact hH.inj j j' k1 k2 hk1 hk2 hm1 hm2 _ _ _ _ _ hi hi'
    · rw [hold2 j hjl] at hi
      rw [hιj'] at hi'
      exact cross j j' k1 i' k0 hjl hjn hk1 hm1 hk0 (by rw [← hren'.1]; exact hm2) _ _ _ _ _ hi hi'
    · rw [hιj] at hi
      rw [hold2 j' hjl'] at hi'
      exact (cross j' j k2 i k hjl' hjn' hk2 hm2 hk (by rw [← hren.1]; exact hm1) _ _ _ _ _ hi' hi).symm
    · rw [hιj] at hi
      rw [hιj'] at hi'
      have := h2.inj i i' k k0 hk hk0 (by rw [← hren.1]; exact hm1) (by rw [← hren'.1]; exact hm2) _ _ _ _ _ hi hi'
      rw [← hij, ← hij', this]
  · intro j j' k1 k2 hj hj' hm1 hm2 b cap size cap' size' hi hi'
    rcases hcase j k1 hj with ⟨hjl, hjn, hk1⟩ | ⟨i, k, hk, hij, hren, hιj⟩
    · rw [hold2 j hjl] at hi
      have hlt : b < w.heap.size := by
        obtain ⟨_, _, _, _, _, cur, q6, _⟩ := hH.blk j k1 hk1 (by rw [hm1]; intro h; cases h) _ hi
        exact block_lt q6
      rcases hcase j' k2 hj' with ⟨hjl', hjn', hk2⟩ | ⟨i', k0, hk0, hij', hren', hιj'⟩
      · rw [hold2 j' hjl'] at hi'
        exact hH.old j j' k1 k2 hk1 hk2 hm1 hm2 _ _ _ _ _ hi hi'
      · rw [hιj'] at hi'
        rcases h5.live b ⟨i', k0, cap', size', hk0, by rw [← hren'.1]; exact hm2, hi'⟩ with h | h
        · obtain ⟨i, k, hil, hk, hkm, hka, c, s, hi2⟩ := hlive b h
          have := (hH.old j _ k1 k hk1 hk hm1 hkm _ _ _ _ _ hi hi2).1
          rw [hka] at this; cases this
        · omega
    · have : k.mode = .old := by rw [← hren.1]; exact hm1
      exact absurd this (hno k (List.mem_of_getElem? hk))
  · intro id hid
    show (if _ then _ else _) = _
    rw [if_neg (by omega)]
    exact h4 _ (by omega)
  · refine ⟨h5.os, h5.tape, h5.output, h5.size, fun b hb hnl => h5.keep b hb fun hl => hnl (hliveH b hl), fun id hid => hold2 id hid, h5.mnew, fun b hb => ?_, ?_, by omega⟩
    · rcases h5.mold b hb with h | h
      · exact .inl h
      · exact .inr (hliveH b h)
    · rintro b ⟨j, k', cap, size, hj, hm', hi⟩
      rcases hcase j k' hj with ⟨hjl, hjn, hk'⟩ | ⟨i, k, hk, hij, hren, hιj⟩
      · rw [hold2 j hjl] at hi
        exact .inl ⟨j, k', cap, size, hk', hm', hi⟩
      · rw [hιj] at hi
        rcases h5.live b ⟨i, k, cap, size, hk, by rw [← hren.1]; exact hm', hi⟩ with h | h
        · exact .inl (hliveH b h)
        · exact .inr h

/-- a loop: its states at the round's head, what holds of them, a measure, and one round -/
theorem awp_while {P : Program} {τ : Tab} (hτ : TabOK P τ) {n0 : Nat} {c : Code} {env : Env} {H : Hp} {Q : AX → Env → Hp → Prop} {σ : Type} (E : σ → Env × Hp) (I : σ → Prop) (μ : σ → Nat) (x0 : σ) (ρ0 : List (Option Nat))
    (hI : I x0) (h0 : Ent n0 ρ0 env H (E x0).1 (E x0).2)
    (round : ∀ x, I x → acode P τ n0 c (E x).1 (E x).2 fun a env' H' => match a with
      | .normal => ∃ ρ x', Ent n0 ρ env' H' (E x').1 (E x').2 ∧ I x' ∧ μ x' < μ x
      | a => Q a env' H') : Awp P n0 (.loop c) env H Q := by
  refine awp_loopS (σ := { x : σ // I x }) (fun x => E x.1) (fun x => μ x.1) ⟨x0, hI⟩ ρ0 h0 ?_
  rintro ⟨x, hx⟩
  refine (acode_sound hτ c (round x hx)).mono ?_
  intro a env' H' h
  cases a with
  | normal =>
    obtain ⟨ρ, x', h1, h2, h3⟩ := h
    exact ⟨ρ, ⟨x', h2⟩, h1, h3⟩
  | exit id => exact h
  | ret => exact h
theorem wrap_eq {x y : Int} (h : x = y) (h1 : -9223372036854775808 ≤ y) (h2 : y ≤ 9223372036854775807) : IsWrap .i64 x y := by subst h; exact wrap_ok h1 h2
end Go.Proofs.YtfieodjihaodiaaGreat
/- Small lemmas of the abstract machine that many walks use. -/
namespace Go.Proofs.YtfieodjihaodiaaGreat
open Go.RowKit
set_option linter.unusedVariables false
set_option linter.unusedSimpArgs false
set_option maxRecDepth 100000

abbrev intsB (l : List Int) : Blk := { mode := .live, elem := 3, size := 1, rows := toC (l.map intRow), box := false }
abbrev ownI (id : Nat) (l : List Int) : S := .c (.own id 0 l.length true)
theorem ex_own {α : Type} {xs : List α} {f : α → List T} {n : Int} {x : α} {lo : Nat} {K : List C → Prop} (hx : xs[lo + n.toNat]? = some x) (h : K ((f x).map C.t)) : ∃ row, (toC (xs.map f))[lo + n.toNat]? = some row ∧ K row :=
  ⟨(f x).map C.t, by simp [toC, hx], h⟩
theorem mk_ok {a b : Int} {n : Nat} {K : Prop} (h0 : 0 ≤ a) (h1 : a ≤ b) (h2 : b ≤ 1000000) (hn : n ≤ 1000) (k : K) : (0 ≤ a ∧ a ≤ b ∧ b * ((n : Int) + 1) ≤ 140737488355328) ∧ K := by
  refine ⟨⟨h0, h1, ?_⟩, k⟩
  have : b * ((n : Int) + 1) ≤ 1000000 * 1001 := Int.mul_le_mul h2 (by omega) (by omega) (by omega)
  omega
theorem ent_view {ρ : List (Option Nat)} {H : Hp} {id len : Nat} {app : Bool} {size : Nat} {k : Blk} {rows : List (List T)} (hp : notIn ρ id = true) (hk : H[id]? = some k) (hd : ¬ k.mode.gone) (hs : k.size = size) (hc : k.rows = toC rows) (hl : len = rows.length) :
    EntS ρ H (.c (.own id 0 len app)) (.c (.t (.sl size .any rows))) := show VC H (fun id => notIn ρ id = true) _ _ from vc_all hp hk hd hs hc hl
theorem toC_app {α : Type} {f : α → List T} {xs : List α} {x : α} : (toC (xs.map f)).take xs.length ++ toC [f x] = toC ((xs ++ [x]).map f) := by
  rw [List.take_of_length_le (by simp [toC])]; simp [toC]
theorem wrap_u64 {x : Int} (h1 : 0 ≤ x) (h2 : x < 18446744073709551616) : IntKind.wrap .u64 x = x := by
  simp only [IntKind.wrap, IntKind.bits, IntKind.signed]
  simp
  omega
/-- bits of a mask -/
theorem and_mask {k : IntKind} (hk : k.bits = 64) (a : Int) (j : Nat) (hj : j ≤ 62) : (BitVec.ofInt k.bits a &&& BitVec.ofInt k.bits ((2 ^ j - 1 : Nat) : Int)).toNat = (a % ((2 ^ j : Nat) : Int)).toNat := by
  rw [hk]
  rw [BitVec.toNat_and, BitVec.toNat_ofInt, BitVec.toNat_ofInt]
  have hp : (2 : Nat) ^ j ≤ 2 ^ 62 := Nat.pow_le_pow_right (by decide) hj
  have h0 : 0 < (2 : Nat) ^ j := Nat.pow_pos (by decide)
  have e1 : ((((2 ^ j - 1 : Nat) : Int)) % ((2 ^ 64 : Nat) : Int)).toNat = 2 ^ j - 1 := by
    rw [Int.emod_eq_of_lt (by omega) (by omega)]; simp
  rw [e1, Nat.and_two_pow_sub_one_eq_mod]
  have hd : (2 : Nat) ^ 64 = 2 ^ j * 2 ^ (64 - j) := by rw [← Nat.pow_add]; congr 1; omega
  have h2 : 0 ≤ a % ((2 ^ 64 : Nat) : Int) := Int.emod_nonneg _ (by decide)
  have e2 : ((a % ((2 ^ 64 : Nat) : Int)).toNat % 2 ^ j : Nat) = ((a % ((2 ^ 64 : Nat) : Int)) % ((2 ^ j : Nat) : Int)).toNat := by
    rw [Int.toNat_emod h2 (by omega)]; rfl
  rw [e2]
  congr 1
  refine Int.emod_emod_of_dvd _ ?_
  exact ⟨((2 ^ (64 - j) : Nat) : Int), by exact_mod_cast hd⟩
theorem and_mask_u64 {a : Int} (j : Nat) (hj : j ≤ 62) : IntKind.wrap .u64 (BitVec.ofInt (IntKind.bits .u64) a &&& BitVec.ofInt (IntKind.bits .u64) ((2 ^ j - 1 : Nat) : Int)).toNat = a % ((2 ^ j : Nat) : Int) := by
  rw [and_mask rfl a j hj]
  have hp : (2 : Nat) ^ j ≤ 2 ^ 62 := Nat.pow_le_pow_right (by decide) hj
  have h0 : 0 < (2 : Nat) ^ j := Nat.pow_pos (by decide)
  have h1 : 0 ≤ a % ((2 ^ j : Nat) : Int) := Int.emod_nonneg _ (by omega)
  have h2 : a % ((2 ^ j : Nat) : Int) < ((2 ^ j : Nat) : Int) := Int.emod_lt_of_pos _ (by omega)
  rw [Int.toNat_of_nonneg h1, wrap_u64 h1 (by omega)]
theorem wrapu_ok {x : Int} (h1 : 0 ≤ x) (h2 : x < 18446744073709551616) : IsWrap .u64 x x := by unfold IsWrap; exact (wrap_u64 h1 h2).symm
theorem sl3_ok {l h m n : Int} {K : Prop} (h1 : 0 ≤ l) (h2 : l ≤ h) (h3 : m = h) (h4 : h ≤ n) (k : K) : (0 ≤ l ∧ l ≤ h ∧ m = h ∧ h ≤ n) ∧ K := ⟨⟨h1, h2, h3, h4⟩, k⟩
theorem any_take_succ {α : Type} {l : List α} {f : α → Bool} {k : Nat} {x : α} (h : l[k]? = some x) : (l.take (k + 1)).any f = ((l.take k).any f || f x) := by
  rw [List.take_add_one, h]; simp
theorem all_take_succ {α : Type} {l : List α} {f : α → Bool} {k : Nat} {x : α} (h : l[k]? = some x) : (l.take (k + 1)).all f = ((l.take k).all f && f x) := by
  rw [List.take_add_one, h]; simp
theorem any_of_get {α : Type} {l : List α} {f : α → Bool} {k : Nat} {x : α} (h : l[k]? = some x) (hf : f x = true) : l.any f = true := List.any_eq_true.2 ⟨x, List.mem_of_getElem? h, hf⟩
theorem all_of_get {α : Type} {l : List α} {f : α → Bool} {k : Nat} {x : α} (h : l[k]? = some x) (hf : f x = false) : l.all f = false := by
  rw [← Bool.not_eq_true, List.all_eq_true]; intro h'; rw [h' x (List.mem_of_getElem? h)] at hf; cases hf
theorem fin_d {x y : T} {H1 : Hp} (h : x = y) : Fin 0 (.c (.t x)) H1 (.c (.t y)) [] := by subst h; exact fin_t (show EntT [] H1 _ _ from ent_t (ρ := []) (H := H1) rfl)
theorem fin_sl {n : Nat} {k : SK} {a b : List (List T)} {H1 : Hp} (h : a = b) (hk : k = .any) : Fin 0 (.c (.t (.sl n k a))) H1 (.c (.t (.sl n .any b))) [] := by subst h hk; exact fin_t (show EntT [] H1 _ _ from ent_t (ρ := []) (H := H1) rfl)
/-- an empty slice of which nobody knows whether it is nil -/
theorem acall_nil {P : Program} {g : FuncId} {args : List S} {H H' : Hp} {r : S} (i : Nat) {n : Nat} (hi : args[i]? = some (.c (.t (.sl n .any [])))) (h1 : ACall P g (args.set i (.c (.t (.sl n .nul [])))) H r H')
    (h2 : ACall P g (args.set i (.c (.t (.sl n .non [])))) H r H') : ACall P g args H r H' := by
  refine ⟨h1.1, fun w ι M vals hl hr hH hM hF => ?_⟩
  have hv := (hr i _ hi).inv_t
  have hil := (List.getElem?_eq_some_iff.1 hi).1
  have key : ∀ k : SK, RT w M (.sl n k []) (vals.getD i undef) → ∀ j s, (args.set i (.c (.t (.sl n k []))))[j]? = some s → RS w ι M s (vals.getD j undef) := fun k hk j s hj => by
    by_cases hji : i = j
    · subst hji
      rw [List.getElem?_set_self hil] at hj
      injection hj with hj
      subst hj
      exact .c (.t hk)
    · rw [List.getElem?_set_ne hji] at hj
      exact hr j s hj
  generalize hu : vals.getD i undef = u at hv
  cases hv with
  | @sl _ _ _ b off cap A f hrow hcap hmax hk hn hA hc hr' hx =>
    cases A with
    | none => exact h1.2 w ι M vals (by simpa using hl) (key .nul (by rw [hu]; exact .sl (b := b) (off := off) f hrow hcap hmax (by intro h; cases h) (by intro h; cases h) (by simp) hc hr' ⟨(fun _ => ⟨rfl, rfl⟩), (fun h => nomatch h)⟩)) hH hM hF
    | some a => exact h2.2 w ι M vals (by simpa using hl) (key .non (by rw [hu]; exact .sl (b := b) (off := off) f hrow hcap hmax (by intro h; cases h) (by intro h; cases h) (by simp) hc hr' ⟨(fun h => nomatch h), (fun _ h => nomatch h)⟩)) hH hM hF
/-- a call that returns one new block of one's own -/
theorem acall_new {P : Program} {g : FuncId} {args : List S} {H : Hp} {n : Nat} {b : Blk} {rows : List (List T)} (h : ACall P g args [] (.c (.own 0 0 n true)) [b]) (hargs : args = args.map (renS [])) (hok : args.all (okS 0) = true)
    (hm : b.mode = .live) (hb : b.rows = toC rows) : ACall P g args H (.c (.own H.length 0 n true)) (H ++ [b]) := by
  refine acall_frame [] h hargs hok rfl List.nodup_nil (by simp) (by intro k hk; simp at hk; subst hk; rw [hm]; simp) (by simp) rfl ?_ (by simp) ?_ ?_
  · simp [renS, renC, extR]
  · intro i k hk
    match i, hk with
    | 0, hk =>
      simp at hk
      subst hk
      exact ⟨b, by simp [extR], renB_data hb⟩
  · intro j hj _
    rw [List.getElem?_append_left hj]
/-- a call at data that may be known better, with its own blocks left -/
theorem acall_data {P : Program} {g : FuncId} {args args' : List S} {r : S} {H' : Hp} (h : ACall P g args' [] r H') (ha : VArgs [] (fun _ => False) args args') : ACall P g args [] r H' := by
  refine ⟨h.1, fun w ι M vals hl hv hH hM hf => ?_⟩
  obtain ⟨hlen, hget⟩ := VArgs.get ha
  exact h.2 w ι M vals (by omega) (fun j s hj => by
    obtain ⟨x, hx, hs⟩ := hget j s hj
    exact hs.rs hH (fun _ h => h) (fun _ _ _ _ _ h _ _ _ _ => h.elim) (hv j x hx)) hH hM hf
end Go.Proofs.YtfieodjihaodiaaGreat
/- Package flow: what its inner functions compute. -/
namespace Go.Proofs.YtfieodjihaodiaaGreat
open Go.RowKit
set_option linter.unusedVariables false
set_option linter.unusedSimpArgs false

theorem a_index (i n : Int) : ACall Tryz.prog 88 [intS .i64 i, intS .i64 n] [] (boolS (idx i n)) [] := by
  (refine acall_of tab_ok Tryz.func88 rfl (by decide) ?_; (conv => whnf); repeat (first | (refine LitB.data ?_; conv => whnf) | (refine BoxB.own ?_; conv => whnf)))
  (repeat' (first | ((refine DecB.mk (fun h => ?_) (fun h => ?_)) <;> first | (exfalso; omega) | (conv => whnf)) | ((refine BoolB.mk (fun h => ?_) (fun h => ?_)) <;> first | (exact absurd h (by decide)) | (conv => whnf)) | ((first | refine zzW ?_ | refine zzI ?_ | refine zzR ?_ | refine zzB ?_ | refine late_ok rfl rfl ?_ | refine src_ok rfl ?_ | refine LitB.data ?_ | refine BoxB.own ?_); conv => whnf)))
  all_goals (refine fin_bool ?_; simp only [idx]; simp; omega)

theorem a_between (n lo hi : Int) : ACall Tryz.prog 89 [intS .i64 n, intS .i64 lo, intS .i64 hi] [] (boolS (btw n lo hi)) [] := by
  (refine acall_of tab_ok Tryz.func89 rfl (by decide) ?_; (conv => whnf); repeat (first | (refine LitB.data ?_; conv => whnf) | (refine BoxB.own ?_; conv => whnf)))
  (repeat' (first | ((refine DecB.mk (fun h => ?_) (fun h => ?_)) <;> first | (exfalso; omega) | (conv => whnf)) | ((refine BoolB.mk (fun h => ?_) (fun h => ?_)) <;> first | (exact absurd h (by decide)) | (conv => whnf)) | ((first | refine zzW ?_ | refine zzI ?_ | refine zzR ?_ | refine zzB ?_ | refine late_ok rfl rfl ?_ | refine src_ok rfl ?_ | refine LitB.data ?_ | refine BoxB.own ?_); conv => whnf)))
  all_goals (refine fin_bool ?_; simp only [btw]; simp; omega)

def pairRow (p : Int × Int) : List T := [ti p.1, ti p.2]
def fullL (e : Ev) : List (Int × Int) := [(e.mats, 6), (e.hhs, 100), (e.scs, 30), (e.places.length, 100), (e.moves.length, 200), (e.certs.length, 100), (e.recalls.length, 30), (e.purities.length, 200)]
theorem fullB_any (e : Ev) : fullB e = (fullL e).any fun p => decide (p.2 < p.1) := by
  rw [Bool.eq_iff_iff]
  simp [fullB, fullL]
  omega

set_option maxRecDepth 100000 in
theorem a_full (e : Ev) (hs : e.Sized) : ACall Tryz.prog 47 [evS e] [] (boolS (fullB e)) [] := by
  (refine acall_of tab_ok Tryz.func47 rfl (by decide) ?_; (conv => whnf); repeat (first | (refine LitB.data ?_; conv => whnf) | (refine BoxB.own ?_; conv => whnf)))
  have hl : (fullL e).length = 8 := rfl
  refine awp_for tab_ok (fun k => ([J, J, J, J, J, J, J, J, J, J, J, J, J, J, J, J, J, J, J, J, J, J, J, J, J, J, J, J, J, J, J, J, J, J, S.c (C.t (T.sl 2 .full ((fullL e).map pairRow))), intS .i64 8, intS .i64 k, J, J, J, J, J, J, J, J, J], [])) 8 (fun k => ((fullL e).take k).any (fun p => decide (p.2 < p.1)) = false) [] rfl
    ⟨rfl, rfl, trivial, ⟨ent_t (by simp [fullL, pairRow]), rfl, rfl, trivial⟩⟩ ?_
  intro k hk hI
  conv => whnf
  (repeat' (first | ((refine DecB.mk (fun h => ?_) (fun h => ?_)) <;> first | (exfalso; omega) | (conv => whnf)) | ((refine BoolB.mk (fun h => ?_) (fun h => ?_)) <;> first | (exact absurd h (by decide)) | (conv => whnf)) | ((first | refine zzW ?_ | refine zzI ?_ | refine zzR ?_ | refine zzB ?_ | refine late_ok rfl rfl ?_ | refine src_ok rfl ?_ | refine LitB.data ?_ | refine BoxB.own ?_); conv => whnf)))
  · have hlt : k < 8 := by omega
    refine ex_row (List.getElem?_eq_getElem (hl ▸ hlt)) ?_
    conv => whnf
    (repeat' (first | ((refine DecB.mk (fun h => ?_) (fun h => ?_)) <;> first | (exfalso; omega) | (conv => whnf)) | ((refine BoolB.mk (fun h => ?_) (fun h => ?_)) <;> first | (exact absurd h (by decide)) | (conv => whnf)) | ((first | refine zzW ?_ | refine zzI ?_ | refine zzR ?_ | refine zzB ?_ | refine late_ok rfl rfl ?_ | refine src_ok rfl ?_ | refine LitB.data ?_ | refine BoxB.own ?_); conv => whnf)))
    · refine fin_bool ?_
      rw [fullB_any, any_of_get (List.getElem?_eq_getElem (hl ▸ hlt))]
      simpa using ‹_ > _›
    · refine ⟨hlt, ?_, [], rfl, rfl, trivial, ⟨rfl, rfl, rfl, trivial⟩⟩
      rw [any_take_succ (List.getElem?_eq_getElem (hl ▸ hlt)), hI]
      have h := ‹¬ _ > _›
      simp; omega
  · refine fin_bool ?_
    rw [fullB_any, ← hI, List.take_of_length_le (by omega)]
end Go.Proofs.YtfieodjihaodiaaGreat
/- Package flow: places, moves, what was said; Check. -/
namespace Go.Proofs.YtfieodjihaodiaaGreat
open Go.RowKit
set_option linter.unusedVariables false
set_option linter.unusedSimpArgs false
set_option maxRecDepth 100000


theorem a_places (e : Ev) (hs : e.Sized) : ACall Tryz.prog 48 [evS e] [] (boolS (e.places.all (placeOk e))) [] := by
  have l1 := hs.s1
  have l2 : (e.places.map Place.row).length = e.places.length := by simp
  (refine acall_of tab_ok Tryz.func48 rfl (by decide) ?_; (conv => whnf); repeat (first | (refine LitB.data ?_; conv => whnf) | (refine BoxB.own ?_; conv => whnf)))
  refine awp_for tab_ok (fun k => ([J, S.c (C.ptr 0 0 0), J, J, J, J, S.c (C.t (placesT e.places)), intS .i64 e.places.length, intS .i64 k, J, J, J, J, J, J, J, J, J, J, J, J, J, J, J, J, J, J, J, J, J, J, J, J, J, J, J, J, J, J, J, J, J, J, J, J], [evB e])) e.places.length (fun k => (e.places.take k).all (placeOk e) = true) [some 0] rfl
    ⟨rfl, rfl, ⟨⟨rfl, rfl, rfl, .inl ⟨rfl, rowsT_ev e⟩⟩, trivial⟩, ⟨⟨rfl, rfl, rfl⟩, ent_t rfl, ent_i (by simp), ent_i rfl, trivial⟩⟩ ?_
  intro k hk hI
  conv => whnf
  (repeat' (first | ((refine DecB.mk (fun h => ?_) (fun h => ?_)) <;> first | (exfalso; omega) | (conv => whnf)) | ((refine BoolB.mk (fun h => ?_) (fun h => ?_)) <;> first | (exact absurd h (by decide)) | (conv => whnf)) | ((first | refine zzW ?_ | refine zzI ?_ | refine zzR ?_ | refine zzB ?_ | refine late_ok rfl rfl ?_ | refine src_ok rfl ?_ | refine LitB.data ?_ | refine BoxB.own ?_); conv => whnf)))
  · have hlt : k < e.places.length := by omega
    obtain ⟨x, hx⟩ : ∃ x, e.places[k]? = some x := ⟨_, List.getElem?_eq_getElem hlt⟩
    refine ex_row hx ?_
    conv => whnf
    (repeat' (first | ((refine DecB.mk (fun h => ?_) (fun h => ?_)) <;> first | (exfalso; omega) | (conv => whnf)) | ((refine BoolB.mk (fun h => ?_) (fun h => ?_)) <;> first | (exact absurd h (by decide)) | (conv => whnf)) | ((first | refine zzW ?_ | refine zzI ?_ | refine zzR ?_ | refine zzB ?_ | refine late_ok rfl rfl ?_ | refine src_ok rfl ?_ | refine .inl ⟨_, _, qcall_pure (a_index _ _) rfl rfl, ?_⟩ | refine LitB.data ?_ | refine BoxB.own ?_); conv => whnf)))
    all_goals first
      | (refine ⟨hlt, ?_, [some 0], rfl, rfl, ⟨⟨rfl, rfl, rfl, .inl ⟨rfl, rowsT_ev e⟩⟩, trivial⟩, ⟨⟨rfl, rfl, rfl⟩, rfl, rfl, rfl, trivial⟩⟩; rw [all_take_succ hx, hI]; simp_all [placeOk]; done)
      | (refine fin_bool ?_; rw [all_of_get hx]; simp_all [placeOk]; done)
  · refine fin_bool ?_
    rw [← hI, List.take_of_length_le (by omega)]

theorem place_get {e : Ev} {i : Int} (h : idx i e.places.length = true) : 0 ≤ i ∧ ∃ x, e.places[i.toNat]? = some x ∧ kindAt e i = x.kind := by
  have h' := idx_iff.1 h
  have hlt : i.toNat < e.places.length := by omega
  refine ⟨h'.1, _, List.getElem?_eq_getElem hlt, ?_⟩
  unfold kindAt
  rw [List.getElem?_eq_getElem hlt]; rfl

theorem a_move (e : Ev) (m : Move) (hs : e.Sized) : ACall Tryz.prog 49 [evS e, moveS m] [] (boolS (moveOk e m)) [] := by
  have l1 := hs.s1
  have l2 : (e.places.map Place.row).length = e.places.length := by simp
  by_cases h1 : idx m.src e.places.length = true
  · obtain ⟨hs0, x, hx, kx⟩ := place_get h1
    by_cases h2 : idx m.dst e.places.length = true
    · obtain ⟨hd0, y, hy, ky⟩ := place_get h2
      (refine acall_of tab_ok Tryz.func49 rfl (by decide) ?_; (conv => whnf); repeat (first | (refine LitB.data ?_; conv => whnf) | (refine BoxB.own ?_; conv => whnf)))
      rw [← l2] at h1 h2
      (repeat' (first | ((refine DecB.mk (fun h => ?_) (fun h => ?_)) <;> first | (exfalso; omega) | (conv => whnf)) | ((refine BoolB.mk (fun h => ?_) (fun h => ?_)) <;> first | (exact absurd h (by decide)) | (conv => whnf)) | ((first | refine zzW ?_ | refine zzI ?_ | refine zzR ?_ | refine zzB ?_ | refine late_ok rfl rfl ?_ | refine src_ok rfl ?_ | refine .inl ⟨_, _, qcall_pure (a_index _ _) rfl rfl, ?_⟩ | refine .inl ⟨_, _, qcall_pure (a_between _ _ _) rfl rfl, ?_⟩ | refine ex_rowI hs0 hx ?_ | refine ex_rowI hd0 hy ?_ | refine LitB.data ?_ | refine BoxB.own ?_); conv => whnf)))
      all_goals (refine fin_bool ?_; simp_all [moveOk]; done)
    · (refine acall_of tab_ok Tryz.func49 rfl (by decide) ?_; (conv => whnf); repeat (first | (refine LitB.data ?_; conv => whnf) | (refine BoxB.own ?_; conv => whnf)))
      rw [← l2] at h1 h2
      (repeat' (first | ((refine DecB.mk (fun h => ?_) (fun h => ?_)) <;> first | (exfalso; omega) | (conv => whnf)) | ((refine BoolB.mk (fun h => ?_) (fun h => ?_)) <;> first | (exact absurd h (by decide)) | (conv => whnf)) | ((first | refine zzW ?_ | refine zzI ?_ | refine zzR ?_ | refine zzB ?_ | refine late_ok rfl rfl ?_ | refine src_ok rfl ?_ | refine .inl ⟨_, _, qcall_pure (a_index _ _) rfl rfl, ?_⟩ | refine LitB.data ?_ | refine BoxB.own ?_); conv => whnf)))
      all_goals first | (exfalso; simp_all; done) | (refine fin_bool ?_; simp_all [moveOk]; done)
  · (refine acall_of tab_ok Tryz.func49 rfl (by decide) ?_; (conv => whnf); repeat (first | (refine LitB.data ?_; conv => whnf) | (refine BoxB.own ?_; conv => whnf)))
    rw [← l2] at h1
    (repeat' (first | ((refine DecB.mk (fun h => ?_) (fun h => ?_)) <;> first | (exfalso; omega) | (conv => whnf)) | ((refine BoolB.mk (fun h => ?_) (fun h => ?_)) <;> first | (exact absurd h (by decide)) | (conv => whnf)) | ((first | refine zzW ?_ | refine zzI ?_ | refine zzR ?_ | refine zzB ?_ | refine late_ok rfl rfl ?_ | refine src_ok rfl ?_ | refine .inl ⟨_, _, qcall_pure (a_index _ _) rfl rfl, ?_⟩ | refine LitB.data ?_ | refine BoxB.own ?_); conv => whnf)))
    all_goals first | (exfalso; simp_all; done) | (refine fin_bool ?_; simp_all [moveOk]; done)

theorem a_said (e : Ev) (hs : e.Sized) : ACall Tryz.prog 50 [evS e] [] (boolS (saidOk e)) [] := by
  have l1 := hs.s3
  have l2 : (e.certs.map Cert.row).length = e.certs.length := by simp
  have l3 := hs.s4
  have l4 : (e.recalls.map Recall.row).length = e.recalls.length := by simp
  have l5 := hs.s5
  have l6 : (e.purities.map Purity.row).length = e.purities.length := by simp
  have l7 := hs.s2
  have l8 : (e.moves.map Move.row).length = e.moves.length := by simp
  (refine acall_of tab_ok Tryz.func50 rfl (by decide) ?_; (conv => whnf); repeat (first | (refine LitB.data ?_; conv => whnf) | (refine BoxB.own ?_; conv => whnf)))
  refine awp_for tab_ok (fun k => ([J, S.c (C.ptr 0 0 0), J, J, J, J, J, J, J, J, J, S.c (C.t (certsT e.certs)), intS .i64 e.certs.length, intS .i64 k, J, J, J, J, J, J, J, J, J, J, J, J, J, J, J, J, J, J, J, J, J, J, J, J, J, J, J, J, J, J, J, J, J, J, J, J, J, J, J, J, J, J, J, J, J, J, J, J, J, J, J, J, J, J, J, J, J, J, J, J, J, J, J, J, J, J, J, J, J, J, J, J, J, J, J, J, J, J, J, J, J, J, J, J, J, J, J, J, J, J, J, J, J, J, J, J, J, J, J, J, J, J, J, J, J, J, J], [evB e])) e.certs.length (fun k => (e.certs.take k).all (certOk e) = true) [some 0] rfl
    ⟨rfl, rfl, ⟨⟨rfl, rfl, rfl, .inl ⟨rfl, rowsT_ev e⟩⟩, trivial⟩, ⟨⟨rfl, rfl, rfl⟩, ent_t rfl, ent_i (by simp), ent_i rfl, trivial⟩⟩ ?_
  intro k hk hI
  conv => whnf
  (repeat' (first | ((refine DecB.mk (fun h => ?_) (fun h => ?_)) <;> first | (exfalso; omega) | (conv => whnf)) | ((refine BoolB.mk (fun h => ?_) (fun h => ?_)) <;> first | (exact absurd h (by decide)) | (conv => whnf)) | ((first | refine zzW ?_ | refine zzI ?_ | refine zzR ?_ | refine zzB ?_ | refine late_ok rfl rfl ?_ | refine src_ok rfl ?_ | refine LitB.data ?_ | refine BoxB.own ?_); conv => whnf)))
  · have hlt : k < e.certs.length := by omega
    obtain ⟨x, hx⟩ : ∃ x, e.certs[k]? = some x := ⟨_, List.getElem?_eq_getElem hlt⟩
    refine ex_row hx ?_
    conv => whnf
    (repeat' (first | ((refine DecB.mk (fun h => ?_) (fun h => ?_)) <;> first | (exfalso; omega) | (conv => whnf)) | ((refine BoolB.mk (fun h => ?_) (fun h => ?_)) <;> first | (exact absurd h (by decide)) | (conv => whnf)) | ((first | refine zzW ?_ | refine zzI ?_ | refine zzR ?_ | refine zzB ?_ | refine late_ok rfl rfl ?_ | refine src_ok rfl ?_ | refine .inl ⟨_, _, qcall_pure (a_index _ _) rfl rfl, ?_⟩ | refine .inl ⟨_, _, qcall_pure (a_between _ _ _) rfl rfl, ?_⟩ | refine LitB.data ?_ | refine BoxB.own ?_); conv => whnf)))
    all_goals first
      | (refine ⟨hlt, ?_, [some 0], rfl, rfl, ⟨⟨rfl, rfl, rfl, .inl ⟨rfl, rowsT_ev e⟩⟩, trivial⟩, ⟨⟨rfl, rfl, rfl⟩, rfl, rfl, rfl, trivial⟩⟩; rw [all_take_succ hx, hI]; simp_all [certOk]; done)
      | (refine fin_bool ?_; rw [saidOk, all_of_get hx]; rfl; simp_all [certOk]; (try omega); done)
  · have hc : e.certs.all (certOk e) = true := by rw [← hI, List.take_of_length_le (by omega)]
    clear hI h hk
    refine awp_for tab_ok (fun k => ([J, S.c (C.ptr 0 0 0), J, J, J, J, J, J, J, J, J, J, J, J, J, J, J, J, J, J, J, J, J, J, J, J, J, J, J, J, J, J, J, J, J, J, J, J, J, J, J, J, J, J, J, J, J, J, J, J, J, J, J, J, J, J, J, J, J, J, J, J, S.c (C.t (recallsT e.recalls)), intS .i64 e.recalls.length, intS .i64 k, J, J, J, J, J, J, J, J, J, J, J, J, J, J, J, J, J, J, J, J, J, J, J, J, J, J, J, J, J, J, J, J, J, J, J, J, J, J, J, J, J, J, J, J, J, J, J, J, J, J, J, J, J, J, J, J], [evB e])) e.recalls.length (fun k => (e.recalls.take k).all (recallOk e) = true) [some 0] rfl
      ⟨rfl, rfl, ⟨⟨rfl, rfl, rfl, .inl ⟨rfl, rowsT_ev e⟩⟩, trivial⟩, ⟨⟨rfl, rfl, rfl⟩, ent_t rfl, ent_i (by simp), ent_i rfl, trivial⟩⟩ ?_
    intro k hk hI
    conv => whnf
    (repeat' (first | ((refine DecB.mk (fun h => ?_) (fun h => ?_)) <;> first | (exfalso; omega) | (conv => whnf)) | ((refine BoolB.mk (fun h => ?_) (fun h => ?_)) <;> first | (exact absurd h (by decide)) | (conv => whnf)) | ((first | refine zzW ?_ | refine zzI ?_ | refine zzR ?_ | refine zzB ?_ | refine late_ok rfl rfl ?_ | refine src_ok rfl ?_ | refine LitB.data ?_ | refine BoxB.own ?_); conv => whnf)))
    · have hlt : k < e.recalls.length := by omega
      obtain ⟨x, hx⟩ : ∃ x, e.recalls[k]? = some x := ⟨_, List.getElem?_eq_getElem hlt⟩
      refine ex_row hx ?_
      conv => whnf
      (repeat' (first | ((refine DecB.mk (fun h => ?_) (fun h => ?_)) <;> first | (exfalso; omega) | (conv => whnf)) | ((refine BoolB.mk (fun h => ?_) (fun h => ?_)) <;> first | (exact absurd h (by decide)) | (conv => whnf)) | ((first | refine zzW ?_ | refine zzI ?_ | refine zzR ?_ | refine zzB ?_ | refine late_ok rfl rfl ?_ | refine src_ok rfl ?_ | refine .inl ⟨_, _, qcall_pure (a_index _ _) rfl rfl, ?_⟩ | refine .inl ⟨_, _, qcall_pure (a_between _ _ _) rfl rfl, ?_⟩ | refine LitB.data ?_ | refine BoxB.own ?_); conv => whnf)))
      all_goals first
        | (refine ⟨hlt, ?_, [some 0], rfl, rfl, ⟨⟨rfl, rfl, rfl, .inl ⟨rfl, rowsT_ev e⟩⟩, trivial⟩, ⟨⟨rfl, rfl, rfl⟩, rfl, rfl, rfl, trivial⟩⟩; rw [all_take_succ hx, hI]; simp_all [recallOk]; done)
        | (refine fin_bool ?_; rw [saidOk, hc, all_of_get hx]; rfl; simp_all [recallOk]; done)
    · have hr : e.recalls.all (recallOk e) = true := by rw [← hI, List.take_of_length_le (by omega)]
      clear hI h hk
      refine awp_for tab_ok (fun k => ([J, S.c (C.ptr 0 0 0), J, J, J, J, J, J, J, J, J, J, J, J, J, J, J, J, J, J, J, J, J, J, J, J, J, J, J, J, J, J, J, J, J, J, J, J, J, J, J, J, J, J, J, J, J, J, J, J, J, J, J, J, J, J, J, J, J, J, J, J, J, J, J, J, J, J, J, J, J, J, J, J, J, J, J, J, J, J, J, J, S.c (C.t (puritiesT e.purities)), intS .i64 e.purities.length, intS .i64 k, J, J, J, J, J, J, J, J, J, J, J, J, J, J, J, J, J, J, J, J, J, J, J, J, J, J, J, J, J, J, J, J, J, J, J, J], [evB e])) e.purities.length (fun k => (e.purities.take k).all (purityOk e) = true) [some 0] rfl
        ⟨rfl, rfl, ⟨⟨rfl, rfl, rfl, .inl ⟨rfl, rowsT_ev e⟩⟩, trivial⟩, ⟨⟨rfl, rfl, rfl⟩, ent_t rfl, ent_i (by simp), ent_i rfl, trivial⟩⟩ ?_
      intro k hk hI
      conv => whnf
      (repeat' (first | ((refine DecB.mk (fun h => ?_) (fun h => ?_)) <;> first | (exfalso; omega) | (conv => whnf)) | ((refine BoolB.mk (fun h => ?_) (fun h => ?_)) <;> first | (exact absurd h (by decide)) | (conv => whnf)) | ((first | refine zzW ?_ | refine zzI ?_ | refine zzR ?_ | refine zzB ?_ | refine late_ok rfl rfl ?_ | refine src_ok rfl ?_ | refine LitB.data ?_ | refine BoxB.own ?_); conv => whnf)))
      · have hlt : k < e.purities.length := by omega
        obtain ⟨x, hx⟩ : ∃ x, e.purities[k]? = some x := ⟨_, List.getElem?_eq_getElem hlt⟩
        refine ex_row hx ?_
        conv => whnf
        (repeat' (first | ((refine DecB.mk (fun h => ?_) (fun h => ?_)) <;> first | (exfalso; omega) | (conv => whnf)) | ((refine BoolB.mk (fun h => ?_) (fun h => ?_)) <;> first | (exact absurd h (by decide)) | (conv => whnf)) | ((first | refine zzW ?_ | refine zzI ?_ | refine zzR ?_ | refine zzB ?_ | refine late_ok rfl rfl ?_ | refine src_ok rfl ?_ | refine .inl ⟨_, _, qcall_pure (a_index _ _) rfl rfl, ?_⟩ | refine .inl ⟨_, _, qcall_pure (a_between _ _ _) rfl rfl, ?_⟩ | refine LitB.data ?_ | refine BoxB.own ?_); conv => whnf)))
        all_goals first
          | (refine ⟨hlt, ?_, [some 0], rfl, rfl, ⟨⟨rfl, rfl, rfl, .inl ⟨rfl, rowsT_ev e⟩⟩, trivial⟩, ⟨⟨rfl, rfl, rfl⟩, rfl, rfl, rfl, trivial⟩⟩; rw [all_take_succ hx, hI]; simp_all [purityOk]; done)
          | (refine fin_bool ?_; rw [saidOk, hc, hr, all_of_get hx]; rfl; simp_all [purityOk]; (try omega); done)
      · have hp : e.purities.all (purityOk e) = true := by rw [← hI, List.take_of_length_le (by omega)]
        refine fin_bool ?_
        rw [saidOk, hc, hr, hp]; rfl
end Go.Proofs.YtfieodjihaodiaaGreat
/- Package flow: Check. -/
namespace Go.Proofs.YtfieodjihaodiaaGreat
open Go.RowKit
set_option linter.unusedVariables false
set_option linter.unusedSimpArgs false
set_option maxRecDepth 100000

def lastD (e : Ev) : Nat → Int
  | 0 => 0
  | k + 1 => ((e.moves[k]?).map (·.day)).getD 0
theorem lastD_succ {e : Ev} {k : Nat} {m : Move} (h : e.moves[k]? = some m) : lastD e (k + 1) = m.day := by simp [lastD, h]
theorem drop_get {α : Type} {l : List α} {k : Nat} {x : α} (h : l[k]? = some x) : l.drop k = x :: l.drop (k + 1) := by
  obtain ⟨h1, h2⟩ := List.getElem?_eq_some_iff.1 h
  rw [List.drop_eq_getElem_cons h1, h2]

theorem a_Check (e : Ev) (hs : e.Sized) : ACall Tryz.prog 25 [evS e] [] (intS .i64 (check e)) [] := by
  have l7 := hs.s2
  have l8 : (e.moves.map Move.row).length = e.moves.length := by simp
  (refine acall_of tab_ok Tryz.func25 rfl (by decide) ?_; (conv => whnf); repeat (first | (refine LitB.data ?_; conv => whnf) | (refine BoxB.own ?_; conv => whnf)))
  (repeat' (first | ((refine DecB.mk (fun h => ?_) (fun h => ?_)) <;> first | (exfalso; omega) | (conv => whnf)) | ((refine BoolB.mk (fun h => ?_) (fun h => ?_)) <;> first | (exact absurd h (by decide)) | (conv => whnf)) | ((first | refine zzW ?_ | refine zzI ?_ | refine zzR ?_ | refine zzB ?_ | refine late_ok rfl rfl ?_ | refine src_ok rfl ?_ | refine .inl ⟨_, _, qcall_pure (a_full _ hs) rfl rfl, ?_⟩ | refine .inl ⟨_, _, qcall_pure (a_places _ hs) rfl rfl, ?_⟩ | refine LitB.data ?_ | refine BoxB.own ?_); conv => whnf)))
  case refine_2.refine_2.refine_2.refine_2.refine_1 hf h1 h2 h3 =>
    have h4 := h
    clear h
    have hpre : ¬(e.mats < 1 ∨ e.hhs < 0 ∨ e.scs < 0 ∨ e.places.all (placeOk e) = false) := by
      rintro (h | h | h | h)
      · omega
      · omega
      · omega
      · rw [h4] at h; cases h
    have hck : check e = if movesErr e 0 e.moves ≠ 0 then movesErr e 0 e.moves else if saidOk e then 0 else 1 := by
      unfold check; rw [if_neg (by simp [hf]), if_neg hpre]
    refine awp_for tab_ok (fun k => ([J, S.c (C.ptr 0 0 0), J, intS .i64 (lastD e k), J, J, J, J, J, J, J, J, J, J, J, J, J, J, J, J, J, J, J, J, J, J, J, J, J, S.c (C.t (movesT e.moves)), intS .i64 e.moves.length, intS .i64 k, J, J, J, J, J, J, J, J, J, J, J, J, J, J, J, J, J, J, J, J, J, J], [evB e])) e.moves.length (fun k => movesErr e 0 e.moves = movesErr e (lastD e k) (e.moves.drop k)) [some 0] rfl
      ⟨rfl, rfl, ⟨⟨rfl, rfl, rfl, .inl ⟨rfl, rowsT_ev e⟩⟩, trivial⟩, ⟨⟨rfl, rfl, rfl⟩, ent_i rfl, ent_t rfl, ent_i (by simp), ent_i rfl, trivial⟩⟩ ?_
    intro k hk hI
    conv => whnf
    (repeat' (first | ((refine DecB.mk (fun h => ?_) (fun h => ?_)) <;> first | (exfalso; omega) | (conv => whnf)) | ((refine BoolB.mk (fun h => ?_) (fun h => ?_)) <;> first | (exact absurd h (by decide)) | (conv => whnf)) | ((first | refine zzW ?_ | refine zzI ?_ | refine zzR ?_ | refine zzB ?_ | refine late_ok rfl rfl ?_ | refine src_ok rfl ?_ | refine LitB.data ?_ | refine BoxB.own ?_); conv => whnf)))
    · have hlt : k < e.moves.length := by omega
      obtain ⟨x, hx⟩ : ∃ x, e.moves[k]? = some x := ⟨_, List.getElem?_eq_getElem hlt⟩
      rw [drop_get hx, movesErr] at hI
      refine ex_row hx ?_
      conv => whnf
      (repeat' (first | ((refine DecB.mk (fun h => ?_) (fun h => ?_)) <;> first | (exfalso; omega) | (conv => whnf)) | ((refine BoolB.mk (fun h => ?_) (fun h => ?_)) <;> first | (exact absurd h (by decide)) | (conv => whnf)) | ((first | refine zzW ?_ | refine zzI ?_ | refine zzR ?_ | refine zzB ?_ | refine late_ok rfl rfl ?_ | refine src_ok rfl ?_ | refine .inl ⟨_, _, qcall_pure (a_move _ x hs) rfl rfl, ?_⟩ | refine LitB.data ?_ | refine BoxB.own ?_); conv => whnf)))
      all_goals first
        | (refine ⟨hlt, ?_, [some 0], rfl, rfl, ⟨⟨rfl, rfl, rfl, .inl ⟨rfl, rowsT_ev e⟩⟩, trivial⟩, ⟨⟨rfl, rfl, rfl⟩, ?_, rfl, rfl, rfl, trivial⟩⟩
           · rw [lastD_succ hx, hI, if_neg (by omega), if_pos (by assumption)]
           · rw [lastD_succ hx]; exact rfl)
        | (have e1 : movesErr e 0 e.moves = 17 := by rw [hI, if_pos (by omega)]
           refine fin_int ?_; rw [hck, e1]; rfl)
        | (have e1 : movesErr e 0 e.moves = 1 := by rw [hI, if_neg (by omega), if_neg (by simp_all)]
           refine fin_int ?_; rw [hck, e1]; rfl)
    · rw [List.drop_eq_nil_of_le (by omega), movesErr] at hI
      (repeat' (first | ((refine DecB.mk (fun h => ?_) (fun h => ?_)) <;> first | (exfalso; omega) | (conv => whnf)) | ((refine BoolB.mk (fun h => ?_) (fun h => ?_)) <;> first | (exact absurd h (by decide)) | (conv => whnf)) | ((first | refine zzW ?_ | refine zzI ?_ | refine zzR ?_ | refine zzB ?_ | refine late_ok rfl rfl ?_ | refine src_ok rfl ?_ | refine .inl ⟨_, _, qcall_pure (a_said _ hs) rfl rfl, ?_⟩ | refine LitB.data ?_ | refine BoxB.own ?_); conv => whnf)))
      all_goals (refine fin_int ?_; rw [hck, hI]; simp_all)
  all_goals (refine fin_int ?_; unfold check; simp_all; try omega)
end Go.Proofs.YtfieodjihaodiaaGreat
/- Digits of base 2^20, integers of any size and fractions: plain laws. No program is in sight. -/
namespace Go.Proofs.YtfieodjihaodiaaGreat
set_option linter.unusedVariables false
abbrev Bs : Int := 1048576
def val : List Int → Int
  | [] => 0
  | d :: r => d + 1048576 * val r
def Okd (l : List Int) : Prop := ∀ d ∈ l, 0 ≤ d ∧ d < 1048576
def dgF : Nat → Nat → List Int
  | 0, _ => []
  | f + 1, n => if n = 0 then [] else ((n % 1048576 : Nat) : Int) :: dgF f (n / 1048576)
def dg (n : Nat) : List Int := dgF n n
def pw (i : Nat) : Int := 1048576 ^ i
theorem pw_zero : pw 0 = 1 := rfl
theorem pw_succ (i : Nat) : pw (i + 1) = pw i * 1048576 := Int.pow_succ ..
theorem pw_pos (i : Nat) : 0 < pw i := Int.pow_pos (by decide)
theorem pw_add (i j : Nat) : pw (i + j) = pw i * pw j := Int.pow_add ..
theorem pw_mono {i j : Nat} (h : i ≤ j) : pw i ≤ pw j := by
  obtain ⟨k, rfl⟩ := Nat.exists_eq_add_of_le h
  rw [pw_add]
  have h1 := pw_pos i
  have h2 := pw_pos k
  have := Int.mul_le_mul_of_nonneg_left (a := 1) (b := pw k) (c := pw i) (by omega) (by omega)
  omega
theorem Okd.nil : Okd [] := fun _ h => nomatch h
theorem Okd.cons {d : Int} {l : List Int} (h1 : 0 ≤ d ∧ d < 1048576) (h2 : Okd l) : Okd (d :: l) := by
  intro x hx
  rcases List.mem_cons.1 hx with rfl | hx
  · exact h1
  · exact h2 x hx
theorem Okd.head {d : Int} {l : List Int} (h : Okd (d :: l)) : 0 ≤ d ∧ d < 1048576 := h d (by simp)
theorem Okd.tail {d : Int} {l : List Int} (h : Okd (d :: l)) : Okd l := fun x hx => h x (by simp [hx])
theorem Okd.take {l : List Int} (h : Okd l) (n : Nat) : Okd (l.take n) := fun x hx => h x (List.mem_of_mem_take hx)
theorem Okd.drop {l : List Int} (h : Okd l) (n : Nat) : Okd (l.drop n) := fun x hx => h x (List.mem_of_mem_drop hx)
theorem Okd.append {a b : List Int} (h : Okd a) (h2 : Okd b) : Okd (a ++ b) := fun x hx => by
  rcases List.mem_append.1 hx with hx | hx
  · exact h x hx
  · exact h2 x hx
theorem Okd.set {l : List Int} (h : Okd l) {i : Nat} {x : Int} (hx : 0 ≤ x ∧ x < 1048576) : Okd (l.set i x) := fun y hy => by
  rcases List.mem_or_eq_of_mem_set hy with hy | rfl
  · exact h y hy
  · exact hx
theorem Okd.get {l : List Int} (h : Okd l) {i : Nat} {x : Int} (hx : l[i]? = some x) : 0 ≤ x ∧ x < 1048576 := h x (List.mem_of_getElem? hx)
theorem Okd.zeros (n : Nat) : Okd (List.replicate n 0) := fun x hx => by rw [List.eq_of_mem_replicate hx]; decide
theorem val_nonneg {l : List Int} (h : Okd l) : 0 ≤ val l := by
  induction l with
  | nil => simp [val]
  | cons d l ih => have := ih h.tail; have := h.head; simp only [val]; omega
theorem val_lt {l : List Int} (h : Okd l) : val l < pw l.length := by
  induction l with
  | nil => simp [val, pw]
  | cons d l ih =>
    have := ih h.tail; have := h.head
    simp only [val, List.length_cons, pw_succ]; omega
theorem val_append (a b : List Int) : val (a ++ b) = val a + pw a.length * val b := by
  induction a with
  | nil => simp [val, pw]
  | cons d a ih => simp only [List.cons_append, val, ih, List.length_cons, pw_succ]; grind
theorem val_zeros (n : Nat) : val (List.replicate n 0) = 0 := by
  induction n with
  | zero => rfl
  | succ n ih => simp [List.replicate_succ, val, ih]
theorem val_split (l : List Int) (i : Nat) (h : i ≤ l.length) : val l = val (l.take i) + pw i * val (l.drop i) := by
  have := val_append (l.take i) (l.drop i)
  rw [List.take_append_drop] at this
  rw [this]
  rw [List.length_take, Nat.min_eq_left h]
theorem val_take_succ {l : List Int} {i : Nat} {x : Int} (h : l[i]? = some x) : val (l.take (i + 1)) = val (l.take i) + pw i * x := by
  have hi : i < l.length := by
    rcases Nat.lt_or_ge i l.length with h1 | h1
    · exact h1
    · rw [List.getElem?_eq_none h1] at h; cases h
  rw [List.take_add_one, h, val_append, List.length_take, Nat.min_eq_left (by omega)]
  simp [val]
theorem val_drop_at {l : List Int} {i : Nat} {x : Int} (h : l[i]? = some x) : val (l.drop i) = x + 1048576 * val (l.drop (i + 1)) := by
  have hi : i < l.length := by
    rcases Nat.lt_or_ge i l.length with h1 | h1
    · exact h1
    · rw [List.getElem?_eq_none h1] at h; cases h
  rw [List.drop_eq_getElem_cons hi]
  rw [List.getElem?_eq_getElem hi] at h
  injection h with h
  rw [h]; rfl
theorem val_set {l : List Int} {i : Nat} {x y : Int} (h : l[i]? = some y) : val (l.set i x) = val l + pw i * (x - y) := by
  induction l generalizing i with
  | nil => simp at h
  | cons d l ih =>
    cases i with
    | zero =>
      simp only [List.getElem?_cons_zero, Option.some.injEq] at h
      subst h
      simp [val, pw]; omega
    | succ i =>
      simp only [List.getElem?_cons_succ] at h
      simp only [List.set_cons_succ, val, ih h, pw_succ]; grind
theorem dgF_fuel (f n : Nat) (h : n ≤ f) : dgF f n = dg n := by
  unfold dg
  induction f using Nat.strongRecOn generalizing n with
  | ind f ih =>
    cases f with
    | zero => cases Nat.le_zero.1 h; rfl
    | succ f =>
      cases n with
      | zero => rfl
      | succ n =>
        simp only [dgF, Nat.succ_ne_zero, if_false]
        rw [ih f (by omega) _ (by omega), ih n (by omega) _ (by omega)]
theorem dg_zero : dg 0 = [] := rfl
theorem dg_pos {n : Nat} (h : 0 < n) : dg n = ((n % 1048576 : Nat) : Int) :: dg (n / 1048576) := by
  obtain ⟨m, rfl⟩ : ∃ m, n = m + 1 := ⟨n - 1, by omega⟩
  show dgF (m + 1) (m + 1) = _
  simp only [dgF, Nat.succ_ne_zero, if_false]
  rw [dgF_fuel _ _ (by omega)]
theorem dg_ind {P : Nat → Prop} (h0 : P 0) (h : ∀ n, 0 < n → P (n / 1048576) → P n) (n : Nat) : P n := by
  induction n using Nat.strongRecOn with
  | ind n ih =>
    rcases Nat.eq_zero_or_pos n with rfl | hn
    · exact h0
    · exact h n hn (ih _ (by omega))
theorem val_dg (n : Nat) : val (dg n) = n := by
  induction n using dg_ind with
  | h0 => rfl
  | h n hn ih => rw [dg_pos hn, val, ih]; omega
theorem okd_dg (n : Nat) : Okd (dg n) := by
  induction n using dg_ind with
  | h0 => exact .nil
  | h n hn ih => rw [dg_pos hn]; exact .cons (by omega) ih
theorem dg_eq_nil {n : Nat} : dg n = [] ↔ n = 0 := by
  constructor
  · intro h
    have := val_dg n
    rw [h] at this
    simp only [val] at this; omega
  · rintro rfl; rfl
def trimL : List Int → List Int
  | [] => []
  | d :: r => if trimL r = [] ∧ d = 0 then [] else d :: trimL r
theorem trimL_dg {l : List Int} (h : Okd l) : trimL l = dg (val l).toNat := by
  induction l with
  | nil => rfl
  | cons d l ih =>
    have h0 := val_nonneg h.tail
    have h1 := h.head
    have hv : (val (d :: l)).toNat = d.toNat + 1048576 * (val l).toNat := by simp only [val]; omega
    rw [trimL, ih h.tail, hv]
    split
    · rename_i hc
      have := dg_eq_nil.1 hc.1
      rw [this, hc.2]; rfl
    · rename_i hc
      rw [dg_pos (n := d.toNat + 1048576 * (val l).toNat)]
      · congr 1
        · omega
        · congr 1; omega
      · rcases Nat.eq_zero_or_pos (val l).toNat with h2 | h2
        · have : d ≠ 0 := fun h3 => hc ⟨by rw [h2]; rfl, h3⟩
          omega
        · omega
theorem trimL_take {l : List Int} {n : Nat} (h1 : ∀ j x, n ≤ j → l[j]? = some x → x = 0) (h2 : ∀ x, 0 < n → l[n-1]? = some x → x ≠ 0) (hn : n ≤ l.length) : l.take n = trimL l := by
  induction l generalizing n with
  | nil => simp [trimL]
  | cons d l ih =>
    cases n with
    | zero =>
      have ht : trimL l = [] := by
        rw [← ih (n := 0) (fun j x _ hx => h1 (j + 1) x (by omega) (by simpa using hx)) (fun x h => absurd h (by omega)) (by omega)]; rfl
      have hd : d = 0 := h1 0 d (by omega) (by simp)
      simp [trimL, ht, hd]
    | succ n =>
      have ht : trimL l = l.take n := by
        refine (ih (n := n) (fun j x hj hx => h1 (j + 1) x (by omega) (by simpa using hx)) (fun x h hx => h2 x (by omega) ?_) (by simpa using hn)).symm
        obtain ⟨m, rfl⟩ : ∃ m, n = m + 1 := ⟨n - 1, by omega⟩
        simpa using hx
      rw [trimL, ht, List.take_succ_cons, if_neg]
      rintro ⟨h3, h4⟩
      have hn0 : n = 0 := by
        rcases Nat.eq_zero_or_pos n with h5 | h5
        · exact h5
        · have := congrArg List.length h3
          simp only [List.length_take, List.length_nil, List.length_cons] at this hn
          omega
      subst hn0
      exact h2 d (by omega) (by simp) h4
theorem dg_len_le {n k : Nat} (h : (n : Int) < pw k) : (dg n).length ≤ k := by
  induction k generalizing n with
  | zero => have : n = 0 := by simp [pw] at h; omega
            subst this; simp [dg_zero]
  | succ k ih =>
    rcases Nat.eq_zero_or_pos n with rfl | hn
    · simp [dg_zero]
    · rw [dg_pos hn]
      rw [pw_succ] at h
      have := ih (n := n / 1048576) (by omega)
      simp; omega
theorem dg_last {n : Nat} (h : 0 < n) : pw ((dg n).length - 1) ≤ n := by
  induction n using dg_ind with
  | h0 => omega
  | h n hn ih =>
    rw [dg_pos hn]
    rcases Nat.eq_zero_or_pos (n / 1048576) with h1 | h1
    · rw [h1, dg_zero]
      simp [pw]; omega
    · have h2 := ih h1
      have : (dg (n / 1048576)).length ≠ 0 := by rw [Ne, List.length_eq_zero_iff, dg_eq_nil]; omega
      obtain ⟨m, hm⟩ : ∃ m, (dg (n / 1048576)).length = m + 1 := ⟨(dg (n / 1048576)).length - 1, by omega⟩
      rw [hm] at h2
      rw [List.length_cons, hm]
      simp only [Nat.add_sub_cancel] at h2 ⊢
      rw [pw_succ]; omega
theorem dg_lt_pw (n : Nat) : (n : Int) < pw (dg n).length := by
  have := val_lt (okd_dg n); rw [val_dg] at this; exact this
theorem dg_len_mono {m n : Nat} (h : m ≤ n) : (dg m).length ≤ (dg n).length := dg_len_le (by have := dg_lt_pw n; omega)
theorem dg_lt_of_len {m n : Nat} (h : (dg m).length < (dg n).length) : m < n := by
  rcases Nat.lt_or_ge m n with h1 | h1
  · exact h1
  · have := dg_len_mono h1; omega
/-- a list of digits is canonical -/
def Can (l : List Int) : Prop := Okd l ∧ ∀ x, l[l.length - 1]? = some x → x ≠ 0
theorem can_dg {l : List Int} (h : Can l) : l = dg (val l).toNat := by
  rw [← trimL_dg h.1]
  have := trimL_take (l := l) (n := l.length) (fun j x hj hx => by rw [List.getElem?_eq_none hj] at hx; cases hx) (fun x _ hx => h.2 x hx) (Nat.le_refl _)
  rw [List.take_length] at this
  exact this
theorem dg_can (n : Nat) : Can (dg n) := by
  refine ⟨okd_dg n, fun x hx h0 => ?_⟩
  subst h0
  have hl : 0 < (dg n).length := by
    rcases Nat.eq_zero_or_pos (dg n).length with h | h
    · rw [List.length_eq_zero_iff.1 h] at hx; simp at hx
    · exact h
  have hp : 0 < n := by
    rcases Nat.eq_zero_or_pos n with rfl | h
    · simp [dg_zero] at hl
    · exact h
  have h1 := dg_last hp
  have h2 := val_take_succ hx
  rw [show (dg n).length - 1 + 1 = (dg n).length by omega, List.take_length, val_dg] at h2
  have h3 := val_lt ((okd_dg n).take ((dg n).length - 1))
  rw [List.length_take, Nat.min_eq_left (by omega)] at h3
  omega
/-- lists of digits compare from the top -/
theorem val_cmp_top {a b : List Int} (ha : Okd a) (hb : Okd b) (hl : a.length = b.length) {i : Nat} {x y : Int} (hx : a[i]? = some x) (hy : b[i]? = some y)
    (hd : a.drop (i + 1) = b.drop (i + 1)) (h : x < y) : val a < val b := by
  have hi : i < a.length := by
    rcases Nat.lt_or_ge i a.length with h1 | h1
    · exact h1
    · rw [List.getElem?_eq_none h1] at hx; cases hx
  have e1 := val_split a i (by omega)
  have e2 := val_split b i (by omega)
  rw [val_drop_at hx] at e1
  rw [val_drop_at hy] at e2
  rw [hd] at e1
  have h1 := val_lt (ha.take i)
  rw [List.length_take, Nat.min_eq_left (by omega)] at h1
  have h2 := val_nonneg (hb.take i)
  have h3 := pw_pos i
  have h4 : pw i * (x + 1048576 * val (b.drop (i + 1))) + pw i ≤ pw i * (y + 1048576 * val (b.drop (i + 1))) := by
    have := Int.mul_le_mul_of_nonneg_left (a := x + 1048576 * val (b.drop (i + 1)) + 1) (b := y + 1048576 * val (b.drop (i + 1))) (c := pw i) (by omega) (by omega)
    rw [Int.mul_add (pw i) _ 1] at this
    omega
  omega

/-- a digit of a list, or 0 -/
def dat (l : List Int) (i : Nat) : Int := l.getD i 0
theorem dat_some {l : List Int} {i : Nat} {x : Int} (h : l[i]? = some x) : dat l i = x := by unfold dat; rw [List.getD_eq_getElem?_getD, h]; rfl
theorem dat_none {l : List Int} {i : Nat} (h : l.length ≤ i) : dat l i = 0 := by unfold dat; rw [List.getD_eq_getElem?_getD, List.getElem?_eq_none h]; rfl
theorem Okd.dat {l : List Int} (h : Okd l) (i : Nat) : 0 ≤ dat l i ∧ dat l i < 1048576 := by
  rcases Nat.lt_or_ge i l.length with h1 | h1
  · rw [dat_some (List.getElem?_eq_getElem h1)]
    exact h _ (List.getElem_mem h1)
  · rw [dat_none h1]; decide
theorem val_take_dat (l : List Int) (i : Nat) : val (l.take (i + 1)) = val (l.take i) + pw i * dat l i := by
  rcases Nat.lt_or_ge i l.length with h1 | h1
  · rw [dat_some (List.getElem?_eq_getElem h1)]
    exact val_take_succ (List.getElem?_eq_getElem h1)
  · rw [dat_none h1, List.take_of_length_le (by omega), List.take_of_length_le (by omega)]; simp
theorem mod_rng (n : Int) : 0 ≤ n % 1048576 ∧ n % 1048576 < 1048576 := by omega

/-- add's loop -/
structure AddI (a b : List Int) (i : Nat) (out : List Int) (c : Int) : Prop where
  len : out.length = a.length + 1
  ok : Okd out
  le : i ≤ a.length
  zero : ∀ j, i ≤ j → dat out j = 0
  c0 : 0 ≤ c
  c1 : c ≤ 1
  eq : val out + pw i * c = val (a.take i) + val (b.take i)
theorem AddI.init (a b : List Int) : AddI a b 0 (List.replicate (a.length + 1) 0) 0 :=
  ⟨by simp, .zeros _, Nat.zero_le _, fun j _ => by unfold dat; rw [List.getD_eq_getElem?_getD, List.getElem?_replicate]; split <;> rfl, by decide, by decide, by rw [val_zeros]; simp [val]⟩
theorem dat_set {l : List Int} {i j : Nat} {x : Int} (h : i ≠ j) : dat (l.set i x) j = dat l j := by
  unfold dat; rw [List.getD_eq_getElem?_getD, List.getD_eq_getElem?_getD, List.getElem?_set_ne h]
theorem val_set0 {l : List Int} {i : Nat} {x : Int} (hi : i < l.length) : val (l.set i x) = val l + pw i * (x - dat l i) := by
  rw [dat_some (List.getElem?_eq_getElem hi)]; exact val_set (List.getElem?_eq_getElem hi)
theorem AddI.step {a b out : List Int} {i : Nat} {c : Int} (h : AddI a b i out c) (ha : Okd a) (hb : Okd b) (hi : i < a.length) :
    AddI a b (i + 1) (out.set i ((c + dat a i + dat b i) % 1048576)) ((c + dat a i + dat b i) / 1048576) := by
  have h1 := ha.dat i
  have h2 := hb.dat i
  have h3 := h.c0
  have h4 := h.c1
  have hl := h.len
  refine ⟨by simp [hl], h.ok.set (mod_rng _), hi, fun j hj => ?_, by omega, by omega, ?_⟩
  · rw [dat_set (by omega)]; exact h.zero j (by omega)
  · rw [val_set0 (by omega), h.zero i (Nat.le_refl _), val_take_dat, val_take_dat, pw_succ]
    have h5 := h.eq
    have h6 : (c + dat a i + dat b i) % 1048576 = c + dat a i + dat b i - 1048576 * ((c + dat a i + dat b i) / 1048576) := by omega
    rw [h6]
    grind
theorem AddI.fin {a b out : List Int} {c : Int} (h : AddI a b a.length out c) (hl : b.length ≤ a.length) : trimL (out.set a.length c) = dg (val a + val b).toNat := by
  have h1 := h.c0
  have h2 := h.c1
  have h3 := h.eq
  have hl := h.len
  rw [trimL_dg (h.ok.set (by omega)), val_set0 (by omega), h.zero _ (Nat.le_refl _)]
  rw [List.take_length, List.take_of_length_le (by omega)] at h3
  congr 2
  grind

/-- sub's loop -/
structure SubI (a b : List Int) (i : Nat) (out : List Int) (c : Int) : Prop where
  len : out.length = a.length
  ok : Okd out
  le : i ≤ a.length
  rest : ∀ j, i ≤ j → dat out j = dat a j
  c0 : 0 ≤ c
  c1 : c ≤ 1
  eq : val out - pw i * c = val a - val (b.take i)
theorem SubI.init {a b : List Int} (ha : Okd a) : SubI a b 0 a 0 := ⟨rfl, ha, Nat.zero_le _, fun _ _ => rfl, by decide, by decide, by simp [val]⟩
theorem SubI.step {a b out : List Int} {i : Nat} {c : Int} (h : SubI a b i out c) (ha : Okd a) (hb : Okd b) (hi : i < a.length) :
    SubI a b (i + 1) (out.set i ((dat out i - c - dat b i) % 1048576)) ((dat out i - c - dat b i) / 1048576 % 2) := by
  have h1 := h.ok.dat i
  have h2 := hb.dat i
  have h3 := h.c0
  have h4 := h.c1
  have hl := h.len
  refine ⟨by simp [hl], h.ok.set (mod_rng _), hi, fun j hj => ?_, by omega, by omega, ?_⟩
  · rw [dat_set (by omega)]; exact h.rest j (by omega)
  · rw [val_set0 (by omega), val_take_dat, pw_succ]
    have h5 := h.eq
    have h6 : (dat out i - c - dat b i) % 1048576 = dat out i - c - dat b i + 1048576 * ((dat out i - c - dat b i) / 1048576 % 2) := by omega
    rw [h6]
    grind
theorem SubI.fin {a b out : List Int} {c : Int} (h : SubI a b a.length out c) (hl : b.length ≤ a.length) (hv : val b ≤ val a) : trimL out = dg (val a - val b).toNat := by
  have h1 := h.c0
  have h2 := h.c1
  have h3 := h.eq
  have hlen := h.len
  rw [List.take_of_length_le (by omega)] at h3
  have h4 := val_lt h.ok
  rw [hlen] at h4
  rw [trimL_dg h.ok]
  rcases Int.lt_or_le 0 c with h5 | h5
  · have : c = 1 := by omega
    subst this; omega
  · have : c = 0 := by omega
    subst this
    congr 2; omega

/-- mul's inner loop: i digits of a done, k digits of b for the next one -/
structure MulK (a b : List Int) (i k : Nat) (out : List Int) (c : Int) : Prop where
  len : out.length = a.length + b.length
  ok : Okd out
  le : k ≤ b.length
  zero : ∀ j, i + b.length ≤ j → dat out j = 0
  c0 : 0 ≤ c
  c1 : c < 1048576
  eq : val out + pw (i + k) * c = val (a.take i) * val b + pw i * dat a i * val (b.take k)
structure MulI (a b : List Int) (i : Nat) (out : List Int) : Prop where
  len : out.length = a.length + b.length
  ok : Okd out
  le : i ≤ a.length
  zero : ∀ j, i + b.length ≤ j → dat out j = 0
  eq : val out = val (a.take i) * val b
theorem MulI.init (a b : List Int) : MulI a b 0 (List.replicate (a.length + b.length) 0) :=
  ⟨by simp, .zeros _, Nat.zero_le _, fun j _ => by unfold dat; rw [List.getD_eq_getElem?_getD, List.getElem?_replicate]; split <;> rfl, by rw [val_zeros]; simp [val]⟩
theorem MulI.start {a b out : List Int} {i : Nat} (h : MulI a b i out) : MulK a b i 0 out 0 :=
  ⟨h.len, h.ok, Nat.zero_le _, h.zero, by decide, by decide, by rw [h.eq]; simp [val]⟩
theorem mul_rng {x y : Int} (hx : 0 ≤ x ∧ x < 1048576) (hy : 0 ≤ y ∧ y < 1048576) : 0 ≤ x * y ∧ x * y ≤ 1048575 * 1048575 :=
  ⟨Int.mul_nonneg hx.1 hy.1, Int.mul_le_mul (by omega) (by omega) hy.1 (by decide)⟩
theorem MulK.step {a b out : List Int} {i k : Nat} {c : Int} (h : MulK a b i k out c) (ha : Okd a) (hb : Okd b) (hi : i < a.length) (hk : k < b.length) :
    MulK a b i (k + 1) (out.set (i + k) ((dat out (i + k) + dat a i * dat b k + c) % 1048576)) ((dat out (i + k) + dat a i * dat b k + c) / 1048576) := by
  have h1 := h.ok.dat (i + k)
  have h2 := mul_rng (ha.dat i) (hb.dat k)
  have h3 := h.c0
  have h4 := h.c1
  have hl := h.len
  refine ⟨by simp [hl], h.ok.set (mod_rng _), hk, fun j hj => ?_, by omega, by omega, ?_⟩
  · rw [dat_set (by omega)]; exact h.zero j (by omega)
  · rw [val_set0 (by omega), val_take_dat, show i + (k + 1) = i + k + 1 by omega, pw_succ]
    have h5 := h.eq
    have h6 : (dat out (i + k) + dat a i * dat b k + c) % 1048576 = dat out (i + k) + dat a i * dat b k + c - 1048576 * ((dat out (i + k) + dat a i * dat b k + c) / 1048576) := by omega
    rw [h6]
    have h7 := pw_add i k
    grind
theorem MulK.done {a b out : List Int} {i : Nat} {c : Int} (h : MulK a b i b.length out c) (ha : Okd a) (hb : Okd b) (hi : i < a.length) :
    MulI a b (i + 1) (out.set (i + b.length) (dat out (i + b.length) + c)) := by
  have h3 := h.c0
  have h4 := h.c1
  have hl := h.len
  have h8 := h.zero _ (Nat.le_refl _)
  refine ⟨by simp [hl], h.ok.set (by omega), hi, fun j hj => ?_, ?_⟩
  · rw [dat_set (by omega)]; exact h.zero j (by omega)
  · rw [val_set0 (by omega), val_take_dat]
    have h5 := h.eq
    rw [List.take_length] at h5
    grind
theorem MulI.fin {a b out : List Int} (h : MulI a b a.length out) : trimL out = dg (val a * val b).toNat := by
  rw [trimL_dg h.ok, h.eq, List.take_length]

/-- short's loop: j digits remain -/
structure ShortI (a : List Int) (d : Int) (j : Nat) (out : List Int) (r : Int) : Prop where
  len : out.length = a.length
  ok : Okd out
  le : j ≤ a.length
  r0 : 0 ≤ r
  r1 : r < d
  eq : val (a.drop j) = d * val (out.drop j) + r
theorem ShortI.init (a : List Int) {d : Int} (hd : 0 < d) : ShortI a d a.length (List.replicate a.length 0) 0 :=
  ⟨by simp, .zeros _, Nat.le_refl _, by decide, hd, by simp [val]⟩
theorem drop_dat {l : List Int} {i : Nat} (h : i < l.length) : val (l.drop i) = dat l i + 1048576 * val (l.drop (i + 1)) := by
  rw [dat_some (List.getElem?_eq_getElem h)]; exact val_drop_at (List.getElem?_eq_getElem h)
theorem dat_set_same {l : List Int} {i : Nat} {x : Int} (h : i < l.length) : dat (l.set i x) i = x := by
  unfold dat; rw [List.getD_eq_getElem?_getD, List.getElem?_set_self h]; rfl
theorem ShortI.step {a out : List Int} {d r : Int} {j : Nat} (h : ShortI a d (j + 1) out r) (ha : Okd a) (hd : 0 < d) :
    ShortI a d j (out.set j ((r * 1048576 + dat a j) / d)) ((r * 1048576 + dat a j) % d) := by
  have h1 := ha.dat j
  have h3 := h.r0
  have h4 := h.r1
  have hl := h.len
  have hle := h.le
  have h6 : 0 ≤ (r * 1048576 + dat a j) / d := Int.ediv_nonneg (by omega) (by omega)
  have h7 : (r * 1048576 + dat a j) / d < 1048576 := by
    apply Int.ediv_lt_of_lt_mul hd
    have := Int.mul_le_mul_of_nonneg_left (a := r + 1) (b := d) (c := 1048576) (by omega) (by omega)
    omega
  refine ⟨by simp [hl], h.ok.set ⟨h6, h7⟩, by omega, Int.emod_nonneg _ (by omega), Int.emod_lt_of_pos _ hd, ?_⟩
  rw [drop_dat (by omega), drop_dat (l := out.set j _) (by simp; omega), dat_set_same (by omega), List.drop_set_of_lt (by omega), h.eq]
  have h8 := Int.emod_add_mul_ediv (r * 1048576 + dat a j) d
  grind
theorem ShortI.fin {a out : List Int} {d r : Int} (h : ShortI a d 0 out r) (ha : Okd a) (hd : 0 < d) : trimL out = dg (val a / d).toNat ∧ r = val a % d := by
  have h3 := h.r0
  have h4 := h.r1
  have h5 := h.eq
  simp only [List.drop_zero] at h5
  rw [trimL_dg h.ok]
  have e1 : val a / d = val out := by rw [h5]; rw [Int.add_comm, Int.add_mul_ediv_left _ _ (by omega), Int.ediv_eq_zero_of_lt h3 h4]; omega
  have e2 : val a % d = r := by rw [h5, Int.add_comm, Int.add_mul_emod_self_left, Int.emod_eq_of_lt h3 h4]
  exact ⟨by rw [e1], e2.symm⟩

/-- settle's first loop: a window of digits, from which a multiple is taken -/
structure SetI (w v : List Int) (g : Int) (i : Nat) (out : List Int) (c : Int) : Prop where
  len : out.length = w.length
  ok : Okd out
  le : i ≤ w.length
  rest : ∀ j, i ≤ j → dat out j = dat w j
  c0 : 0 ≤ c
  c1 : c < 1048576
  eq : val out - pw i * c = val w - g * val (v.take i)
theorem SetI.init {w v : List Int} (g : Int) (hw : Okd w) : SetI w v g 0 w 0 := ⟨rfl, hw, Nat.zero_le _, fun _ _ => rfl, by decide, by decide, by simp [val]⟩
theorem SetI.step {w v out : List Int} {g : Int} {i : Nat} {c : Int} (h : SetI w v g i out c) (hv : Okd v) (hg : 0 ≤ g ∧ g < 1048576) (hi : i < w.length) :
    SetI w v g (i + 1) (out.set i ((dat out i - c - g * dat v i) % 1048576)) (-((dat out i - c - g * dat v i) / 1048576)) := by
  have h1 := h.ok.dat i
  have h2 := mul_rng hg (hv.dat i)
  have h3 := h.c0
  have h4 := h.c1
  have hl := h.len
  refine ⟨by simp [hl], h.ok.set (mod_rng _), hi, fun j hj => ?_, by omega, by omega, ?_⟩
  · rw [dat_set (by omega)]; exact h.rest j (by omega)
  · rw [val_set0 (by omega), val_take_dat, pw_succ]
    have h5 := h.eq
    have h6 : (dat out i - c - g * dat v i) % 1048576 = dat out i - c - g * dat v i - 1048576 * ((dat out i - c - g * dat v i) / 1048576) := by omega
    rw [h6]
    grind
/-- its second loop: the digits are added back -/
structure BackI (w v : List Int) (i : Nat) (out : List Int) (c : Int) : Prop where
  len : out.length = w.length
  ok : Okd out
  le : i ≤ w.length
  rest : ∀ j, i ≤ j → dat out j = dat w j
  c0 : 0 ≤ c
  c1 : c ≤ 1
  eq : val out + pw i * c = val w + val (v.take i)
theorem BackI.init {w v : List Int} (hw : Okd w) : BackI w v 0 w 0 := ⟨rfl, hw, Nat.zero_le _, fun _ _ => rfl, by decide, by decide, by simp [val]⟩
theorem BackI.step {w v out : List Int} {i : Nat} {c : Int} (h : BackI w v i out c) (hv : Okd v) (hi : i < w.length) :
    BackI w v (i + 1) (out.set i ((c + dat out i + dat v i) % 1048576)) ((c + dat out i + dat v i) / 1048576) := by
  have h1 := h.ok.dat i
  have h2 := hv.dat i
  have h3 := h.c0
  have h4 := h.c1
  have hl := h.len
  refine ⟨by simp [hl], h.ok.set (mod_rng _), hi, fun j hj => ?_, by omega, by omega, ?_⟩
  · rw [dat_set (by omega)]; exact h.rest j (by omega)
  · rw [val_set0 (by omega), val_take_dat, pw_succ]
    have h5 := h.eq
    have h6 : (c + dat out i + dat v i) % 1048576 = c + dat out i + dat v i - 1048576 * ((c + dat out i + dat v i) / 1048576) := by omega
    rw [h6]
    grind
theorem SetI.zero {w v out : List Int} {g c : Int} (h : SetI w v g w.length out c) (hl : v.length ≤ w.length) (hw : Okd w) (hv : Okd v) (hg : 0 ≤ g) :
    (c = 0 ↔ g * val v ≤ val w) ∧ (c = 0 → val out = val w - g * val v) := by
  have h3 := h.c0
  have h5 := h.eq
  rw [List.take_of_length_le (by omega)] at h5
  have h6 := val_lt h.ok
  have h7 := val_nonneg h.ok
  rw [h.len] at h6
  have h8 := pw_pos w.length
  have h9 : 0 < c → pw w.length ≤ pw w.length * c := fun hc => by
    have := Int.mul_le_mul_of_nonneg_left (a := 1) (b := c) (c := pw w.length) (by omega) (by omega)
    omega
  constructor
  · constructor
    · rintro rfl; omega
    · intro h10
      rcases Int.lt_or_le 0 c with h11 | h11
      · have := h9 h11; omega
      · omega
  · rintro rfl; omega
theorem SetI.back {w v out out' : List Int} {g c c' : Int} (h : SetI w v g w.length out c) (h' : BackI out v w.length out' c') (hl : v.length ≤ w.length)
    (h1 : 0 ≤ val w - g * val v + val v) (h2 : val w - g * val v + val v < pw w.length) : val out' = val w - g * val v + val v := by
  have h5 := h.eq
  have h6 := h'.eq
  rw [List.take_of_length_le (by omega)] at h5 h6
  have h7 := val_lt h'.ok
  have h8 := val_nonneg h'.ok
  rw [h'.len, h.len] at h7
  have h9 := pw_pos w.length
  have e : val out' + pw w.length * (c' - c) = val w - g * val v + val v := by grind
  rcases Int.lt_trichotomy (c' - c) 0 with hc | hc | hc
  · have := Int.mul_le_mul_of_nonneg_left (a := c' - c) (b := -1) (c := pw w.length) (by omega) (by omega)
    omega
  · rw [hc] at e; omega
  · have := Int.mul_le_mul_of_nonneg_left (a := 1) (b := c' - c) (c := pw w.length) (by omega) (by omega)
    omega

/-- the trial quotient. V and W are the divisor and the window, v1 v2 the first digits of V, top and u2 those of W -/
structure Win (P V W v1 v2 top u2 : Int) : Prop where
  P0 : 0 < P
  v1l : 524288 ≤ v1
  v1u : v1 < 1048576
  v20 : 0 ≤ v2
  v2u : v2 < 1048576
  u20 : 0 ≤ u2
  u2u : u2 < 1048576
  t0 : 0 ≤ top
  tu : top < 1048576 * 1048576
  Vl : P * (v1 * 1048576 + v2) ≤ V
  Vu : V < P * (v1 * 1048576 + v2) + P
  Wl : P * (top * 1048576 + u2) ≤ W
  Wu : W < P * (top * 1048576 + u2) + P
  lt : W < V * 1048576
theorem Win.V0 {P V W v1 v2 top u2 : Int} (h : Win P V W v1 v2 top u2) : 0 < V := by
  have h1 := h.Vl
  have h2 := h.P0
  have h3 := h.v1l
  have h4 := h.v20
  have := Int.mul_pos h2 (b := v1 * 1048576 + v2) (by omega)
  omega
structure Guess (V W v1 top g r : Int) : Prop where
  g0 : 0 ≤ g
  gu : g ≤ 2097152
  r0 : 0 ≤ r
  ru : r < 2097152
  eq : g * v1 + r = top
  hi : W < (g + 1) * V
theorem Guess.init {P V W v1 v2 top u2 : Int} (h : Win P V W v1 v2 top u2) : Guess V W v1 top (top / v1) (top % v1) := by
  have h1 := h.v1l
  have h2 := h.v1u
  have h3 := h.t0
  have h4 := h.tu
  have h5 := Int.emod_nonneg top (b := v1) (by omega)
  have h6 := Int.emod_lt_of_pos top (b := v1) (by omega)
  have h7 := Int.mul_ediv_add_emod top v1
  have h8 : 0 ≤ top / v1 := Int.ediv_nonneg h3 (by omega)
  have hq : top / v1 * v1 + top % v1 = top := by rw [Int.mul_comm]; exact h7
  refine ⟨h8, ?_, h5, by omega, hq, ?_⟩
  · have h9 := Int.mul_le_mul_of_nonneg_left (a := 524288) (b := v1) (c := top / v1) h1 h8
    omega
  · have hW := h.Wu
    have hV := h.Vl
    have hP := h.P0
    have h20 := h.v20
    have hu := h.u2u
    have e1 : (top / v1 + 1) * (P * (v1 * 1048576 + v2)) ≤ (top / v1 + 1) * V := Int.mul_le_mul_of_nonneg_left hV (by omega)
    have e2 : top * 1048576 + u2 + 1 ≤ (top / v1 + 1) * (v1 * 1048576 + v2) := by
      have : 0 ≤ (top / v1 + 1) * v2 := Int.mul_nonneg (by omega) h20
      have e3 : (top / v1 + 1) * v1 ≥ top + 1 := by grind
      grind
    have e4 := Int.mul_le_mul_of_nonneg_left (c := P) e2 (by omega)
    grind
theorem Guess.dec {P V W v1 v2 top u2 g r : Int} (h : Win P V W v1 v2 top u2) (hg : Guess V W v1 top g r) (hc : 1048576 ≤ g ∨ (r < 1048576 ∧ r * 1048576 + u2 < g * v2)) :
    W < g * V := by
  have hV0 := h.V0
  rcases hc with hc | ⟨hr, hc⟩
  · have := Int.mul_le_mul_of_nonneg_right (a := 1048576) (b := g) (c := V) hc (by omega)
    have := h.lt
    omega
  · have hW := h.Wu
    have e1 : g * (P * (v1 * 1048576 + v2)) ≤ g * V := Int.mul_le_mul_of_nonneg_left h.Vl hg.g0
    have e2 : top * 1048576 + u2 + 1 ≤ g * (v1 * 1048576 + v2) := by
      have := hg.eq
      grind
    have e4 := Int.mul_le_mul_of_nonneg_left (c := P) e2 (Int.le_of_lt h.P0)
    grind
theorem Guess.small {P V W v1 v2 top u2 g r : Int} (h : Win P V W v1 v2 top u2) (hg : Guess V W v1 top g r) (hc : 1048576 ≤ g) : r < 1048576 := by
  have h1 := h.Wl
  have h2 := h.lt
  have h3 := h.Vu
  have hP := h.P0
  have e1 : P * (top * 1048576 + u2) < P * ((v1 * 1048576 + v2 + 1) * 1048576) := by grind
  have e2 : top * 1048576 + u2 < (v1 * 1048576 + v2 + 1) * 1048576 := Int.lt_of_mul_lt_mul_left e1 (Int.le_of_lt hP)
  have h4 := h.u20
  have h5 := hg.eq
  have h6 := Int.mul_le_mul_of_nonneg_right (a := 1048576) (b := g) (c := v1) hc (by have := h.v1l; omega)
  have h7 := h.v2u
  omega
theorem Guess.step {P V W v1 v2 top u2 g r : Int} (h : Win P V W v1 v2 top u2) (hg : Guess V W v1 top g r) (hc : 1048576 ≤ g ∨ (r < 1048576 ∧ r * 1048576 + u2 < g * v2))
    (hW0 : 0 ≤ W) : Guess V W v1 top (g - 1) (r + v1) := by
  have h1 := Guess.dec h hg hc
  have hV0 := h.V0
  have hg0 : 0 < g := by
    rcases Int.lt_or_le 0 g with h2 | h2
    · exact h2
    · have := hg.g0
      have : g = 0 := by omega
      subst this; omega
  have h2 := hg.gu
  have h3 := hg.r0
  have h4 := h.v1l
  have h5 := h.v1u
  have h6 := hg.eq
  have h7 : r < 1048576 := by
    rcases hc with hc | hc
    · exact Guess.small h hg hc
    · exact hc.1
  exact ⟨by omega, by omega, by omega, by omega, by grind, by grind⟩
theorem Guess.fin {P V W v1 v2 top u2 g r : Int} (h : Win P V W v1 v2 top u2) (hg : Guess V W v1 top g r) (hc : ¬ (1048576 ≤ g ∨ (r < 1048576 ∧ r * 1048576 + u2 < g * v2)))
    (hP : P * 1048576 ≤ V) : g < 1048576 ∧ g * V ≤ W + V := by
  have hg1 : g < 1048576 := by omega
  refine ⟨hg1, ?_⟩
  have h0 := hg.g0
  have h20 := h.v20
  have h2u := h.v2u
  have hu0 := h.u20
  have e1 : g * v2 ≤ r * 1048576 + u2 := by
    rcases Int.lt_or_le r 1048576 with hr | hr
    · omega
    · have := mul_rng ⟨h0, hg1⟩ ⟨h20, h2u⟩
      omega
  have e2 : g * (v1 * 1048576 + v2) ≤ top * 1048576 + u2 := by
    have := hg.eq
    grind
  have e3 := Int.mul_le_mul_of_nonneg_left (c := P) e2 (Int.le_of_lt h.P0)
  have e4 : g * V ≤ g * (P * (v1 * 1048576 + v2) + P) := Int.mul_le_mul_of_nonneg_left (Int.le_of_lt h.Vu) h0
  have e5 : g * P ≤ 1048576 * P := Int.mul_le_mul_of_nonneg_right (Int.le_of_lt hg1) (Int.le_of_lt h.P0)
  have hW := h.Wl
  grind

/-- a big integer as it is given, right or not -/
structure Bg where
  sg : Int
  dl : List Int
def bz (z : Int) : Bg := ⟨z.sign, dg z.natAbs⟩
def inD (d : Int) : Bool := decide (0 ≤ d) && decide (d ≤ 1048575)
def rightB (b : Bg) : Bool := b.dl.all inD && (if b.dl.length = 0 then b.sg == 0 else (b.sg == 1 || b.sg == -1) && !(dat b.dl (b.dl.length - 1) == 0))
def bv (b : Bg) : Int := b.sg * val b.dl
theorem okd_all {l : List Int} : l.all inD = true ↔ Okd l := by
  simp only [List.all_eq_true, inD, Bool.and_eq_true, decide_eq_true_eq]
  exact ⟨fun h d hd => by have := h d hd; omega, fun h d hd => by have := h d hd; omega⟩
theorem bv_bz (z : Int) : bv (bz z) = z := by
  unfold bv bz
  rw [val_dg]
  exact Int.sign_mul_natAbs z
theorem bz_bv {b : Bg} (h : rightB b = true) : b = bz (bv b) := by
  unfold rightB at h
  rw [Bool.and_eq_true, okd_all] at h
  obtain ⟨h1, h2⟩ := h
  obtain ⟨sg, dl⟩ := b
  simp only at h1 h2
  have hv := val_nonneg h1
  by_cases hl : dl.length = 0
  · rw [if_pos hl] at h2
    have : dl = [] := List.eq_nil_of_length_eq_zero hl
    subst this
    have : sg = 0 := by simpa using h2
    subst this
    rfl
  · rw [if_neg hl, Bool.and_eq_true] at h2
    have hc : Can dl := ⟨h1, fun x hx => by rw [dat_some hx] at h2; simpa using h2.2⟩
    have h3 := can_dg hc
    have hp : 0 < val dl := by
      rcases Int.lt_or_le 0 (val dl) with h4 | h4
      · exact h4
      · have : val dl = 0 := by omega
        rw [this] at h3
        rw [h3] at hl
        exact absurd rfl hl
    have hs : sg = 1 ∨ sg = -1 := by simpa using h2.1
    have ha : (sg * val dl).natAbs = (val dl).toNat := by
      rcases hs with rfl | rfl <;> omega
    have hg : (sg * val dl).sign = sg := by
      rcases hs with rfl | rfl
      · rw [Int.one_mul]; exact Int.sign_eq_one_of_pos hp
      · exact Int.sign_eq_neg_one_of_neg (by omega)
    unfold bz bv
    simp only
    rw [ha, hg, ← h3]
theorem bz_right (z : Int) : rightB (bz z) = true := by
  unfold rightB
  rw [Bool.and_eq_true, okd_all]
  refine ⟨okd_dg _, ?_⟩
  by_cases hl : (bz z).dl.length = 0
  · rw [if_pos hl]
    have h0 : dg z.natAbs = [] := List.eq_nil_of_length_eq_zero hl
    have : z = 0 := by have := dg_eq_nil.1 h0; omega
    subst this; rfl
  · rw [if_neg hl]
    have hz : z ≠ 0 := by rintro rfl; exact hl rfl
    have hl0 : (dg z.natAbs).length - 1 < (dg z.natAbs).length := by have : (dg z.natAbs).length ≠ 0 := hl; omega
    have h1 := (dg_can z.natAbs).2 _ (List.getElem?_eq_getElem hl0)
    have h2 : dat (bz z).dl ((bz z).dl.length - 1) ≠ 0 := by
      show dat (dg z.natAbs) ((dg z.natAbs).length - 1) ≠ 0
      rw [dat_some (List.getElem?_eq_getElem hl0)]; exact h1
    rw [Bool.and_eq_true]
    refine ⟨?_, by simpa using h2⟩
    show ((z.sign == 1) || (z.sign == -1)) = true
    rcases Int.lt_trichotomy z 0 with h | h | h
    · rw [Int.sign_eq_neg_one_of_neg h]; rfl
    · exact absurd h hz
    · rw [Int.sign_eq_one_of_pos h]; rfl
theorem bz_sg {z : Int} : (bz z).sg = z.sign := rfl
/-- a fraction as it is given, right or not -/
structure Fr where
  p : Bg
  q : Bg
def fz (x : Rat) : Fr := ⟨bz x.num, bz x.den⟩
def rightF (f : Fr) : Bool := rightB f.p && rightB f.q && (f.q.sg == 1) && (Int.gcd (bv f.p) (bv f.q) == 1)
def fv (f : Fr) : Rat := mkRat (bv f.p) (bv f.q).toNat
theorem fz_right (x : Rat) : rightF (fz x) = true := by
  unfold rightF fz
  simp only [bz_right, bv_bz, Bool.true_and, Bool.and_eq_true]
  have hd := x.den_pos
  refine ⟨?_, ?_⟩
  · rw [bz_sg, Int.sign_eq_one_of_pos (by omega)]; rfl
  · have := x.reduced
    simp only [Int.gcd, Int.natAbs_natCast]
    rw [this]; rfl
theorem fz_fv {f : Fr} (h : rightF f = true) : f = fz (fv f) := by
  unfold rightF at h
  simp only [Bool.and_eq_true, beq_iff_eq] at h
  obtain ⟨⟨⟨h1, h2⟩, h3⟩, h4⟩ := h
  have e1 := bz_bv h1
  have e2 := bz_bv h2
  rw [e2, bz_sg] at h3
  have hq : 0 < bv f.q := Int.sign_eq_one_iff_pos.1 h3
  have hr : Nat.Coprime (bv f.p).natAbs (bv f.q).toNat := by
    have : (bv f.q).natAbs = (bv f.q).toNat := by omega
    rw [← this]; exact h4
  have e3 : fv f = ⟨bv f.p, (bv f.q).toNat, by omega, hr⟩ := (Rat.mk_eq_mkRat _ _ _ _).symm
  rw [e3]
  unfold fz
  simp only
  rw [← e1, show (((bv f.q).toNat : Nat) : Int) = bv f.q by omega, ← e2]
theorem fv_fz (x : Rat) : fv (fz x) = x := by
  unfold fv fz
  simp only [bv_bz, Int.toNat_natCast]
  exact Rat.mkRat_self x
theorem fz_divInt {p q g : Int} (hq : 0 < q) (hg : g = Int.gcd p q) : fz (Rat.divInt p q) = ⟨bz (p / g), bz (q / g)⟩ := by
  unfold fz
  rw [Rat.num_divInt, Rat.den_divInt, if_neg (by omega), Int.sign_eq_one_of_pos hq, Int.one_mul, Int.gcd_comm q p, ← hg]
  congr 2
  rw [hg]
  have : ((q.natAbs / Int.gcd p q : Nat) : Int) = (q.natAbs : Int) / (Int.gcd p q : Int) := by simp
  rw [this, show (q.natAbs : Int) = q by omega]
/-- div's loop: j digits of the quotient remain -/
structure DivI (U V N L : Nat) (j : Nat) (u q : List Int) : Prop where
  lu : u.length = N
  oku : Okd u
  lq : q.length = N - L
  okq : Okd q
  le : j ≤ N - L
  eq : val (q.drop j) * pw j * V + val u = U
  lt : val u < V * pw j
theorem DivI.init {U V : Nat} (hV : 0 < V) (hl : (dg V).length ≤ (dg U).length + 1) : DivI U V ((dg U).length + 1) (dg V).length ((dg U).length + 1 - (dg V).length) (dg U ++ [0]) (List.replicate ((dg U).length + 1 - (dg V).length) 0) := by
  have h1 := dg_last hV
  have h2 := dg_lt_pw U
  have hv : val (dg U ++ [0]) = U := by rw [val_append, val_dg]; simp [val]
  have hL : (dg V).length ≠ 0 := by rw [Ne, List.length_eq_zero_iff, dg_eq_nil]; omega
  refine ⟨by simp, (okd_dg U).append (by intro x hx; simp at hx; omega), by simp, .zeros _, Nat.le_refl _, ?_, ?_⟩
  · rw [List.drop_of_length_le (by simp), hv]; simp [val]
  · rw [hv]
    have h3 := Int.mul_le_mul_of_nonneg_right (a := pw ((dg V).length - 1)) (b := V) (c := pw ((dg U).length + 1 - (dg V).length)) h1 (Int.le_of_lt (pw_pos _))
    rw [← pw_add, show (dg V).length - 1 + ((dg U).length + 1 - (dg V).length) = (dg U).length by omega] at h3
    omega
/-- the window and what lies around it -/
theorem DivI.window {U V N L j : Nat} {u q : List Int} (h : DivI U V N L (j + 1) u q) (hL : (dg V).length = L) :
    u = u.take j ++ (u.drop j).take (L + 1) ++ u.drop (j + (L + 1)) ∧ ((u.drop j).take (L + 1)).length = L + 1 ∧ (u.take j).length = j ∧
    val u = val (u.take j) + pw j * val ((u.drop j).take (L + 1)) ∧ val (u.drop (j + (L + 1))) = 0 ∧ val ((u.drop j).take (L + 1)) < V * 1048576 := by
  have h1 := h.lu
  have h2 := h.le
  have h3 := h.lt
  have hp := pw_pos j
  have e0 : (u.take j).length = j := by simp; omega
  have e1 : u.drop j = (u.drop j).take (L + 1) ++ u.drop (j + (L + 1)) := by rw [← List.drop_drop, List.take_append_drop]
  have e2 : ((u.drop j).take (L + 1)).length = L + 1 := by simp; omega
  have e3 : u = u.take j ++ (u.drop j).take (L + 1) ++ u.drop (j + (L + 1)) := by rw [List.append_assoc, ← e1, List.take_append_drop]
  have hv := val_split u j (by omega)
  have hw := val_append ((u.drop j).take (L + 1)) (u.drop (j + (L + 1)))
  rw [← e1, e2] at hw
  have h4 := val_nonneg (h.oku.take j)
  have h5 := val_nonneg ((h.oku.drop j).take (L + 1))
  have h6 := val_nonneg (h.oku.drop (j + (L + 1)))
  have hVp := dg_lt_pw V
  rw [hL] at hVp
  have hz : val (u.drop (j + (L + 1))) = 0 := by
    rcases Int.lt_or_le 0 (val (u.drop (j + (L + 1)))) with h7 | h7
    · exfalso
      have a1 := Int.mul_le_mul_of_nonneg_left (a := 1) (b := val (u.drop (j + (L + 1)))) (c := pw (L + 1)) (by omega) (Int.le_of_lt (pw_pos _))
      have a2 := Int.mul_le_mul_of_nonneg_left (a := pw (L + 1)) (b := val (u.drop j)) (c := pw j) (by omega) (Int.le_of_lt hp)
      have a3 := Int.mul_le_mul_of_nonneg_right (a := (V : Int)) (b := pw L) (c := pw (j + 1)) (Int.le_of_lt hVp) (Int.le_of_lt (pw_pos _))
      have a4 : pw j * pw (L + 1) = pw L * pw (j + 1) := by rw [← pw_add, ← pw_add]; congr 1; omega
      omega
    · omega
  rw [hz, Int.mul_zero, Int.add_zero] at hw
  rw [hw] at hv
  refine ⟨e3, e2, e0, hv, hz, ?_⟩
  have a5 : pw j * val ((u.drop j).take (L + 1)) < pw j * (V * 1048576) := by
    rw [pw_succ] at h3
    have : (V : Int) * (pw j * 1048576) = pw j * (V * 1048576) := by grind
    omega
  exact Int.lt_of_mul_lt_mul_left a5 (Int.le_of_lt hp)
theorem trimL_pad (l : List Int) : trimL l ++ List.replicate (l.length - (trimL l).length) 0 = l := by
  induction l with
  | nil => rfl
  | cons d r ih =>
    rw [trimL]
    split
    · rename_i h
      rw [h.1] at ih
      rw [h.2]
      simp only [List.nil_append, List.length_nil, Nat.sub_zero, List.length_cons, List.replicate_succ] at ih ⊢
      rw [ih]
    · simp only [List.cons_append, List.length_cons, Nat.add_sub_add_right]
      rw [ih]
def padTo (n : Nat) (l : List Int) : List Int := l ++ List.replicate (n - l.length) 0
theorem okd_pad {l : List Int} (h : Okd l) {n : Nat} (hn : l.length = n) : l = padTo n (dg (val l).toNat) := by
  subst hn
  have := trimL_pad l
  rw [trimL_dg h] at this
  exact this.symm
theorem val_pad (n : Nat) (l : List Int) : val (padTo n l) = val l := by unfold padTo; rw [val_append, val_zeros]; simp
theorem padTo_len {n : Nat} {l : List Int} (h : l.length ≤ n) : (padTo n l).length = n := by unfold padTo; simp; omega
theorem padTo_ok {n : Nat} {l : List Int} (h : Okd l) : Okd (padTo n l) := h.append (.zeros _)
theorem Win.of {v w : List Int} {L : Nat} (hv : Okd v) (hw : Okd w) (lv : v.length = L + 2) (lw : w.length = L + 3) (ht : 524288 ≤ dat v (L + 1)) (hlt : val w < val v * 1048576) :
    Win (pw L) (val v) (val w) (dat v (L + 1)) (dat v L) (dat w (L + 2) * 1048576 + dat w (L + 1)) (dat w L) := by
  have v1 := val_take_dat v (L + 1)
  have v2 := val_take_dat v L
  have w1 := val_take_dat w (L + 2)
  have w2 := val_take_dat w (L + 1)
  have w3 := val_take_dat w L
  rw [List.take_of_length_le (by omega)] at v1 w1
  have a1 := val_nonneg (hv.take L)
  have a2 := val_lt (hv.take L)
  have a3 := val_nonneg (hw.take L)
  have a4 := val_lt (hw.take L)
  rw [List.length_take, Nat.min_eq_left (by omega)] at a2 a4
  have d1 := hv.dat (L + 1)
  have d2 := hv.dat L
  have d3 := hw.dat (L + 2)
  have d4 := hw.dat (L + 1)
  have d5 := hw.dat L
  have p1 := pw_succ L
  have p2 := pw_succ (L + 1)
  have e1 : val v = pw L * (dat v (L + 1) * 1048576 + dat v L) + val (v.take L) := by grind
  have e2 : val w = pw L * ((dat w (L + 2) * 1048576 + dat w (L + 1)) * 1048576 + dat w L) + val (w.take L) := by grind
  exact ⟨pw_pos L, ht, by omega, by omega, by omega, by omega, by omega, by omega, by omega, by omega, by omega, by omega, by omega, hlt⟩
theorem DivI.step {U V N L j : Nat} {u q : List Int} (h : DivI U V N L (j + 1) u q) (hL : (dg V).length = L) (hV : 0 < V) {Q : Int} (hQ : 0 ≤ Q ∧ Q < 1048576)
    (hr0 : 0 ≤ val ((u.drop j).take (L + 1)) - Q * V) (hr1 : val ((u.drop j).take (L + 1)) - Q * V < V) :
    DivI U V N L j (u.take j ++ padTo (L + 1) (dg (val ((u.drop j).take (L + 1)) - Q * V).toNat) ++ u.drop (j + (L + 1))) (q.set j Q) := by
  obtain ⟨e3, e2, e0, hv, hz, hW⟩ := h.window hL
  have h1 := h.lu
  have h2 := h.le
  have h3 := h.lq
  have hVp := dg_lt_pw V
  rw [hL] at hVp
  have hmono := pw_mono (Nat.le_succ L)
  have lp : (dg (val ((u.drop j).take (L + 1)) - Q * V).toNat).length ≤ L + 1 := dg_len_le (by have : pw L ≤ pw (L + 1) := hmono; omega)
  have hpl := padTo_len lp
  have hvp : val (padTo (L + 1) (dg (val ((u.drop j).take (L + 1)) - Q * V).toNat)) = val ((u.drop j).take (L + 1)) - Q * V := by
    rw [val_pad, val_dg, Int.toNat_of_nonneg hr0]
  have hu' : val (u.take j ++ padTo (L + 1) (dg (val ((u.drop j).take (L + 1)) - Q * V).toNat) ++ u.drop (j + (L + 1))) = val (u.take j) + pw j * (val ((u.drop j).take (L + 1)) - Q * V) := by
    rw [val_append, hz, val_append, hvp, e0]; simp
  have hp := pw_pos j
  have hlt := val_lt (h.oku.take j)
  rw [e0] at hlt
  refine ⟨?_, ((h.oku.take j).append (padTo_ok (okd_dg _))).append (h.oku.drop _), by simp [h3], h.okq.set hQ, by omega, ?_, ?_⟩
  · simp only [List.length_append, hpl, e0, List.length_drop]; omega
  · rw [hu', drop_dat (by simp; omega), dat_set_same (by omega), List.drop_set_of_lt (by omega)]
    have h4 := h.eq
    rw [hv, pw_succ] at h4
    grind
  · rw [hu']
    have h5 := Int.mul_le_mul_of_nonneg_left (a := val ((u.drop j).take (L + 1)) - Q * V) (b := (V : Int) - 1) (c := pw j) (by omega) (by omega)
    have h6 : pw j * ((V : Int) - 1) = V * pw j - pw j := by grind
    omega
theorem DivI.fin {U V N L : Nat} {u q : List Int} (h : DivI U V N L 0 u q) (hV : 0 < V) : val q = (U / V : Nat) ∧ val u = (U % V : Nat) := by
  have h1 := h.eq
  have h2 := h.lt
  simp only [List.drop_zero, pw_zero, Int.mul_one] at h1 h2
  have h3 := val_nonneg h.oku
  have h4 := val_nonneg h.okq
  obtain ⟨Q, hQ⟩ := Int.eq_ofNat_of_zero_le h4
  obtain ⟨R, hR⟩ := Int.eq_ofNat_of_zero_le h3
  rw [hQ, hR] at h1
  rw [hR] at h2
  have e : U = R + Q * V := by
    have : ((R + Q * V : Nat) : Int) = (U : Int) := by rw [← h1]; simp [Int.add_comm]
    omega
  have hlt : R < V := by omega
  rw [hQ, hR, e, Nat.add_mul_div_right _ _ hV, Nat.div_eq_of_lt hlt, Nat.add_mul_mod_self_right, Nat.mod_eq_of_lt hlt]
  simp
end Go.Proofs.YtfieodjihaodiaaGreat
/- big: Right, trim, signed, compare. -/
namespace Go.Proofs.YtfieodjihaodiaaGreat
open Go.RowKit
set_option linter.unusedVariables false
set_option linter.unusedSimpArgs false
set_option maxRecDepth 100000

abbrev bgC (b : Bg) : List C := [.t (ti b.sg), .t (intsT b.dl)]
abbrev bgS (b : Bg) : S := .agg (bgC b)
abbrev bgB (b : Bg) : Blk := { mode := .live, elem := 61, size := 2, rows := [bgC b], box := true }
theorem rowsT_bg (b : Bg) : rowsT [bgC b] := by
  intro r hr c hc
  simp at hr
  subst hr
  simp [bgC] at hc
  rcases hc with rfl | rfl <;> rfl
theorem get_dat {l : List Int} {i : Nat} (h : i < l.length) : l[i]? = some (dat l i) := by
  unfold dat; rw [List.getD_eq_getElem?_getD, List.getElem?_eq_getElem h]; rfl

theorem get_last {l : List Int} (h : 0 < l.length) : l[((l.length : Int) - 1).toNat]? = some (dat l (l.length - 1)) := by
  rw [show ((l.length : Int) - 1).toNat = l.length - 1 by omega]; exact get_dat (by omega)
theorem get_pred {l : List Int} {n : Nat} (h : 0 < n) (hn : n ≤ l.length) : l[((n : Int) - 1).toNat]? = some (dat l (n - 1)) := by
  rw [show ((n : Int) - 1).toNat = n - 1 by omega]; exact get_dat (by omega)
theorem a_bRight (b : Bg) (hl : b.dl.length ≤ 1000000) : ACall Tryz.prog 95 [bgS b] [] (boolS (rightB b)) [] := by
  have l2 : (b.dl.map intRow).length = b.dl.length := by simp
  (refine acall_of tab_ok Tryz.func95 rfl (by decide) ?_; (conv => whnf); repeat (first | (refine LitB.data ?_; conv => whnf) | (refine BoxB.own ?_; conv => whnf)))
  (repeat' (first | ((refine DecB.mk (fun h => ?_) (fun h => ?_)) <;> first | (exfalso; omega) | (conv => whnf)) | ((refine BoolB.mk (fun h => ?_) (fun h => ?_)) <;> first | (exact absurd h (by decide)) | (conv => whnf)) | ((first | refine zzW ?_ | refine zzI ?_ | refine zzR ?_ | refine zzB ?_ | refine late_ok rfl rfl ?_ | refine src_ok rfl ?_ | refine LitB.data ?_ | refine BoxB.own ?_); conv => whnf)))
  refine awp_for tab_ok (fun k => ([J, S.c (C.ptr 0 0 0), J, intS .i64 b.dl.length, J, J, J, J, J, J, intsS b.dl, intS .i64 b.dl.length, intS .i64 k, J, J, J, J, J, J, J, J, J, J, J, J, J, J, J, J, J, J, J, J, J, J, J, J, J, J, J, J, J, J, J, J], [bgB b])) b.dl.length (fun k => (b.dl.take k).all inD = true) [some 0] rfl
    ⟨rfl, rfl, ⟨⟨rfl, rfl, rfl, .inl ⟨rfl, rowsT_bg b⟩⟩, trivial⟩, ⟨⟨rfl, rfl, rfl⟩, ent_i (by simp), ent_t rfl, ent_i (by simp), ent_i rfl, trivial⟩⟩ ?_
  intro k hk hI
  conv => whnf
  (repeat' (first | ((refine DecB.mk (fun h => ?_) (fun h => ?_)) <;> first | (exfalso; omega) | (conv => whnf)) | ((refine BoolB.mk (fun h => ?_) (fun h => ?_)) <;> first | (exact absurd h (by decide)) | (conv => whnf)) | ((first | refine zzW ?_ | refine zzI ?_ | refine zzR ?_ | refine zzB ?_ | refine late_ok rfl rfl ?_ | refine src_ok rfl ?_ | refine ex_row (get_dat (by omega)) ?_ | refine ex_rowI (by omega) (get_last (by omega)) ?_ | refine LitB.data ?_ | refine BoxB.own ?_); conv => whnf)))
  all_goals first
    | (have hlt : k < b.dl.length := by omega
       refine ⟨hlt, ?_, [some 0], rfl, rfl, ⟨⟨rfl, rfl, rfl, .inl ⟨rfl, rowsT_bg b⟩⟩, trivial⟩, ⟨⟨rfl, rfl, rfl⟩, rfl, rfl, rfl, rfl, trivial⟩⟩; rw [all_take_succ (get_dat hlt), hI]; simp [inD]; omega)
    | (have hlt : k < b.dl.length := by omega
       refine fin_bool ?_; unfold rightB; rw [all_of_get (get_dat hlt) (by simp [inD]; omega)]; rfl)
    | (have ha : b.dl.all inD = true := by rw [← hI, List.take_of_length_le (by omega)]
       refine fin_bool ?_; unfold rightB; rw [ha]; simp_all; done)
theorem a_trim (l : List Int) (hl : l.length ≤ 1000000) : ACall Tryz.prog 150 [intsS l] [] (intsS (trimL l)) [] := by
  have l2 : (l.map intRow).length = l.length := by simp
  (refine acall_of tab_ok Tryz.func150 rfl (by decide) ?_; (conv => whnf); repeat (first | (refine LitB.data ?_; conv => whnf) | (refine BoxB.own ?_; conv => whnf)))
  (repeat' (first | ((refine DecB.mk (fun h => ?_) (fun h => ?_)) <;> first | (exfalso; omega) | (conv => whnf)) | ((refine BoolB.mk (fun h => ?_) (fun h => ?_)) <;> first | (exact absurd h (by decide)) | (conv => whnf)) | ((first | refine zzW ?_ | refine zzI ?_ | refine zzR ?_ | refine zzB ?_ | refine late_ok rfl rfl ?_ | refine src_ok rfl ?_ | refine LitB.data ?_ | refine BoxB.own ?_); conv => whnf)))
  refine awp_while tab_ok (σ := Nat) (fun n => ([intsS l, J, J, intS .i64 n, J, J, J, J, J, J, J, J, J, J, J, J, J, J, J, J, J], [])) (fun n => n ≤ l.length ∧ ∀ j x, n ≤ j → l[j]? = some x → x = 0) (fun n => n) l.length []
    ⟨Nat.le_refl _, fun j x hj hx => by rw [List.getElem?_eq_none hj] at hx; cases hx⟩ ⟨rfl, rfl, trivial, ⟨ent_t rfl, ent_i (by simp), trivial⟩⟩ ?_
  rintro n ⟨hn, hz⟩
  have hn : n ≤ l.length := hn
  conv => whnf
  (repeat' (first | ((refine DecB.mk (fun h => ?_) (fun h => ?_)) <;> first | (exfalso; omega) | (conv => whnf)) | ((refine BoolB.mk (fun h => ?_) (fun h => ?_)) <;> first | (exact absurd h (by decide)) | (conv => whnf)) | ((first | refine zzW ?_ | refine zzI ?_ | refine zzR ?_ | refine zzB ?_ | refine late_ok rfl rfl ?_ | refine src_ok rfl ?_ | refine ex_rowI (by omega) (get_pred (by omega) hn) ?_ | refine sl_ok (by omega) (by omega) (by omega) ?_ | refine LitB.data ?_ | refine BoxB.own ?_); conv => whnf)))
  · have h0 : dat l (n - 1) = 0 := by assumption
    have h1 : 0 < n := by omega
    refine ⟨[], n - 1, ⟨rfl, rfl, trivial, ⟨rfl, ent_i (by omega), trivial⟩⟩, ⟨by omega, fun j x hj hxj => ?_⟩, by show n - 1 < n; omega⟩
    by_cases hj2 : j = n - 1
    · subst hj2; rw [get_dat (by omega)] at hxj; injection hxj with hx; rw [← hx]; exact h0
    · exact hz j x (by omega) hxj
  all_goals
    have e : l.take n = trimL l := trimL_take hz (fun x h0 hx => by
      first
        | (exfalso; omega)
        | (rw [get_dat (by omega)] at hx; injection hx with hx; rw [← hx]; assumption)) hn
    refine fin_sl ?_ rfl
    rw [← e]
    simp [List.map_take]
end Go.Proofs.YtfieodjihaodiaaGreat
/- big: trim of an own list, Clone, cmp, signed, checked, Neg. -/
namespace Go.Proofs.YtfieodjihaodiaaGreat
open Go.RowKit
set_option linter.unusedVariables false
set_option linter.unusedSimpArgs false
set_option maxRecDepth 100000

theorem a_trimO (l : List Int) (hl : l.length ≤ 1000000) : ACall Tryz.prog 150 [ownI 0 l] [intsB l] (.c (.own 0 0 (trimL l).length true)) [intsB l] := by
  (refine acall_of tab_ok Tryz.func150 rfl (by decide) ?_; (conv => whnf); repeat (first | (refine LitB.data ?_; conv => whnf) | (refine BoxB.own ?_; conv => whnf)))
  (repeat' (first | ((refine DecB.mk (fun h => ?_) (fun h => ?_)) <;> first | (exfalso; omega) | (conv => whnf)) | ((refine BoolB.mk (fun h => ?_) (fun h => ?_)) <;> first | (exact absurd h (by decide)) | (conv => whnf)) | ((first | refine zzW ?_ | refine zzI ?_ | refine zzR ?_ | refine zzB ?_ | refine late_ok rfl rfl ?_ | refine src_ok rfl ?_ | refine LitB.data ?_ | refine BoxB.own ?_); conv => whnf)))
  refine awp_while tab_ok (σ := Nat) (fun n => ([ownI 0 l, J, J, intS .i64 n, J, J, J, J, J, J, J, J, J, J, J, J, J, J, J, J, J], [intsB l])) (fun n => n ≤ l.length ∧ ∀ j x, n ≤ j → l[j]? = some x → x = 0) (fun n => n) l.length [some 0]
    ⟨Nat.le_refl _, fun j x hj hx => by rw [List.getElem?_eq_none hj] at hx; cases hx⟩ ⟨rfl, rfl, ⟨entB_rows rfl rfl rfl rfl rfl, trivial⟩, ⟨ent_own rfl rfl, ent_i rfl, trivial⟩⟩ ?_
  rintro n ⟨hn, hz⟩
  have hn : n ≤ l.length := hn
  have hg : 0 < n → l[0 + ((n : Int) - 1).toNat]? = some (dat l (n - 1)) := fun h => by rw [Nat.zero_add]; exact get_pred h hn
  conv => whnf
  (repeat' (first | ((refine DecB.mk (fun h => ?_) (fun h => ?_)) <;> first | (exfalso; omega) | (conv => whnf)) | ((refine BoolB.mk (fun h => ?_) (fun h => ?_)) <;> first | (exact absurd h (by decide)) | (conv => whnf)) | ((first | refine zzW ?_ | refine zzI ?_ | refine zzR ?_ | refine zzB ?_ | refine late_ok rfl rfl ?_ | refine src_ok rfl ?_ | refine ex_own (hg (by omega)) ?_ | refine sl_ok (by omega) (by omega) (by omega) ?_ | refine LitB.data ?_ | refine BoxB.own ?_); conv => whnf)))
  · have h0 : dat l (n - 1) = 0 := by assumption
    have h1 : 0 < n := by omega
    refine ⟨[some 0], n - 1, ⟨rfl, rfl, ⟨entB_rows rfl rfl rfl rfl rfl, trivial⟩, ⟨ent_own rfl rfl, ent_i (by omega), trivial⟩⟩, ⟨by omega, fun j x hj hxj => ?_⟩, by show n - 1 < n; omega⟩
    by_cases hj2 : j = n - 1
    · subst hj2; rw [get_dat (by omega)] at hxj; injection hxj with hx; rw [← hx]; exact h0
    · exact hz j x (by omega) hxj
  all_goals
    have e : l.take n = trimL l := trimL_take hz (fun x h0 hx => by
      first
        | (exfalso; omega)
        | (rw [get_dat (by omega)] at hx; injection hx with hx; rw [← hx]; assumption)) hn
    have e2 : (trimL l).length = n := by rw [← e]; simp; omega
    exact ⟨⟨[some 0], rfl, rfl, ⟨entB_rows rfl rfl rfl rfl rfl, trivial⟩, ⟨rfl, rfl, by rw [e2]; omega, fun h => h⟩⟩⟩
theorem ne_len {n : Nat} {K : Prop} (h : 0 < n) (k : K) : 0 < n ∧ K := ⟨h, k⟩
theorem a_Clone (l : List Int) (hl : l.length ≤ 1000000) : ACall Tryz.prog 124 [intsS l] [] (intsS l) [] := by
  have l2 : (l.map intRow).length = l.length := by simp
  cases l with
  | nil =>
    refine acall_nil 0 rfl ?_ ?_
    · (refine acall_of tab_ok Tryz.func124 rfl (by decide) ?_; (conv => whnf); repeat (first | (refine LitB.data ?_; conv => whnf) | (refine BoxB.own ?_; conv => whnf)))
      (repeat' (first | ((refine DecB.mk (fun h => ?_) (fun h => ?_)) <;> first | (exfalso; omega) | (conv => whnf)) | ((refine BoolB.mk (fun h => ?_) (fun h => ?_)) <;> first | (exact absurd h (by decide)) | (conv => whnf)) | ((first | refine zzW ?_ | refine zzI ?_ | refine zzR ?_ | refine zzB ?_ | refine late_ok rfl rfl ?_ | refine src_ok rfl ?_ | refine LitB.data ?_ | refine BoxB.own ?_); conv => whnf)))
      exact fin_t (show EntT [] _ _ _ from rfl)
    · (refine acall_of tab_ok Tryz.func124 rfl (by decide) ?_; (conv => whnf); repeat (first | (refine LitB.data ?_; conv => whnf) | (refine BoxB.own ?_; conv => whnf)))
      (repeat' (first | ((refine DecB.mk (fun h => ?_) (fun h => ?_)) <;> first | (exfalso; omega) | (conv => whnf)) | ((refine BoolB.mk (fun h => ?_) (fun h => ?_)) <;> first | (exact absurd h (by decide)) | (conv => whnf)) | ((first | refine zzW ?_ | refine zzI ?_ | refine zzR ?_ | refine zzB ?_ | refine late_ok rfl rfl ?_ | refine src_ok rfl ?_ | refine .inl ⟨_, _, qcall_pure (toC) rfl rfl, ?_⟩ | refine ne_len (by simp) ?_ | refine sl3_ok (by omega) (by omega) rfl (by omega) ?_ | refine app_nil rfl (by simp [toC]) ?_ | refine LitB.data ?_ | refine BoxB.own ?_); conv => whnf)))
      exact fin_own rfl (by intro h; cases h) rfl rfl (by simp [toC])
  | cons a r =>
    (refine acall_of tab_ok Tryz.func124 rfl (by decide) ?_; (conv => whnf); repeat (first | (refine LitB.data ?_; conv => whnf) | (refine BoxB.own ?_; conv => whnf)))
    (repeat' (first | ((refine DecB.mk (fun h => ?_) (fun h => ?_)) <;> first | (exfalso; omega) | (conv => whnf)) | ((refine BoolB.mk (fun h => ?_) (fun h => ?_)) <;> first | (exact absurd h (by decide)) | (conv => whnf)) | ((first | refine zzW ?_ | refine zzI ?_ | refine zzR ?_ | refine zzB ?_ | refine late_ok rfl rfl ?_ | refine src_ok rfl ?_ | refine .inl ⟨_, _, qcall_pure (toC) rfl rfl, ?_⟩ | refine ne_len (by simp) ?_ | refine sl3_ok (by omega) (by omega) rfl (by omega) ?_ | refine app_nil rfl (by simp [toC] at *; omega) ?_ | refine LitB.data ?_ | refine BoxB.own ?_); conv => whnf)))
    exact fin_own rfl (by intro h; cases h) rfl rfl (by simp [toC])
theorem a_CloneO (l : List Int) (hl : l.length ≤ 1000000) : ACall Tryz.prog 124 [intsS l] [] (ownI 0 l) [intsB l] := by
  have l2 : (l.map intRow).length = l.length := by simp
  cases l with
  | nil =>
    refine acall_nil 0 rfl ?_ ?_
    · (refine acall_of tab_ok Tryz.func124 rfl (by decide) ?_; (conv => whnf); repeat (first | (refine LitB.data ?_; conv => whnf) | (refine BoxB.own ?_; conv => whnf)))
      (repeat' (first | ((refine DecB.mk (fun h => ?_) (fun h => ?_)) <;> first | (exfalso; omega) | (conv => whnf)) | ((refine BoolB.mk (fun h => ?_) (fun h => ?_)) <;> first | (exact absurd h (by decide)) | (conv => whnf)) | ((first | refine zzW ?_ | refine zzI ?_ | refine zzR ?_ | refine zzB ?_ | refine late_ok rfl rfl ?_ | refine src_ok rfl ?_ | refine LitB.data ?_ | refine BoxB.own ?_); conv => whnf)))
      exact ⟨⟨[none], rfl, rfl, ⟨⟨rfl, rfl⟩, trivial⟩, ⟨rfl, rfl, rfl⟩⟩⟩
    · (refine acall_of tab_ok Tryz.func124 rfl (by decide) ?_; (conv => whnf); repeat (first | (refine LitB.data ?_; conv => whnf) | (refine BoxB.own ?_; conv => whnf)))
      (repeat' (first | ((refine DecB.mk (fun h => ?_) (fun h => ?_)) <;> first | (exfalso; omega) | (conv => whnf)) | ((refine BoolB.mk (fun h => ?_) (fun h => ?_)) <;> first | (exact absurd h (by decide)) | (conv => whnf)) | ((first | refine zzW ?_ | refine zzI ?_ | refine zzR ?_ | refine zzB ?_ | refine late_ok rfl rfl ?_ | refine src_ok rfl ?_ | refine .inl ⟨_, _, qcall_pure (toC) rfl rfl, ?_⟩ | refine ne_len (by simp) ?_ | refine sl3_ok (by omega) (by omega) rfl (by omega) ?_ | refine app_nil rfl (by simp [toC]) ?_ | refine LitB.data ?_ | refine BoxB.own ?_); conv => whnf)))
      exact ⟨⟨[some 0], rfl, rfl, ⟨entB_rows rfl rfl rfl rfl rfl, trivial⟩, ⟨rfl, rfl, by simp [toC], fun h => h⟩⟩⟩
  | cons a r =>
    (refine acall_of tab_ok Tryz.func124 rfl (by decide) ?_; (conv => whnf); repeat (first | (refine LitB.data ?_; conv => whnf) | (refine BoxB.own ?_; conv => whnf)))
    (repeat' (first | ((refine DecB.mk (fun h => ?_) (fun h => ?_)) <;> first | (exfalso; omega) | (conv => whnf)) | ((refine BoolB.mk (fun h => ?_) (fun h => ?_)) <;> first | (exact absurd h (by decide)) | (conv => whnf)) | ((first | refine zzW ?_ | refine zzI ?_ | refine zzR ?_ | refine zzB ?_ | refine late_ok rfl rfl ?_ | refine src_ok rfl ?_ | refine .inl ⟨_, _, qcall_pure (toC) rfl rfl, ?_⟩ | refine ne_len (by simp) ?_ | refine sl3_ok (by omega) (by omega) rfl (by omega) ?_ | refine app_nil rfl (by simp [toC] at *; omega) ?_ | refine LitB.data ?_ | refine BoxB.own ?_); conv => whnf)))
    exact ⟨⟨[some 0], rfl, rfl, ⟨entB_rows rfl rfl rfl rfl rfl, trivial⟩, ⟨rfl, rfl, by simp [toC], fun h => h⟩⟩⟩
theorem a_isNaN (x : Int) : ACall Tryz.prog 147 [intS .i64 x] [] (boolS false) [] := by
  (refine acall_of tab_ok Tryz.func147 rfl (by decide) ?_; (conv => whnf); repeat (first | (refine LitB.data ?_; conv => whnf) | (refine BoxB.own ?_; conv => whnf)))
  (repeat' (first | ((refine DecB.mk (fun h => ?_) (fun h => ?_)) <;> first | (exfalso; omega) | (conv => whnf)) | ((refine BoolB.mk (fun h => ?_) (fun h => ?_)) <;> first | (exact absurd h (by decide)) | (conv => whnf)) | ((first | refine zzW ?_ | refine zzI ?_ | refine zzR ?_ | refine zzB ?_ | refine late_ok rfl rfl ?_ | refine src_ok rfl ?_ | refine LitB.data ?_ | refine BoxB.own ?_); conv => whnf)))
  all_goals first
    | (exfalso; omega)
    | exact fin_bool rfl
def cmpI (x y : Int) : Int := if x < y then -1 else if x > y then 1 else 0
theorem a_cmpCompare (x y : Int) : ACall Tryz.prog 120 [intS .i64 x, intS .i64 y] [] (intS .i64 (cmpI x y)) [] := by
  (refine acall_of tab_ok Tryz.func120 rfl (by decide) ?_; (conv => whnf); repeat (first | (refine LitB.data ?_; conv => whnf) | (refine BoxB.own ?_; conv => whnf)))
  (repeat' (first | ((refine DecB.mk (fun h => ?_) (fun h => ?_)) <;> first | (exfalso; omega) | (conv => whnf)) | ((refine BoolB.mk (fun h => ?_) (fun h => ?_)) <;> first | (exact absurd h (by decide)) | (conv => whnf)) | ((first | refine zzW ?_ | refine zzI ?_ | refine zzR ?_ | refine zzB ?_ | refine late_ok rfl rfl ?_ | refine src_ok rfl ?_ | refine .inl ⟨_, _, qcall_pure (a_isNaN _) rfl rfl, ?_⟩ | refine LitB.data ?_ | refine BoxB.own ?_); conv => whnf)))
  all_goals first
    | (exfalso; simp_all; done)
    | (refine fin_int ?_; unfold cmpI; split <;> first | omega | (split <;> omega))
theorem a_cmpOr (x y : Int) : ACall Tryz.prog 134 [.c (.t (.sl 1 .full ([x, y].map intRow)))] [] (intS .i64 (if x = 0 then y else x)) [] := by
  (refine acall_of tab_ok Tryz.func134 rfl (by decide) ?_; (conv => whnf); repeat (first | (refine LitB.data ?_; conv => whnf) | (refine BoxB.own ?_; conv => whnf)))
  (repeat' (first | ((refine DecB.mk (fun h => ?_) (fun h => ?_)) <;> first | (exfalso; omega) | (conv => whnf)) | ((refine BoolB.mk (fun h => ?_) (fun h => ?_)) <;> first | (exact absurd h (by decide)) | (conv => whnf)) | ((first | refine zzW ?_ | refine zzI ?_ | refine zzR ?_ | refine zzB ?_ | refine late_ok rfl rfl ?_ | refine src_ok rfl ?_ | refine LitB.data ?_ | refine BoxB.own ?_); conv => whnf)))
  refine awp_for tab_ok (fun k => ([J, J, J, intS .i64 0, J, J, S.c (C.t (T.sl 1 .full ([x, y].map intRow))), intS .i64 2, intS .i64 k, J, J, J, J, J, J, J, J, J], [])) 2 (fun k => ∀ v ∈ [x, y].take k, v = 0) [] (by simp)
    ⟨rfl, rfl, trivial, ⟨rfl, ent_t rfl, ent_i rfl, ent_i rfl, trivial⟩⟩ ?_
  intro k hk hI
  conv => whnf
  (repeat' (first | ((refine DecB.mk (fun h => ?_) (fun h => ?_)) <;> first | (exfalso; omega) | (conv => whnf)) | ((refine BoolB.mk (fun h => ?_) (fun h => ?_)) <;> first | (exact absurd h (by decide)) | (conv => whnf)) | ((first | refine zzW ?_ | refine zzI ?_ | refine zzR ?_ | refine zzB ?_ | refine late_ok rfl rfl ?_ | refine src_ok rfl ?_ | refine LitB.data ?_ | refine BoxB.own ?_); conv => whnf)))
  · have hlt : k < 2 := by omega
    obtain ⟨v, hv⟩ : ∃ v, [x, y][k]? = some v := ⟨_, List.getElem?_eq_getElem (by simpa using hlt)⟩
    refine ex_row hv ?_
    conv => whnf
    (repeat' (first | ((refine DecB.mk (fun h => ?_) (fun h => ?_)) <;> first | (exfalso; omega) | (conv => whnf)) | ((refine BoolB.mk (fun h => ?_) (fun h => ?_)) <;> first | (exact absurd h (by decide)) | (conv => whnf)) | ((first | refine zzW ?_ | refine zzI ?_ | refine zzR ?_ | refine zzB ?_ | refine late_ok rfl rfl ?_ | refine src_ok rfl ?_ | refine LitB.data ?_ | refine BoxB.own ?_); conv => whnf)))
    · refine fin_int ?_
      match k, hlt with
      | 0, _ => simp at hv; subst hv; rw [if_neg (by assumption)]
      | 1, _ => simp at hv; subst hv; rw [if_pos (hI x (by simp))]
    · refine ⟨hlt, ?_, [], rfl, rfl, trivial, ⟨rfl, rfl, rfl, rfl, trivial⟩⟩
      intro u hu
      rw [List.take_add_one, hv] at hu
      rcases List.mem_append.1 hu with hu | hu
      · exact hI u hu
      · simp at hu; subst hu; omega
  · have h1 := hI x (by rw [List.take_of_length_le (by simp; omega)]; simp)
    have h2 := hI y (by rw [List.take_of_length_le (by simp; omega)]; simp)
    refine fin_int ?_
    rw [if_pos h1, h2]
def sgn (s : Int) (l : List Int) : Bg := if (trimL l).length = 0 then ⟨0, []⟩ else ⟨s, trimL l⟩
theorem a_signed (s : Int) (l : List Int) (hl : l.length ≤ 1000000) : ACall Tryz.prog 126 [intS .i64 s, intsS l] [] (bgS (sgn s l)) [] := by
  (refine acall_of tab_ok Tryz.func126 rfl (by decide) ?_; (conv => whnf); repeat (first | (refine LitB.data ?_; conv => whnf) | (refine BoxB.own ?_; conv => whnf)))
  (repeat' (first | ((refine DecB.mk (fun h => ?_) (fun h => ?_)) <;> first | (exfalso; omega) | (conv => whnf)) | ((refine BoolB.mk (fun h => ?_) (fun h => ?_)) <;> first | (exact absurd h (by decide)) | (conv => whnf)) | ((first | refine zzW ?_ | refine zzI ?_ | refine zzR ?_ | refine zzB ?_ | refine late_ok rfl rfl ?_ | refine src_ok rfl ?_ | refine .inl ⟨_, _, qcall_pure (a_trim l hl) rfl rfl, ?_⟩ | refine LitB.data ?_ | refine BoxB.own ?_); conv => whnf)))
  · have h0 : (trimL l).length = 0 := by simp at *; assumption
    unfold sgn
    rw [if_pos h0]
    exact fin_t ⟨rfl, rfl, trivial⟩
  · have h0 : ¬ (trimL l).length = 0 := by simp at *; assumption
    unfold sgn
    rw [if_neg h0]
    exact fin_t ⟨rfl, rfl, trivial⟩
theorem a_checked (r : Bool) (b : Bg) : ACall Tryz.prog 123 [boolS r, bgS b] [] (.tup [bgS (if r then b else ⟨0, []⟩), intS .i64 (if r then 0 else 1)]) [] := by
  cases r <;>
  · (refine acall_of tab_ok Tryz.func123 rfl (by decide) ?_; (conv => whnf); repeat (first | (refine LitB.data ?_; conv => whnf) | (refine BoxB.own ?_; conv => whnf)))
    (repeat' (first | ((refine DecB.mk (fun h => ?_) (fun h => ?_)) <;> first | (exfalso; omega) | (conv => whnf)) | ((refine BoolB.mk (fun h => ?_) (fun h => ?_)) <;> first | (exact absurd h (by decide)) | (conv => whnf)) | ((first | refine zzW ?_ | refine zzI ?_ | refine zzR ?_ | refine zzB ?_ | refine late_ok rfl rfl ?_ | refine src_ok rfl ?_ | refine LitB.data ?_ | refine BoxB.own ?_); conv => whnf)))
    exact fin_t ⟨⟨rfl, rfl, trivial⟩, rfl, trivial⟩
end Go.Proofs.YtfieodjihaodiaaGreat
/- big: compare, Compare, Neg, add, sub. -/
namespace Go.Proofs.YtfieodjihaodiaaGreat
open Go.RowKit
set_option linter.unusedVariables false
set_option linter.unusedSimpArgs false
set_option maxRecDepth 100000

theorem cmpI_lt {x y : Int} (h : x < y) : cmpI x y = -1 := by unfold cmpI; rw [if_pos h]
theorem cmpI_gt {x y : Int} (h : y < x) : cmpI x y = 1 := by unfold cmpI; rw [if_neg (by omega), if_pos h]
theorem cmpI_eq {x y : Int} (h : x = y) : cmpI x y = 0 := by unfold cmpI; rw [if_neg (by omega), if_neg (by omega)]
theorem sgn_bz {s : Int} {l : List Int} (h : Okd l) (hs : s = 1 ∨ s = -1 ∨ val l = 0) : sgn s l = bz (s * val l) := by
  have hv := val_nonneg h
  unfold sgn bz
  rw [trimL_dg h]
  by_cases h0 : val l = 0
  · rw [h0, Int.mul_zero]; rfl
  · have h1 : (dg (val l).toNat).length ≠ 0 := by rw [Ne, List.length_eq_zero_iff, dg_eq_nil]; omega
    rw [if_neg h1]
    rcases hs with rfl | rfl | h2
    · rw [Int.sign_eq_one_of_pos (by omega)]
      congr 2; omega
    · rw [Int.sign_eq_neg_one_of_neg (by omega)]
      congr 2; omega
    · exact absurd h2 h0
theorem a_compare (a b : List Int) (ha : Can a) (hb : Can b) (la : a.length ≤ 1000000) (lb : b.length ≤ 1000000) :
    ACall Tryz.prog 121 [intsS a, intsS b] [] (intS .i64 (cmpI (val a) (val b))) [] := by
  have l1 : (a.map intRow).length = a.length := by simp
  have l2 : (b.map intRow).length = b.length := by simp
  have key : ∀ {x y : List Int}, Can x → Can y → x.length < y.length → val x < val y := fun {x y} hx hy h => by
    rw [can_dg hx, can_dg hy] at h
    have := dg_lt_of_len h
    have := val_nonneg hx.1
    omega
  by_cases hl : a.length = b.length
  · (refine acall_of tab_ok Tryz.func121 rfl (by decide) ?_; (conv => whnf); repeat (first | (refine LitB.data ?_; conv => whnf) | (refine BoxB.own ?_; conv => whnf)))
    (repeat' (first | ((refine DecB.mk (fun h => ?_) (fun h => ?_)) <;> first | (exfalso; omega) | (conv => whnf)) | ((refine BoolB.mk (fun h => ?_) (fun h => ?_)) <;> first | (exact absurd h (by decide)) | (conv => whnf)) | ((first | refine zzW ?_ | refine zzI ?_ | refine zzR ?_ | refine zzB ?_ | refine late_ok rfl rfl ?_ | refine src_ok rfl ?_ | refine LitB.data ?_ | refine BoxB.own ?_); conv => whnf)))
    refine awp_while tab_ok (σ := Nat) (fun k => ([intsS a, intsS b, J, J, J, intS .i64 ((k : Int) - 1), J, J, J, J, J, J, J, J, J, J, J, J, J, J, J, J, J, J, J, J, J, J, J, J, J, J, J, J, J, J, J, J, J, J, J], [])) (fun k => k ≤ a.length ∧ a.drop k = b.drop k) (fun k => k) a.length []
      ⟨Nat.le_refl _, by rw [List.drop_of_length_le (Nat.le_refl _), List.drop_of_length_le (by omega)]⟩ ⟨rfl, rfl, trivial, ⟨ent_t rfl, ent_t rfl, ent_i (by simp), trivial⟩⟩ ?_
    rintro k ⟨hk, hd⟩
    have hk : k ≤ a.length := hk
    have hd : a.drop k = b.drop k := hd
    conv => whnf
    (repeat' (first | ((refine DecB.mk (fun h => ?_) (fun h => ?_)) <;> first | (exfalso; omega) | (conv => whnf)) | ((refine BoolB.mk (fun h => ?_) (fun h => ?_)) <;> first | (exact absurd h (by decide)) | (conv => whnf)) | ((first | refine zzW ?_ | refine zzI ?_ | refine zzR ?_ | refine zzB ?_ | refine late_ok rfl rfl ?_ | refine src_ok rfl ?_ | refine .inl ⟨_, _, qcall_pure (a_cmpCompare _ _) rfl rfl, ?_⟩ | refine ex_rowI (by omega) (get_pred (by omega) hk) ?_ | refine ex_rowI (by omega) (get_pred (by omega) (hl ▸ hk)) ?_ | refine LitB.data ?_ | refine BoxB.own ?_); conv => whnf)))
    all_goals first
      | (have hp : 0 < k := by omega
         have e : k - 1 + 1 = k := by omega
         have gx := get_dat (l := a) (i := k - 1) (by omega)
         have gy := get_dat (l := b) (i := k - 1) (by omega)
         refine fin_int ?_
         rcases Int.lt_trichotomy (dat a (k - 1)) (dat b (k - 1)) with h | h | h
         · rw [cmpI_lt h, cmpI_lt (val_cmp_top ha.1 hb.1 hl gx gy (by rw [e]; exact hd) h)]
         · exfalso; simp_all; done
         · rw [cmpI_gt h, cmpI_gt (val_cmp_top hb.1 ha.1 hl.symm gy gx (by rw [e]; exact hd.symm) h)])
      | (have hp : 0 < k := by omega
         have hq : dat a (k - 1) = dat b (k - 1) := by omega
         refine ⟨[], k - 1, ⟨rfl, rfl, trivial, ⟨rfl, rfl, ent_i (by omega), trivial⟩⟩, ⟨by omega, ?_⟩, by show k - 1 < k; omega⟩
         rw [List.drop_eq_getElem_cons (by omega : k - 1 < a.length), List.drop_eq_getElem_cons (by omega : k - 1 < b.length), show k - 1 + 1 = k by omega, hd]
         congr 1
         have gx := get_dat (l := a) (i := k - 1) (by omega)
         have gy := get_dat (l := b) (i := k - 1) (by omega)
         rw [List.getElem?_eq_getElem (by omega)] at gx gy
         injection gx with gx
         injection gy with gy
         rw [gx, gy, hq])
      | (have : k = 0 := by omega
         subst this
         simp only [List.drop_zero] at hd
         refine fin_int ?_
         rw [hd, cmpI_eq rfl])
  · (refine acall_of tab_ok Tryz.func121 rfl (by decide) ?_; (conv => whnf); repeat (first | (refine LitB.data ?_; conv => whnf) | (refine BoxB.own ?_; conv => whnf)))
    (repeat' (first | ((refine DecB.mk (fun h => ?_) (fun h => ?_)) <;> first | (exfalso; omega) | (conv => whnf)) | ((refine BoolB.mk (fun h => ?_) (fun h => ?_)) <;> first | (exact absurd h (by decide)) | (conv => whnf)) | ((first | refine zzW ?_ | refine zzI ?_ | refine zzR ?_ | refine zzB ?_ | refine late_ok rfl rfl ?_ | refine src_ok rfl ?_ | refine .inl ⟨_, _, qcall_pure (a_cmpCompare _ _) rfl rfl, ?_⟩ | refine LitB.data ?_ | refine BoxB.own ?_); conv => whnf)))
    all_goals first
      | (exfalso; omega)
      | (refine fin_int ?_
         rcases Nat.lt_or_gt_of_ne hl with h | h
         · rw [cmpI_lt (by omega), cmpI_lt (key ha hb h)]
         · rw [cmpI_gt (by omega), cmpI_gt (key hb ha h)])
def cmpB (a b : Bg) : Int := if rightB a && rightB b then cmpI (bv a) (bv b) else 0
theorem can_bz (x : Int) : Can (bz x).dl := dg_can _
theorem val_bz (x : Int) : val (bz x).dl = x.natAbs := val_dg _
theorem sign_cases (x : Int) : x.sign = 0 ∧ x = 0 ∨ x.sign = 1 ∧ 0 < x ∨ x.sign = -1 ∧ x < 0 := by
  rcases Int.lt_trichotomy x 0 with h | h | h
  · exact .inr (.inr ⟨Int.sign_eq_neg_one_of_neg h, h⟩)
  · subst h; exact .inl ⟨rfl, rfl⟩
  · exact .inr (.inl ⟨Int.sign_eq_one_of_pos h, h⟩)
theorem cmpI_sign {x y : Int} (h : x.sign ≠ y.sign) : cmpI x.sign y.sign = cmpI x y := by
  rcases sign_cases x with ⟨e, h1⟩ | ⟨e, h1⟩ | ⟨e, h1⟩ <;> rcases sign_cases y with ⟨f, h2⟩ | ⟨f, h2⟩ | ⟨f, h2⟩ <;> rw [e, f] at h ⊢ <;> unfold cmpI <;> (repeat' split) <;> omega
theorem cmpI_abs {x y : Int} (h : x.sign = y.sign) : x.sign * cmpI x.natAbs y.natAbs = cmpI x y := by
  rcases sign_cases x with ⟨e, h1⟩ | ⟨e, h1⟩ | ⟨e, h1⟩ <;> rcases sign_cases y with ⟨f, h2⟩ | ⟨f, h2⟩ | ⟨f, h2⟩ <;> rw [e, f] at h <;> try omega
  all_goals (rw [e]; unfold cmpI; (repeat' split) <;> omega)
theorem cmpI_rng (x y : Int) : -1 ≤ cmpI x y ∧ cmpI x y ≤ 1 := by unfold cmpI; split <;> (try split) <;> omega
theorem bz_of {b : Bg} (h : rightB b = true) : ∃ z, b = bz z := ⟨_, bz_bv h⟩
theorem a_bCompare (a b : Bg) (la : a.dl.length ≤ 1000000) (lb : b.dl.length ≤ 1000000) :
    ACall Tryz.prog 92 [bgS a, bgS b] [] (intS .i64 (cmpB a b)) [] := by
  have r1 := a_bRight a la
  have r2 := a_bRight b lb
  cases ha : rightB a with
  | false =>
    rw [ha] at r1
    (refine acall_of tab_ok Tryz.func92 rfl (by decide) ?_; (conv => whnf); repeat (first | (refine LitB.data ?_; conv => whnf) | (refine BoxB.own ?_; conv => whnf)))
    (repeat' (first | ((refine DecB.mk (fun h => ?_) (fun h => ?_)) <;> first | (exfalso; omega) | (conv => whnf)) | ((refine BoolB.mk (fun h => ?_) (fun h => ?_)) <;> first | (exact absurd h (by decide)) | (conv => whnf)) | ((first | refine zzW ?_ | refine zzI ?_ | refine zzR ?_ | refine zzB ?_ | refine late_ok rfl rfl ?_ | refine src_ok rfl ?_ | refine .inl ⟨_, _, qcall_pure (r1) rfl rfl, ?_⟩ | refine .inl ⟨_, _, qcall_pure (r2) rfl rfl, ?_⟩ | refine LitB.data ?_ | refine BoxB.own ?_); conv => whnf)))
    all_goals (first | (exfalso; simp_all; done) | (refine fin_int ?_; unfold cmpB; rw [ha]; rfl))
  | true =>
    rw [ha] at r1
    cases hb : rightB b with
    | false =>
      rw [hb] at r2
      (refine acall_of tab_ok Tryz.func92 rfl (by decide) ?_; (conv => whnf); repeat (first | (refine LitB.data ?_; conv => whnf) | (refine BoxB.own ?_; conv => whnf)))
      (repeat' (first | ((refine DecB.mk (fun h => ?_) (fun h => ?_)) <;> first | (exfalso; omega) | (conv => whnf)) | ((refine BoolB.mk (fun h => ?_) (fun h => ?_)) <;> first | (exact absurd h (by decide)) | (conv => whnf)) | ((first | refine zzW ?_ | refine zzI ?_ | refine zzR ?_ | refine zzB ?_ | refine late_ok rfl rfl ?_ | refine src_ok rfl ?_ | refine .inl ⟨_, _, qcall_pure (r1) rfl rfl, ?_⟩ | refine .inl ⟨_, _, qcall_pure (r2) rfl rfl, ?_⟩ | refine LitB.data ?_ | refine BoxB.own ?_); conv => whnf)))
      all_goals (first | (exfalso; simp_all; done) | (refine fin_int ?_; unfold cmpB; rw [ha, hb]; rfl))
    | true =>
      rw [hb] at r2
      obtain ⟨x, rfl⟩ := bz_of ha
      obtain ⟨y, rfl⟩ := bz_of hb
      have c := a_compare (bz x).dl (bz y).dl (can_bz x) (can_bz y) la lb
      rw [val_bz, val_bz] at c
      have e : cmpB (bz x) (bz y) = cmpI x y := by unfold cmpB; rw [ha, hb, bv_bz, bv_bz]; rfl
      rw [e]
      have hr := cmpI_rng x y
      by_cases hs : x.sign = y.sign
      · have hs' : (bz x).sg = (bz y).sg := hs
        have e2 := cmpI_abs hs
        (refine acall_of tab_ok Tryz.func92 rfl (by decide) ?_; (conv => whnf); repeat (first | (refine LitB.data ?_; conv => whnf) | (refine BoxB.own ?_; conv => whnf)))
        (repeat' (first | ((refine DecB.mk (fun h => ?_) (fun h => ?_)) <;> first | (exfalso; omega) | (conv => whnf)) | ((refine BoolB.mk (fun h => ?_) (fun h => ?_)) <;> first | (exact absurd h (by decide)) | (conv => whnf)) | ((first | refine zzW ?_ | refine zzI ?_ | refine zzR ?_ | refine zzB ?_ | refine late_ok rfl rfl ?_ | refine src_ok rfl ?_ | refine .inl ⟨_, _, qcall_pure (r1) rfl rfl, ?_⟩ | refine .inl ⟨_, _, qcall_pure (r2) rfl rfl, ?_⟩ | refine .inl ⟨_, _, qcall_pure (c) rfl rfl, ?_⟩ | refine ⟨_, wrap_eq e2 (by omega) (by omega), ?_⟩ | refine LitB.data ?_ | refine BoxB.own ?_); conv => whnf)))
        all_goals first
          | (exfalso; omega)
          | (exfalso; simp_all; done)
          | exact fin_int rfl
      · have hs' : (bz x).sg ≠ (bz y).sg := hs
        (refine acall_of tab_ok Tryz.func92 rfl (by decide) ?_; (conv => whnf); repeat (first | (refine LitB.data ?_; conv => whnf) | (refine BoxB.own ?_; conv => whnf)))
        (repeat' (first | ((refine DecB.mk (fun h => ?_) (fun h => ?_)) <;> first | (exfalso; omega) | (conv => whnf)) | ((refine BoolB.mk (fun h => ?_) (fun h => ?_)) <;> first | (exact absurd h (by decide)) | (conv => whnf)) | ((first | refine zzW ?_ | refine zzI ?_ | refine zzR ?_ | refine zzB ?_ | refine late_ok rfl rfl ?_ | refine src_ok rfl ?_ | refine .inl ⟨_, _, qcall_pure (r1) rfl rfl, ?_⟩ | refine .inl ⟨_, _, qcall_pure (r2) rfl rfl, ?_⟩ | refine .inl ⟨_, _, qcall_pure (a_cmpCompare _ _) rfl rfl, ?_⟩ | refine LitB.data ?_ | refine BoxB.own ?_); conv => whnf)))
        all_goals first
          | (exfalso; omega)
          | (exfalso; simp_all; done)
          | exact fin_int (cmpI_sign hs)
def negB (a : Bg) : Bg := if rightB a then bz (-bv a) else ⟨0, []⟩
theorem a_bNeg (a : Bg) (la : a.dl.length ≤ 1000000) : ACall Tryz.prog 108 [bgS a] [] (bgS (negB a)) [] := by
  have r1 := a_bRight a la
  cases ha : rightB a with
  | false =>
    rw [ha] at r1
    have e : negB a = ⟨0, []⟩ := by unfold negB; rw [ha]; rfl
    rw [e]
    (refine acall_of tab_ok Tryz.func108 rfl (by decide) ?_; (conv => whnf); repeat (first | (refine LitB.data ?_; conv => whnf) | (refine BoxB.own ?_; conv => whnf)))
    (repeat' (first | ((refine DecB.mk (fun h => ?_) (fun h => ?_)) <;> first | (exfalso; omega) | (conv => whnf)) | ((refine BoolB.mk (fun h => ?_) (fun h => ?_)) <;> first | (exact absurd h (by decide)) | (conv => whnf)) | ((first | refine zzW ?_ | refine zzI ?_ | refine zzR ?_ | refine zzB ?_ | refine late_ok rfl rfl ?_ | refine src_ok rfl ?_ | refine .inl ⟨_, _, qcall_pure (r1) rfl rfl, ?_⟩ | refine LitB.data ?_ | refine BoxB.own ?_); conv => whnf)))
    all_goals (first | (exfalso; simp_all; done) | exact fin_t ⟨rfl, rfl, trivial⟩)
  | true =>
    rw [ha] at r1
    obtain ⟨x, rfl⟩ := bz_of ha
    have e : negB (bz x) = sgn (0 - (bz x).sg) (bz x).dl := by
      rw [Int.zero_sub]
      unfold negB
      rw [ha, sgn_bz (can_bz x).1 (by rcases sign_cases x with ⟨h, h1⟩ | ⟨h, h1⟩ | ⟨h, h1⟩ <;> rw [bz_sg, h] <;> simp [h1, val_bz]), bv_bz, val_bz, bz_sg]
      show bz (-x) = _
      congr 1
      rw [Int.neg_mul, Int.sign_mul_natAbs]
    rw [e]
    have hs : -1 ≤ (bz x).sg ∧ (bz x).sg ≤ 1 := by rcases sign_cases x with ⟨h, h1⟩ | ⟨h, h1⟩ | ⟨h, h1⟩ <;> rw [bz_sg, h] <;> decide
    (refine acall_of tab_ok Tryz.func108 rfl (by decide) ?_; (conv => whnf); repeat (first | (refine LitB.data ?_; conv => whnf) | (refine BoxB.own ?_; conv => whnf)))
    (repeat' (first | ((refine DecB.mk (fun h => ?_) (fun h => ?_)) <;> first | (exfalso; omega) | (conv => whnf)) | ((refine BoolB.mk (fun h => ?_) (fun h => ?_)) <;> first | (exact absurd h (by decide)) | (conv => whnf)) | ((first | refine zzW ?_ | refine zzI ?_ | refine zzR ?_ | refine zzB ?_ | refine late_ok rfl rfl ?_ | refine src_ok rfl ?_ | refine .inl ⟨_, _, qcall_pure (r1) rfl rfl, ?_⟩ | refine .inl ⟨_, _, qcall_pure (a_Clone _ la) rfl rfl, ?_⟩ | refine .inl ⟨_, _, qcall_pure (a_signed _ _ la) rfl rfl, ?_⟩ | refine LitB.data ?_ | refine BoxB.own ?_); conv => whnf)))
    all_goals (first | (exfalso; simp_all; done) | exact fin_t ⟨rfl, rfl, trivial⟩)
end Go.Proofs.YtfieodjihaodiaaGreat
/- big: add, sub, mul. -/
namespace Go.Proofs.YtfieodjihaodiaaGreat
open Go.RowKit
set_option linter.unusedVariables false
set_option linter.unusedSimpArgs false
set_option maxRecDepth 100000

theorem and_mask_i64 {a : Int} (j : Nat) (hj : j ≤ 62) : IntKind.wrap .i64 (BitVec.ofInt (IntKind.bits .i64) a &&& BitVec.ofInt (IntKind.bits .i64) ((2 ^ j - 1 : Nat) : Int)).toNat = a % ((2 ^ j : Nat) : Int) := by
  rw [and_mask rfl a j hj]
  have hp : (2 : Nat) ^ j ≤ 2 ^ 62 := Nat.pow_le_pow_right (by decide) hj
  have h0 : 0 < (2 : Nat) ^ j := Nat.pow_pos (by decide)
  have h1 : 0 ≤ a % ((2 ^ j : Nat) : Int) := Int.emod_nonneg _ (by omega)
  have h2 : a % ((2 ^ j : Nat) : Int) < ((2 ^ j : Nat) : Int) := Int.emod_lt_of_pos _ (by omega)
  rw [Int.toNat_of_nonneg h1]
  exact (show IsWrap .i64 _ _ from wrap_ok (by omega) (by omega)).symm
/-- m masks all below n -/
structure Mask (m n : Int) : Prop where
  ok : ∀ a : Int, IsBits .and .i64 a m (a % n)
theorem mask20 : Mask 1048575 1048576 := ⟨fun a => (and_mask_i64 (a := a) 20 (by decide)).symm⟩
theorem mask1 : Mask 1 2 := ⟨fun a => (and_mask_i64 (a := a) 1 (by decide)).symm⟩
theorem shr20 (a : Int) : IsShr .i64 a 20 (a / 1048576) := by
  show a / 1048576 = a.fdiv 1048576
  exact (Int.fdiv_eq_ediv_of_nonneg _ (by decide)).symm
theorem toC_set {l : List Int} {i : Nat} {n : Int} {v : Int} (h : 0 + n.toNat = i) : (toC (l.map intRow)).set (0 + n.toNat) [C.t (ti v)] = toC ((l.set i v).map intRow) := by
  rw [h]; simp [toC, intRow, List.map_set]
theorem get_dat0 {l : List Int} {n : Int} {i : Nat} (h : n.toNat = i) (hi : i < l.length) : l[0 + n.toNat]? = some (dat l i) := by rw [Nat.zero_add, h]; exact get_dat hi
theorem a_add1 (a b : List Int) (ha : Okd a) (hb : Okd b) (la : a.length ≤ 400000) (lb : b.length ≤ 400000) (hab : b.length ≤ a.length) :
    ACall Tryz.prog 135 [intsS a, intsS b] [] (intsS (dg (val a + val b).toNat)) [] := by
  have l1 : (a.map intRow).length = a.length := by simp
  have l2 : (b.map intRow).length = b.length := by simp
  (refine acall_of tab_ok Tryz.func135 rfl (by decide) ?_; (conv => whnf); repeat (first | (refine LitB.data ?_; conv => whnf) | (refine BoxB.own ?_; conv => whnf)))
  (repeat' (first | ((refine DecB.mk (fun h => ?_) (fun h => ?_)) <;> first | (exfalso; omega) | (conv => whnf)) | ((refine BoolB.mk (fun h => ?_) (fun h => ?_)) <;> first | (exact absurd h (by decide)) | (conv => whnf)) | ((first | refine zzW ?_ | refine zzI ?_ | refine zzR ?_ | refine zzB ?_ | refine late_ok rfl rfl ?_ | refine src_ok rfl ?_ | refine mk_ok (by omega) (by omega) (by omega) (by decide) ?_ | refine LitB.data ?_ | refine BoxB.own ?_); conv => whnf)))
  refine awp_while tab_ok (σ := Nat × List Int × Int) (fun | (k, out, c) => ([intsS a, intsS b, J, J, J, ownI 0 out, intS .i64 c, J, J, J, J, J, J, J, J, J, J, J, J, J, intsS a, intS .i64 a.length, intS .i64 k, J, J, J, J, J, J, J, J, J, J, J, J, J, J, J, J, J, J, J, J, J, J, J, J, J, J, J, J, J, J, J, J], [intsB out])) (fun x => AddI a b x.1 x.2.1 x.2.2) (fun x => a.length - x.1) (0, List.replicate (a.length + 1) 0, 0) [some 0]
    (AddI.init _ _) ⟨rfl, rfl, ⟨entB_rows rfl rfl rfl ?_ rfl, trivial⟩, ⟨ent_t rfl, ent_t rfl, ent_own rfl (by simp), rfl, ent_t rfl, ent_i (by simp), rfl, trivial⟩⟩ ?_
  · show List.replicate _ _ = _
    simp [toC, intRow, constC]
  rintro ⟨k, out, c⟩ hI
  have hI : AddI a b k out c := hI
  have hlen := hI.len
  have hle := hI.le
  have hc0 := hI.c0
  have hc1 := hI.c1
  conv => whnf
  have hda := ha.dat k
  have hdb := hb.dat k
  (repeat' (first | ((refine DecB.mk (fun h => ?_) (fun h => ?_)) <;> first | (exfalso; omega) | (conv => whnf)) | ((refine BoolB.mk (fun h => ?_) (fun h => ?_)) <;> first | (exact absurd h (by decide)) | (conv => whnf)) | ((first | refine zzW ?_ | refine zzI ?_ | refine zzR ?_ | refine zzB ?_ | refine late_ok rfl rfl ?_ | refine src_ok rfl ?_ | refine ex_row (get_dat (by omega)) ?_ | refine and_idx (by omega) (by show _ < ((out.length : Nat) : Int); omega) ?_ | refine ex_own (get_dat0 rfl (by omega)) ?_ | refine ⟨_, Mask.ok (by first | exact mask20 | exact mask1) _, ?_⟩ | refine ⟨by decide, _, shr20 _, ?_⟩ | refine LitB.data ?_ | refine BoxB.own ?_); conv => whnf)))
  · refine ⟨[some 0], (k + 1, out.set k ((c + dat a k + dat b k) % 1048576), (c + dat a k + dat b k) / 1048576), ⟨rfl, rfl, ⟨entB_rows rfl rfl rfl (toC_set (by omega)) rfl, trivial⟩, ⟨rfl, rfl, ent_own rfl (by simp), rfl, rfl, rfl, ent_i (by omega), trivial⟩⟩, hI.step ha hb (by omega), ?_⟩
    show a.length - (k + 1) < a.length - k
    omega
  · have e : dat b k = 0 := dat_none (by omega)
    have hst := hI.step ha hb (by omega)
    rw [e, Int.add_zero] at hst
    refine ⟨[some 0], (k + 1, out.set k ((c + dat a k) % 1048576), (c + dat a k) / 1048576), ⟨rfl, rfl, ⟨entB_rows rfl rfl rfl (toC_set (by omega)) rfl, trivial⟩, ⟨rfl, rfl, ent_own rfl (by simp), rfl, rfl, rfl, ent_i (by omega), trivial⟩⟩, hst, ?_⟩
    show a.length - (k + 1) < a.length - k
    omega
  · have hk : k = a.length := by omega
    subst hk
    have hf := hI.fin (by omega)
    have t := a_trim (out.set a.length c) (by simp; omega)
    rw [hf] at t
    refine .inr ⟨_, _, acall_freeze [0] t ⟨vs_c (vc_all (by simp) rfl (by intro h; cases h) rfl (toC_set (by omega)) (by simp)), trivial⟩ rfl, ?_⟩
    conv => whnf
    exact fin_d (by rw [Int.add_comm])
theorem a_add2 (a b : List Int) (ha : Okd a) (hb : Okd b) (la : a.length ≤ 400000) (lb : b.length ≤ 400000) (hab : a.length < b.length) :
    ACall Tryz.prog 135 [intsS a, intsS b] [] (intsS (dg (val a + val b).toNat)) [] := by
  have l1 : (a.map intRow).length = a.length := by simp
  have l2 : (b.map intRow).length = b.length := by simp
  (refine acall_of tab_ok Tryz.func135 rfl (by decide) ?_; (conv => whnf); repeat (first | (refine LitB.data ?_; conv => whnf) | (refine BoxB.own ?_; conv => whnf)))
  (repeat' (first | ((refine DecB.mk (fun h => ?_) (fun h => ?_)) <;> first | (exfalso; omega) | (conv => whnf)) | ((refine BoolB.mk (fun h => ?_) (fun h => ?_)) <;> first | (exact absurd h (by decide)) | (conv => whnf)) | ((first | refine zzW ?_ | refine zzI ?_ | refine zzR ?_ | refine zzB ?_ | refine late_ok rfl rfl ?_ | refine src_ok rfl ?_ | refine mk_ok (by omega) (by omega) (by omega) (by decide) ?_ | refine LitB.data ?_ | refine BoxB.own ?_); conv => whnf)))
  refine awp_while tab_ok (σ := Nat × List Int × Int) (fun | (k, out, c) => ([intsS b, intsS a, J, J, J, ownI 0 out, intS .i64 c, J, J, J, J, J, J, J, J, J, J, J, J, J, intsS b, intS .i64 b.length, intS .i64 k, J, J, J, J, J, J, J, J, J, J, J, J, J, J, J, J, J, J, J, J, J, J, J, J, J, J, J, J, J, J, J, J], [intsB out])) (fun x => AddI b a x.1 x.2.1 x.2.2) (fun x => b.length - x.1) (0, List.replicate (b.length + 1) 0, 0) [some 0]
    (AddI.init _ _) ⟨rfl, rfl, ⟨entB_rows rfl rfl rfl ?_ rfl, trivial⟩, ⟨ent_t rfl, ent_t rfl, ent_own rfl (by simp), rfl, ent_t rfl, ent_i (by simp), rfl, trivial⟩⟩ ?_
  · show List.replicate _ _ = _
    simp [toC, intRow, constC]
  rintro ⟨k, out, c⟩ hI
  have hI : AddI b a k out c := hI
  have hlen := hI.len
  have hle := hI.le
  have hc0 := hI.c0
  have hc1 := hI.c1
  conv => whnf
  have hda := hb.dat k
  have hdb := ha.dat k
  (repeat' (first | ((refine DecB.mk (fun h => ?_) (fun h => ?_)) <;> first | (exfalso; omega) | (conv => whnf)) | ((refine BoolB.mk (fun h => ?_) (fun h => ?_)) <;> first | (exact absurd h (by decide)) | (conv => whnf)) | ((first | refine zzW ?_ | refine zzI ?_ | refine zzR ?_ | refine zzB ?_ | refine late_ok rfl rfl ?_ | refine src_ok rfl ?_ | refine ex_row (get_dat (by omega)) ?_ | refine and_idx (by omega) (by show _ < ((out.length : Nat) : Int); omega) ?_ | refine ex_own (get_dat0 rfl (by omega)) ?_ | refine ⟨_, Mask.ok (by first | exact mask20 | exact mask1) _, ?_⟩ | refine ⟨by decide, _, shr20 _, ?_⟩ | refine LitB.data ?_ | refine BoxB.own ?_); conv => whnf)))
  · refine ⟨[some 0], (k + 1, out.set k ((c + dat b k + dat a k) % 1048576), (c + dat b k + dat a k) / 1048576), ⟨rfl, rfl, ⟨entB_rows rfl rfl rfl (toC_set (by omega)) rfl, trivial⟩, ⟨rfl, rfl, ent_own rfl (by simp), rfl, rfl, rfl, ent_i (by omega), trivial⟩⟩, hI.step hb ha (by omega), ?_⟩
    show b.length - (k + 1) < b.length - k
    omega
  · have e : dat a k = 0 := dat_none (by omega)
    have hst := hI.step hb ha (by omega)
    rw [e, Int.add_zero] at hst
    refine ⟨[some 0], (k + 1, out.set k ((c + dat b k) % 1048576), (c + dat b k) / 1048576), ⟨rfl, rfl, ⟨entB_rows rfl rfl rfl (toC_set (by omega)) rfl, trivial⟩, ⟨rfl, rfl, ent_own rfl (by simp), rfl, rfl, rfl, ent_i (by omega), trivial⟩⟩, hst, ?_⟩
    show b.length - (k + 1) < b.length - k
    omega
  · have hk : k = b.length := by omega
    subst hk
    have hf := hI.fin (by omega)
    have t := a_trim (out.set b.length c) (by simp; omega)
    rw [hf] at t
    refine .inr ⟨_, _, acall_freeze [0] t ⟨vs_c (vc_all (by simp) rfl (by intro h; cases h) rfl (toC_set (by omega)) (by simp)), trivial⟩ rfl, ?_⟩
    conv => whnf
    exact fin_d (by rw [Int.add_comm])
theorem a_add (a b : List Int) (ha : Okd a) (hb : Okd b) (la : a.length ≤ 400000) (lb : b.length ≤ 400000) :
    ACall Tryz.prog 135 [intsS a, intsS b] [] (intsS (dg (val a + val b).toNat)) [] := by
  rcases Nat.lt_or_ge a.length b.length with h | h
  · exact a_add2 a b ha hb la lb h
  · exact a_add1 a b ha hb la lb h
end Go.Proofs.YtfieodjihaodiaaGreat
/- big: sub, mul. -/
namespace Go.Proofs.YtfieodjihaodiaaGreat
open Go.RowKit
set_option linter.unusedVariables false
set_option linter.unusedSimpArgs false
set_option maxRecDepth 100000

theorem a_sub (a b : List Int) (ha : Okd a) (hb : Okd b) (la : a.length ≤ 400000) (lb : b.length ≤ a.length) (hv : val b ≤ val a) :
    ACall Tryz.prog 136 [intsS a, intsS b] [] (intsS (dg (val a - val b).toNat)) [] := by
  have l1 : (a.map intRow).length = a.length := by simp
  have l2 : (b.map intRow).length = b.length := by simp
  (refine acall_of tab_ok Tryz.func136 rfl (by decide) ?_; (conv => whnf); repeat (first | (refine LitB.data ?_; conv => whnf) | (refine BoxB.own ?_; conv => whnf)))
  (repeat' (first | ((refine DecB.mk (fun h => ?_) (fun h => ?_)) <;> first | (exfalso; omega) | (conv => whnf)) | ((refine BoolB.mk (fun h => ?_) (fun h => ?_)) <;> first | (exact absurd h (by decide)) | (conv => whnf)) | ((first | refine zzW ?_ | refine zzI ?_ | refine zzR ?_ | refine zzB ?_ | refine late_ok rfl rfl ?_ | refine src_ok rfl ?_ | refine LitB.data ?_ | refine BoxB.own ?_); conv => whnf)))
  refine .inr ⟨_, _, acall_new (a_CloneO a (by omega)) rfl rfl rfl rfl, ?_⟩
  conv => whnf
  (repeat' (first | ((refine DecB.mk (fun h => ?_) (fun h => ?_)) <;> first | (exfalso; omega) | (conv => whnf)) | ((refine BoolB.mk (fun h => ?_) (fun h => ?_)) <;> first | (exact absurd h (by decide)) | (conv => whnf)) | ((first | refine zzW ?_ | refine zzI ?_ | refine zzR ?_ | refine zzB ?_ | refine late_ok rfl rfl ?_ | refine src_ok rfl ?_ | refine LitB.data ?_ | refine BoxB.own ?_); conv => whnf)))
  refine awp_while tab_ok (σ := Nat × List Int × Int) (fun | (k, out, c) => ([J, intsS b, J, J, J, ownI 0 out, intS .i64 c, J, J, J, J, J, intS .i64 a.length, intS .i64 k, J, J, J, J, J, J, J, J, J, J, J, J, J, J, J, J, J, J, J, J, J, J, J, J, J, J, J, J, J], [intsB out])) (fun x => SubI a b x.1 x.2.1 x.2.2) (fun x => a.length - x.1) (0, a, 0) [some 0]
    (SubI.init ha) ⟨rfl, rfl, ⟨entB_rows rfl rfl rfl rfl rfl, trivial⟩, ⟨ent_t rfl, ent_own rfl rfl, rfl, ent_i (by simp), rfl, trivial⟩⟩ ?_
  rintro ⟨k, out, c⟩ hI
  have hI : SubI a b k out c := hI
  have hlen := hI.len
  have hle := hI.le
  have hc0 := hI.c0
  have hc1 := hI.c1
  conv => whnf
  have hda := hI.ok.dat k
  have hdb := hb.dat k
  (repeat' (first | ((refine DecB.mk (fun h => ?_) (fun h => ?_)) <;> first | (exfalso; omega) | (conv => whnf)) | ((refine BoolB.mk (fun h => ?_) (fun h => ?_)) <;> first | (exact absurd h (by decide)) | (conv => whnf)) | ((first | refine zzW ?_ | refine zzI ?_ | refine zzR ?_ | refine zzB ?_ | refine late_ok rfl rfl ?_ | refine src_ok rfl ?_ | refine ex_row (get_dat (by omega)) ?_ | refine and_idx (by omega) (by show _ < ((out.length : Nat) : Int); omega) ?_ | refine ex_own (get_dat0 (i := k) rfl (by omega)) ?_ | refine ⟨_, Mask.ok (by first | exact mask20 | exact mask1) _, ?_⟩ | refine ⟨by decide, _, shr20 _, ?_⟩ | refine LitB.data ?_ | refine BoxB.own ?_); conv => whnf)))
  · refine ⟨[some 0], (k + 1, out.set k ((dat out k - c - dat b k) % 1048576), (dat out k - c - dat b k) / 1048576 % 2), ⟨rfl, rfl, ⟨entB_rows rfl rfl rfl (toC_set (by omega)) rfl, trivial⟩, ⟨rfl, ent_own rfl (by simp), rfl, rfl, ent_i (by omega), trivial⟩⟩, hI.step ha hb (by omega), ?_⟩
    show a.length - (k + 1) < a.length - k
    omega
  · have e : dat b k = 0 := dat_none (by omega)
    have hst := hI.step ha hb (by omega)
    rw [e, Int.sub_zero] at hst
    refine ⟨[some 0], (k + 1, out.set k ((dat out k - c) % 1048576), (dat out k - c) / 1048576 % 2), ⟨rfl, rfl, ⟨entB_rows rfl rfl rfl (toC_set (by omega)) rfl, trivial⟩, ⟨rfl, ent_own rfl (by simp), rfl, rfl, ent_i (by omega), trivial⟩⟩, hst, ?_⟩
    show a.length - (k + 1) < a.length - k
    omega
  · have hk : k = a.length := by omega
    subst hk
    have hf := hI.fin (by omega) hv
    have t := a_trim out (by omega)
    rw [hf] at t
    refine .inr ⟨_, _, acall_freeze [0] t ⟨vs_c (vc_all (by simp) rfl (by intro h; cases h) rfl rfl (by simp)), trivial⟩ rfl, ?_⟩
    conv => whnf
    exact fin_d rfl
set_option maxHeartbeats 1000000 in
theorem a_mul (a b : List Int) (ha : Okd a) (hb : Okd b) (la : a.length ≤ 400000) (lb : b.length ≤ 400000) :
    ACall Tryz.prog 148 [intsS a, intsS b] [] (intsS (dg (val a * val b).toNat)) [] := by
  have l1 : (a.map intRow).length = a.length := by simp
  have l2 : (b.map intRow).length = b.length := by simp
  (refine acall_of tab_ok Tryz.func148 rfl (by decide) ?_; (conv => whnf); repeat (first | (refine LitB.data ?_; conv => whnf) | (refine BoxB.own ?_; conv => whnf)))
  (repeat' (first | ((refine DecB.mk (fun h => ?_) (fun h => ?_)) <;> first | (exfalso; omega) | (conv => whnf)) | ((refine BoolB.mk (fun h => ?_) (fun h => ?_)) <;> first | (exact absurd h (by decide)) | (conv => whnf)) | ((first | refine zzW ?_ | refine zzI ?_ | refine zzR ?_ | refine zzB ?_ | refine late_ok rfl rfl ?_ | refine src_ok rfl ?_ | refine mk_ok (by omega) (by omega) (by omega) (by decide) ?_ | refine LitB.data ?_ | refine BoxB.own ?_); conv => whnf)))
  refine awp_while tab_ok (σ := Nat × List Int) (fun | (i, out) => ([J, intsS b, J, J, J, ownI 0 out, J, J, J, J, J, J, J, J, J, J, J, J, intsS a, intS .i64 a.length, intS .i64 i, J, J, J, J, J, J, J, J, J, J, J, J, J, J, J, J, J, J, J, J, J, J, J, J, J, J, J, J, J, J, J, J, J, J, J, J, J, J, J, J, J, J, J, J, J, J], [intsB out])) (fun x => MulI a b x.1 x.2) (fun x => a.length - x.1) (0, List.replicate (a.length + b.length) 0) [some 0]
    (MulI.init a b) ⟨rfl, rfl, ⟨entB_rows rfl rfl rfl ?_ rfl, trivial⟩, ⟨ent_t rfl, ent_own rfl (by simp; omega), ent_t rfl, ent_i (by simp), rfl, trivial⟩⟩ ?_
  · show List.replicate _ _ = _
    rw [show ((((a.map intRow).length : Nat) : Int) + ((b.map intRow).length : Nat)).toNat = a.length + b.length by omega]
    simp [toC, intRow, constC]
  rintro ⟨i, out⟩ hI
  have hI : MulI a b i out := hI
  have hlen := hI.len
  have hle := hI.le
  conv => whnf
  (repeat' (first | ((refine DecB.mk (fun h => ?_) (fun h => ?_)) <;> first | (exfalso; omega) | (conv => whnf)) | ((refine BoolB.mk (fun h => ?_) (fun h => ?_)) <;> first | (exact absurd h (by decide)) | (conv => whnf)) | ((first | refine zzW ?_ | refine zzI ?_ | refine zzR ?_ | refine zzB ?_ | refine late_ok rfl rfl ?_ | refine src_ok rfl ?_ | refine ex_row (get_dat (by omega)) ?_ | refine LitB.data ?_ | refine BoxB.own ?_); conv => whnf)))
  · have hi : i < a.length := by omega
    refine awp_while tab_ok (σ := Nat × List Int × Int) (fun | (k, out, c) => ([J, intsS b, J, J, J, ownI 0 out, intS .i64 i, intS .i64 (dat a i), intS .i64 c, J, J, J, J, J, J, J, J, J, intsS a, intS .i64 a.length, intS .i64 i, J, J, J, J, intsS b, intS .i64 b.length, intS .i64 k, J, J, J, J, J, J, J, J, J, J, J, J, J, J, J, J, J, J, J, J, J, J, J, J, J, J, J, J, J, J, J, J, J, J, J, J, J, J, J], [intsB out])) (fun x => MulK a b i x.1 x.2.1 x.2.2) (fun x => b.length - x.1) (0, out, 0) [some 0]
      hI.start ⟨rfl, rfl, ⟨entB_rows rfl rfl rfl rfl rfl, trivial⟩, ⟨ent_t rfl, ent_own rfl rfl, rfl, rfl, rfl, ent_t rfl, rfl, rfl, ent_t rfl, ent_i (by simp), rfl, trivial⟩⟩ ?_
    rintro ⟨k, out, c⟩ hK
    have hK : MulK a b i k out c := hK
    have hlen := hK.len
    have hle := hK.le
    have hc0 := hK.c0
    have hc1 := hK.c1
    conv => whnf
    have hdo := hK.ok.dat (i + k)
    have hm := mul_rng (ha.dat i) (hb.dat k)
    have e1 : ((i : Int) + k).toNat = i + k := by omega
    have e2 : ((i : Int) + b.length).toNat = i + b.length := by omega
    have e3 : ((i : Int) + ((b.map intRow).length : Nat)).toNat = i + b.length := by omega
    have hz := hK.zero (i + b.length) (Nat.le_refl _)
    (repeat' (first | ((refine DecB.mk (fun h => ?_) (fun h => ?_)) <;> first | (exfalso; omega) | (conv => whnf)) | ((refine BoolB.mk (fun h => ?_) (fun h => ?_)) <;> first | (exact absurd h (by decide)) | (conv => whnf)) | ((first | refine zzW ?_ | refine zzI ?_ | refine zzR ?_ | refine zzB ?_ | refine late_ok rfl rfl ?_ | refine src_ok rfl ?_ | refine ex_row (get_dat (by omega)) ?_ | refine and_idx (by omega) (by show _ < ((out.length : Nat) : Int); omega) ?_ | refine ex_own (get_dat0 e1 (by omega)) ?_ | refine ex_own (get_dat0 e3 (by omega)) ?_ | refine ⟨_, Mask.ok (by first | exact mask20 | exact mask1) _, ?_⟩ | refine ⟨by decide, _, shr20 _, ?_⟩ | refine LitB.data ?_ | refine BoxB.own ?_); conv => whnf)))
    · refine ⟨[some 0], (k + 1, out.set (i + k) ((dat out (i + k) + dat a i * dat b k + c) % 1048576), (dat out (i + k) + dat a i * dat b k + c) / 1048576), ⟨rfl, rfl, ⟨entB_rows rfl rfl rfl (toC_set (by omega)) rfl, trivial⟩, ⟨rfl, ent_own rfl (by simp), rfl, rfl, rfl, rfl, rfl, rfl, rfl, rfl, ent_i (by omega), trivial⟩⟩, hK.step ha hb hi (by omega), ?_⟩
      show b.length - (k + 1) < b.length - k
      omega
    · have hk : k = b.length := by omega
      subst hk
      refine ⟨[some 0], (i + 1, out.set (i + b.length) (dat out (i + b.length) + c)), ⟨rfl, rfl, ⟨entB_rows rfl rfl rfl (toC_set (by omega)) rfl, trivial⟩, ⟨rfl, ent_own rfl (by simp), rfl, rfl, ent_i (by omega), trivial⟩⟩, hK.done ha hb hi, ?_⟩
      show a.length - (i + 1) < a.length - i
      omega
  · have hi : i = a.length := by omega
    subst hi
    have hf := hI.fin
    have t := a_trim out (by omega)
    rw [hf] at t
    refine .inr ⟨_, _, acall_freeze [0] t ⟨vs_c (vc_all (by simp) rfl (by intro h; cases h) rfl rfl (by simp)), trivial⟩ rfl, ?_⟩
    conv => whnf
    exact fin_d rfl
set_option maxHeartbeats 1000000 in
theorem a_mulO (a b : List Int) (ha : Okd a) (hb : Okd b) (la : a.length ≤ 400000) (lb : b.length ≤ 400000) :
    ACall Tryz.prog 148 [intsS a, intsS b] [] (.c (.own 0 0 (dg (val a * val b).toNat).length true)) [intsB (padTo (a.length + b.length) (dg (val a * val b).toNat))] := by
  have l1 : (a.map intRow).length = a.length := by simp
  have l2 : (b.map intRow).length = b.length := by simp
  (refine acall_of tab_ok Tryz.func148 rfl (by decide) ?_; (conv => whnf); repeat (first | (refine LitB.data ?_; conv => whnf) | (refine BoxB.own ?_; conv => whnf)))
  (repeat' (first | ((refine DecB.mk (fun h => ?_) (fun h => ?_)) <;> first | (exfalso; omega) | (conv => whnf)) | ((refine BoolB.mk (fun h => ?_) (fun h => ?_)) <;> first | (exact absurd h (by decide)) | (conv => whnf)) | ((first | refine zzW ?_ | refine zzI ?_ | refine zzR ?_ | refine zzB ?_ | refine late_ok rfl rfl ?_ | refine src_ok rfl ?_ | refine mk_ok (by omega) (by omega) (by omega) (by decide) ?_ | refine LitB.data ?_ | refine BoxB.own ?_); conv => whnf)))
  refine awp_while tab_ok (σ := Nat × List Int) (fun | (i, out) => ([J, intsS b, J, J, J, ownI 0 out, J, J, J, J, J, J, J, J, J, J, J, J, intsS a, intS .i64 a.length, intS .i64 i, J, J, J, J, J, J, J, J, J, J, J, J, J, J, J, J, J, J, J, J, J, J, J, J, J, J, J, J, J, J, J, J, J, J, J, J, J, J, J, J, J, J, J, J, J, J], [intsB out])) (fun x => MulI a b x.1 x.2) (fun x => a.length - x.1) (0, List.replicate (a.length + b.length) 0) [some 0]
    (MulI.init a b) ⟨rfl, rfl, ⟨entB_rows rfl rfl rfl ?_ rfl, trivial⟩, ⟨ent_t rfl, ent_own rfl (by simp; omega), ent_t rfl, ent_i (by simp), rfl, trivial⟩⟩ ?_
  · show List.replicate _ _ = _
    rw [show ((((a.map intRow).length : Nat) : Int) + ((b.map intRow).length : Nat)).toNat = a.length + b.length by omega]
    simp [toC, intRow, constC]
  rintro ⟨i, out⟩ hI
  have hI : MulI a b i out := hI
  have hlen := hI.len
  have hle := hI.le
  conv => whnf
  (repeat' (first | ((refine DecB.mk (fun h => ?_) (fun h => ?_)) <;> first | (exfalso; omega) | (conv => whnf)) | ((refine BoolB.mk (fun h => ?_) (fun h => ?_)) <;> first | (exact absurd h (by decide)) | (conv => whnf)) | ((first | refine zzW ?_ | refine zzI ?_ | refine zzR ?_ | refine zzB ?_ | refine late_ok rfl rfl ?_ | refine src_ok rfl ?_ | refine ex_row (get_dat (by omega)) ?_ | refine LitB.data ?_ | refine BoxB.own ?_); conv => whnf)))
  · have hi : i < a.length := by omega
    refine awp_while tab_ok (σ := Nat × List Int × Int) (fun | (k, out, c) => ([J, intsS b, J, J, J, ownI 0 out, intS .i64 i, intS .i64 (dat a i), intS .i64 c, J, J, J, J, J, J, J, J, J, intsS a, intS .i64 a.length, intS .i64 i, J, J, J, J, intsS b, intS .i64 b.length, intS .i64 k, J, J, J, J, J, J, J, J, J, J, J, J, J, J, J, J, J, J, J, J, J, J, J, J, J, J, J, J, J, J, J, J, J, J, J, J, J, J, J], [intsB out])) (fun x => MulK a b i x.1 x.2.1 x.2.2) (fun x => b.length - x.1) (0, out, 0) [some 0]
      hI.start ⟨rfl, rfl, ⟨entB_rows rfl rfl rfl rfl rfl, trivial⟩, ⟨ent_t rfl, ent_own rfl rfl, rfl, rfl, rfl, ent_t rfl, rfl, rfl, ent_t rfl, ent_i (by simp), rfl, trivial⟩⟩ ?_
    rintro ⟨k, out, c⟩ hK
    have hK : MulK a b i k out c := hK
    have hlen := hK.len
    have hle := hK.le
    have hc0 := hK.c0
    have hc1 := hK.c1
    conv => whnf
    have hdo := hK.ok.dat (i + k)
    have hm := mul_rng (ha.dat i) (hb.dat k)
    have e1 : ((i : Int) + k).toNat = i + k := by omega
    have e2 : ((i : Int) + b.length).toNat = i + b.length := by omega
    have e3 : ((i : Int) + ((b.map intRow).length : Nat)).toNat = i + b.length := by omega
    have hz := hK.zero (i + b.length) (Nat.le_refl _)
    (repeat' (first | ((refine DecB.mk (fun h => ?_) (fun h => ?_)) <;> first | (exfalso; omega) | (conv => whnf)) | ((refine BoolB.mk (fun h => ?_) (fun h => ?_)) <;> first | (exact absurd h (by decide)) | (conv => whnf)) | ((first | refine zzW ?_ | refine zzI ?_ | refine zzR ?_ | refine zzB ?_ | refine late_ok rfl rfl ?_ | refine src_ok rfl ?_ | refine ex_row (get_dat (by omega)) ?_ | refine and_idx (by omega) (by show _ < ((out.length : Nat) : Int); omega) ?_ | refine ex_own (get_dat0 e1 (by omega)) ?_ | refine ex_own (get_dat0 e3 (by omega)) ?_ | refine ⟨_, Mask.ok (by first | exact mask20 | exact mask1) _, ?_⟩ | refine ⟨by decide, _, shr20 _, ?_⟩ | refine LitB.data ?_ | refine BoxB.own ?_); conv => whnf)))
    · refine ⟨[some 0], (k + 1, out.set (i + k) ((dat out (i + k) + dat a i * dat b k + c) % 1048576), (dat out (i + k) + dat a i * dat b k + c) / 1048576), ⟨rfl, rfl, ⟨entB_rows rfl rfl rfl (toC_set (by omega)) rfl, trivial⟩, ⟨rfl, ent_own rfl (by simp), rfl, rfl, rfl, rfl, rfl, rfl, rfl, rfl, ent_i (by omega), trivial⟩⟩, hK.step ha hb hi (by omega), ?_⟩
      show b.length - (k + 1) < b.length - k
      omega
    · have hk : k = b.length := by omega
      subst hk
      refine ⟨[some 0], (i + 1, out.set (i + b.length) (dat out (i + b.length) + c)), ⟨rfl, rfl, ⟨entB_rows rfl rfl rfl (toC_set (by omega)) rfl, trivial⟩, ⟨rfl, ent_own rfl (by simp), rfl, rfl, ent_i (by omega), trivial⟩⟩, hK.done ha hb hi, ?_⟩
      show a.length - (i + 1) < a.length - i
      omega
  · have hi : i = a.length := by omega
    subst hi
    have hf := hI.fin
    have t := a_trimO out (by omega)
    have hp := trimL_pad out
    rw [hf] at t hp
    refine .inr ⟨_, _, t, ?_⟩
    conv => whnf
    have hq : padTo (a.length + b.length) (dg (val a * val b).toNat) = out := by unfold padTo; rw [← hlen]; exact hp
    rw [hq]
    exact ⟨⟨[some 0], rfl, rfl, ⟨entB_rows rfl rfl rfl rfl rfl, trivial⟩, ⟨rfl, rfl, rfl, fun h => h⟩⟩⟩
end Go.Proofs.YtfieodjihaodiaaGreat
/- big: short. -/
namespace Go.Proofs.YtfieodjihaodiaaGreat
open Go.RowKit
set_option linter.unusedVariables false
set_option linter.unusedSimpArgs false
set_option maxRecDepth 100000

theorem shl20 {r : Int} (h0 : 0 ≤ r) (h1 : r < 4398046511104) : IsWrap .i64 (r * 2 ^ min (20 : Int).toNat (IntKind.bits .i64)) (r * 1048576) := by
  show IsWrap .i64 (r * 1048576) (r * 1048576)
  exact wrap_ok (by omega) (by omega)
theorem or_nat {k : IntKind} (hk : k.bits = 64) (R X : Nat) (h1 : R < 4398046511104) (hx : X < 1048576) : (BitVec.ofInt k.bits ((R : Int) * 1048576) ||| BitVec.ofInt k.bits (X : Int)).toNat = R * 1048576 + X := by
  rw [hk, BitVec.toNat_or, BitVec.toNat_ofInt, BitVec.toNat_ofInt]
  have e1 : (((R : Int) * 1048576) % ((2 ^ 64 : Nat) : Int)).toNat = R <<< 20 := by
    rw [Nat.shiftLeft_eq]; omega
  have e2 : ((X : Int) % ((2 ^ 64 : Nat) : Int)).toNat = X := by omega
  rw [e1, e2, ← Nat.shiftLeft_add_eq_or_of_lt (by omega), Nat.shiftLeft_eq]
theorem or20 {r x : Int} (h0 : 0 ≤ r) (h1 : r < 4398046511104) (hx0 : 0 ≤ x) (hx1 : x < 1048576) : IsBits .or .i64 (r * 1048576) x (r * 1048576 + x) := by
  obtain ⟨R, rfl⟩ := Int.eq_ofNat_of_zero_le h0
  obtain ⟨X, rfl⟩ := Int.eq_ofNat_of_zero_le hx0
  unfold IsBits
  simp only
  rw [or_nat rfl R X (by omega) (by omega)]
  have e : ((R * 1048576 + X : Nat) : Int) = (R : Int) * 1048576 + X := by simp
  rw [e]
  exact (show IsWrap .i64 ((R : Int) * 1048576 + X) _ from wrap_ok (by omega) (by omega))
theorem tdivq {a b : Int} (h0 : 0 ≤ a) (h1 : a ≤ 9223372036854775807) (hb : 0 < b) : IsWrap .i64 (a.tdiv b) (a / b) := by
  rw [Int.tdiv_eq_ediv_of_nonneg h0]
  have h2 : 0 ≤ a / b := Int.ediv_nonneg h0 (by omega)
  have h3 : a / b ≤ a := Int.ediv_le_self _ h0
  exact wrap_ok (by omega) (by omega)
theorem get_pred0 {l : List Int} {n : Nat} (h : 0 < n) (hn : n ≤ l.length) : l[0 + ((n : Int) - 1).toNat]? = some (dat l (n - 1)) := by rw [Nat.zero_add]; exact get_pred h hn

theorem a_short (a : List Int) (d : Int) (ha : Okd a) (la : a.length ≤ 1000000) (hd : 0 < d) (hd2 : d < 1048576) :
    ACall Tryz.prog 149 [intsS a, intS .i64 d] [] (.tup [intsS (dg (val a / d).toNat), intS .i64 (val a % d)]) [] := by
  have l1 : (a.map intRow).length = a.length := by simp
  (refine acall_of tab_ok Tryz.func149 rfl (by decide) ?_; (conv => whnf); repeat (first | (refine LitB.data ?_; conv => whnf) | (refine BoxB.own ?_; conv => whnf)))
  (repeat' (first | ((refine DecB.mk (fun h => ?_) (fun h => ?_)) <;> first | (exfalso; omega) | (conv => whnf)) | ((refine BoolB.mk (fun h => ?_) (fun h => ?_)) <;> first | (exact absurd h (by decide)) | (conv => whnf)) | ((first | refine zzW ?_ | refine zzI ?_ | refine zzR ?_ | refine zzB ?_ | refine late_ok rfl rfl ?_ | refine src_ok rfl ?_ | refine mk_ok (by omega) (by omega) (by omega) (by decide) ?_ | refine LitB.data ?_ | refine BoxB.own ?_); conv => whnf)))
  refine awp_while tab_ok (σ := Nat × List Int × Int) (fun | (j, out, r) => ([intsS a, intS .i64 d, J, J, J, J, ownI 0 out, intS .i64 r, intS .i64 ((j : Int) - 1), J, J, J, J, J, J, J, J, J, J, J, J, J, J, J, J, J, J, J, J, J, J, J, J, J, J, J, J, J], [intsB out])) (fun x => ShortI a d x.1 x.2.1 x.2.2) (fun x => x.1) (a.length, List.replicate a.length 0, 0) [some 0]
    (ShortI.init a hd) ⟨rfl, rfl, ⟨entB_rows rfl rfl rfl ?_ rfl, trivial⟩, ⟨ent_t rfl, rfl, ent_own rfl (by simp), rfl, ent_i (by simp), trivial⟩⟩ ?_
  · show List.replicate _ _ = _
    simp [toC, intRow, constC]
  rintro ⟨j, out, r⟩ hI
  have hI : ShortI a d j out r := hI
  have hlen := hI.len
  have hle := hI.le
  have hr0 := hI.r0
  have hr1 := hI.r1
  have hda := ha.dat (j - 1)
  conv => whnf
  (repeat' (first | ((refine DecB.mk (fun h => ?_) (fun h => ?_)) <;> first | (exfalso; omega) | (conv => whnf)) | ((refine BoolB.mk (fun h => ?_) (fun h => ?_)) <;> first | (exact absurd h (by decide)) | (conv => whnf)) | ((first | refine zzW ?_ | refine zzI ?_ | refine zzR ?_ | refine zzB ?_ | refine late_ok rfl rfl ?_ | refine src_ok rfl ?_ | refine ex_rowI (by omega) (get_pred (by omega) hle) ?_ | refine and_idx (by omega) (by show _ < ((out.length : Nat) : Int); omega) ?_ | refine ex_own (get_pred0 (by omega) (by omega)) ?_ | refine ⟨by decide, _, shl20 (by omega) (by omega), ?_⟩ | refine ⟨_, or20 (by omega) (by omega) (by omega) (by omega), ?_⟩ | refine ⟨by omega, _, tdivq (by omega) (by omega) (by omega), ?_⟩ | refine ne_ok (by omega) ?_ | refine LitB.data ?_ | refine BoxB.own ?_); conv => whnf)))
  · obtain ⟨j, rfl⟩ : ∃ i, j = i + 1 := ⟨j - 1, by omega⟩
    simp only [Nat.add_sub_cancel] at *
    have hst := hI.step ha hd
    rw [← Int.tmod_eq_emod_of_nonneg (by omega)] at hst
    refine ⟨[some 0], (j, out.set j ((r * 1048576 + dat a j) / d), (r * 1048576 + dat a j).tmod d), ⟨rfl, rfl, ⟨entB_rows rfl rfl rfl (toC_set (by omega)) rfl, trivial⟩, ⟨rfl, rfl, ent_own rfl (by simp), rfl, ent_i (by omega), trivial⟩⟩, hst, ?_⟩
    show j < j + 1
    omega
  · have hj : j = 0 := by omega
    subst hj
    obtain ⟨hf, hr⟩ := hI.fin ha hd
    have t := a_trim out (by omega)
    rw [hf] at t
    refine .inr ⟨_, _, acall_freeze [0] t ⟨vs_c (vc_all (by simp) rfl (by intro h; cases h) rfl rfl (by simp)), trivial⟩ rfl, ?_⟩
    conv => whnf
    (repeat' (first | ((refine DecB.mk (fun h => ?_) (fun h => ?_)) <;> first | (exfalso; omega) | (conv => whnf)) | ((refine BoolB.mk (fun h => ?_) (fun h => ?_)) <;> first | (exact absurd h (by decide)) | (conv => whnf)) | ((first | refine zzW ?_ | refine zzI ?_ | refine zzR ?_ | refine zzB ?_ | refine late_ok rfl rfl ?_ | refine src_ok rfl ?_ | refine LitB.data ?_ | refine BoxB.own ?_); conv => whnf)))
    exact fin_t ⟨rfl, ent_i hr, trivial⟩
end Go.Proofs.YtfieodjihaodiaaGreat
/- big: settle. -/
namespace Go.Proofs.YtfieodjihaodiaaGreat
open Go.RowKit
set_option linter.unusedVariables false
set_option linter.unusedSimpArgs false
set_option maxRecDepth 100000

theorem get_win {pre out post : List Int} {k : Nat} (h : k < out.length) : (pre ++ out ++ post)[pre.length + (k : Int).toNat]? = some (dat out k) := by
  rw [List.append_assoc, List.getElem?_append_right (by omega), show pre.length + (k : Int).toNat - pre.length = k by omega, List.getElem?_append_left h]
  exact get_dat h
theorem toC_setw {pre out post : List Int} {k : Nat} {v : Int} (h : k < out.length) : (toC ((pre ++ out ++ post).map intRow)).set (pre.length + (k : Int).toNat) [C.t (ti v)] = toC ((pre ++ out.set k v ++ post).map intRow) := by
  have e : (pre ++ out ++ post).set (pre.length + k) v = pre ++ out.set k v ++ post := by
    rw [List.append_assoc, List.set_append_right _ _ (by omega), show pre.length + k - pre.length = k by omega, List.set_append_left _ _ h, List.append_assoc]
  rw [← e]
  show (toC ((pre ++ out ++ post).map intRow)).set (pre.length + k) _ = _
  simp [toC, intRow, List.map_set]
def settleQ (w v g : Int) : Int := if g * v ≤ w then g else g - 1
theorem a_settle (pre w post v : List Int) (g : Int) (hw : Okd w) (hv : Okd v) (lw : w.length ≤ 1000000) (lv : v.length ≤ w.length) (hg : 0 ≤ g ∧ g < 1048576) (hgv : g * val v ≤ val w + val v) :
    ACall Tryz.prog 151 [.c (.own 0 pre.length w.length false), intsS v, intS .i64 g] [intsB (pre ++ w ++ post)] (intS .i64 (settleQ (val w) (val v) g))
      [intsB (pre ++ padTo w.length (dg (val w - settleQ (val w) (val v) g * val v).toNat) ++ post)] := by
  have l1 : (v.map intRow).length = v.length := by simp
  (refine acall_of tab_ok Tryz.func151 rfl (by decide) ?_; (conv => whnf); repeat (first | (refine LitB.data ?_; conv => whnf) | (refine BoxB.own ?_; conv => whnf)))
  (repeat' (first | ((refine DecB.mk (fun h => ?_) (fun h => ?_)) <;> first | (exfalso; omega) | (conv => whnf)) | ((refine BoolB.mk (fun h => ?_) (fun h => ?_)) <;> first | (exact absurd h (by decide)) | (conv => whnf)) | ((first | refine zzW ?_ | refine zzI ?_ | refine zzR ?_ | refine zzB ?_ | refine late_ok rfl rfl ?_ | refine src_ok rfl ?_ | refine LitB.data ?_ | refine BoxB.own ?_); conv => whnf)))
  refine awp_while tab_ok (σ := Nat × List Int × Int) (fun | (k, out, c) => ([S.c (C.own 0 pre.length w.length false), intsS v, intS .i64 g, J, J, J, J, intS .i64 c, J, J, J, J, J, intS .i64 w.length, intS .i64 k, J, J, J, J, J, J, J, J, J, J, J, J, J, J, J, J, J, J, J, J, J, J, J, J, J, J, J, J, J, J, J, J, J, J, J, J, J, J, J, J, J, J, J, J, J, J, J, J, J, J, J, J, J, J, J, J, J, J, J, J, J, J, J], [intsB (pre ++ out ++ post)])) (fun x => SetI w v g x.1 x.2.1 x.2.2) (fun x => w.length - x.1) (0, w, 0) [some 0]
    (SetI.init g hw) ⟨rfl, rfl, ⟨entB_rows rfl rfl rfl rfl rfl, trivial⟩, ⟨⟨rfl, rfl, rfl, fun h => h⟩, ent_t rfl, rfl, rfl, rfl, rfl, trivial⟩⟩ ?_
  rintro ⟨k, out, c⟩ hI
  have hI : SetI w v g k out c := hI
  have hlen := hI.len
  have hle := hI.le
  have hc0 := hI.c0
  have hc1 := hI.c1
  have hdo := hI.ok.dat k
  have hm := mul_rng hg (hv.dat k)
  conv => whnf
  (repeat' (first | ((refine DecB.mk (fun h => ?_) (fun h => ?_)) <;> first | (exfalso; omega) | (conv => whnf)) | ((refine BoolB.mk (fun h => ?_) (fun h => ?_)) <;> first | (exact absurd h (by decide)) | (conv => whnf)) | ((first | refine zzW ?_ | refine zzI ?_ | refine zzR ?_ | refine zzB ?_ | refine late_ok rfl rfl ?_ | refine src_ok rfl ?_ | refine ex_row (get_dat (by omega)) ?_ | refine ex_own (get_win (by omega)) ?_ | refine ⟨_, Mask.ok (by first | exact mask20 | exact mask1) _, ?_⟩ | refine ⟨by decide, _, shr20 _, ?_⟩ | refine LitB.data ?_ | refine BoxB.own ?_); conv => whnf)))
  · have hst := hI.step hv hg (by omega)
    refine ⟨[some 0], (k + 1, out.set k ((dat out k - c - g * dat v k) % 1048576), -((dat out k - c - g * dat v k) / 1048576)), ⟨rfl, rfl, ⟨entB_rows rfl rfl rfl (toC_setw (by omega)) rfl, trivial⟩, ⟨⟨rfl, rfl, rfl, fun h => h⟩, rfl, rfl, ent_i (Int.zero_sub _), rfl, ent_i (by omega), trivial⟩⟩, hst, ?_⟩
    show w.length - (k + 1) < w.length - k
    omega
  · have hst := hI.step hv hg (by omega)
    rw [dat_none (l := v) (i := k) (by omega), Int.mul_zero, Int.sub_zero] at hst
    refine ⟨[some 0], (k + 1, out.set k ((dat out k - c) % 1048576), -((dat out k - c) / 1048576)), ⟨rfl, rfl, ⟨entB_rows rfl rfl rfl (toC_setw (by omega)) rfl, trivial⟩, ⟨⟨rfl, rfl, rfl, fun h => h⟩, rfl, rfl, ent_i (Int.zero_sub _), rfl, ent_i (by omega), trivial⟩⟩, hst, ?_⟩
    show w.length - (k + 1) < w.length - k
    omega
  · have hk : k = w.length := by omega
    subst hk
    have hc : c = 0 := by assumption
    obtain ⟨h1, h2⟩ := hI.zero lv hw hv hg.1
    have hq : settleQ (val w) (val v) g = g := by unfold settleQ; rw [if_pos (h1.1 hc)]
    rw [hq, ← h2 hc, ← okd_pad hI.ok hlen]
    exact ⟨⟨[some 0], rfl, rfl, ⟨entB_rows rfl rfl rfl rfl rfl, trivial⟩, rfl⟩⟩
  · have hk : k = w.length := by omega
    subst hk
    have hc : ¬ c = 0 := by assumption
    obtain ⟨h1, h2⟩ := hI.zero lv hw hv hg.1
    have hlt : ¬ g * val v ≤ val w := fun h => hc (h1.2 h)
    have hq : settleQ (val w) (val v) g = g - 1 := by unfold settleQ; rw [if_neg hlt]
    have hvl := val_lt hv
    have hpw := pw_mono lv
    rw [hq]
    refine awp_while tab_ok (σ := Nat × List Int × Int) (fun | (k, o, c) => ([S.c (C.own 0 pre.length w.length false), intsS v, intS .i64 g, J, J, J, J, J, J, J, intS .i64 c, J, J, J, J, J, J, J, J, J, J, J, J, J, J, J, J, J, J, J, J, J, J, J, J, J, J, J, J, J, J, J, J, J, J, J, J, J, intS .i64 w.length, intS .i64 k, J, J, J, J, J, J, J, J, J, J, J, J, J, J, J, J, J, J, J, J, J, J, J, J, J, J, J, J], [intsB (pre ++ o ++ post)])) (fun x => BackI out v x.1 x.2.1 x.2.2) (fun x => w.length - x.1) (0, out, 0) [some 0]
      (BackI.init hI.ok) ⟨rfl, rfl, ⟨entB_rows rfl rfl rfl rfl rfl, trivial⟩, ⟨⟨rfl, rfl, rfl, fun h => h⟩, ent_t rfl, rfl, rfl, rfl, rfl, trivial⟩⟩ ?_
    rintro ⟨k, o, c'⟩ hB
    have hB : BackI out v k o c' := hB
    have hlen2 := hB.len
    have hle2 := hB.le
    have hb0 := hB.c0
    have hb1 := hB.c1
    have hdo := hB.ok.dat k
    have hdv := hv.dat k
    conv => whnf
    (repeat' (first | ((refine DecB.mk (fun h => ?_) (fun h => ?_)) <;> first | (exfalso; omega) | (conv => whnf)) | ((refine BoolB.mk (fun h => ?_) (fun h => ?_)) <;> first | (exact absurd h (by decide)) | (conv => whnf)) | ((first | refine zzW ?_ | refine zzI ?_ | refine zzR ?_ | refine zzB ?_ | refine late_ok rfl rfl ?_ | refine src_ok rfl ?_ | refine ex_row (get_dat (by omega)) ?_ | refine ex_own (get_win (by omega)) ?_ | refine ⟨_, Mask.ok (by first | exact mask20 | exact mask1) _, ?_⟩ | refine ⟨by decide, _, shr20 _, ?_⟩ | refine LitB.data ?_ | refine BoxB.own ?_); conv => whnf)))
    · have hst := hB.step hv (by omega)
      refine ⟨[some 0], (k + 1, o.set k ((c' + dat o k + dat v k) % 1048576), (c' + dat o k + dat v k) / 1048576), ⟨rfl, rfl, ⟨entB_rows rfl rfl rfl (toC_setw (by omega)) rfl, trivial⟩, ⟨⟨rfl, rfl, rfl, fun h => h⟩, rfl, rfl, rfl, rfl, ent_i (by omega), trivial⟩⟩, hst, ?_⟩
      show w.length - (k + 1) < w.length - k
      omega
    · have hst := hB.step hv (by omega)
      rw [dat_none (l := v) (i := k) (by omega), Int.add_zero] at hst
      refine ⟨[some 0], (k + 1, o.set k ((c' + dat o k) % 1048576), (c' + dat o k) / 1048576), ⟨rfl, rfl, ⟨entB_rows rfl rfl rfl (toC_setw (by omega)) rfl, trivial⟩, ⟨⟨rfl, rfl, rfl, fun h => h⟩, rfl, rfl, rfl, rfl, ent_i (by omega), trivial⟩⟩, hst, ?_⟩
      show w.length - (k + 1) < w.length - k
      omega
    · have hk : k = w.length := by omega
      subst hk
      have e := hI.back hB lv (by omega) (by omega)
      have e2 : val w - (g - 1) * val v = val w - g * val v + val v := by rw [Int.sub_mul]; omega
      rw [e2, ← e, ← okd_pad hB.ok (by omega)]
      exact ⟨⟨[some 0], rfl, rfl, ⟨entB_rows rfl rfl rfl rfl rfl, trivial⟩, rfl⟩⟩
end Go.Proofs.YtfieodjihaodiaaGreat
/- big: div. -/
namespace Go.Proofs.YtfieodjihaodiaaGreat
open Go.RowKit
set_option linter.unusedVariables false
set_option linter.unusedSimpArgs false
set_option maxRecDepth 100000

abbrev divS (m n : Nat) : S := .tup [intsS (dg (m / n)), intsS (dg (m % n))]
theorem a_div1 (m n : Nat) (hn : 0 < n) (h : m < n) (lm : (dg m).length ≤ 400000) (ln : (dg n).length ≤ 400000) :
    ACall Tryz.prog 125 [intsS (dg m), intsS (dg n)] [] (divS m n) [] := by
  have c := a_compare (dg m) (dg n) (dg_can m) (dg_can n) (by omega) (by omega)
  rw [val_dg, val_dg, cmpI_lt (by omega)] at c
  have e1 : m / n = 0 := Nat.div_eq_of_lt h
  have e2 : m % n = m := Nat.mod_eq_of_lt h
  unfold divS
  rw [e1, e2, dg_zero]
  (refine acall_of tab_ok Tryz.func125 rfl (by decide) ?_; (conv => whnf); repeat (first | (refine LitB.data ?_; conv => whnf) | (refine BoxB.own ?_; conv => whnf)))
  (repeat' (first | ((refine DecB.mk (fun h => ?_) (fun h => ?_)) <;> first | (exfalso; omega) | (conv => whnf)) | ((refine BoolB.mk (fun h => ?_) (fun h => ?_)) <;> first | (exact absurd h (by decide)) | (conv => whnf)) | ((first | refine zzW ?_ | refine zzI ?_ | refine zzR ?_ | refine zzB ?_ | refine late_ok rfl rfl ?_ | refine src_ok rfl ?_ | refine .inl ⟨_, _, qcall_pure (c) rfl rfl, ?_⟩ | refine .inl ⟨_, _, qcall_pure (a_Clone _ (by omega)) rfl rfl, ?_⟩ | refine LitB.data ?_ | refine BoxB.own ?_); conv => whnf)))
  exact fin_t ⟨rfl, rfl, trivial⟩
theorem a_div2 (m n : Nat) (hn : 0 < n) (h : n ≤ m) (hl : (dg n).length = 1) (lm : (dg m).length ≤ 400000) :
    ACall Tryz.prog 125 [intsS (dg m), intsS (dg n)] [] (divS m n) [] := by
  have l2 : ((dg n).map intRow).length = (dg n).length := by simp
  have c := a_compare (dg m) (dg n) (dg_can m) (dg_can n) (by omega) (by omega)
  rw [val_dg, val_dg] at c
  have hc : 0 ≤ cmpI m n := by unfold cmpI; split <;> (try split) <;> omega
  have hn2 := dg_lt_pw n
  rw [hl] at hn2
  have hn3 : (n : Int) < 1048576 := by simpa [pw] using hn2
  have hd : dg n = [(n : Int)] := by
    rw [dg_pos hn, show n / 1048576 = 0 by omega, show n % 1048576 = n by omega]; rfl
  have sh := a_short (dg m) n (okd_dg m) (by omega) (by omega) hn3
  rw [val_dg] at sh
  have e1 : ((m : Int) / n).toNat = m / n := by rw [← Int.natCast_ediv]; rfl
  have e2 : (m : Int) % n = ((m % n : Nat) : Int) := by simp
  rw [e1, e2] at sh
  have hr : m % n < n := Nat.mod_lt _ hn
  have t := a_trim [((m % n : Nat) : Int)] (by simp)
  rw [trimL_dg (by intro x hx; simp at hx; omega)] at t
  have e3 : (val [((m % n : Nat) : Int)]).toNat = m % n := by simp only [val]; omega
  rw [e3] at t
  (refine acall_of tab_ok Tryz.func125 rfl (by decide) ?_; (conv => whnf); repeat (first | (refine LitB.data ?_; conv => whnf) | (refine BoxB.own ?_; conv => whnf)))
  (repeat' (first | ((refine DecB.mk (fun h => ?_) (fun h => ?_)) <;> first | (exfalso; omega) | (conv => whnf)) | ((refine BoolB.mk (fun h => ?_) (fun h => ?_)) <;> first | (exact absurd h (by decide)) | (conv => whnf)) | ((first | refine zzW ?_ | refine zzI ?_ | refine zzR ?_ | refine zzB ?_ | refine late_ok rfl rfl ?_ | refine src_ok rfl ?_ | refine .inl ⟨_, _, qcall_pure (c) rfl rfl, ?_⟩ | refine .inl ⟨_, _, qcall_pure (sh) rfl rfl, ?_⟩ | refine .inl ⟨_, _, qcall_pure (hd) rfl rfl, ?_⟩ | refine ex_rowI (x := (n : Int)) (by omega) (by rw [hd]; rfl) ?_ | refine .inl ⟨_, _, qcall_data t ⟨vs_c (vc_t rfl), trivial⟩ rfl, ?_⟩ | refine LitB.data ?_ | refine BoxB.own ?_); conv => whnf)))
  all_goals (first | (exfalso; omega) | exact fin_t ⟨rfl, rfl, trivial⟩)
end Go.Proofs.YtfieodjihaodiaaGreat
/- The shift of div. No program is in sight. -/
namespace Go.Proofs.YtfieodjihaodiaaGreat
/-- the shift of div: the first digit of the shifted divisor is at least half the base -/
theorem norm_V {n k : Nat} {top : Int} (hn : 0 < n) (ht : dat (dg n) ((dg n).length - 1) = top) (hk : k ≤ 19) (h1 : top * 2 ^ k < 1048576) (h2 : ¬ top * 2 ^ k < 524288) :
    (dg (n * 2 ^ k)).length = (dg n).length ∧ 524288 ≤ dat (dg (n * 2 ^ k)) ((dg n).length - 1) := by
  have hl : (dg n).length ≠ 0 := by rw [Ne, List.length_eq_zero_iff, dg_eq_nil]; omega
  obtain ⟨l, hl'⟩ : ∃ l, (dg n).length = l + 1 := ⟨(dg n).length - 1, by omega⟩
  rw [hl', Nat.add_sub_cancel] at ht ⊢
  have e1 := val_take_dat (dg n) l
  rw [List.take_of_length_le (by omega), val_dg, ht] at e1
  have a1 := val_nonneg ((okd_dg n).take l)
  have a2 := val_lt ((okd_dg n).take l)
  rw [List.length_take, Nat.min_eq_left (by omega)] at a2
  have t0 := (okd_dg n).dat l
  rw [ht] at t0
  obtain ⟨T, rfl⟩ := Int.eq_ofNat_of_zero_le t0.1
  have hp : (0 : Int) < 2 ^ k := Int.pow_pos (by decide)
  have hpp := pw_pos l
  have e2 : (2 : Int) ^ k * 2 ^ (20 - k) = 1048576 := by rw [← Int.pow_add, show k + (20 - k) = 20 by omega]; rfl
  have h3 : (T : Int) < 2 ^ (20 - k) := by
    refine Int.lt_of_mul_lt_mul_left (a := (2 : Int) ^ k) ?_ (Int.le_of_lt hp)
    rw [e2, Int.mul_comm]; exact h1
  have h4 : ((T : Int) + 1) * 2 ^ k ≤ 1048576 := by
    have := Int.mul_le_mul_of_nonneg_left (a := (T : Int) + 1) (b := 2 ^ (20 - k)) (c := 2 ^ k) (by omega) (Int.le_of_lt hp)
    rw [e2, Int.mul_comm] at this; exact this
  have hV : (((n * 2 ^ k : Nat)) : Int) = n * 2 ^ k := by simp
  have h5 : ((n * 2 ^ k : Nat) : Int) < pw (l + 1) := by
    rw [hV, pw_succ]
    have b1 : (n : Int) + 1 ≤ pw l * (T + 1) := by rw [Int.mul_add]; omega
    have b2 := Int.mul_le_mul_of_nonneg_right (c := (2 : Int) ^ k) b1 (Int.le_of_lt hp)
    have b3 := Int.mul_le_mul_of_nonneg_left (c := pw l) h4 (Int.le_of_lt hpp)
    rw [← Int.mul_assoc] at b3
    rw [Int.add_mul] at b2
    omega
  have h6 : pw l * 524288 ≤ ((n * 2 ^ k : Nat) : Int) := by
    rw [hV]
    have b1 : pw l * T ≤ (n : Int) := by omega
    have b2 := Int.mul_le_mul_of_nonneg_right (c := (2 : Int) ^ k) b1 (Int.le_of_lt hp)
    have b3 := Int.mul_le_mul_of_nonneg_left (a := 524288) (b := (T : Int) * 2 ^ k) (c := pw l) (by omega) (Int.le_of_lt hpp)
    rw [← Int.mul_assoc] at b3
    omega
  have h7 : (dg (n * 2 ^ k)).length = l + 1 := by
    have c1 := dg_len_le h5
    rcases Nat.lt_or_ge (dg (n * 2 ^ k)).length (l + 1) with c2 | c2
    · have c3 := dg_lt_pw (n * 2 ^ k)
      have c4 := pw_mono (show (dg (n * 2 ^ k)).length ≤ l by omega)
      omega
    · omega
  refine ⟨h7, ?_⟩
  have f1 := val_take_dat (dg (n * 2 ^ k)) l
  rw [List.take_of_length_le (by omega), val_dg] at f1
  have f2 := val_lt ((okd_dg (n * 2 ^ k)).take l)
  rw [List.length_take, Nat.min_eq_left (by omega)] at f2
  rcases Int.lt_or_le (dat (dg (n * 2 ^ k)) l) 524288 with c | c
  · exfalso
    have := Int.mul_le_mul_of_nonneg_left (a := dat (dg (n * 2 ^ k)) l + 1) (b := 524288) (c := pw l) (by omega) (Int.le_of_lt hpp)
    rw [Int.mul_add] at this
    omega
  · exact c
end Go.Proofs.YtfieodjihaodiaaGreat
/- big: div, the long case. -/
namespace Go.Proofs.YtfieodjihaodiaaGreat
open Go.RowKit
set_option linter.unusedVariables false
set_option linter.unusedSimpArgs false
set_option maxRecDepth 100000

theorem args_win {a a' b b' : Nat} {x y : S} (h1 : a = a') (h2 : b = b') : [S.c (.own 0 a b false), x, y] = [S.c (.own 0 a' b' false), x, y] := by rw [h1, h2]
theorem settleQ_ok {V W v1 top g r : Int} (hG : Guess V W v1 top g r) (hV : 0 < V) (hW : 0 ≤ W) (h1 : g < 1048576) (h2 : g * V ≤ W + V) :
    0 ≤ settleQ W V g ∧ settleQ W V g < 1048576 ∧ 0 ≤ W - settleQ W V g * V ∧ W - settleQ W V g * V < V := by
  have h3 := hG.hi
  have h4 := hG.g0
  rw [Int.add_mul, Int.one_mul] at h3
  unfold settleQ
  by_cases hc : g * V ≤ W
  · rw [if_pos hc]; omega
  · rw [if_neg hc, Int.sub_mul, Int.one_mul]
    have : g ≠ 0 := by rintro rfl; simp at hc; omega
    omega
set_option maxHeartbeats 4000000 in
theorem a_div3 (m n : Nat) (hn : 0 < n) (hmn : n ≤ m) (hl : 2 ≤ (dg n).length) (lm : (dg m).length ≤ 300000) (ln : (dg n).length ≤ 300000) :
    ACall Tryz.prog 125 [intsS (dg m), intsS (dg n)] [] (divS m n) [] := by
  have l1 : ((dg m).map intRow).length = (dg m).length := by simp
  have l2 : ((dg n).map intRow).length = (dg n).length := by simp
  have c := a_compare (dg m) (dg n) (dg_can m) (dg_can n) (by omega) (by omega)
  rw [val_dg, val_dg] at c
  have hc : 0 ≤ cmpI m n := by unfold cmpI; split <;> (try split) <;> omega
  have ht0 := (okd_dg n).dat ((dg n).length - 1)
  have ht1 : dat (dg n) ((dg n).length - 1) ≠ 0 := (dg_can n).2 _ (get_dat (by omega))
  generalize htop : dat (dg n) ((dg n).length - 1) = top at ht0 ht1
  (refine acall_of tab_ok Tryz.func125 rfl (by decide) ?_; (conv => whnf); repeat (first | (refine LitB.data ?_; conv => whnf) | (refine BoxB.own ?_; conv => whnf)))
  (repeat' (first | ((refine DecB.mk (fun h => ?_) (fun h => ?_)) <;> first | (exfalso; omega) | (conv => whnf)) | ((refine BoolB.mk (fun h => ?_) (fun h => ?_)) <;> first | (exact absurd h (by decide)) | (conv => whnf)) | ((first | refine zzW ?_ | refine zzI ?_ | refine zzR ?_ | refine zzB ?_ | refine late_ok rfl rfl ?_ | refine src_ok rfl ?_ | refine .inl ⟨_, _, qcall_pure (c) rfl rfl, ?_⟩ | refine LitB.data ?_ | refine BoxB.own ?_); conv => whnf)))
  refine awp_while tab_ok (σ := Nat) (fun k => ([intsS (dg m), intsS (dg n), J, J, J, J, J, J, intS .i64 (2 ^ k), J, J, J, J, J, J, J, J, J, J, J, J, J, J, J, J, J, J, J, J, J, J, J, J, J, J, J, J, J, J, J, J, J, J, J, J, J, J, J, J, J, J, J, J, J, J, J, J, J, J, J, J, J, J, J, J, J, J, J, J, J, J, J, J, J, J, J, J, J, J, J, J, J, J, J, J, J, J, J, J, J, J, J, J, J, J, J, J, J, J, J, J, J, J, J, J, J, J, J, J, J, J, J, J, J, J, J, J, J, J, J, J, J, J, J, J, J, J, J, J, J, J, J, J, J, J, J, J, J, J, J, J, J, J, J, J, J, J, J, J, J, J, J, J, J, J, J, J, J, J, J, J, J, J, J, J, J, J, J, J, J], [])) (fun k => k ≤ 19 ∧ top * 2 ^ k < 1048576) (fun k => 20 - k) 0 []
    ⟨by omega, by omega⟩ ⟨rfl, rfl, trivial, ⟨ent_t rfl, ent_t rfl, rfl, trivial⟩⟩ ?_
  rintro k ⟨hk1, hk2⟩
  have hk1 : k ≤ 19 := hk1
  have hk2 : top * 2 ^ k < 1048576 := hk2
  have hp0 : (0 : Int) < 2 ^ k := Int.pow_pos (by decide)
  have hpt : 0 < top * 2 ^ k := Int.mul_pos (by omega) hp0
  have hpk : (2 : Int) ^ k ≤ 524288 := by
    have := Nat.pow_le_pow_right (n := 2) (by decide) hk1
    have e : ((2 ^ k : Nat) : Int) = 2 ^ k := by simp
    omega
  have hgl : (dg n)[(((((dg n).map intRow).length : Nat) : Int) - 1).toNat]? = some top := by rw [l2, ← htop]; exact get_last (by omega)
  conv => whnf
  (repeat' (first | ((refine DecB.mk (fun h => ?_) (fun h => ?_)) <;> first | (exfalso; omega) | (conv => whnf)) | ((refine BoolB.mk (fun h => ?_) (fun h => ?_)) <;> first | (exact absurd h (by decide)) | (conv => whnf)) | ((first | refine zzW ?_ | refine zzI ?_ | refine zzR ?_ | refine zzB ?_ | refine late_ok rfl rfl ?_ | refine src_ok rfl ?_ | refine ex_rowI (by omega) hgl ?_ | refine LitB.data ?_ | refine BoxB.own ?_); conv => whnf)))
  · have hlt : top * 2 ^ k < 524288 := by omega
    refine ⟨[], k + 1, ⟨rfl, rfl, trivial, ⟨rfl, rfl, ent_i (Int.pow_succ _ _).symm, trivial⟩⟩, ⟨?_, ?_⟩, ?_⟩
    · rcases Nat.lt_or_ge k 19 with h1 | h1
      · exact h1
      · have : k = 19 := by omega
        subst this
        omega
    · rw [Int.pow_succ, ← Int.mul_assoc]; omega
    · show 20 - (k + 1) < 20 - k
      omega
  · have hsh : Okd [(2 : Int) ^ k] := by intro x hx; simp at hx; omega
    have mu := a_mulO (dg m) [2 ^ k] (okd_dg m) hsh (by omega) (by simp)
    have mv := a_mul (dg n) [2 ^ k] (okd_dg n) hsh (by omega) (by simp)
    have ev : val [(2 : Int) ^ k] = 2 ^ k := by simp [val]
    rw [ev, val_dg] at mu mv
    generalize hU : ((m : Int) * 2 ^ k).toNat = U at mu
    generalize hV : ((n : Int) * 2 ^ k).toNat = V at mv
    refine .inr ⟨_, _, acall_new (acall_data mu ⟨vs_t, vs_c (vc_t rfl), trivial⟩) rfl rfl rfl rfl, ?_⟩
    conv => whnf
    have hVe : V = n * 2 ^ k := by
      have e : ((n : Int) * 2 ^ k) = ((n * 2 ^ k : Nat) : Int) := by simp
      rw [← hV, e]; exact Int.toNat_natCast _
    have hUe : U = m * 2 ^ k := by
      have e : ((m : Int) * 2 ^ k) = ((m * 2 ^ k : Nat) : Int) := by simp
      rw [← hU, e]; exact Int.toNat_natCast _
    obtain ⟨lV, hvt⟩ := norm_V hn htop hk1 hk2 h
    rw [← hVe] at lV hvt
    have hp1 : 0 < 2 ^ k := Nat.pow_pos (by decide)
    have lU3 : (dg m).length ≤ (dg U).length := dg_len_mono (by rw [hUe]; exact Nat.le_mul_of_pos_right m hp1)
    have lU2 : (dg U).length ≤ (dg m).length + 1 := dg_len_le (by
      have h1 := dg_lt_pw m
      rw [pw_succ, hUe]
      have h2 := Int.mul_le_mul_of_nonneg_left (a := 2 ^ k) (b := 1048576) (c := (m : Int) + 1) (by omega) (by omega)
      have h3 : (((m * 2 ^ k : Nat)) : Int) = m * 2 ^ k := by simp
      rw [Int.add_mul] at h2
      omega)
    have lU1 : (padTo ((dg m).length + [(2 : Int) ^ k].length) (dg U)).length ≤ 300001 := by rw [padTo_len (by simpa using lU2)]; simp; omega
    have l3 : ((dg V).map intRow).length = (dg V).length := by simp
    have lmn : (dg n).length ≤ (dg m).length := dg_len_mono hmn
    have l4 : (toC [[T.atm (Value.int .i64 0)]]).length = 1 := rfl
    (repeat' (first | ((refine DecB.mk (fun h => ?_) (fun h => ?_)) <;> first | (exfalso; omega) | (conv => whnf)) | ((refine BoolB.mk (fun h => ?_) (fun h => ?_)) <;> first | (exact absurd h (by decide)) | (conv => whnf)) | ((first | refine zzW ?_ | refine zzI ?_ | refine zzR ?_ | refine zzB ?_ | refine late_ok rfl rfl ?_ | refine src_ok rfl ?_ | refine .inl ⟨_, _, qcall_pure (toC, padTo) rfl rfl, ?_⟩ | refine .inl ⟨_, _, qcall_pure (toC) rfl rfl, ?_⟩ | refine app_ok (by simp [toC, padTo]) (by simp [toC]; omega) ?_ | refine .inl ⟨_, _, qcall_data mv ⟨vs_t, vs_c (vc_t rfl), trivial⟩ rfl, ?_⟩ | refine mk_ok (by omega) (by omega) (by omega) (by decide) ?_ | refine LitB.data ?_ | refine BoxB.own ?_); conv => whnf)))
    have hV0 : 0 < V := by rw [hVe]; exact Nat.mul_pos hn hp1
    refine awp_while tab_ok (σ := Nat × List Int × List Int) (fun | (j, u, q) => ([J, J, J, J, J, J, J, J, intS .i64 (2 ^ k), ownI 0 u, intsS (dg V), intS .i64 (dg V).length, ownI 1 q, intS .i64 ((j : Int) - 1), J, J, J, J, J, J, J, J, J, J, J, J, J, J, J, J, J, J, J, J, J, J, J, J, J, J, J, J, J, J, J, J, J, J, J, J, J, J, J, J, J, J, J, J, J, J, J, J, J, J, J, J, J, J, J, J, J, J, J, J, J, J, J, J, J, J, J, J, J, J, J, J, J, J, J, J, J, J, J, J, J, J, J, J, J, J, J, J, J, J, J, J, J, J, J, J, J, J, J, J, J, J, J, J, J, J, J, J, J, J, J, J, J, J, J, J, J, J, J, J, J, J, J, J, J, J, J, J, J, J, J, J, J, J, J, J, J, J, J, J, J, J, J, J, J, J, J, J, J, J, J, J, J, J, J, J], [intsB u, intsB q])) (fun x => DivI U V ((dg U).length + 1) (dg V).length x.1 x.2.1 x.2.2) (fun x => x.1)
      ((dg U).length + 1 - (dg V).length, dg U ++ [0], List.replicate ((dg U).length + 1 - (dg V).length) 0) [some 1, some 2]
      (DivI.init hV0 (by omega)) ⟨rfl, rfl, ⟨entB_rows rfl rfl rfl ?_ rfl, entB_rows rfl rfl rfl ?_ rfl, trivial⟩, ⟨rfl, ent_own rfl ?_, ent_t rfl, ent_i (by omega), ent_own rfl ?_, ent_i ?_, trivial⟩⟩ ?_
    · simp [toC, newBlk, padTo, List.map_append, List.take_append, intRow]
    · show List.replicate _ _ = _
      simp [toC, intRow, constC]
    · simp [toC]
    · simp [toC]
    · simp [toC]
    rintro ⟨j, u, q⟩ hD
    have hD : DivI U V ((dg U).length + 1) (dg V).length j u q := hD
    have hlu := hD.lu
    have hlq := hD.lq
    have hle := hD.le
    have hdt : 0 < j → dat u (j - 1 + (dg V).length) = dat u (j - 1 + (dg V).length) := fun _ => rfl
    have gu0 : 0 < j → u[0 + (((j : Int) - 1) + (dg V).length).toNat]? = some (dat u (j - 1 + (dg V).length)) := fun h => get_dat0 (by omega) (by omega)
    have gu1 : 0 < j → u[0 + (((j : Int) - 1) + (dg V).length - 1).toNat]? = some (dat u (j - 1 + (dg V).length - 1)) := fun h => get_dat0 (by omega) (by omega)
    have d0 := hD.oku.dat (j - 1 + (dg V).length)
    have d1 := hD.oku.dat (j - 1 + (dg V).length - 1)
    have dv := (okd_dg V).dat ((dg V).length - 1)
    have hvt2 : 524288 ≤ dat (dg V) ((dg V).length - 1) := by rw [lV]; exact hvt
    conv => whnf
    (repeat' (first | ((refine DecB.mk (fun h => ?_) (fun h => ?_)) <;> first | (exfalso; omega) | (conv => whnf)) | ((refine BoolB.mk (fun h => ?_) (fun h => ?_)) <;> first | (exact absurd h (by decide)) | (conv => whnf)) | ((first | refine zzW ?_ | refine zzI ?_ | refine zzR ?_ | refine zzB ?_ | refine late_ok rfl rfl ?_ | refine src_ok rfl ?_ | refine and_idx (by omega) (by show _ < ((u.length : Nat) : Int); omega) ?_ | refine ex_own (gu0 (by omega)) ?_ | refine ex_own (gu1 (by omega)) ?_ | refine ⟨by decide, _, shl20 (by omega) (by omega), ?_⟩ | refine ⟨_, or20 (by omega) (by omega) (by omega) (by omega), ?_⟩ | refine ex_rowI (by omega) (get_last (by omega)) ?_ | refine ⟨by omega, _, tdivq (by omega) (by omega) (by omega), ?_⟩ | refine ne_ok (by omega) ?_ | refine LitB.data ?_ | refine BoxB.own ?_); conv => whnf)))
    · have hj : 0 < j := by omega
      obtain ⟨i, rfl⟩ : ∃ i, j = i + 1 := ⟨j - 1, by omega⟩
      simp only [Nat.add_sub_cancel] at *
      obtain ⟨L, hL⟩ : ∃ L, (dg V).length = L + 2 := ⟨(dg V).length - 2, by omega⟩
      obtain ⟨w3, w2, w0, wv, wz, wlt⟩ := hD.window rfl
      generalize hw : (u.drop i).take ((dg V).length + 1) = w at w3 w2 wv wlt
      have hwo : Okd w := by rw [← hw]; exact (hD.oku.drop i).take _
      have dw : ∀ t, t ≤ (dg V).length → dat w t = dat u (i + t) := fun t ht => by
        rw [← hw]; unfold dat
        rw [List.getD_eq_getElem?_getD, List.getElem?_take, if_pos (by omega), List.getElem?_drop, ← List.getD_eq_getElem?_getD]
      have win := Win.of (okd_dg V) hwo hL (by omega) (by rw [hL] at hvt2; exact hvt2) (by rw [val_dg]; exact wlt)
      rw [dw (L + 2) (by omega), dw (L + 1) (by omega), dw L (by omega), val_dg] at win
      have eL1 : (dg V).length - 1 = L + 1 := by omega
      have eu0 : i + (L + 2) = i + (dg V).length := by omega
      have eu1 : i + (L + 1) = i + (dg V).length - 1 := by omega
      rw [eu0, eu1] at win
      generalize ht : dat u (i + (dg V).length) * 1048576 + dat u (i + (dg V).length - 1) = top2 at win
      have win' := win
      have ht0 := win.t0
      refine awp_while tab_ok (σ := Int × Int) (fun | (g, r) => ([J, J, J, J, J, J, J, J, intS .i64 (2 ^ k), ownI 0 u, intsS (dg V), intS .i64 (dg V).length, ownI 1 q, intS .i64 i, J, intS .i64 g, intS .i64 r, J, J, J, J, J, J, J, J, J, J, J, J, J, J, J, J, J, J, J, J, J, J, J, J, J, J, J, J, J, J, J, J, J, J, J, J, J, J, J, J, J, J, J, J, J, J, J, J, J, J, J, J, J, J, J, J, J, J, J, J, J, J, J, J, J, J, J, J, J, J, J, J, J, J, J, J, J, J, J, J, J, J, J, J, J, J, J, J, J, J, J, J, J, J, J, J, J, J, J, J, J, J, J, J, J, J, J, J, J, J, J, J, J, J, J, J, J, J, J, J, J, J, J, J, J, J, J, J, J, J, J, J, J, J, J, J, J, J, J, J, J, J, J, J, J, J, J, J, J, J, J, J, J], [intsB u, intsB q])) (fun x => Guess V (val w) (dat (dg V) (L + 1)) top2 x.1 x.2) (fun x => x.1.toNat)
        (top2 / dat (dg V) (L + 1), top2 % dat (dg V) (L + 1)) [some 0, some 1]
        (Guess.init win) ⟨rfl, rfl, ⟨entB_rows rfl rfl rfl rfl rfl, entB_rows rfl rfl rfl rfl rfl, trivial⟩, ⟨rfl, ent_own rfl rfl, ent_t rfl, rfl, ent_own rfl rfl, ent_i (by omega), ent_i ?_, ent_i ?_, trivial⟩⟩ ?_
      · rw [eL1]
      · rw [eL1, Int.tmod_eq_emod_of_nonneg ht0]
      rintro ⟨g, r⟩ hG
      have hG : Guess V (val w) (dat (dg V) (L + 1)) top2 g r := hG
      have hg0 := hG.g0
      have hgu := hG.gu
      have hr0 := hG.r0
      have hru := hG.ru
      have dv2 := (okd_dg V).dat L
      have dv1 := (okd_dg V).dat (L + 1)
      have du2 := hD.oku.dat (i + L)
      have hgm : 0 ≤ g * dat (dg V) L ∧ g * dat (dg V) L ≤ 2097152 * 1048576 := ⟨Int.mul_nonneg hg0 dv2.1, Int.mul_le_mul hgu (by omega) dv2.1 (by omega)⟩
      have gv2 : (dg V)[((((dg V).length : Nat) : Int) - 2).toNat]? = some (dat (dg V) L) := by rw [show ((((dg V).length : Nat) : Int) - 2).toNat = L by omega]; exact get_dat (by omega)
      have gv1 : (dg V)[((((dg V).length : Nat) : Int) - 1).toNat]? = some (dat (dg V) (L + 1)) := by rw [show ((((dg V).length : Nat) : Int) - 1).toNat = L + 1 by omega]; exact get_dat (by omega)
      have gu2 : u[0 + ((i : Int) + ((dg V).length : Nat) - 2).toNat]? = some (dat u (i + L)) := get_dat0 (by omega) (by omega)
      conv => whnf
      (repeat' (first | ((refine DecB.mk (fun h => ?_) (fun h => ?_)) <;> first | (exfalso; omega) | (conv => whnf)) | ((refine BoolB.mk (fun h => ?_) (fun h => ?_)) <;> first | (exact absurd h (by decide)) | (conv => whnf)) | ((first | refine zzW ?_ | refine zzI ?_ | refine zzR ?_ | refine zzB ?_ | refine late_ok rfl rfl ?_ | refine src_ok rfl ?_ | refine and_idx (by omega) (by show _ < ((u.length : Nat) : Int); omega) ?_ | refine ex_rowI (by omega) gv2 ?_ | refine ex_rowI (by omega) gv1 ?_ | refine ex_own gu2 ?_ | refine ⟨by decide, _, shl20 (by omega) (by omega), ?_⟩ | refine ⟨_, or20 (by omega) (by omega) (by omega) (by omega), ?_⟩ | refine sl_ok (by omega) (by omega) (by show _ ≤ ((u.length : Nat) : Int); omega) ?_ | refine LitB.data ?_ | refine BoxB.own ?_); conv => whnf)))
      · have hgc : 1048576 ≤ g := by omega
        have hst := Guess.step win hG (.inl hgc) (val_nonneg hwo)
        exact ⟨[some 0, some 1], (g - 1, r + dat (dg V) (L + 1)), ⟨rfl, rfl, ⟨entB_rows rfl rfl rfl rfl rfl, entB_rows rfl rfl rfl rfl rfl, trivial⟩, ⟨rfl, ent_own rfl rfl, rfl, rfl, ent_own rfl rfl, rfl, rfl, rfl, trivial⟩⟩, hst, by have := hst.g0; show (g - 1).toNat < g.toNat; omega⟩
      · have hgc : r < 1048576 ∧ r * 1048576 + dat u (i + L) < g * dat (dg V) L := by omega
        have hst := Guess.step win hG (.inr hgc) (val_nonneg hwo)
        exact ⟨[some 0, some 1], (g - 1, r + dat (dg V) (L + 1)), ⟨rfl, rfl, ⟨entB_rows rfl rfl rfl rfl rfl, entB_rows rfl rfl rfl rfl rfl, trivial⟩, ⟨rfl, ent_own rfl rfl, rfl, rfl, ent_own rfl rfl, rfl, rfl, rfl, trivial⟩⟩, hst, by have := hst.g0; show (g - 1).toNat < g.toNat; omega⟩
      all_goals
        have hgc : ¬ (1048576 ≤ g ∨ (r < 1048576 ∧ r * 1048576 + dat u (i + L) < g * dat (dg V) L)) := by omega
        obtain ⟨hg1, hgV⟩ := Guess.fin win hG hgc (by
          have h1 := win.Vl
          have h3 := win.v1l
          have h2 := Int.mul_le_mul_of_nonneg_left (a := 1048576) (b := dat (dg V) (L + 1) * 1048576 + dat (dg V) L) (by omega) (Int.le_of_lt win.P0)
          omega)
        have st := a_settle (u.take i) w (u.drop (i + ((dg V).length + 1))) (dg V) g hwo (okd_dg V) (by omega) (by omega) ⟨hg0, hg1⟩ (by rw [val_dg]; exact hgV)
        rw [val_dg] at st
        obtain ⟨q0, q1, q2, q3⟩ := settleQ_ok hG (by omega) (val_nonneg hwo) hg1 hgV
        have hds := hD.step rfl hV0 ⟨q0, q1⟩ (by rw [hw]; exact q2) (by rw [hw]; exact q3)
        rw [hw] at hds
        generalize settleQ (val w) V g = Q at st q0 q1 q2 q3 hds
        rw [← w3, w2] at st
        generalize hu' : u.take i ++ padTo ((dg V).length + 1) (dg (val w - Q * V).toNat) ++ u.drop (i + ((dg V).length + 1)) = u' at st hds
        refine .inr ⟨_, _, acall_frame (H' := [intsB u', intsB q]) [0] st (args_win (by rw [w0]; omega) (by omega)) rfl rfl (by decide) ?_ (by simp) (by simp) rfl rfl rfl ?_ ?_, ?_⟩
        · intro i k hk
          match i, hk with
          | 0, hk =>
            injection hk with hk
            subst hk
            exact ⟨rfl, rfl, okRows_toC _, _, rfl, renB_data rfl⟩
        · intro i k hk
          match i, hk with
          | 0, hk =>
            injection hk with hk
            subst hk
            exact ⟨_, rfl, renB_data rfl⟩
        · intro j hj hn
          match j, hj with
          | 0, _ => simp at hn
          | 1, _ => rfl
        conv => whnf
        have hlu' := hds.lu
        refine and_idx (by omega) (by omega) ?_
        conv => whnf
        (repeat' (first | ((refine DecB.mk (fun h => ?_) (fun h => ?_)) <;> first | (exfalso; omega) | (conv => whnf)) | ((refine BoolB.mk (fun h => ?_) (fun h => ?_)) <;> first | (exact absurd h (by decide)) | (conv => whnf)) | ((first | refine zzW ?_ | refine zzI ?_ | refine zzR ?_ | refine zzB ?_ | refine late_ok rfl rfl ?_ | refine src_ok rfl ?_ | refine ex_own (get_dat0 rfl (by omega)) ?_ | refine LitB.data ?_ | refine BoxB.own ?_); conv => whnf)))
        exact ⟨[some 0, some 1], (i, u', q.set i Q), ⟨rfl, rfl, ⟨entB_rows rfl rfl rfl rfl rfl, entB_rows rfl rfl rfl (toC_set (i := i) (n := (i : Int)) (by simp)) rfl, trivial⟩, ⟨rfl, ent_own rfl (hlu.trans hlu'.symm), rfl, rfl, ent_own rfl (by simp), rfl, trivial⟩⟩, hds, by show i < i + 1; omega⟩
    · have hj : j = 0 := by omega
      subst hj
      obtain ⟨fq, fu⟩ := hD.fin hV0
      have tu := a_trim u (by omega)
      rw [trimL_dg hD.oku, fu, Int.toNat_natCast] at tu
      have tq := a_trim q (by omega)
      rw [trimL_dg hD.okq, fq, Int.toNat_natCast] at tq
      have lUV : (dg (U % V)).length ≤ (dg U).length := dg_len_mono (Nat.mod_le _ _)
      have sh := a_short (dg (U % V)) (2 ^ k) (okd_dg _) (by omega) (by omega) (by omega)
      have e1 : U % V / 2 ^ k = m % n := by rw [hUe, hVe, Nat.mul_mod_mul_right, Nat.mul_div_cancel _ hp1]
      have e2 : U / V = m / n := by rw [hUe, hVe, Nat.mul_div_mul_right _ _ hp1]
      have e3 : ((U % V : Nat) : Int) / 2 ^ k = ((m % n : Nat) : Int) := by rw [← e1]; simp
      rw [val_dg, e3, Int.toNat_natCast] at sh
      rw [e2] at tq
      refine .inr ⟨_, _, acall_freeze [0] tu ⟨vs_c (vc_all (by simp) rfl (by intro h; cases h) rfl rfl (by simp)), trivial⟩ rfl, ?_⟩
      conv => whnf
      (repeat' (first | ((refine DecB.mk (fun h => ?_) (fun h => ?_)) <;> first | (exfalso; omega) | (conv => whnf)) | ((refine BoolB.mk (fun h => ?_) (fun h => ?_)) <;> first | (exact absurd h (by decide)) | (conv => whnf)) | ((first | refine zzW ?_ | refine zzI ?_ | refine zzR ?_ | refine zzB ?_ | refine late_ok rfl rfl ?_ | refine src_ok rfl ?_ | refine .inl ⟨_, _, qcall_pure (sh) rfl rfl, ?_⟩ | refine LitB.data ?_ | refine BoxB.own ?_); conv => whnf)))
      refine .inr ⟨_, _, acall_freeze [1] tq ⟨vs_c (vc_all (by simp) rfl (by intro h; cases h) rfl rfl (by simp)), trivial⟩ rfl, ?_⟩
      conv => whnf
      exact fin_t ⟨rfl, rfl, trivial⟩
theorem a_div (m n : Nat) (hn : 0 < n) (lm : (dg m).length ≤ 300000) (ln : (dg n).length ≤ 300000) :
    ACall Tryz.prog 125 [intsS (dg m), intsS (dg n)] [] (divS m n) [] := by
  rcases Nat.lt_or_ge m n with h | h
  · exact a_div1 m n hn h (by omega) (by omega)
  · have h1 : (dg n).length ≠ 0 := by rw [Ne, List.length_eq_zero_iff, dg_eq_nil]; omega
    by_cases hl : (dg n).length = 1
    · exact a_div2 m n hn h hl (by omega)
    · exact a_div3 m n hn h (by omega) lm ln
end Go.Proofs.YtfieodjihaodiaaGreat
/- Plain facts about rational numbers as fractions: sizes, signs, comparisons. No program is in sight. -/
namespace Go.Proofs.YtfieodjihaodiaaGreat
set_option linter.unusedVariables false
set_option linter.unusedSimpArgs false

/-- how many digits an integer has -/
def bl (z : Int) : Nat := (dg z.natAbs).length
theorem dg_add_len (m n : Nat) : (dg (m + n)).length ≤ max (dg m).length (dg n).length + 1 := by
  refine dg_len_le ?_
  have h1 := dg_lt_pw m
  have h2 := dg_lt_pw n
  have h3 := pw_mono (Nat.le_max_left (dg m).length (dg n).length)
  have h4 := pw_mono (Nat.le_max_right (dg m).length (dg n).length)
  rw [pw_succ]
  omega
theorem dg_mul_len (m n : Nat) : (dg (m * n)).length ≤ (dg m).length + (dg n).length := by
  refine dg_len_le ?_
  have h1 := dg_lt_pw m
  have h2 := dg_lt_pw n
  rw [pw_add]
  have h3 : (m : Int) * n ≤ m * (pw (dg n).length) := Int.mul_le_mul_of_nonneg_left (by omega) (by omega)
  have h4 : (m : Int) * pw (dg n).length < pw (dg m).length * pw (dg n).length := Int.mul_lt_mul_of_pos_right h1 (pw_pos _)
  have h5 : ((m * n : Nat) : Int) = m * n := by simp
  omega
theorem bl_neg (x : Int) : bl (-x) = bl x := by unfold bl; rw [Int.natAbs_neg]
theorem bl_add (x y : Int) : bl (x + y) ≤ max (bl x) (bl y) + 1 := Nat.le_trans (dg_len_mono (Int.natAbs_add_le x y)) (dg_add_len _ _)
theorem bl_mul (x y : Int) : bl (x * y) ≤ bl x + bl y := by unfold bl; rw [Int.natAbs_mul]; exact dg_mul_len _ _
theorem bl_mono {x y : Int} (h : x.natAbs ≤ y.natAbs) : bl x ≤ bl y := dg_len_mono h
theorem bl_int {x : Int} (h0 : -9223372036854775808 ≤ x) (h1 : x ≤ 9223372036854775807) : bl x ≤ 4 := dg_len_le (by simp only [pw]; omega)
theorem bl_small {x : Int} (h0 : -1048575 ≤ x) (h1 : x ≤ 1048575) : bl x ≤ 1 := dg_len_le (by simp only [pw]; omega)
theorem bl_gcd (x y : Int) {n : Nat} (lx : bl x ≤ n) (ly : bl y ≤ n) : bl (Int.gcd x y) ≤ n := by
  by_cases h : x = 0
  · subst h; unfold bl at *; rw [Int.gcd_zero_left]; simpa using ly
  · refine Nat.le_trans (dg_len_mono ?_) lx
    simp only [Int.natAbs_natCast]
    exact Int.gcd_le_natAbs_left y h
/-- how many digits the parts of a fraction have -/
def rl (x : Rat) : Nat := max (bl x.num) (bl x.den)
theorem rl_num (x : Rat) : bl x.num ≤ rl x := Nat.le_max_left _ _
theorem rl_den (x : Rat) : bl x.den ≤ rl x := Nat.le_max_right _ _
theorem rl_divInt {p q : Int} (hq : q ≠ 0) : rl (Rat.divInt p q) ≤ max (bl p) (bl q) := by
  unfold rl
  rw [Rat.num_divInt, Rat.den_divInt, if_neg hq]
  have h1 : bl (q.sign * p / (q.gcd p : Nat)) ≤ bl p := bl_mono (by
    refine Nat.le_trans (Int.natAbs_ediv_le_natAbs _ _) ?_
    rw [Int.natAbs_mul]
    have : q.sign.natAbs = 1 := by
      rcases Int.lt_trichotomy q 0 with h | h | h
      · rw [Int.sign_eq_neg_one_of_neg h]; rfl
      · exact absurd h hq
      · rw [Int.sign_eq_one_of_pos h]; rfl
    rw [this, Nat.one_mul]; exact Nat.le_refl _)
  have h2 : bl ((q.natAbs / q.gcd p : Nat) : Int) ≤ bl q := bl_mono (by simp only [Int.natAbs_natCast]; exact Nat.div_le_self _ _)
  omega
theorem rat_add (x y : Rat) : x + y = Rat.divInt (x.num * y.den + y.num * x.den) (x.den * y.den) := by rw [Rat.add_def', ← Rat.divInt_ofNat, Int.natCast_mul]
theorem rat_mul (x y : Rat) : x * y = Rat.divInt (x.num * y.num) (x.den * y.den) := by rw [Rat.mul_def', ← Rat.divInt_ofNat, Int.natCast_mul]
theorem den_ne (x : Rat) : (x.den : Int) ≠ 0 := by have := x.den_pos; omega
theorem den2_ne (x y : Rat) : (x.den : Int) * y.den ≠ 0 := Int.mul_ne_zero (den_ne x) (den_ne y)
theorem rl_add (x y : Rat) : rl (x + y) ≤ rl x + rl y + 1 := by
  rw [rat_add]
  have h1 := bl_add (x.num * y.den) (y.num * x.den)
  have h2 := bl_mul x.num y.den
  have h3 := bl_mul y.num x.den
  have h4 := bl_mul x.den y.den
  have := rl_divInt (p := x.num * y.den + y.num * x.den) (den2_ne x y)
  unfold rl at *
  omega
theorem rl_neg (x : Rat) : rl (-x) = rl x := by unfold rl; rw [Rat.neg_num, Rat.neg_den, bl_neg]
theorem rl_sub (x y : Rat) : rl (x - y) ≤ rl x + rl y + 1 := by rw [Rat.sub_eq_add_neg]; have := rl_add x (-y); rw [rl_neg] at this; exact this
theorem rl_mul (x y : Rat) : rl (x * y) ≤ rl x + rl y := by
  rw [rat_mul]
  have h2 := bl_mul x.num y.num
  have h4 := bl_mul x.den y.den
  have := rl_divInt (p := x.num * y.num) (den2_ne x y)
  unfold rl at *
  omega
theorem rl_int (n : Int) : rl (n : Rat) = max (bl n) 1 := by unfold rl; rw [Rat.num_intCast, Rat.den_intCast]; rfl
/-- what a comparison of fractions returns -/
def cmpR (x y : Rat) : Int := if x < y then -1 else if y < x then 1 else 0
theorem num_lt {x : Rat} : x.num < 0 ↔ x < 0 := by rw [Rat.lt_iff]; simp
theorem num_gt {x : Rat} : 0 < x.num ↔ 0 < x := by rw [Rat.lt_iff]; simp
/-- the sign of a fraction -/
def sgR (x : Rat) : Int := if x < 0 then -1 else if 0 < x then 1 else 0
theorem sign_num (x : Rat) : x.num.sign = sgR x := by
  unfold sgR
  by_cases h : x < 0
  · rw [if_pos h, Int.sign_eq_neg_one_of_neg (num_lt.2 h)]
  · rw [if_neg h]
    by_cases h2 : 0 < x
    · rw [if_pos h2, Int.sign_eq_one_of_pos (num_gt.2 h2)]
    · rw [if_neg h2]
      have h3 : ¬ x.num < 0 := fun e => h (num_lt.1 e)
      have h4 : ¬ 0 < x.num := fun e => h2 (num_gt.1 e)
      rw [show x.num = 0 by omega]; rfl
end Go.Proofs.YtfieodjihaodiaaGreat
