/- The abstract machine is sound: appends, stores, slice literals. -/
import Derived.Test.YthjgbjakpbfnoaaAbs8
namespace Go.Proofs.Ythjgbjakpbfnoaa
open Go.RowKit
set_option linter.unusedVariables false
set_option linter.unusedSimpArgs false

section
variable {P : Program} {τ : Tab} {o : Oper} {ev : Operand → S} {H : Hp}

theorem append_exec {c : Call} (ho : o.op = .call c) (hc : c.callee = .builtin .append) {t : TypeId} {s x : Operand} (ht : c.argTypes.toList = [t, t]) (ha : c.args.toList = [s, x]) {a : Act} {w w' : World} {v : Value}
    (h : (Builtin.append_ #[t, t] o.type #[a.eval s, a.eval x]).run P w = .ok v w') : (execOp a.eval o).run P w = .ok (.value v) w' := by
  obtain ⟨callee, args, argTypes⟩ := c
  simp only at hc ht ha
  subst hc
  obtain rfl : argTypes = #[t, t] := by apply Array.ext'; simpa using ht
  obtain rfl : args = #[s, x] := by apply Array.ext'; simpa using ha
  simp [execOp, ho, resolve, invoke, builtin, h]

theorem cells_at {size : Nat} {cur : Array Value} {vals rest : List Value} {i j : Nat} {u : Value} (hcur : cur.toList = vals ++ rest) (h : vals[i * size + j]? = some u) : cur[i * size + j]? = some u := by
  have : cur.toList[i * size + j]? = some u := by rw [hcur, List.getElem?_append_left (List.getElem?_eq_some_iff.1 h).1]; exact h
  simpa using this

/-- a new row for an append -/
theorem append_grow (hτ : TabOK P τ) {t e : TypeId} {d : TD} (hu : P.underlying t = some (.slice e)) (hd : τ e = some d) (h0 : d.size ≠ 0) {w : World} {ι : Io} {M : Ms} {ty : TypeId}
    {base : Option Addr} {sLen sCap : Nat} {r1 r2 : List (List C)} {olds news : List Value} {x : Value} (h1 : CellsOK w ι M d.size r1 olds) (h2 : CellsOK w ι M d.size r2 news) (hl : r1.length = sLen)
    (hold : (Builtin.firstCells d.size sLen (.slice base sLen sCap)).run P w.drew = .ok olds.toArray w.drew) (hs : Src P d.size t x r2.length news w) (hg : sCap < sLen + r2.length)
    (hb : (r1.length + r2.length) * (d.bytes + 1) ≤ 140737488355328) :
    ∃ cap cur, (Builtin.append_ #[t, t] ty #[.slice base sLen sCap, x]).run P w = .ok (.slice (some ⟨w.heap.size, 0, none⟩) (sLen + r2.length) cap) (w.drew.alloc (.cells cur e)) ∧
      cur.size = cap * d.size ∧ sLen + r2.length ≤ cap ∧ cap ≤ maxLen ∧ ∀ i j c, at2 (r1 ++ r2) i j = some c → ∃ u, cur[i * d.size + j]? = some u ∧ RC w ι M c u := by
  obtain ⟨i, hi, hsz, hby, z, hz, hzs, hone, hzl⟩ := (hτ.td _ _ hd).info
  rw [← hsz] at h0 h1 h2 hold hs
  have hb1 : (sLen + r2.length) * i.bytes ≤ 140737488355328 := by
    refine Nat.le_trans (Nat.mul_le_mul_left _ (Nat.le_succ _)) ?_
    rw [hby, ← hl]; exact hb
  have hb2 : sLen + r2.length ≤ 140737488355328 := by
    refine Nat.le_trans (Nat.le_mul_of_pos_right _ (Nat.succ_pos d.bytes)) ?_
    rw [← hl]; exact hb
  have hmx : sLen + r2.length ≤ maxLen := by unfold maxLen; omega
  have hrun := run_append_grow_src (P := P) w t t ty e i z hu hi hz base sLen sCap olds hold x r2.length news hs hg (by omega) (growslice_fits hg hb1)
  refine ⟨_, _, hrun, ?_, grownCap_ge _ _ _ _, grownCap_le_maxLen _ _ _ _ hmx, ?_⟩
  · have hzc : z.cells.size = i.size := by rw [hsz, ← hzl, ← hzs]; simp
    simp only [Array.size_append, List.size_toArray, size_zeroCells, hzc, List.length_append, h1.len, h2.len, hl, ← Nat.add_mul, ← hsz]
    congr 1
    have := grownCap_ge w (sLen + r2.length) sCap e
    omega
  · intro i' j c hc
    obtain ⟨u, q1, q2⟩ := (h1.append h2).cell i' j c hc
    exact ⟨u, by rw [← hsz]; exact cells_at (rest := (Builtin.zeroCells z.cells (grownCap w (sLen + r2.length) sCap e - (sLen + r2.length))).toList) (by simp) q1, q2⟩

theorem maxLen_big {n : Nat} (h : n ≤ 140737488355328) : n ≤ maxLen := by unfold maxLen; omega

/-- a place where nothing lies yet -/
theorem QPost.nil {w : World} {ι : Io} {M : Ms} {n : Nat} {e : TypeId} {size : Nat} {box : Bool} {A : Option Addr} : QPost w ι M n (.c (.own n 0 0 true)) [newBlk e size [] box] (.slice A 0 0) w := by
  refine ⟨fun _ => .nil, .c (.nil ?_), Ext.refl w, ?_, ?_, ?_⟩
  · unfold addIo; rw [if_pos (by simp)]
  · intro k blk hk
    cases k with
    | succ k => simp at hk
    | zero => simp at hk; subst hk; exact ⟨rfl, rfl⟩
  · intro k b c s _ h; cases h
  · intro k k' b c s c' s' _ _ h; cases h

theorem firstCells_rows {w : World} {size n cap : Nat} {A : Option Addr} {vals : List Value} (hl : vals.length = n * size) (h : vals = [] ∨ ∃ b off, A = some ⟨b, off, none⟩ ∧ ∀ q u, vals[q]? = some u → w.cell? ⟨b, off + q, none⟩ = some u) :
    (Builtin.firstCells size n (.slice A n cap)).run P w.drew = .ok vals.toArray w.drew := by
  rcases h with rfl | ⟨b, off, rfl, h⟩
  · cases A with
    | none => exact run_firstCells_none w.drew size n n cap
    | some ad => exact run_firstCells_some w.drew size n ad n cap [] hl (by simp)
  · exact run_firstCells_some w.drew size n _ n cap vals hl (fun j v hj => by rw [Addr.add_none]; simpa using h j v hj)

theorem own_result {w : World} {ι : Io} {M : Ms} {n b cap size len : Nat} (hi : ι n = some (.blk b cap size)) (hl : len ≤ cap) (hm : cap ≤ maxLen) : RS w ι M (.c (.own n 0 len true)) (.slice (some ⟨b, 0, none⟩) len cap) :=
  .c (.own hi (by omega) (fun _ => by rw [Nat.zero_mul]) hl hm (fun _ => ⟨rfl, rfl, rfl⟩))

theorem toC_row {size : Nat} {rows : List (List T)} (h : ∀ r ∈ rows, r.length = size) : ∀ r ∈ toC rows, r.length = size := by
  intro r hr
  obtain ⟨r', h1, rfl⟩ := List.mem_map.1 hr
  rw [List.length_map]; exact h r' h1

/-- what stays of the other blocks while one's own block is written -/
theorem HeapRel.other {w w' : World} {ι ι' : Io} {M M' : Ms} (hH : HeapRel w ι M H) {id b cap size : Nat} {k : Blk} (hk : H[id]? = some k) (hl : k.mode = .live) (hi : ι id = some (.blk b cap size))
    (hkeep : ∀ b', b' < w.heap.size → b' ≠ b → w'.heap[b']? = w.heap[b']?) (hm : ∀ b, M' b → M b ∨ w.heap.size ≤ b) (he : ∀ id l, ι id = some l → ι' id = some l) :
    ∀ id' k', id' ≠ id → H[id']? = some k' → k'.mode ≠ .dead → ∀ l, ι id' = some l → BlkRel w' ι' M' k' l := by
  intro id' k' hne hk' hd l hl'
  have hb := hH.blk id' k' hk' hd l hl'
  have hMb : M b := hH.liv id k hk hl b cap size hi
  cases l with
  | nil => exact hb
  | blk b' cap' size' =>
    obtain ⟨q1, q2, q3, q4, q5, cur, q6, q7, q8⟩ := hb
    have hne' : b' ≠ b := by
      intro e
      subst e
      cases hm' : k'.mode with
      | live => exact hne (hH.inj id' id k' k hk' hk hm' hl _ _ _ _ _ hl' hi)
      | froz => exact hH.fro id' k' hk' hm' _ _ _ hl' hMb
      | dead => exact hd hm'
    refine ⟨q1, q2, q3, q4, q5, cur, (hkeep b' (block_lt q6) hne').trans q6, q7, fun i j c hc => ?_⟩
    obtain ⟨u, r1, r2⟩ := q8 i j c hc
    refine ⟨u, r1, r2.keep (fun b'' hb'' hM => hkeep b'' hb'' (by rintro rfl; exact hM hMb)) hm he⟩

theorem getElem?_set_ne' {l : List Blk} {i j : Nat} {v : Blk} (h : j ≠ i) : (l.set i v)[j]? = l[j]? := by rw [List.getElem?_set_ne (Ne.symm h)]

/-- an append to a slice of one's own: the old id is gone, the new one is the last -/
theorem GPost.append {w w' : World} {ι : Io} {M : Ms} (hH : HeapRel w ι M H) (hM : MB w M) (hF : Fresh ι H.length) {id b cap size : Nat} {k kd : Blk} (hk : H[id]? = some k) (hl : k.mode = .live)
    (hi : ι id = some (.blk b cap size)) (hdead : kd.mode = .dead) {bn cap' len : Nat} {e : TypeId} {rows : List (List C)} {cur : Array Value} (hos : w'.os = w.os) (htape : w'.tape = w.tape) (hout : w'.output = w.output)
    (hsize : w.heap.size ≤ w'.heap.size) (hkeep : ∀ b', b' < w.heap.size → b' ≠ b → w'.heap[b']? = w.heap[b']?) (hbn : bn = b ∨ w.heap.size ≤ bn) (hnew : w'.heap[bn]? = some (.cells cur e (0, 0)))
    (h0 : 0 < size) (hlen : rows.length = len) (hle : len ≤ cap') (hm : cap' ≤ maxLen) (hrow : ∀ r ∈ rows, r.length = size) (hsz : cur.size = cap' * size)
    (hc : ∀ i j c, at2 rows i j = some c → ∃ u, cur[i * size + j]? = some u ∧ RC w ι M c u) :
    GPost w ι M H (.c (.own H.length 0 len true)) ((H.set id kd) ++ [newBlk e size rows false]) (.slice (some ⟨bn, 0, none⟩) len cap') w' := by
  have hidl : id < H.length := (List.getElem?_eq_some_iff.1 hk).1
  have hMb : M b := hH.liv id k hk hl b cap size hi
  have hblt : b < w.heap.size := hM b hMb
  let ι' : Io := fun j => if j = H.length then some (.blk bn cap' size) else ι j
  let M' : Ms := fun b' => M b' ∨ b' = bn
  have hext : ∀ id l, ι id = some l → ι' id = some l := fun j l hj => by
    show (if j = H.length then _ else _) = _
    rw [if_neg (by rintro rfl; rw [hF _ (Nat.le_refl _)] at hj; cases hj), hj]
  have hMn : ∀ b', M' b' → M b' ∨ w.heap.size ≤ b' := by
    rintro b' (h | rfl)
    · exact .inl h
    · rcases hbn with rfl | h
      · exact .inl hMb
      · exact .inr h
  have hnl : ι' H.length = some (.blk bn cap' size) := by show (if _ then _ else _) = _; rw [if_pos rfl]
  have hold : ∀ j, j < H.length → ι' j = ι j := fun j hj => by show (if _ then _ else _) = _; rw [if_neg (by omega)]
  have hget : ∀ j kk, ((H.set id kd) ++ [newBlk e size rows false])[j]? = some kk → kk.mode ≠ .dead →
      (j ≠ id ∧ j < H.length ∧ H[j]? = some kk) ∨ (j = H.length ∧ kk = newBlk e size rows false) := by
    intro j kk hj hd
    by_cases hjl : j < H.length
    · rw [List.getElem?_append_left (by simpa using hjl)] at hj
      by_cases hjd : j = id
      · subst hjd
        rw [List.getElem?_set_self (by simpa using hjl)] at hj
        injection hj with hj
        subst hj
        exact absurd hdead hd
      · rw [getElem?_set_ne' hjd] at hj
        exact .inl ⟨hjd, hjl, hj⟩
    · rw [List.getElem?_append_right (by simpa using hjl)] at hj
      have : j = H.length := by
        have := (List.getElem?_eq_some_iff.1 hj).1
        simp at this
        omega
      subst this
      simp at hj
      exact .inr ⟨rfl, hj.symm⟩
  refine ⟨ι', M', own_result hnl hle hm, ⟨?_, ?_, ?_, ?_⟩, ?_, ?_, ⟨hos, htape, hout, hsize, ?_, hold, hMn, fun b' h => .inl (.inl h), ?_, by simp⟩⟩
  · intro j kk hj hd l hl'
    rcases hget j kk hj hd with ⟨h1, h2, h3⟩ | ⟨rfl, rfl⟩
    · rw [hold j h2] at hl'
      exact hH.other hk hl hi hkeep hMn hext j kk h1 h3 hd l hl'
    · rw [hnl] at hl'
      injection hl' with hl'
      subst hl'
      refine ⟨rfl, h0, (show rows.length ≤ cap' by omega), hm, hrow, cur, hnew, hsz, fun i j c hij => ?_⟩
      obtain ⟨u, r1, r2⟩ := hc i j c hij
      exact ⟨u, r1, r2.keep (fun b'' hb'' hM' => hkeep b'' hb'' (by rintro rfl; exact hM' hMb)) hMn hext⟩
  · intro j kk hj hlv b' c' s' hij
    rcases hget j kk hj (by rw [hlv]; intro h; cases h) with ⟨h1, h2, h3⟩ | ⟨rfl, rfl⟩
    · rw [hold j h2] at hij
      exact .inl (hH.liv j kk h3 hlv _ _ _ hij)
    · rw [hnl] at hij
      injection hij with hij
      injection hij with hij
      exact .inr hij.symm
  · intro j kk hj hlv b' c' s' hij
    rcases hget j kk hj (by rw [hlv]; intro h; cases h) with ⟨h1, h2, h3⟩ | ⟨rfl, rfl⟩
    · rw [hold j h2] at hij
      have hnm := hH.fro j kk h3 hlv _ _ _ hij
      have hbl : b' < w.heap.size := by
        obtain ⟨_, _, _, _, _, cur', q, _⟩ := hH.blk j kk h3 (by rw [hlv]; intro h; cases h) _ hij
        exact block_lt q
      rintro (h | rfl)
      · exact hnm h
      · rcases hbn with rfl | h
        · exact hnm hMb
        · omega
    · cases hlv
  · intro j j' kk kk' hj hj' hlv hlv' b' c' s' c'' s'' hij hij'
    rcases hget j kk hj (by rw [hlv]; intro h; cases h) with ⟨h1, h2, h3⟩ | ⟨rfl, rfl⟩ <;>
      rcases hget j' kk' hj' (by rw [hlv']; intro h; cases h) with ⟨h1', h2', h3'⟩ | ⟨rfl, rfl⟩
    · rw [hold j h2] at hij
      rw [hold j' h2'] at hij'
      exact hH.inj j j' kk kk' h3 h3' hlv hlv' _ _ _ _ _ hij hij'
    · rw [hold j h2] at hij
      rw [hnl] at hij'
      injection hij' with hij'
      injection hij' with hij'
      subst hij'
      have hbl : bn < w.heap.size := by
        obtain ⟨_, _, _, _, _, cur', q, _⟩ := hH.blk j kk h3 (by rw [hlv]; intro h; cases h) _ hij
        exact block_lt q
      rcases hbn with rfl | h
      · exact absurd (hH.inj j id kk k h3 hk hlv hl _ _ _ _ _ hij hi) h1
      · omega
    · rw [hold j' h2'] at hij'
      rw [hnl] at hij
      injection hij with hij
      injection hij with hij
      subst hij
      have hbl : bn < w.heap.size := by
        obtain ⟨_, _, _, _, _, cur', q, _⟩ := hH.blk j' kk' h3' (by rw [hlv']; intro h; cases h) _ hij'
        exact block_lt q
      rcases hbn with rfl | h
      · exact absurd (hH.inj j' id kk' k h3' hk hlv' hl _ _ _ _ _ hij' hi) h1'
      · omega
    · rfl
  · rintro b' (h | rfl)
    · exact Nat.lt_of_lt_of_le (hM b' h) hsize
    · exact block_lt hnew
  · intro j hj
    rw [List.length_append, List.length_set] at hj
    simp at hj
    show (if _ then _ else _) = _
    rw [if_neg (by omega)]
    exact hF j (by omega)
  · intro b' hb' hnl'
    exact hkeep b' hb' (by rintro rfl; exact hnl' ⟨id, k, cap, size, hk, hl, hi⟩)
  · rintro b' ⟨j, kk, c', s', hj, hlv, hij⟩
    rcases hget j kk hj (by rw [hlv]; intro h; cases h) with ⟨h1, h2, h3⟩ | ⟨rfl, rfl⟩
    · rw [hold j h2] at hij
      exact .inl ⟨j, kk, c', s', h3, hlv, hij⟩
    · rw [hnl] at hij
      injection hij with hij
      injection hij with hij
      subst hij
      rcases hbn with rfl | h
      · exact .inl ⟨id, k, cap, size, hk, hl, hi⟩
      · exact .inr h
end
end Go.Proofs.Ythjgbjakpbfnoaa
