/- Calls of functions at data, when what the caller passes lies in blocks of its own. -/
import Derived.Test.YthjgbjakpbfnoaaAbs16
namespace Go.Proofs.Ythjgbjakpbfnoaa
open Go.RowKit
set_option linter.unusedVariables false
set_option linter.unusedSimpArgs false

def T.flat : T → Bool
  | .atm _ => true
  | _ => false
def C.flat : C → Bool
  | .t x => x.flat
  | _ => false
def S.flat : S → Bool
  | .junk => true
  | .c x => x.flat
  | .agg cs => cs.all C.flat
  | .tup ss => ss.all fun s => match s with
    | .c x => x.flat
    | .agg cs => cs.all C.flat
    | .junk => true
    | .tup _ => false
theorem RC.flat {w : World} {ι ι' : Io} {M M' : Ms} {x : C} {v : Value} (h : x.flat = true) (hr : RC w ι M x v) : RC w ι' M' x v := by
  cases hr with
  | t hr => cases hr with
    | atm hv => exact .t (.atm hv)
    | _ => cases h
  | _ => cases h
theorem RS.flat1 {w : World} {ι ι' : Io} {M M' : Ms} {s : S} {v : Value} (h : (match s with | .c x => x.flat | .agg cs => cs.all C.flat | .junk => true | .tup _ => false) = true) (hr : RS w ι M s v) : RS w ι' M' s v := by
  cases hr with
  | junk => exact .junk
  | c hr => exact .c (hr.flat h)
  | agg vs hl hr => exact .agg vs hl fun j c hj => (hr j c hj).flat (List.all_eq_true.1 h c (List.mem_of_getElem? hj))
  | tup vs hl hr => cases h
theorem RS.flat {w : World} {ι ι' : Io} {M M' : Ms} {s : S} {v : Value} (h : s.flat = true) (hr : RS w ι M s v) : RS w ι' M' s v := by
  cases hr with
  | junk => exact .junk
  | c hr => exact .c (hr.flat h)
  | agg vs hl hr => exact .agg vs hl fun j c hj => (hr j c hj).flat (List.all_eq_true.1 h c (List.mem_of_getElem? hj))
  | tup vs hl hr => exact .tup vs hl fun j s hj => (hr j s hj).flat1 (List.all_eq_true.1 h s (List.mem_of_getElem? hj))

theorem HeapRel.none {w : World} {M : Ms} : HeapRel w (fun _ => Option.none) M [] := ⟨by simp, by simp, by simp, by simp⟩

/-- a function at data, called at what may be viewed as such; a flat result -/
theorem qcall_view {P : Program} {g : FuncId} {args args' : List S} {H : Hp} {r : S} (h : ACall P g args' [] r []) (ha : VArgs H (fun _ => True) args args') (hr : r.flat = true) : QCall P g args H r [] := by
  refine ⟨h.1, fun w ι M vals hl hv hH hM hf => ?_⟩
  obtain ⟨hlen, hget⟩ := VArgs.get ha
  have := h.2 w (fun _ => none) (fun _ => False) vals (by omega) (fun j s hj => by
    obtain ⟨x, hx, hs⟩ := hget j s hj
    exact hs.rs hH (fun _ h => h.elim) (fun _ _ _ _ _ _ _ _ _ h => h) (hv j x hx))
    .none (fun _ h => h.elim) (fun _ _ => rfl)
  refine Calls.mono this ?_
  rintro e w' ⟨v, rfl, ι', M', h1, h2, h3, h4, h5⟩
  exact ⟨v, rfl, QPost.of_none (h1.flat hr) ⟨h5.os, h5.tape, h5.output, h5.size, fun b hb => h5.keep b hb (by rintro ⟨id, k, _, _, hk, _⟩; simp at hk)⟩⟩

/-- a function at data, called at data that may be known better -/
theorem qcall_data {P : Program} {g : FuncId} {args args' : List S} {H : Hp} {r : S} (h : ACall P g args' [] r []) (ha : VArgs H (fun _ => False) args args') (hr : r.isT = true) : QCall P g args H r [] := by
  refine ⟨h.1, fun w ι M vals hl hv hH hM hf => ?_⟩
  obtain ⟨hlen, hget⟩ := VArgs.get ha
  have := h.2 w (fun _ => none) M vals (by omega) (fun j s hj => by
    obtain ⟨x, hx, hs⟩ := hget j s hj
    exact hs.rs hH (fun _ h => h) (fun _ _ _ _ _ h _ _ _ _ => h.elim) (hv j x hx))
    .none hM (fun _ _ => rfl)
  refine Calls.mono this ?_
  rintro e w' ⟨v, rfl, ι', M', h1, h2, h3, h4, h5⟩
  refine ⟨v, rfl, QPost.of_none ?_ ?_⟩
  · refine RS.keep (ι := ι) (M := M') (fun _ _ _ => rfl) (fun b hb => ?_) (fun _ _ h => h) (h1.tree hr)
    rcases h5.mold b hb with h | ⟨id, k, _, _, hk, _⟩
    · exact .inl h
    · simp at hk
  · exact ⟨h5.os, h5.tape, h5.output, h5.size, fun b hb => h5.keep b hb (by rintro ⟨id, k, _, _, hk, _⟩; simp at hk)⟩

def freeze1 (fr : List Nat) (n : Nat) (k : Blk) : Blk := match fr.any (Nat.beq n), k.mode with
  | true, .live => { k with mode := .froz }
  | _, _ => k
def freezeR (fr : List Nat) : Nat → Hp → Hp
  | _, [] => []
  | n, k :: r => freeze1 fr n k :: freezeR fr (n + 1) r
abbrev freeze (fr : List Nat) (H : Hp) : Hp := freezeR fr 0 H
theorem freezeR_get (fr : List Nat) : ∀ (H : Hp) (n i : Nat), (freezeR fr n H)[i]? = (H[i]?).map (freeze1 fr (n + i))
  | [], n, i => by simp [freezeR]
  | k :: r, n, 0 => by simp [freezeR]
  | k :: r, n, i + 1 => by simp [freezeR, freezeR_get fr r (n + 1) i, show n + 1 + i = n + (i + 1) by omega]
theorem freezeR_length (fr : List Nat) : ∀ (H : Hp) (n : Nat), (freezeR fr n H).length = H.length
  | [], n => rfl
  | k :: r, n => by simp [freezeR, freezeR_length fr r (n + 1)]
theorem freeze_inv {fr : List Nat} {H : Hp} {id : Nat} {k' : Blk} (h : (freeze fr H)[id]? = some k') : ∃ k, H[id]? = some k ∧ k'.elem = k.elem ∧ k'.size = k.size ∧ k'.rows = k.rows ∧
    ((k' = k ∧ (id ∉ fr ∨ k.mode ≠ .live)) ∨ (id ∈ fr ∧ k.mode = .live ∧ k'.mode = .froz)) := by
  rw [freezeR_get, Nat.zero_add] at h
  cases hk : H[id]? with
  | none => rw [hk] at h; cases h
  | some k =>
    rw [hk] at h
    injection h with h
    refine ⟨k, rfl, ?_⟩
    subst h
    unfold freeze1
    split
    · rename_i h1 h2
      obtain ⟨x, hx, hb⟩ := List.any_eq_true.1 h1
      have := Nat.eq_of_beq_eq_true hb
      subst this
      exact ⟨rfl, rfl, rfl, .inr ⟨hx, h2, rfl⟩⟩
    · rename_i h1
      refine ⟨rfl, rfl, rfl, .inl ⟨rfl, ?_⟩⟩
      by_cases hm : k.mode = .live
      · refine .inl fun hi => h1 ?_ hm
        exact List.any_eq_true.2 ⟨id, hi, by simp⟩
      · exact .inr hm

/-- a function at data, called at what may be viewed as such: the blocks that are seen are written no more -/
theorem acall_freeze {P : Program} {g : FuncId} {args args' : List S} {H : Hp} {r : S} (fr : List Nat) (h : ACall P g args' [] r []) (ha : VArgs H (· ∈ fr) args args') (hr : r.isT = true) : ACall P g args H r (freeze fr H) := by
  refine ⟨h.1, fun w ι M vals hl hv hH hM hf => ?_⟩
  obtain ⟨hlen, hget⟩ := VArgs.get ha
  let M0 : Ms := fun b => M b ∧ ¬ ∃ id k cap size, id ∈ fr ∧ H[id]? = some k ∧ k.mode = .live ∧ ι id = some (.blk b cap size)
  have hM0 : ∀ b, M0 b → M b := fun b hb => hb.1
  have := h.2 w (fun _ => none) M0 vals (by omega) (fun j s hj => by
    obtain ⟨x, hx, hs⟩ := hget j s hj
    refine hs.rs hH hM0 ?_ (hv j x hx)
    intro id k b cap size hp hk hd hi hb
    cases hm : k.mode with
    | live => exact hb.2 ⟨id, k, cap, size, hp, hk, hm, hi⟩
    | froz => exact hH.fro id k hk hm b cap size hi hb.1
    | dead => exact hd hm)
    .none (fun b hb => hM b hb.1) (fun _ _ => rfl)
  refine Calls.mono this ?_
  rintro e w' ⟨v, rfl, ι', M', h1, h2, h3, h4, h5⟩
  have hkeep : ∀ b, b < w.heap.size → w'.heap[b]? = w.heap[b]? := fun b hb => h5.keep b hb (by rintro ⟨id, k, _, _, hk, _⟩; simp at hk)
  have hold : ∀ b, M0 b → M' b := fun b hb => by
    rcases h5.mold b hb with h | ⟨id, k, _, _, hk, _⟩
    · exact h
    · simp at hk
  refine ⟨v, rfl, ι, M', ?_, ⟨?_, ?_, ?_, ?_⟩, h3, ?_, ?_⟩
  · exact h1.tree hr
  · intro id k' hk' hd l hll
    obtain ⟨k, hk, e1, e2, e3, hc⟩ := freeze_inv hk'
    have hd' : k.mode ≠ .dead := by
      rcases hc with ⟨rfl, _⟩ | ⟨_, h, _⟩
      · exact hd
      · rw [h]; intro h; cases h
    have hb := hH.blk id k hk hd' l hll
    cases l with
    | nil => show k'.rows = []; rw [e3]; exact hb
    | blk b cap size =>
      obtain ⟨q1, q2, q3, q4, q5, cur, q6, q7, q8⟩ := hb
      refine ⟨by rw [e2]; exact q1, q2, by rw [e3]; exact q3, q4, by rw [e3]; exact q5, cur, by rw [e1]; exact (hkeep b (block_lt q6)).trans q6, q7, fun i j c hc => ?_⟩
      rw [e3] at hc
      obtain ⟨u, hu, hr⟩ := q8 i j c hc
      refine ⟨u, hu, hr.keep (fun b hb _ => hkeep b hb) (fun b hb => ?_) (fun _ _ h => h)⟩
      rcases h5.mnew b hb with h | h
      · exact .inl h.1
      · exact .inr h
  · intro id k' hk' hl' b cap size hi
    obtain ⟨k, hk, e1, e2, e3, hc⟩ := freeze_inv hk'
    rcases hc with ⟨rfl, hc⟩ | ⟨_, _, h⟩
    · refine hold b ⟨hH.liv id k' hk hl' b cap size hi, ?_⟩
      rintro ⟨id2, k2, cap2, size2, n1, n2, n3, n4⟩
      have := hH.inj id id2 k' k2 hk n2 hl' n3 _ _ _ _ _ hi n4
      subst this
      rcases hc with hc | hc
      · exact hc n1
      · exact hc hl'
    · rw [h] at hl'; cases hl'
  · intro id k' hk' hl' b cap size hi hb
    obtain ⟨k, hk, e1, e2, e3, hc⟩ := freeze_inv hk'
    have hlt : b < w.heap.size := by
      have hd : k.mode ≠ .dead := by
        rcases hc with ⟨rfl, _⟩ | ⟨_, h, _⟩
        · rw [hl']; intro h; cases h
        · rw [h]; intro h; cases h
      obtain ⟨_, _, _, _, _, cur, q6, _⟩ := hH.blk id k hk hd _ hi
      exact block_lt q6
    rcases h5.mnew b hb with h | h
    · rcases hc with ⟨rfl, _⟩ | ⟨n1, n2, _⟩
      · exact hH.fro id k' hk hl' b cap size hi h.1
      · exact h.2 ⟨id, k, cap, size, n1, hk, n2, hi⟩
    · omega
  · intro id id' k1 k2 hk1 hk2 hm1 hm2
    obtain ⟨k, hk, e1, e2, e3, hc⟩ := freeze_inv hk1
    obtain ⟨k', hk', e1', e2', e3', hc'⟩ := freeze_inv hk2
    rcases hc with ⟨rfl, _⟩ | ⟨_, _, h⟩
    · rcases hc' with ⟨rfl, _⟩ | ⟨_, _, h⟩
      · exact hH.inj id id' _ _ hk hk' hm1 hm2
      · rw [h] at hm2; cases hm2
    · rw [h] at hm1; cases hm1
  · rw [freezeR_length]; exact hf
  · refine ⟨h5.os, h5.tape, h5.output, h5.size, fun b hb _ => hkeep b hb, fun _ _ => rfl, ?_, ?_, ?_, by rw [freezeR_length]; exact Nat.le_refl _⟩
    · intro b hb
      rcases h5.mnew b hb with h | h
      · exact .inl h.1
      · exact .inr h
    · intro b hb
      by_cases hx : ∃ id k cap size, id ∈ fr ∧ H[id]? = some k ∧ k.mode = .live ∧ ι id = some (.blk b cap size)
      · obtain ⟨id, k, cap, size, n1, n2, n3, n4⟩ := hx
        exact .inr ⟨id, k, cap, size, n2, n3, n4⟩
      · exact .inl (hold b ⟨hb, hx⟩)
    · rintro b ⟨id, k', cap, size, hk', hl', hi⟩
      obtain ⟨k, hk, e1, e2, e3, hc⟩ := freeze_inv hk'
      rcases hc with ⟨rfl, _⟩ | ⟨_, _, h⟩
      · exact .inl ⟨id, k', cap, size, hk, hl', hi⟩
      · rw [h] at hl'; cases hl'

theorem app_ok {len m n b : Nat} {K : Prop} (h1 : len ≤ m) (h2 : (len + n) * b ≤ 140737488355328) (k : K) : (len ≤ m ∧ (len + n) * b ≤ 140737488355328) ∧ K := ⟨⟨h1, h2⟩, k⟩
theorem src_ok {α : Type} {xs : List α} {a b : Nat} {K : Prop} (h : a = b) (k : K) : (xs.length = 0 ∨ a = b) ∧ K := ⟨.inr h, k⟩
theorem toC_snoc {rows : List (List T)} {r : List T} : (toC rows).take rows.length ++ toC [r] = toC (rows ++ [r]) := by
  rw [List.take_of_length_le (by simp [toC])]; simp [toC]
theorem reg_ok {ops : List Oper} {K : Prop} (h : regOK ops = true) (k : K) : regOK ops = true ∧ K := ⟨h, k⟩
theorem bar_ok {ops : List Oper} {i : Nat} {K : Prop} (h : barrier ops i = true) (k : K) : barrier ops i = true ∧ K := ⟨h, k⟩
theorem app_full {rl xl sz ds b : Nat} {K : Prop} (h1 : 0 < xl) (h2 : sz = ds) (h3 : (rl + xl) * b ≤ 140737488355328) (k : K) : ((rl = 0 ∨ (0 < xl ∧ sz = ds)) ∧ (rl + xl) * b ≤ 140737488355328) ∧ K := ⟨⟨.inr ⟨h1, h2⟩, h3⟩, k⟩
theorem app_nil {rl xl sz ds b : Nat} {K : Prop} (h1 : rl = 0) (h3 : (rl + xl) * b ≤ 140737488355328) (k : K) : ((rl = 0 ∨ (0 < xl ∧ sz = ds)) ∧ (rl + xl) * b ≤ 140737488355328) ∧ K := ⟨⟨.inl h1, h3⟩, k⟩
theorem ex_rowE {α : Type} {xs : List α} {f : α → List T} {n : Int} {k : Nat} {x : α} {K : List T → Prop} (e : n = k) (hx : xs[k]? = some x) (h : K (f x)) : ∃ row, 0 ≤ n ∧ (xs.map f)[n.toNat]? = some row ∧ K row := by
  subst e; exact ex_row hx h
theorem ne_ok {a b : Int} {K : Prop} (h : a ≠ b) (k : K) : a ≠ b ∧ K := ⟨h, k⟩
theorem sl_ok {l h m : Int} {K : Prop} (h1 : 0 ≤ l) (h2 : l ≤ h) (h3 : h ≤ m) (k : K) : (0 ≤ l ∧ l ≤ h ∧ h ≤ m) ∧ K := ⟨⟨h1, h2, h3⟩, k⟩
/-- at a loop's end, too, one may forget -/
theorem awp_weak {P : Program} {n0 : Nat} {c : Code} {env : Env} {H : Hp} {Q : AX → Env → Hp → Prop}
    (h : Awp P n0 c env H fun a env' H' => Q a env' H' ∨ ∃ ρ E2 H2, Ent n0 ρ env' H' E2 H2 ∧ Q a E2 H2) : Awp P n0 c env H Q := by
  refine ⟨fun w0 ι0 M0 H0 a w hn hM hs => wp_mono (h.out w0 ι0 M0 H0 a w hn hM hs) ?_⟩
  rintro e a' w' ⟨x, env', H', rfl, hq, hs'⟩
  rcases hq with hq | ⟨ρ, E2, H2, he, hq⟩
  · exact ⟨x, env', H', rfl, hq, hs'⟩
  · exact ⟨x, E2, H2, rfl, hq, he.sim hn hM hs'⟩
theorem fin_own {id len : Nat} {app : Bool} {H1 : Hp} {rows : List (List T)} {size : Nat} {k : Blk} (hk : H1[id]? = some k) (hd : k.mode ≠ .dead) (hs : k.size = size) (hc : k.rows = toC rows) (hl : len = rows.length) :
    Fin 0 (.c (.own id 0 len app)) H1 (.c (.t (.sl size .any rows))) [] := fin_t (show VC H1 _ _ _ from vc_all rfl hk hd hs hc hl)
theorem ent_own {ρ : List (Option Nat)} {H : Hp} {id id' len len' : Nat} (h : ρ[id']? = some (some id)) (hl : len = len') : EntS ρ H (.c (.own id 0 len true)) (.c (.own id' 0 len' true)) := ⟨h, rfl, hl, fun h => h⟩
theorem rowsT_toC (rows : List (List T)) : rowsT (toC rows) := by
  intro r hr c hc
  obtain ⟨r', _, rfl⟩ := List.mem_map.1 hr
  obtain ⟨c', _, rfl⟩ := List.mem_map.1 hc
  rfl
theorem entB_rows {ρ : List (Option Nat)} {H : Hp} {k k' : Blk} {rows : List (List T)} (h1 : k.mode = k'.mode) (h2 : k.elem = k'.elem) (h3 : k.size = k'.size) (h4 : k.rows = toC rows) (h5 : k'.rows = toC rows) : EntB ρ H k k' :=
  ⟨h1, h2, h3, .inl ⟨h4.trans h5.symm, h4 ▸ rowsT_toC rows⟩⟩
theorem vl_map {H : Hp} {p : Nat → Prop} : ∀ ts : List T, VL H p (ts.map C.t) ts
  | [] => vl_nil
  | t :: r => vl_cons (vc_t (weak_refl t)) (vl_map r)
theorem vs_ts {H : Hp} {p : Nat → Prop} (ts : List T) : VS H p (.agg (ts.map C.t)) (.agg (ts.map C.t)) := vs_agg (vl_map ts)
theorem vs_t {H : Hp} {p : Nat → Prop} {x : T} : VS H p (.c (.t x)) (.c (.t x)) := vs_c (vc_t (weak_refl x))
end Go.Proofs.Ythjgbjakpbfnoaa
