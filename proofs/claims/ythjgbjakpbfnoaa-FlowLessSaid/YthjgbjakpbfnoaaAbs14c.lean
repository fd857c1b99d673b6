/- Regions that draw their order, concluded. -/
import Derived.Test.YthjgbjakpbfnoaaAbs14b
namespace Go.Proofs.Ythjgbjakpbfnoaa
open Go.RowKit
set_option linter.unusedVariables false
set_option linter.unusedSimpArgs false

theorem HeapRel.prefix {w : World} {ι : Io} {M : Ms} {H X : Hp} (h : HeapRel w ι M (H ++ X)) : HeapRel w ι M H := by
  have e : ∀ (id : Nat) (k : Blk), H[id]? = some k → (H ++ X)[id]? = some k := fun id k hk => by
    rw [List.getElem?_append_left (List.getElem?_eq_some_iff.1 hk).1]; exact hk
  exact ⟨fun id k hk => h.blk id k (e id k hk), fun id k hk => h.liv id k (e id k hk), fun id k hk => h.fro id k (e id k hk), fun id id' k k' hk hk' => h.inj id id' k k' (e id k hk) (e id' k' hk')⟩
theorem HeapRel.extend {w : World} {ι : Io} {M : Ms} {H X : Hp} (h : HeapRel w ι M H) (hF : Fresh ι H.length) : HeapRel w ι M (H ++ X) := by
  have e : ∀ (id : Nat) (k : Blk), (H ++ X)[id]? = some k → ∀ l, ι id = some l → H[id]? = some k := fun id k hk l hl => by
    by_cases hid : id < H.length
    · rw [List.getElem?_append_left hid] at hk; exact hk
    · rw [hF id (by omega)] at hl; cases hl
  exact ⟨fun id k hk hd l hl => h.blk id k (e id k hk l hl) hd l hl, fun id k hk hm b c s hl => h.liv id k (e id k hk _ hl) hm b c s hl, fun id k hk hm b c s hl => h.fro id k (e id k hk _ hl) hm b c s hl,
    fun id id' k k' hk hk' hm hm' b c s c' s' hl hl' => h.inj id id' k k' (e id k hk _ hl) (e id' k' hk' _ hl') hm hm' b c s c' s' hl hl'⟩

/-- a quiet operation, while blocks of operations behind it may be there already -/
theorem QPost.insert {w : World} {ι : Io} {M : Ms} {H : Hp} {n : Nat} {s : S} {B : List Blk} {v : Value} {w' : World} (hH : HeapRel w ι M H) (hM : MB w M) (hB : ∀ k, k < B.length → H[n + k]? = B[k]?)
    (hf : ∀ k, k < B.length → ι (n + k) = none) (h : QPost w ι M n s B v w') :
    ∃ new : Nat → Loc, RS w' (addIo ι n B.length new) (addMs M B.length new) s v ∧ Ext w w' ∧ HeapRel w' (addIo ι n B.length new) (addMs M B.length new) H ∧ MB w' (addMs M B.length new) ∧
      (∀ b, addMs M B.length new b → M b ∨ w.heap.size ≤ b) ∧ (∀ b, Live (addIo ι n B.length new) H b → Live ι H b ∨ w.heap.size ≤ b) := by
  obtain ⟨new, h1, h2, h3, h4, h5⟩ := h
  have hM' : ∀ b, addMs M B.length new b → M b ∨ w.heap.size ≤ b := by
    rintro b (hb | ⟨k, hk, cap, size, he⟩)
    · exact .inl hb
    · exact .inr (h4 k b cap size hk he).1
  have hcase : ∀ id l, addIo ι n B.length new id = some l → (ι id = some l ∧ ¬ (n ≤ id ∧ id < n + B.length)) ∨ ∃ k, k < B.length ∧ id = n + k ∧ l = new k := by
    intro id l hl
    unfold addIo at hl
    split at hl
    · injection hl with hl
      exact .inr ⟨id - n, by omega, by omega, hl.symm⟩
    · rename_i hc; exact .inl ⟨hl, hc⟩
  have hext : ∀ id l, ι id = some l → addIo ι n B.length new id = some l := fun id l hl => addIo_ext hf hl
  have hlt : ∀ id b cap size, ι id = some (.blk b cap size) → ∀ k, H[id]? = some k → k.mode ≠ .dead → b < w.heap.size := fun id b cap size hi k hk hd => by
    obtain ⟨_, _, _, _, _, cur, hc, _⟩ := hH.blk id k hk hd _ hi
    exact block_lt hc
  refine ⟨new, h1, h2, ⟨?_, ?_, ?_, ?_⟩, ?_, hM', ?_⟩
  · intro id k hk hd l hl
    rcases hcase id l hl with ⟨hl, _⟩ | ⟨j, hj, rfl, rfl⟩
    · have hb := hH.blk id k hk hd l hl
      cases l with
      | nil => exact hb
      | blk b cap size =>
        obtain ⟨q1, q2, q3, q4, q5, cur, q6, q7, q8⟩ := hb
        refine ⟨q1, q2, q3, q4, q5, cur, (h2.keep b (block_lt q6)).trans q6, q7, fun i j c hc => ?_⟩
        obtain ⟨u, hu, hr⟩ := q8 i j c hc
        exact ⟨u, hu, hr.keep (fun b hb _ => h2.keep b hb) hM' hext⟩
    · rw [hB j hj] at hk
      exact (h3 j k hk).2
  · intro id k hk hm b cap size hl
    rcases hcase id _ hl with ⟨hl, _⟩ | ⟨j, hj, rfl, he⟩
    · exact .inl (hH.liv id k hk hm b cap size hl)
    · exact .inr ⟨j, hj, cap, size, he.symm⟩
  · intro id k hk hm b cap size hl
    rcases hcase id _ hl with ⟨hl, _⟩ | ⟨j, hj, rfl, he⟩
    · have hb := hlt id b cap size hl k hk (by rw [hm]; intro h; cases h)
      rintro (h | ⟨k', hk', cap', size', he⟩)
      · exact hH.fro id k hk hm b cap size hl h
      · have := (h4 _ _ _ _ hk' he).1; omega
    · rw [hB j hj] at hk
      have := (h3 j k hk).1
      rw [hm] at this; cases this
  · intro id id' k k' hk hk' hm hm' b cap size cap' size' hl hl'
    rcases hcase id _ hl with ⟨hl, _⟩ | ⟨j, hj, rfl, he⟩ <;> rcases hcase id' _ hl' with ⟨hl', _⟩ | ⟨j', hj', rfl, he'⟩
    · exact hH.inj id id' k k' hk hk' hm hm' b cap size cap' size' hl hl'
    · have := hlt id b cap size hl k hk (by rw [hm]; intro h; cases h)
      have := (h4 _ _ _ _ hj' he'.symm).1
      omega
    · have := hlt id' b cap' size' hl' k' hk' (by rw [hm']; intro h; cases h)
      have := (h4 _ _ _ _ hj he.symm).1
      omega
    · have := h5 _ _ _ _ _ _ _ hj hj' he.symm he'.symm
      omega
  · rintro b (hb | ⟨k, hk, cap, size, he⟩)
    · exact Nat.lt_of_lt_of_le (hM b hb) h2.size
    · exact (h4 k b cap size hk he).2
  · rintro b ⟨id, k, cap, size, hk, hm, hl⟩
    rcases hcase id _ hl with ⟨hl, _⟩ | ⟨j, hj, rfl, he⟩
    · exact .inl ⟨id, k, cap, size, hk, hm, hl⟩
    · exact .inr (h4 _ _ _ _ hj he.symm).1

section
variable {P : Program} {ops : Array Oper} {envs : Nat → Env} {hs : Nat → Hp} {rs : Nat → S} {kd : Nat → Kd}

def dstAt (ops : Array Oper) (i : Nat) : Option Nat := (ops[i]?).bind (·.dst)

theorem dst_uniq (hd : dstOK ops.toList = true) {i j t : Nat} (hi : dstAt ops i = some t) (hj : dstAt ops j = some t) : i = j := by
  unfold dstAt at hi hj
  cases hoi : ops[i]? with
  | none => rw [hoi] at hi; cases hi
  | some oi =>
    cases hoj : ops[j]? with
    | none => rw [hoj] at hj; cases hj
    | some oj =>
      rw [hoi] at hi
      rw [hoj] at hj
      have hi : oi.dst = some t := hi
      have hj : oj.dst = some t := hj
      have := List.all_eq_true.1 hd (oi, i) (by rw [List.mem_zipIdx_iff_getElem?]; simpa using hoi)
      have := List.all_eq_true.1 this (oj, j) (by rw [List.mem_zipIdx_iff_getElem?]; simpa using hoj)
      simp only [hi, hj, Nat.beq_refl, Bool.not_true, Bool.or_false] at this
      exact Nat.eq_of_beq_eq_true this

theorem dep_mask (hd : depOK ops.toList = true) {i j t : Nat} {oi : Oper} (hi : ops[i]? = some oi) (hr : t ∈ readsOf ops.toList oi) (hj : dstAt ops j = some t) (hne : i ≠ j) :
    (j < i → ((masks ops.toList).getD i 0).testBit j = true) ∧ (i < j → ((masks ops.toList).getD j 0).testBit i = true) := by
  unfold dstAt at hj
  cases hoj : ops[j]? with
  | none => rw [hoj] at hj; cases hj
  | some oj =>
    rw [hoj] at hj
    have hj : oj.dst = some t := hj
    have := List.all_eq_true.1 hd (oi, i) (by rw [List.mem_zipIdx_iff_getElem?]; simpa using hi)
    have := List.all_eq_true.1 this t hr
    have := List.all_eq_true.1 this (oj, j) (by rw [List.mem_zipIdx_iff_getElem?]; simpa using hoj)
    simp only [hj, Nat.beq_refl, Bool.not_true, Bool.false_or, Bool.or_eq_true] at this
    have this := this.resolve_left (fun h => hne (Nat.eq_of_beq_eq_true h))
    refine ⟨fun hlt => ?_, fun hlt => ?_⟩
    · rw [show Nat.blt j i = true by rw [Nat.blt_eq]; exact hlt] at this
      simpa using this
    · rw [show Nat.blt j i = false by rw [← Bool.not_eq_true, Nat.blt_eq]; omega] at this
      simpa using this

theorem barrier_mask {i j : Nat} (hb : barrier ops.toList i = true) (hj : j < ops.size) : (j < i → ((masks ops.toList).getD i 0).testBit j = true) ∧ (i < j → ((masks ops.toList).getD j 0).testBit i = true) := by
  have := List.all_eq_true.1 hb j (by simpa using hj)
  refine ⟨fun hlt => ?_, fun hlt => ?_⟩
  · rw [show Nat.blt j i = true by rw [Nat.blt_eq]; exact hlt] at this
    simpa using this
  · rw [show Nat.blt j i = false by rw [← Bool.not_eq_true, Nat.blt_eq]; omega, show Nat.blt i j = true by rw [Nat.blt_eq]; exact hlt] at this
    simpa using this

variable (hT : ∀ j, j < ops.size → TrOK P ops.toList envs hs rs kd j)
include hT

theorem tr_len {p j : Nat} (hpj : p ≤ j) (hj : j ≤ ops.size) : (envs j).length = (envs p).length := by
  induction j with
  | zero => obtain rfl : p = 0 := by omega
            rfl
  | succ j ih =>
    by_cases h : p = j + 1
    · subst h; rfl
    · obtain ⟨o, _, h1, _⟩ := hT j (by omega)
      rw [h1, putE_length, ih (by omega) (by omega)]

theorem tr_other {p j t : Nat} (hpj : p ≤ j) (hj : j ≤ ops.size) (hno : ∀ i, p ≤ i → i < j → dstAt ops i ≠ some t) : (envs j)[t]? = (envs p)[t]? := by
  induction j with
  | zero => obtain rfl : p = 0 := by omega
            rfl
  | succ j ih =>
    by_cases h : p = j + 1
    · subst h; rfl
    · obtain ⟨o, ho, h1, _⟩ := hT j (by omega)
      have hn := hno j (by omega) (by omega)
      have ho' : ops[j]? = some o := by simpa using ho
      unfold dstAt at hn
      rw [ho'] at hn
      rw [h1, ← ih (by omega) (by omega) (fun i h1 h2 => hno i h1 (by omega))]
      cases hd : o.dst with
      | none => rfl
      | some d =>
        have : d ≠ t := fun e => hn (by show o.dst = some t; rw [hd, e])
        show ((envs j).set d (rs j))[t]? = _
        rw [List.getElem?_set_ne this]

theorem tr_dst (hdo : dstOK ops.toList = true) {p i j t : Nat} (hpi : p ≤ i) (hij : i < j) (hj : j ≤ ops.size) (hd : dstAt ops i = some t) (ht : t < (envs p).length) : (envs j)[t]? = some (rs i) := by
  have h0 : (envs j)[t]? = (envs (i + 1))[t]? := tr_other hT (by omega) hj fun i' h1 h2 he => by
    have := dst_uniq hdo hd he
    omega
  obtain ⟨o, ho, h1, _⟩ := hT i (by omega)
  have ho' : ops[i]? = some o := by simpa using ho
  unfold dstAt at hd
  rw [ho'] at hd
  have hd : o.dst = some t := hd
  rw [h0, h1, hd]
  show ((envs i).set t (rs i))[t]? = _
  rw [List.getElem?_set_self (by rw [tr_len hT hpi (by omega)]; exact ht)]

theorem tr_prefix {i j : Nat} (hij : i ≤ j) (hj : j ≤ ops.size) (hno : ∀ k, i ≤ k → k < j → kd k ≠ .gen) : ∃ X, hs j = hs i ++ X := by
  induction j with
  | zero => obtain rfl : i = 0 := by omega
            exact ⟨[], by simp⟩
  | succ j ih =>
    by_cases h : i = j + 1
    · subst h; exact ⟨[], by simp⟩
    · obtain ⟨X, hX⟩ := ih (by omega) (by omega) (fun k h1 h2 => hno k h1 (by omega))
      obtain ⟨o, _, _, h2⟩ := hT j (by omega)
      have hg := hno j (by omega) (by omega)
      cases hk : kd j with
      | skip => rw [hk] at h2; exact ⟨X, by rw [h2.2.2, hX]⟩
      | quiet B => rw [hk] at h2; exact ⟨X ++ B, by rw [h2.2.2, hX, List.append_assoc]⟩
      | gen => exact absurd hk hg
end

structure DInv (ops : Array Oper) (envs : Nat → Env) (hs : Nat → Hp) (rs : Nat → S) (kd : Nat → Kd) (w0 : World) (ι0 : Io) (M0 : Ms) (H0 : Hp) (listed : Array Bool) (a : Act) (w : World) (p q : Nat) : Prop where
  hpq : p ≤ q
  hqn : q ≤ ops.size
  seg : ∀ j, p ≤ j → j < q → kd j ≠ .gen
  fin : q = ops.size ∨ kd q = .gen
  h0 : H0.length ≤ (hs p).length
  lsz : listed.size = ops.size
  low : ∀ j, j < p → listed.getD j false = true
  high : ∀ j, q ≤ j → listed.getD j false = false
  closed : ∀ i o, ops[i]? = some o → listed.getD i false = true → ∀ e ∈ o.after.toList, Region.binds .any e = true → listed.getD e.on false = true
  rel : ∃ (ι : Io) (M : Ms), a.defers = [] ∧ a.tmps.size = (envs p).length ∧
    (∀ i t, p ≤ i → listed.getD i false = true → dstAt ops i = some t → t < (envs p).length → RS w ι M (rs i) (a.tmps.getD t undef)) ∧
    (∀ t s, (∀ i, p ≤ i → listed.getD i false = true → dstAt ops i ≠ some t) → (envs p)[t]? = some s → RS w ι M s (a.tmps.getD t undef)) ∧
    HeapRel w ι M (hs q) ∧ MB w M ∧ (∀ i B, p ≤ i → i < q → listed.getD i false = false → kd i = .quiet B → ∀ k, k < B.length → ι ((hs i).length + k) = none) ∧
    Fresh ι (hs q).length ∧ Step w0 ι0 M0 H0 w ι M (hs q)
end Go.Proofs.Ythjgbjakpbfnoaa
