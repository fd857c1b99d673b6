/- Heaps whose last part is symbolic: steps by lemma, views of nested blocks, calls over a first part of the heap. -/
import Derived.Test.YtomfnfbijgjfeaaTw4
namespace Go.Proofs.Ytomfnfbijgjfeaa
open Go.RowKit
set_option linter.unusedVariables false
set_option linter.unusedSimpArgs false

section
variable {α β : Type}
theorem getK_ok {l : List α} : ∀ {i : Nat} {x : α} {k : α → Prop}, l[i]? = some x → k x → getK i l k := by
  induction l with
  | nil => intro i x k h; simp at h
  | cons a r ih =>
    intro i x k h hk
    cases i with
    | zero => simp at h; subst h; exact hk
    | succ i => exact ih (by simpa using h) hk
theorem setK_ok {v : α} {l : List α} {i : Nat} {k : List α → Prop} (h : k (l.set i v)) : setK i v l k := setK_iff.2 h
theorem appK_ok {r l : List α} {k : List α → Prop} (h : k (l ++ r)) : appK l r k := appK_iff.2 h
theorem appK_nil {l : List α} {k : List α → Prop} (h : k l) : appK l [] k := appK_ok (by rw [List.append_nil]; exact h)
theorem lenK_ok {l : List α} {n : Nat} {k : Nat → Prop} (h : k (l.length + n)) : lenK l n k := lenK_iff.2 (by rw [Nat.add_comm]; exact h)
theorem lenK_map {f : β → α} {M : List β} {N n : Nat} {k : Nat → Prop} (h : M.length = N) (hk : k (N + n)) : lenK (M.map f) n k := lenK_ok (by simpa [h] using hk)
theorem lenK_mapA {f : β → α} {M : List β} {T : List α} {N n : Nat} {k : Nat → Prop} (h : M.length = N) (hk : lenK T n fun m => k (N + m)) : lenK (M.map f ++ T) n k := by
  refine lenK_ok ?_
  have := (lenK_iff (k := fun m => k (N + m))).1 hk
  simpa [h, Nat.add_assoc, Nat.add_comm n] using this
theorem appK_mapA {f : β → α} {M : List β} {T r : List α} {k : List α → Prop} (h : appK T r fun q => k (M.map f ++ q)) : appK (M.map f ++ T) r k := by
  refine appK_ok ?_
  rw [List.append_assoc]
  exact (appK_iff (k := fun q => k (M.map f ++ q))).1 h
theorem getK_map {f : β → α} {M : List β} {i : Nat} {x : β} {k : α → Prop} (h : M[i]? = some x) (hk : k (f x)) : getK i (M.map f) k := getK_ok (by rw [List.getElem?_map, h]; rfl) hk
theorem getK_mapA {f : β → α} {M : List β} {T : List α} {i : Nat} {x : β} {k : α → Prop} (h : M[i]? = some x) (hk : k (f x)) : getK i (M.map f ++ T) k :=
  getK_ok (by rw [List.getElem?_append_left (by simpa using (List.getElem?_eq_some_iff.1 h).1), List.getElem?_map, h]; rfl) hk
theorem getK_mapT {f : β → α} {M : List β} {T : List α} {N t : Nat} {k : α → Prop} (h : M.length = N) (hk : getK t T k) : getK (N + t) (M.map f ++ T) k := by
  obtain ⟨x, h1, h2⟩ := getK_iff hk
  exact getK_ok (by rw [List.getElem?_append_right (by simp [h])]; simpa [h] using h1) h2
theorem getK_map0 {f : β → α} {M : List β} {T : List α} {N : Nat} {k : α → Prop} (h : M.length = N) (hk : getK 0 T k) : getK N (M.map f ++ T) k := getK_mapT (t := 0) h hk
theorem setK_mapA {f : β → α} {M : List β} {T : List α} {i : Nat} {v : α} {x : β} {k : List α → Prop} (hi : i < M.length) (hv : v = f x) (h : k ((M.set i x).map f ++ T)) : setK i v (M.map f ++ T) k :=
  setK_ok (by rw [List.set_append_left _ _ (by simpa using hi), hv, ← List.map_set]; exact h)
theorem setK_mapT {f : β → α} {M : List β} {T : List α} {N t : Nat} {v : α} {k : List α → Prop} (h : M.length = N) (hk : setK t v T fun q => k (M.map f ++ q)) : setK (N + t) v (M.map f ++ T) k := by
  refine setK_ok ?_
  rw [List.set_append_right _ _ (by simp [h])]
  simpa [h] using (setK_iff (k := fun q => k (M.map f ++ q))).1 hk
theorem setK_map0 {f : β → α} {M : List β} {T : List α} {N : Nat} {v : α} {k : List α → Prop} (h : M.length = N) (hk : setK 0 v T fun q => k (M.map f ++ q)) : setK N v (M.map f ++ T) k := setK_mapT (t := 0) h hk
end

/-- nothing renamed -/
def idR (n : Nat) : List (Option Nat) := (List.range n).map some
theorem idR_len (n : Nat) : (idR n).length = n := by simp [idR]
theorem idR_get {n i : Nat} (h : i < n) : (idR n)[i]? = some (some i) := by simp [idR, h]
theorem idR_inv {n i j : Nat} (h : (idR n)[i]? = some (some j)) : i = j := by
  obtain ⟨h1, h2⟩ := List.getElem?_eq_some_iff.1 h
  simp [idR] at h2
  exact h2
theorem idR_keeps {n : Nat} : ∀ {m : Nat}, m ≤ n → keepsB (idR n) m = true
  | 0, _ => rfl
  | m + 1, h => by
    unfold keepsB
    rw [idR_get (by omega), idR_keeps (by omega)]
    simp
theorem sameL_no : ∀ {r : List (Option Nat)} {H : Hp} {n : Nat}, (∀ j : Nat, r[j]? ≠ some (some n)) → sameL n r H = false
  | [], H, n, _ => by cases H <;> rfl
  | x :: r, [], n, _ => by cases x <;> rfl
  | x :: r, k :: H, n, h => by
    unfold sameL
    rw [sameL_no (r := r) (H := H) (n := n) (fun j => by simpa using h (j + 1)), Bool.or_false]
    split
    · rfl
    · rename_i m _
      have : m ≠ n := by rintro rfl; exact h 0 rfl
      cases hb : Nat.beq m n with
      | false => rfl
      | true => exact absurd (Nat.eq_of_beq_eq_true hb) this
    · rfl
theorem nodupH_ok : ∀ {r : List (Option Nat)} {H : Hp}, (∀ i j n : Nat, r[i]? = some (some n) → r[j]? = some (some n) → i = j) → nodupH r H = true
  | [], H, _ => by cases H <;> rfl
  | x :: r, [], _ => by cases x <;> rfl
  | none :: r, k :: H, h => nodupH_ok (r := r) fun i j n h1 h2 => by have := h (i + 1) (j + 1) n (by simpa using h1) (by simpa using h2); omega
  | some n :: r, k :: H, h => by
    unfold nodupH
    rw [nodupH_ok (r := r) (H := H) fun i j n h1 h2 => by have := h (i + 1) (j + 1) n (by simpa using h1) (by simpa using h2); omega]
    rw [sameL_no (r := r) (n := n) (fun j hj => by have := h 0 (j + 1) n rfl (by simpa using hj); omega)]
    cases k.mode <;> rfl
theorem idR_nodup {n : Nat} {H : Hp} : nodupH (idR n) H = true := nodupH_ok fun i j n h1 h2 => by rw [idR_inv h1, idR_inv h2]
theorem entH_ok {ρ : List (Option Nat)} {H : Hp} : ∀ {r : List (Option Nat)} {H' : Hp}, r.length = H'.length → (∀ (i : Nat) (k' : Blk), H'[i]? = some k' → ∃ (j : Nat) (k : Blk), r[i]? = some (some j) ∧ H[j]? = some k ∧ EntB ρ H k k') → EntH ρ H r H'
  | [], [], _, _ => trivial
  | [], _ :: _, h, _ => by simp at h
  | _ :: _, [], h, _ => by simp at h
  | x :: r, k' :: H', hl, h => by
    obtain ⟨j, k, h1, h2, h3⟩ := h 0 k' rfl
    simp at h1
    subst h1
    refine ⟨?_, entH_ok (by simpa using hl) fun i k1 hk => by simpa using h (i + 1) k1 (by simpa using hk)⟩
    simp only [h2]
    exact h3
theorem entL_refl {n : Nat} {H : Hp} : ∀ {l : List C}, (∀ c ∈ l, match c with | .t _ => True | .ptr id _ _ => id < n | .own id _ _ _ => id < n | .fn _ _ => False) → EntL (idR n) H l l
  | [], _ => trivial
  | c :: r, h => by
    refine ⟨?_, entL_refl fun c hc => h c (by simp [hc])⟩
    have h0 := h c (by simp)
    cases c with
    | t x => exact weak_refl x
    | ptr id r o => exact ⟨idR_get h0, rfl, rfl⟩
    | own id lo len app => exact ⟨idR_get h0, rfl, rfl, fun h => h⟩
    | fn f caps => exact h0.elim
/-- a block all of whose handles are below n -/
def okB (n : Nat) (k : Blk) : Prop := ∀ r ∈ k.rows, ∀ c ∈ r, match c with | .t _ => True | .ptr id _ _ => id < n | .own id _ _ _ => id < n | .fn _ _ => False
theorem okB_toC {n : Nat} {k : Blk} {rows : List (List T)} (h : k.rows = toC rows) : okB n k := by
  intro r hr c hc
  rw [h] at hr
  obtain ⟨r0, _, rfl⟩ := List.mem_map.1 hr
  obtain ⟨t, _, rfl⟩ := List.mem_map.1 hc
  trivial
theorem entR_refl {n : Nat} {H : Hp} : ∀ {l : List (List C)}, (∀ r ∈ l, ∀ c ∈ r, match c with | .t _ => True | .ptr id _ _ => id < n | .own id _ _ _ => id < n | .fn _ _ => False) → EntR (idR n) H l l
  | [], _ => trivial
  | r :: l, h => ⟨entL_refl (h r (by simp)), entR_refl fun r hr => h r (by simp [hr])⟩
theorem entB_refl {n : Nat} {H : Hp} {k : Blk} (h : okB n k) : EntB (idR n) H k k := ⟨by unfold leMode; cases k.mode <;> simp, rfl, rfl, .inr (entR_refl h)⟩
/-- nothing renamed; each block is known as well, or less -/
theorem ent_idx {n0 n : Nat} {env env' : Env} {H H' : Hp} (hn : H'.length = n) (h0 : n0 ≤ n) (hB : ∀ (i : Nat) (k' : Blk), H'[i]? = some k' → ∃ k : Blk, H[i]? = some k ∧ EntB (idR n) H k k') (hE : EntE (idR n) H env env') : Ent n0 (idR n) env H env' H' :=
  ⟨idR_keeps h0, idR_nodup, entH_ok (by rw [idR_len, hn]) fun i k' hk => by
    have hi : i < n := by rw [← hn]; exact (List.getElem?_eq_some_iff.1 hk).1
    obtain ⟨k, h1, h2⟩ := hB i k' hk
    exact ⟨i, k, idR_get hi, h1, h2⟩, hE⟩
theorem entR_all {ρ : List (Option Nat)} {H : Hp} : ∀ {xs ys : List (List C)}, xs.length = ys.length → (∀ (i : Nat) (x y : List C), xs[i]? = some x → ys[i]? = some y → EntL ρ H x y) → EntR ρ H xs ys
  | [], [], _, _ => trivial
  | [], _ :: _, h, _ => by simp at h
  | _ :: _, [], h, _ => by simp at h
  | x :: xs, y :: ys, h, hh => ⟨hh 0 x y rfl rfl, entR_all (by simpa using h) fun i a b ha hb => hh (i + 1) a b (by simpa using ha) (by simpa using hb)⟩
theorem ent_mid {β : Type} {n0 n : Nat} {env env' : Env} {f : β → Blk} {M : List β} {b0 b0' bl bl' : Blk} {T : Hp} (hn : M.length + 2 = n) (h0 : n0 ≤ n) (e0 : b0 = b0') (ok0 : okB n b0') (hf : ∀ x, okB n (f x))
    (hl : EntB (idR n) (b0 :: (M.map f ++ bl :: T)) bl bl') (hE : EntE (idR n) (b0 :: (M.map f ++ bl :: T)) env env') : Ent n0 (idR n) env (b0 :: (M.map f ++ bl :: T)) env' (b0' :: (M.map f ++ [bl'])) := by
  refine ent_idx (by simp; omega) h0 (fun i k' hk => ?_) hE
  cases i with
  | zero => simp at hk; subst hk; exact ⟨b0, rfl, by rw [e0]; exact entB_refl ok0⟩
  | succ i =>
    rw [List.getElem?_cons_succ] at hk ⊢
    by_cases hi : i < M.length
    · rw [List.getElem?_append_left (by simpa using hi)] at hk ⊢
      refine ⟨k', hk, entB_refl ?_⟩
      obtain ⟨x, _, rfl⟩ := List.mem_map.1 (List.mem_of_getElem? hk)
      exact hf x
    · rw [List.getElem?_append_right (by simpa using hi)] at hk ⊢
      have : i = M.length := by
        have := (List.getElem?_eq_some_iff.1 hk).1
        simp at this; omega
      subst this
      simp at hk ⊢
      subst hk
      exact hl
theorem entB_eq {n : Nat} {H : Hp} {k k' : Blk} (e : k = k') (h : okB n k') : EntB (idR n) H k k' := by subst e; exact entB_refl h
/-- the first blocks stay, the others are dropped -/
theorem ent_first {n0 n : Nat} {env env' : Env} {H H' : Hp} (hn : H'.length = n) (h0 : n0 ≤ n) (hok : ∀ k ∈ H', okB n k) (hH : ∀ i, i < n → H[i]? = H'[i]?) (hE : EntE (idR n) H env env') : Ent n0 (idR n) env H env' H' :=
  ⟨idR_keeps h0, idR_nodup, entH_ok (by rw [idR_len, hn]) fun i k' hk => by
    have hi : i < n := by rw [← hn]; exact (List.getElem?_eq_some_iff.1 hk).1
    exact ⟨i, k', idR_get hi, by rw [hH i hi]; exact hk, entB_refl (hok k' (List.mem_of_getElem? hk))⟩, hE⟩
theorem ent_firstA {n0 n : Nat} {env env' : Env} {H' T : Hp} (hn : H'.length = n) (h0 : n0 ≤ n) (hok : ∀ k ∈ H', okB n k) (hE : EntE (idR n) (H' ++ T) env env') : Ent n0 (idR n) env (H' ++ T) env' H' :=
  ent_first hn h0 hok (fun i hi => by rw [List.getElem?_append_left (by omega)]) hE

theorem fin_first {n0 n : Nat} {r s : S} {H H' : Hp} (hn : H'.length = n) (h0 : n0 ≤ n) (hok : ∀ k ∈ H', okB n k) (hH : ∀ i, i < n → H[i]? = H'[i]?) (hE : EntT (idR n) H r s) : Fin n0 r H s H' :=
  ⟨idR n, idR_keeps h0, idR_nodup, entH_ok (by rw [idR_len, hn]) fun i k' hk => by
    have hi : i < n := by rw [← hn]; exact (List.getElem?_eq_some_iff.1 hk).1
    exact ⟨i, k', idR_get hi, by rw [hH i hi]; exact hk, entB_refl (hok k' (List.mem_of_getElem? hk))⟩, hE⟩

/-- cells of nested blocks as data -/
inductive VX (H : Hp) (p : Nat → Prop) : C → T → Prop
  | vc {x : C} {y : T} (h : VC H p x y) : VX H p x y
  | own {id lo len : Nat} {app : Bool} {size : Nat} {k : Blk} {rows : List (List T)} (hp : p id) (hk : H[id]? = some k) (hd : ¬ k.mode.gone) (hs : k.size = size) (hl : rows.length = len)
      (hw : ∀ r ∈ rows, r.length = size) (g : Nat → Nat → C) (hc : ∀ i j c, at2 rows i j = some c → at2 k.rows (lo + i) j = some (g i j))
      (hx : ∀ i j c, at2 rows i j = some c → VX H p (g i j) c) : VX H p (.own id lo len app) (.sl size .any rows)
theorem VX.rt {H : Hp} {p : Nat → Prop} {w : World} {ι : Io} {M M' : Ms} (hH : HeapRel w ι M H) (hM : ∀ b, M' b → M b) (hp : ∀ id k b cap size, p id → H[id]? = some k → ¬ k.mode.gone → ι id = some (.blk b cap size) → ¬ M' b)
    {x : C} {y : T} (h : VX H p x y) : ∀ {v : Value}, RC w ι M x v → RT w M' y v := by
  induction h with
  | vc h => intro v hr; exact VC.rt hH hM hp _ _ _ h hr
  | @own id lo len app size k rows hpi hk hd hs hl hw g hc hx ih =>
    intro v hr
    cases hr with
    | @own _ _ _ _ b cap sz A cap' hi q1 q2 q3 q4 q5 =>
      subst hl
      have hbr := hH.blk id k hk (fun e => hd (by rw [e]; trivial)) _ hi
      obtain ⟨r1, r2, r3, r4, r5, cur, r6, r7, r8⟩ := hbr
      have hnm := hp id k b cap sz hpi hk hd hi
      have hse : sz = size := by rw [← hs, r1]
      subst hse
      have hat : ∀ (i j : Nat) (c : T), at2 rows i j = some c → ∃ u, cur[(lo + i) * sz + j]? = some u ∧ RT w M' c u := fun i j c hij => by
        obtain ⟨u, t1, t2⟩ := r8 _ _ _ (hc i j c hij)
        exact ⟨u, t1, ih i j c hij t2⟩
      refine .sl (b := b) (off := lo * sz) (fun i j => cur.getD ((lo + i) * sz + j) undef) hw q3 q4 (by intro h; cases h) (by intro h; cases h) (fun hne => q2 (List.length_pos_iff.2 hne)) ?_ ?_
      · intro i j c hc'
        obtain ⟨u, s1, s2⟩ := hat i j c hc'
        refine ⟨?_, hnm⟩
        have e : lo * sz + (i * sz + j) = (lo + i) * sz + j := by rw [Nat.add_mul, Nat.add_assoc]
        simp only [World.cell?]
        rw [r6, e]
        simp [s1]
      · intro i j c hc'
        obtain ⟨u, s1, s2⟩ := hat i j c hc'
        have : cur.getD ((lo + i) * sz + j) undef = u := by simp [s1]
        rw [this]; exact s2
    | nil hi =>
      have hr0 : rows = [] := List.eq_nil_of_length_eq_zero hl
      subst hr0
      exact .sl (b := 0) (off := 0) (fun _ _ => undef) (by simp) (by simp) (by unfold maxLen; omega) (by simp) (by simp) (by simp) (by simp [at2]) (by simp [at2])

/-- arguments seen as data, nested blocks too -/
def VXS (H : Hp) (p : Nat → Prop) (s s' : S) : Prop :=
  (∃ x y, s = .c x ∧ s' = .c (.t y) ∧ VX H p x y) ∨ VS H p s s'
def VXArgs (H : Hp) (p : Nat → Prop) : List S → List S → Prop
  | [], [] => True
  | s :: r, s' :: r' => VXS H p s s' ∧ VXArgs H p r r'
  | _, _ => False
theorem VXArgs.get {H : Hp} {p : Nat → Prop} : ∀ {l l' : List S}, VXArgs H p l l' → l.length = l'.length ∧ ∀ (j : Nat) (s' : S), l'[j]? = some s' → ∃ s, l[j]? = some s ∧ VXS H p s s'
  | [], [], _ => ⟨rfl, by simp⟩
  | s :: r, s' :: r', h => by
    obtain ⟨h1, h2⟩ := VXArgs.get h.2
    refine ⟨by simp [h1], fun j t ht => ?_⟩
    cases j with
    | zero => simp at ht; subst ht; exact ⟨s, rfl, h.1⟩
    | succ j => simpa using h2 j t (by simpa using ht)
  | [], _ :: _, h => h.elim
  | _ :: _, [], h => h.elim
/-- a function at data, called at what may be viewed as such, nested blocks too; a flat result -/
theorem qcall_viewX {P : Program} {g : FuncId} {args args' : List S} {H : Hp} {r : S} (h : ACall P g args' [] r []) (ha : VXArgs H (fun _ => True) args args') (hr : r.flat = true) : QCall P g args H r [] := by
  refine ⟨h.1, fun w ι M vals hl hv hH hM hf => ?_⟩
  obtain ⟨hlen, hget⟩ := VXArgs.get ha
  have := h.2 w (fun _ => none) (fun _ => False) vals (by omega) (fun j s hj => by
    obtain ⟨x, hx, hs⟩ := hget j s hj
    have hr := hv j x hx
    rcases hs with ⟨x', y, rfl, rfl, hvx⟩ | hs
    · cases hr with
      | c hr => exact .c (.t (hvx.rt hH (fun _ h => h.elim) (fun _ _ _ _ _ _ _ _ _ h => h) hr))
    · exact hs.rs hH (fun _ h => h.elim) (fun _ _ _ _ _ _ _ _ _ h => h) hr)
    .none (fun _ h => h.elim) (fun _ _ => rfl)
  refine Calls.mono this ?_
  rintro e w' ⟨v, rfl, ι', M', h1, h2, h3, h4, h5⟩
  exact ⟨v, rfl, QPost.of_none (h1.flat hr) ⟨h5.os, h5.tape, h5.output, h5.size, fun b hb => h5.keep b hb (by rintro ⟨id, k, _, _, hk, _⟩; simp at hk)⟩⟩

theorem range_getD {n i : Nat} (h : i < n) : (List.range n).getD i 0 = i := by simp [h]
mutual
theorem renC_range {n : Nat} : ∀ c : C, okC n c = true → renC (List.range n) c = c
  | .t x, _ => by simp [renC]
  | .ptr id r o, h => by simp only [renC]; rw [range_getD (by simpa [okC] using h)]
  | .own id lo len app, h => by simp only [renC]; rw [range_getD (by simpa [okC] using h)]
  | .fn f caps, h => by simp only [renC]; rw [renL_range caps (by simpa [okC] using h)]
theorem renL_range {n : Nat} : ∀ l : List C, okL n l = true → renL (List.range n) l = l
  | [], _ => by simp [renL]
  | c :: r, h => by
    simp only [okL, Bool.and_eq_true] at h
    simp only [renL]
    rw [renC_range c h.1, renL_range r h.2]
end
theorem renS_range {n : Nat} {s : S} (h : okS n s = true) : renS (List.range n) s = s := by
  cases s with
  | junk => rfl
  | c x => simp only [renS]; rw [renC_range x h]
  | agg cs => simp only [renS]; rw [renL_range cs h]
  | tup ss => simp [okS] at h
theorem okL_of {n : Nat} : ∀ {l : List C}, (∀ c ∈ l, match c with | .t _ => True | .ptr id _ _ => id < n | .own id _ _ _ => id < n | .fn _ _ => False) → okL n l = true
  | [], _ => by simp [okL]
  | c :: r, h => by
    simp only [okL, Bool.and_eq_true]
    refine ⟨?_, okL_of fun c hc => h c (by simp [hc])⟩
    have h0 := h c (by simp)
    cases c with
    | t x => simp [okC]
    | ptr id r o => simp only [okC]; exact Nat.blt_eq ▸ h0
    | own id lo len app => simp only [okC]; exact Nat.blt_eq ▸ h0
    | fn f caps => exact h0.elim
theorem renB_range {n : Nat} {k : Blk} (h : okB n k) : RenB (List.range n) k k := by
  refine ⟨rfl, rfl, rfl, rfl, ?_⟩
  unfold renR
  rw [List.map_congr_left (g := id) fun r hr => renL_range r (okL_of (h r hr))]
  simp
theorem renL_isT {σ : List Nat} {l : List C} (h : l.all C.isT = true) : renL σ l = l := by
  rw [renL_eq]
  conv => rhs; rw [← List.map_id l]
  exact List.map_congr_left fun c hc => renC_isT (List.all_eq_true.1 h c hc)
/-- a call over the first blocks, which it may write -/
theorem acall_first {P : Program} {g : FuncId} {args : List S} {Hs Hs' : Hp} {r : S} {n : Nat} (T : Hp) (h : ACall P g args Hs r Hs') (hn : Hs.length = n) (hn' : Hs'.length = n) (hok : args.all (okS n) = true)
    (hin : ∀ k ∈ Hs, k.mode = .live ∧ k.app = false ∧ okB n k) (hout : ∀ k ∈ Hs', k.mode ≠ .old ∧ okB n k) (hr : flatT r = true) (hr' : r.isT = true) : ACall P g args (Hs ++ T) r (Hs' ++ T) := by
  have e0 : Hs'.length - Hs.length = 0 := by omega
  have ex : ∀ m, extR (List.range n) m (Hs'.length - Hs.length) = List.range n := fun m => by rw [e0]; simp [extR]
  have hargs : args = args.map (renS (List.range n)) := by
    conv => lhs; rw [← List.map_id args]
    exact List.map_congr_left fun s hs => (renS_range (List.all_eq_true.1 hok s hs)).symm
  refine acall_frame (List.range n) h hargs (by simpa using hok) (by simp [hn]) List.nodup_range ?_ (fun k hk => (hout k hk).1) (by omega) hr ?_ (by simp; omega) ?_ ?_
  · intro i k hk
    have hi : i < n := by rw [← hn]; exact (List.getElem?_eq_some_iff.1 hk).1
    obtain ⟨h1, h2, h3⟩ := hin k (List.mem_of_getElem? hk)
    refine ⟨h1, h2, fun r hr => by rw [List.length_range]; exact okL_of (h3 r hr), k, ?_, renB_range h3⟩
    rw [range_getD hi, List.getElem?_append_left (by omega), hk]
  · rw [ex]
    cases r with
    | junk => rfl
    | c x => simp only [renS]; rw [renC_isT hr']
    | agg cs =>
      simp only [renS]
      rw [renL_isT hr']
    | tup ss =>
      simp only [renS]
      congr 1
      conv => lhs; rw [← List.map_id ss]
      refine List.map_congr_left fun s hs => ?_
      have h1 := List.all_eq_true.1 hr' s hs
      cases s with
      | junk => rfl
      | c x => simp only [id]; rw [renC_isT h1]
      | agg cs =>
        simp only [id]
        rw [renL_isT h1]
      | tup ss => rfl
  · intro i k hk
    have hi : i < n := by rw [← hn']; exact (List.getElem?_eq_some_iff.1 hk).1
    obtain ⟨h1, h3⟩ := hout k (List.mem_of_getElem? hk)
    rw [ex]
    exact ⟨k, by rw [range_getD hi, List.getElem?_append_left (by omega), hk], renB_range h3⟩
  · intro j hj hnj
    have : n ≤ j := by
      rcases Nat.lt_or_ge j n with h | h
      · exact absurd (List.mem_range.2 h) hnj
      · exact h
    rw [List.getElem?_append_right (by omega), List.getElem?_append_right (by omega), hn, hn']
end Go.Proofs.Ytomfnfbijgjfeaa
/- A block whose rows each hold a growing list of numbers of their own: lists of any number of blocks. -/
namespace Go.Proofs.Ytomfnfbijgjfeaa
open Go.RowKit
set_option linter.unusedVariables false
set_option linter.unusedSimpArgs false

/-- the rows: some data, the list of one's own, some data -/
def gRow (A : Nat → List T) (g : Nat → List Int) (B : Nat → List T) (id : Nat) (i : Nat) : List C := (A i).map .t ++ .own id 0 (g i).length true :: (B i).map .t
def gRows (n : Nat) (A : Nat → List T) (g : Nat → List Int) (B : Nat → List T) : List (List C) := (List.range n).map fun i => gRow A g B (i + 1) i
def gBlk (el : TypeId) (size n : Nat) (A : Nat → List T) (g : Nat → List Int) (B : Nat → List T) : Blk := { mode := .live, elem := el, size := size, rows := gRows n A g B, box := false }
def gHeap (el : TypeId) (size n : Nat) (A : Nat → List T) (g : Nat → List Int) (B : Nat → List T) : Hp := gBlk el size n A g B :: (List.range n).map fun i => intsB (g i)
theorem gRows_len {n : Nat} {A : Nat → List T} {g : Nat → List Int} {B : Nat → List T} : (gRows n A g B).length = n := by simp [gRows]
theorem gRows_get {n i : Nat} {A : Nat → List T} {g : Nat → List Int} {B : Nat → List T} (h : i < n) : (gRows n A g B)[i]? = some (gRow A g B (i + 1) i) := by simp [gRows, h]
theorem gHeap_len {el : TypeId} {size n : Nat} {A : Nat → List T} {g : Nat → List Int} {B : Nat → List T} : (gHeap el size n A g B).length = n + 1 := by simp [gHeap]
/-- the block of list j is now the block N -/
def growR (n j N : Nat) : List (Option Nat) := (List.range (n + 1)).map fun i => some (if i = j + 1 then N else i)
theorem growR_get {n j N i : Nat} (h : i < n + 1) : (growR n j N)[i]? = some (some (if i = j + 1 then N else i)) := by simp [growR, h]
theorem growR_len {n j N : Nat} : (growR n j N).length = n + 1 := by simp [growR]
theorem entL_data {ρ : List (Option Nat)} {H : Hp} : ∀ l : List T, EntL ρ H (l.map C.t) (l.map C.t)
  | [] => trivial
  | x :: r => ⟨weak_refl x, entL_data r⟩
theorem entL_app {ρ : List (Option Nat)} {H : Hp} : ∀ {a b c d : List C}, EntL ρ H a b → EntL ρ H c d → EntL ρ H (a ++ c) (b ++ d)
  | [], [], _, _, _, h => h
  | x :: a, y :: b, _, _, h1, h2 => ⟨h1.1, entL_app h1.2 h2⟩
  | [], _ :: _, _, _, h, _ => h.elim
  | _ :: _, [], _, _, h, _ => h.elim
theorem entR_of {ρ : List (Option Nat)} {H : Hp} : ∀ {xs ys : List (List C)}, xs.length = ys.length → (∀ (i : Nat) (x y : List C), xs[i]? = some x → ys[i]? = some y → EntL ρ H x y) → EntR ρ H xs ys
  | [], [], _, _ => trivial
  | [], _ :: _, h, _ => by simp at h
  | _ :: _, [], h, _ => by simp at h
  | x :: xs, y :: ys, h, hh => ⟨hh 0 x y rfl rfl, entR_of (by simpa using h) fun i a b ha hb => hh (i + 1) a b (by simpa using ha) (by simpa using hb)⟩
def updG (g : Nat → List Int) (j : Nat) (l : List Int) : Nat → List Int := fun i => if i = j then l else g i
theorem ent_grow {el : TypeId} {size n j N : Nat} {A : Nat → List T} {g : Nat → List Int} {B : Nat → List T} {l : List Int} {env env' : Env} {H : Hp} {k0 : Blk} (hj : j < n) (hnN : n < N)
    (h0 : H[0]? = some k0) (hk0 : k0.mode = .live ∧ k0.app = false ∧ k0.elem = el ∧ k0.size = size) (hr : k0.rows = (gRows n A g B).set j ((A j).map .t ++ .own N 0 l.length true :: (B j).map .t))
    (hm : ∀ m, m < n → m ≠ j → H[m + 1]? = some (intsB (g m))) (hN : H[N]? = some (intsB l)) (hE : EntE (growR n j N) H env env') : Ent 0 (growR n j N) env H env' (gHeap el size n A (updG g j l) B) := by
  refine ⟨rfl, nodupH_ok fun a b m h1 h2 => ?_, entH_ok (by rw [growR_len, gHeap_len]) fun i k' hk => ?_, hE⟩
  · have ha := (List.getElem?_eq_some_iff.1 h1).1
    have hb := (List.getElem?_eq_some_iff.1 h2).1
    rw [growR_len] at ha hb
    rw [growR_get ha] at h1
    rw [growR_get hb] at h2
    simp only [Option.some.injEq] at h1 h2
    split at h1 <;> split at h2 <;> omega
  · have hi := (List.getElem?_eq_some_iff.1 hk).1
    rw [gHeap_len] at hi
    refine ⟨if i = j + 1 then N else i, ?_⟩
    cases i with
    | zero =>
      refine ⟨k0, growR_get hi, by simpa using h0, ?_⟩
      simp [gHeap] at hk
      subst hk
      obtain ⟨q1, q2, q3, q4⟩ := hk0
      refine ⟨by unfold leMode; rw [q1, q2]; rfl, q3, q4, .inr ?_⟩
      rw [hr]
      refine entR_of (by rw [List.length_set, gRows_len]; exact gRows_len.symm) fun a x y hx hy => ?_
      have han : a < n := by have := (List.getElem?_eq_some_iff.1 hy).1; rw [show (gBlk el size n A (updG g j l) B).rows = gRows n A (updG g j l) B from rfl, gRows_len] at this; exact this
      have hy : (gRows n A (updG g j l) B)[a]? = some y := hy
      rw [gRows_get han] at hy
      injection hy with hy
      subst hy
      rw [List.getElem?_set, gRows_len] at hx
      by_cases haj : j = a
      · subst haj
        rw [if_pos rfl, if_pos hj] at hx
        injection hx with hx
        subst hx
        unfold gRow
        have e1 : updG g j l j = l := by simp [updG]
        rw [e1]
        refine entL_app (entL_data _) ⟨⟨?_, rfl, rfl, fun h => h⟩, entL_data _⟩
        rw [growR_get (by omega), if_pos rfl]
      · rw [if_neg haj, gRows_get han] at hx
        injection hx with hx
        subst hx
        unfold gRow
        have e1 : updG g j l a = g a := by unfold updG; rw [if_neg (fun h => haj h.symm)]
        rw [e1]
        refine entL_app (entL_data _) ⟨⟨?_, rfl, rfl, fun h => h⟩, entL_data _⟩
        rw [growR_get (by omega), if_neg (by omega)]
    | succ i =>
      have hin : i < n := by omega
      have hk : ((List.range n).map fun i => intsB (updG g j l i))[i]? = some k' := hk
      rw [List.getElem?_map, List.getElem?_range hin] at hk
      injection hk with hk
      subst hk
      by_cases hij : i = j
      · subst hij
        refine ⟨intsB l, growR_get hi, by rw [if_pos rfl]; exact hN, ?_⟩
        have e1 : updG g i l i = l := by simp [updG]
        show EntB _ _ _ (intsB (updG g i l i))
        rw [e1]
        exact ⟨rfl, rfl, rfl, .inl ⟨rfl, rowsT_toC _⟩⟩
      · refine ⟨intsB (g i), growR_get hi, by rw [if_neg (by omega)]; exact hm i hin hij, ?_⟩
        have e1 : updG g j l i = g i := by unfold updG; rw [if_neg hij]
        show EntB _ _ _ (intsB (updG g j l i))
        rw [e1]
        exact ⟨rfl, rfl, rfl, .inl ⟨rfl, rowsT_toC _⟩⟩
/-- all lists are nil yet -/
def newR (id n : Nat) : List (Option Nat) := some id :: List.replicate n none
theorem entH_new {ρ : List (Option Nat)} {H : Hp} : ∀ {n : Nat} {R : List Blk}, R.length = n → (∀ k ∈ R, k.rows = [] ∧ k.mode = .live) → EntH ρ H (List.replicate n none) R
  | 0, [], _, _ => trivial
  | n + 1, k :: R, h, hh => ⟨hh k (by simp), entH_new (by simpa using h) fun k hk => hh k (by simp [hk])⟩
  | 0, _ :: _, h, _ => by simp at h
  | n + 1, [], h, _ => by simp at h
theorem nodup_none {H : Hp} : ∀ {n : Nat}, nodupH (List.replicate n none) H = true
  | 0 => by cases H <;> rfl
  | n + 1 => by
    rw [List.replicate_succ]
    cases H with
    | nil => rfl
    | cons k H => exact nodup_none (H := H)
theorem same_none {m : Nat} : ∀ {n : Nat} {H : Hp}, sameL m (List.replicate n none) H = false
  | 0, H => by cases H <;> rfl
  | n + 1, [] => rfl
  | n + 1, k :: H => by
    rw [List.replicate_succ]
    unfold sameL
    rw [same_none]
    cases k.mode <;> rfl
theorem ent_new {el : TypeId} {size n id : Nat} {A B : Nat → List T} {env env' : Env} {H : Hp} {k0 : Blk} {s : Nat}
    (h0 : H[id]? = some k0) (hk0 : k0.mode = .live ∧ k0.app = false ∧ k0.elem = el ∧ k0.size = size) (hr : k0.rows = (List.range n).map fun i => (A i).map .t ++ .t (.sl s .nil []) :: (B i).map .t)
    (hE : EntE (newR id n) H env env') : Ent 0 (newR id n) env H env' (gHeap el size n A (fun _ => []) B) := by
  obtain ⟨q1, q2, q3, q4⟩ := hk0
  refine ⟨rfl, ?_, ⟨?_, ?_⟩, hE⟩
  · unfold newR gHeap nodupH
    rw [same_none, nodup_none]
    rfl
  · simp only [h0]
    refine ⟨by unfold leMode; rw [q1, q2]; rfl, q3, q4, .inr ?_⟩
    rw [hr]
    refine entR_of (by rw [show (gBlk el size n A (fun _ => []) B).rows = gRows n A (fun _ => []) B from rfl, gRows_len]; simp) fun a x y hx hy => ?_
    have han : a < n := by have := (List.getElem?_eq_some_iff.1 hx).1; simpa using this
    have hy : (gRows n A (fun _ => []) B)[a]? = some y := hy
    rw [gRows_get han] at hy
    injection hy with hy
    subst hy
    rw [List.getElem?_map, List.getElem?_range han] at hx
    injection hx with hx
    subst hx
    unfold gRow
    refine entL_app (entL_data _) ⟨⟨?_, rfl, rfl⟩, entL_data _⟩
    show (newR id n)[a + 1]? = some none
    unfold newR
    rw [List.getElem?_cons_succ, List.getElem?_replicate, if_pos han]
  · refine entH_new (by simp) fun k hk => ?_
    obtain ⟨i, _, rfl⟩ := List.mem_map.1 hk
    exact ⟨rfl, rfl⟩
/-- the lists become data -/
theorem ent_ripe {el : TypeId} {size n : Nat} {A : Nat → List T} {g : Nat → List Int} {B : Nat → List T} {env env' : Env}
    (hE : EntE [some 0] (gHeap el size n A g B) env env') : Ent 0 [some 0] env (gHeap el size n A g B) env' [{ mode := .live, elem := el, size := size, rows := toC ((List.range n).map fun i => A i ++ intsT (g i) :: B i), box := false }] := by
  refine ⟨rfl, rfl, ⟨⟨rfl, rfl, rfl, .inr ?_⟩, trivial⟩, hE⟩
  show EntR _ _ (gRows n A g B) (toC _)
  refine entR_of (by rw [gRows_len]; simp [toC]) fun a x y hx hy => ?_
  have han : a < n := by have := (List.getElem?_eq_some_iff.1 hx).1; rw [gRows_len] at this; exact this
  rw [gRows_get han] at hx
  injection hx with hx
  subst hx
  have hy : (((List.range n).map fun i => A i ++ intsT (g i) :: B i).map (·.map C.t))[a]? = some y := hy
  rw [List.getElem?_map, List.getElem?_map, List.getElem?_range han] at hy
  injection hy with hy
  subst hy
  show EntL _ _ _ ((A a ++ intsT (g a) :: B a).map C.t)
  rw [List.map_append, List.map_cons]
  unfold gRow
  refine entL_app (entL_data _) ⟨?_, entL_data _⟩
  have hk : (gHeap el size n A g B)[a + 1]? = some (intsB (g a)) := by simp [gHeap, han]
  exact show VC _ _ _ _ from vc_all (by simp [notIn]; rfl) hk (by intro h; cases h) rfl rfl (by simp)
theorem ok_gHeap {el : TypeId} {size n : Nat} {A : Nat → List T} {g : Nat → List Int} {B : Nat → List T} : ∀ k ∈ gHeap el size n A g B, okB (n + 1) k := by
  intro k hk
  rcases List.mem_cons.1 hk with rfl | hk
  · intro r hr c hc
    obtain ⟨i, hi, rfl⟩ := List.mem_map.1 hr
    have hi := List.mem_range.1 hi
    unfold gRow at hc
    rcases List.mem_append.1 hc with hc | hc
    · obtain ⟨x, _, rfl⟩ := List.mem_map.1 hc; trivial
    · rcases List.mem_cons.1 hc with rfl | hc
      · show i + 1 < n + 1; omega
      · obtain ⟨x, _, rfl⟩ := List.mem_map.1 hc; trivial
  · obtain ⟨i, _, rfl⟩ := List.mem_map.1 hk
    exact okB_toC rfl
/-- nothing turned, further blocks are dropped -/
theorem ent_gsame {el : TypeId} {size n : Nat} {A : Nat → List T} {g : Nat → List Int} {B : Nat → List T} {env env' : Env} {R : Hp} (hE : EntE (idR (n + 1)) (gHeap el size n A g B ++ R) env env') : Ent 0 (idR (n + 1)) env (gHeap el size n A g B ++ R) env' (gHeap el size n A g B) :=
  ent_firstA gHeap_len (Nat.zero_le _) ok_gHeap hE
end Go.Proofs.Ytomfnfbijgjfeaa
/- history: none, carry, taken. -/
namespace Go.Proofs.Ytomfnfbijgjfeaa
open Go.RowKit
set_option linter.unusedVariables false
set_option linter.unusedSimpArgs false
set_option maxRecDepth 100000

def rowF (w : Nat) (g : Nat → Rat) : List Fr := (List.range w).map fun m => fz (g m)
def matF (N w : Nat) (f : Nat → Nat → Rat) : List (List Fr) := (List.range N).map fun p => rowF w (f p)
theorem rowF_len (w : Nat) (g : Nat → Rat) : (rowF w g).length = w := by simp [rowF]
theorem matF_len (N w : Nat) (f : Nat → Nat → Rat) : (matF N w f).length = N := by simp [matF]
theorem rowF_get {w : Nat} {g : Nat → Rat} {m : Nat} (h : m < w) : (rowF w g)[m]? = some (fz (g m)) := by simp [rowF, h]
theorem matF_get {N w : Nat} {f : Nat → Nat → Rat} {p : Nat} (h : p < N) : (matF N w f)[p]? = some (rowF w (f p)) := by simp [matF, h]
theorem rowF_set {w : Nat} {g : Nat → Rat} {m : Nat} {v : Rat} (h : m < w) : (rowF w g).set m (fz v) = rowF w (fun j => if j = m then v else g j) := by
  apply List.ext_getElem?
  intro j
  by_cases hj : j < w
  · rw [rowF_get hj, List.getElem?_set, rowF_len]
    by_cases hjm : m = j
    · subst hjm; simp [h]
    · rw [if_neg hjm, rowF_get hj, if_neg (by omega)]
  · rw [List.getElem?_eq_none (by simp [rowF_len]; omega), List.getElem?_eq_none (by simp [rowF_len]; omega)]
theorem matF_set {N w : Nat} {f : Nat → Nat → Rat} {p : Nat} {g : Nat → Rat} (h : p < N) : (matF N w f).set p (rowF w g) = matF N w (fun q => if q = p then g else f q) := by
  apply List.ext_getElem?
  intro j
  by_cases hj : j < N
  · rw [matF_get hj, List.getElem?_set, matF_len]
    by_cases hjm : p = j
    · subst hjm; simp [h]
    · rw [if_neg hjm, matF_get hj, if_neg (by omega)]
  · rw [List.getElem?_eq_none (by simp [matF_len]; omega), List.getElem?_eq_none (by simp [matF_len]; omega)]
def ownRows (N w : Nat) : List (List C) := (List.range N).map fun j => [C.own (j + 1) 0 w true]
abbrev matB (N w : Nat) : Blk := { mode := .live, elem := 33, size := 1, rows := ownRows N w, box := false }
abbrev rowB (l : List Fr) : Blk := { mode := .live, elem := 51, size := 4, rows := toC (l.map frRow), box := false }
abbrev matH (N w : Nat) (f : Nat → Nat → Rat) : Hp := matB N w :: (matF N w f).map rowB
theorem ex_ownRow {N w i : Nat} {K : List C → Prop} (h : i < N) (k : K [C.own (i + 1) 0 w true]) : ∃ row, (ownRows N w)[i]? = some row ∧ K row := ⟨_, by simp [ownRows, h], k⟩
theorem ok_matB {N w : Nat} : okB (N + 1) (matB N w) := by
  intro r hr c hc
  obtain ⟨j, hj, rfl⟩ := List.mem_map.1 hr
  simp at hc
  subst hc
  have := List.mem_range.1 hj
  simp only
  omega
theorem ok_matH {N w : Nat} {f : Nat → Nat → Rat} : ∀ k ∈ matH N w f, okB (N + 1) k := by
  intro k hk
  rcases List.mem_cons.1 hk with rfl | hk
  · exact ok_matB
  · obtain ⟨l, _, rfl⟩ := List.mem_map.1 hk
    exact okB_toC rfl
theorem matH_len {N w : Nat} {f : Nat → Nat → Rat} : (matH N w f).length = N + 1 := by simp [matF_len]
theorem ex_ownRowE {N w i s : Nat} {K : List C → Prop} (e : i = s) (h : s < N) (k : K [C.own (s + 1) 0 w true]) : ∃ row, (ownRows N w)[i]? = some row ∧ K row := by subst e; exact ex_ownRow h k
theorem rowB_set {row : List Fr} {i n : Nat} {y : Fr} (h : n = i) : setRows (rowB row) ((toC (row.map frRow)).set n (frC y)) = rowB (row.set i y) := by
  subst h
  unfold setRows
  simp [toC, List.map_set, frRow]
def upTo (k : Nat) (f g : Nat → Nat → Rat) : Nat → Nat → Rat := fun p m => if m < k then g p m else f p m

theorem a_carry (N w : Nat) (f : Nat → Nat → Rat) (x : Move) (l : List Rat) (hl : l.length = w) (hw : w ≤ 1000) (s d : Nat) (hs : x.src = s) (hd : x.dst = d) (hsN : s < N) (hdN : d < N) (hsd : s ≠ d) (hB : ∀ x ∈ l, rl x ≤ 200) (hF : ∀ p m, rl (f p m) ≤ 50000) :
    ACall Try.prog 73 [.c (.own 0 0 N true), moveS x, fracsS (l.map fz)] (matH N w f) (.tup []) (matH N w (carryF x (fun m => l.getD m 0) f)) := by
  have m1 : ((l.map fz).map frRow).length = l.length := by simp
  (refine acall_of tab_ok Try.func73 rfl (by decide) ?_; (conv => whnf); repeat (first | (refine LitB.data ?_; conv => whnf) | (refine BoxB.data ?_; conv => whnf)))
  (repeat' (first | ((refine DecB.mk (fun h => ?_) (fun h => ?_)) <;> first | (exfalso; omega) | (conv => whnf)) | ((refine BoolB.mk (fun h => ?_) (fun h => ?_)) <;> first | (exact absurd h (by decide)) | (conv => whnf)) | (refine ⟨_, wrap_ok (by omega) (by omega), ?_⟩; conv => whnf) | (refine and_idx (by omega) (by omega) ?_; conv => whnf) | (refine reg_ok (by decide +kernel) ?_; conv => whnf) | (refine bar_ok (by decide +kernel) (by decide +kernel) ?_; conv => whnf) | (refine late_ok rfl rfl ?_; conv => whnf) | (refine src_ok rfl ?_; conv => whnf) | (refine BoxB.data ?_; conv => whnf) | (refine lenK_map (matF_len _ _ _) ?_; conv => whnf) | (refine appK_nil ?_; conv => whnf) | (refine LitB.data ?_; conv => whnf) | (refine BoxB.own ?_; conv => whnf)))
  let v : Nat → Rat := fun m => l.getD m 0
  have e0 : upTo 0 f (carryF x v f) = f := by funext p m; simp [upTo]
  refine awp_for tab_ok (fun k => ([S.c (C.own 0 0 N true), S.junk, S.junk, S.junk, S.c (C.t (T.ptr x.row)), S.junk, S.junk, S.junk, fracsS (l.map fz), intS .i64 l.length, intS .i64 k, S.junk, S.junk, S.junk, S.junk, S.junk, S.junk, S.junk, S.junk, S.junk, S.junk, S.junk, S.junk, S.junk, S.junk, S.junk, S.junk, S.junk, S.junk, S.junk, S.junk, S.junk, S.junk, S.junk, S.junk, S.junk, S.junk, S.junk, S.junk, S.junk, S.junk, S.junk, S.junk, S.junk, S.junk, S.junk, S.junk, S.junk, S.junk, S.junk, S.junk, S.junk, S.junk, S.junk, S.junk, S.junk], matH N w (upTo k f (carryF x v f)))) l.length (fun _ => True) (idR (N + 1)) trivial
    ?_ ?_
  · refine ent_first matH_len ?_ ok_matH (fun i _ => by rw [e0]) ?_
    · simp [matF_len]
    · exact ⟨⟨idR_get (by omega), rfl, rfl, fun h => h⟩, ent_t rfl, ent_t rfl, ent_i (by simp), rfl, trivial⟩
  intro k hk _
  by_cases hlt : k < l.length
  · obtain ⟨y, hy⟩ : ∃ y, l[k]? = some y := ⟨_, List.getElem?_eq_getElem hlt⟩
    have hv : v k = y := by show l.getD k 0 = y; rw [List.getD_eq_getElem?_getD, hy]; rfl
    have by1 := hB y (List.mem_of_getElem? hy)
    have gs : (matF N w (upTo k f (carryF x v f)))[s]? = some (rowF w (upTo k f (carryF x v f) s)) := matF_get hsN
    have gd : (matF N w (upTo k f (carryF x v f)))[d]? = some (rowF w (upTo k f (carryF x v f) d)) := matF_get hdN
    have fs : upTo k f (carryF x v f) s k = f s k := by simp [upTo]
    have fd : upTo k f (carryF x v f) d k = f d k := by simp [upTo]
    have hs2 : x.src.toNat = s := by omega
    have hd2 : x.dst.toNat = d := by omega
    have b1 := hF s k
    have b2 := hF d k
    have sb := z_fSub (f s k) y (by omega) (by omega)
    have ad := z_fAdd (f d k) y (by omega) (by omega)
    have eS : 0 + x.src.toNat = s := by omega
    have eD : 0 + x.dst.toNat = d := by omega
    have xs : (rowF w (upTo k f (carryF x v f) s))[0 + (k : Int).toNat]? = some (fz (f s k)) := by rw [Nat.zero_add, show (k : Int).toNat = k by omega, rowF_get (by omega), fs]
    have xd : (rowF w (upTo k f (carryF x v f) d))[0 + (k : Int).toNat]? = some (fz (f d k)) := by rw [Nat.zero_add, show (k : Int).toNat = k by omega, rowF_get (by omega), fd]
    have gd2 : ∀ r, ((matF N w (upTo k f (carryF x v f))).set s r)[d]? = some (rowF w (upTo k f (carryF x v f) d)) := fun r => by rw [List.getElem?_set_ne hsd]; exact gd
    have lS : s < (matF N w (upTo k f (carryF x v f))).length := by rw [matF_len]; exact hsN
    have lD : ∀ r, d < ((matF N w (upTo k f (carryF x v f))).set s r).length := fun r => by rw [List.length_set, matF_len]; exact hdN
    have lE : ∀ r, ((matF N w (upTo k f (carryF x v f))).set s r).length = N := fun r => by rw [List.length_set, matF_len]
    have eK : 0 + (k : Int).toNat = k := by omega
    conv => whnf
    (repeat' (first | ((refine DecB.mk (fun h => ?_) (fun h => ?_)) <;> first | (exfalso; omega) | (conv => whnf)) | ((refine BoolB.mk (fun h => ?_) (fun h => ?_)) <;> first | (exact absurd h (by decide)) | (conv => whnf)) | (refine ⟨_, wrap_ok (by omega) (by omega), ?_⟩; conv => whnf) | (refine and_idx (by omega) (by omega) ?_; conv => whnf) | (refine reg_ok (by decide +kernel) ?_; conv => whnf) | (refine bar_ok (by decide +kernel) (by decide +kernel) ?_; conv => whnf) | (refine late_ok rfl rfl ?_; conv => whnf) | (refine src_ok rfl ?_; conv => whnf) | (refine .inl ⟨_, _, qcall_pure (sb) rfl rfl, ?_⟩; conv => whnf) | (refine .inl ⟨_, _, qcall_pure (ad) rfl rfl, ?_⟩; conv => whnf) | (refine .inl ⟨_, _, qcall_pure (18) rfl rfl, ?_⟩; conv => whnf) | (refine ex_row (zero_get l hy) ?_; conv => whnf) | (refine lenK_map (matF_len _ _ _) ?_; conv => whnf) | (refine appK_nil ?_; conv => whnf) | (refine appK_ok ?_; conv => whnf) | (refine getK_map0 (matF_len _ _ _) ?_; conv => whnf) | (refine getK_map0 (lE _) ?_; conv => whnf) | (refine setK_map0 (matF_len _ _ _) ?_; conv => whnf) | (refine ex_ownRowE eS hsN ?_; conv => whnf) | (refine ex_ownRowE eD hdN ?_; conv => whnf) | (refine getK_mapA gs ?_; conv => whnf) | (refine getK_mapA (gd2 _) ?_; conv => whnf) | (refine ex_own xs ?_; conv => whnf) | (refine ex_own xd ?_; conv => whnf) | (refine setK_mapA lS (rowB_set (y := fz (f s k - y)) eK) ?_; conv => whnf) | (refine setK_mapA (lD _) (rowB_set (y := fz (f d k + y)) eK) ?_; conv => whnf) | (refine bar_late [18] (by decide +kernel) (by decide +kernel) ?_; conv => whnf) | (refine LitB.data ?_; conv => whnf) | (refine BoxB.own ?_; conv => whnf)))
    · have eM : ((matF N w (upTo k f (carryF x v f))).set s ((rowF w (upTo k f (carryF x v f) s)).set k (fz (f s k - y)))).set d ((rowF w (upTo k f (carryF x v f) d)).set k (fz (f d k + y))) = matF N w (upTo (k + 1) f (carryF x v f)) := by
        rw [rowF_set (by omega), rowF_set (by omega), matF_set hsN, matF_set hdN]
        congr 1
        funext p m
        have c1 : (x.src = (p : Int)) ↔ p = s := by omega
        have c2 : (x.dst = (p : Int)) ↔ p = d := by omega
        have cF : carryF x v f p m = if p = s then f p m - v m else if p = d then f p m + v m else f p m := by unfold carryF; simp only [c1, c2]
        have hds : d ≠ s := fun h => hsd h.symm
        simp only [upTo] at *
        by_cases hp : p = d
        · subst hp
          rw [if_neg hds, if_pos rfl] at cF
          rw [if_pos rfl, cF]
          rcases Nat.lt_trichotomy m k with h | h | h
          · rw [if_neg (by omega), if_pos h, if_pos (by omega)]
          · subst h; rw [if_pos rfl, if_pos (by omega), hv]
          · rw [if_neg (by omega), if_neg (by omega), if_neg (by omega)]
        · rw [if_neg hp]
          by_cases hp2 : p = s
          · subst hp2
            rw [if_pos rfl] at cF
            rw [if_pos rfl, cF]
            rcases Nat.lt_trichotomy m k with h | h | h
            · rw [if_neg (by omega), if_pos h, if_pos (by omega)]
            · subst h; rw [if_pos rfl, if_pos (by omega), hv]
            · rw [if_neg (by omega), if_neg (by omega), if_neg (by omega)]
          · rw [if_neg hp2, if_neg hp] at cF
            rw [if_neg hp2, cF]
            simp only [ite_self]
            unfold upTo
            rw [cF]; simp
      rw [eM]
      refine ⟨hlt, trivial, idR (N + 1), ent_firstA matH_len ?_ ok_matH ?_⟩
      · simp [matF_len]
      · exact ⟨⟨idR_get (by omega), rfl, rfl, fun h => h⟩, rfl, rfl, rfl, rfl, trivial⟩
    all_goals (exfalso; omega)
  · have hke : k = l.length := by omega
    subst hke
    have eM : matF N w (upTo l.length f (carryF x v f)) = matF N w (carryF x v f) := by
      unfold matF rowF
      refine List.map_congr_left fun p _ => List.map_congr_left fun m hm => ?_
      have := List.mem_range.1 hm
      simp only [upTo]
      rw [if_pos (by omega)]
    conv => whnf
    (repeat' (first | ((refine DecB.mk (fun h => ?_) (fun h => ?_)) <;> first | (exfalso; omega) | (conv => whnf)) | ((refine BoolB.mk (fun h => ?_) (fun h => ?_)) <;> first | (exact absurd h (by decide)) | (conv => whnf)) | (refine ⟨_, wrap_ok (by omega) (by omega), ?_⟩; conv => whnf) | (refine and_idx (by omega) (by omega) ?_; conv => whnf) | (refine reg_ok (by decide +kernel) ?_; conv => whnf) | (refine bar_ok (by decide +kernel) (by decide +kernel) ?_; conv => whnf) | (refine late_ok rfl rfl ?_; conv => whnf) | (refine src_ok rfl ?_; conv => whnf) | (refine appK_nil ?_; conv => whnf) | (refine LitB.data ?_; conv => whnf) | (refine BoxB.own ?_; conv => whnf)))
    all_goals try (exfalso; omega)
    · refine fin_first (H' := matH N w (carryF x v f)) (n := N + 1) matH_len ?_ ok_matH ?_ ?_
      · simp [matF_len]
      · intro i _; rw [eM]
      · exact trivial
theorem a_taken (e : Ev) (x : Move) (N w : Nat) (f : Nat → Nat → Rat) (l : List Rat) (hl : l.length = w) (hw : w ≤ 1000) (s : Nat) (hs : x.src = s) (hsN : s < N) (p : Place) (hp : e.places[s]? = some p) (hB : ∀ x ∈ l, rl x ≤ 200) (hF : ∀ p m, rl (f p m) ≤ 50000) :
    ACall Try.prog 69 [histS (matF N w f), evS e, moveS x, fracsS (l.map fz)] [] (intS .i64 (takenE e f x l)) [] := by
  have m1 : ((l.map fz).map frRow).length = l.length := by simp
  have hk : kindAt e x.src = p.kind := by rw [hs]; exact kindAt_of hp
  have hsn : x.src.toNat = s := by omega
  unfold takenE
  rw [hk, hsn]
  by_cases hb : p.kind = 0
  · rw [if_pos hb]
    (refine acall_of tab_ok Try.func69 rfl (by decide) ?_; (conv => whnf); repeat (first | (refine LitB.data ?_; conv => whnf) | (refine BoxB.data ?_; conv => whnf)))
    (repeat' (first | ((refine DecB.mk (fun h => ?_) (fun h => ?_)) <;> first | (exfalso; omega) | (conv => whnf)) | ((refine BoolB.mk (fun h => ?_) (fun h => ?_)) <;> first | (exact absurd h (by decide)) | (conv => whnf)) | (refine ⟨_, wrap_ok (by omega) (by omega), ?_⟩; conv => whnf) | (refine and_idx (by omega) (by omega) ?_; conv => whnf) | (refine reg_ok (by decide +kernel) ?_; conv => whnf) | (refine bar_ok (by decide +kernel) (by decide +kernel) ?_; conv => whnf) | (refine late_ok rfl rfl ?_; conv => whnf) | (refine src_ok rfl ?_; conv => whnf) | (refine ex_rowE (k := s) hs hp ?_; conv => whnf) | (refine LitB.data ?_; conv => whnf) | (refine BoxB.own ?_; conv => whnf)))
    all_goals first
      | (exfalso; omega)
      | exact fin_int rfl
  · rw [if_neg hb]
    (refine acall_of tab_ok Try.func69 rfl (by decide) ?_; (conv => whnf); repeat (first | (refine LitB.data ?_; conv => whnf) | (refine BoxB.data ?_; conv => whnf)))
    (repeat' (first | ((refine DecB.mk (fun h => ?_) (fun h => ?_)) <;> first | (exfalso; omega) | (conv => whnf)) | ((refine BoolB.mk (fun h => ?_) (fun h => ?_)) <;> first | (exact absurd h (by decide)) | (conv => whnf)) | (refine ⟨_, wrap_ok (by omega) (by omega), ?_⟩; conv => whnf) | (refine and_idx (by omega) (by omega) ?_; conv => whnf) | (refine reg_ok (by decide +kernel) ?_; conv => whnf) | (refine bar_ok (by decide +kernel) (by decide +kernel) ?_; conv => whnf) | (refine late_ok rfl rfl ?_; conv => whnf) | (refine src_ok rfl ?_; conv => whnf) | (refine ex_rowE (k := s) hs hp ?_; conv => whnf) | (refine LitB.data ?_; conv => whnf) | (refine BoxB.own ?_; conv => whnf)))
    refine awp_while tab_ok (σ := Nat × Bool) (fun | (k, rest) => ([histS (matF N w f), S.junk, S.junk, S.junk, S.junk, S.junk, S.c (C.t (T.ptr x.row)), S.junk, S.junk, boolS rest, S.junk, S.junk, S.junk, S.junk, S.junk, S.junk, S.junk, S.junk, S.junk, S.junk, fracsS (l.map fz), intS .i64 l.length, intS .i64 k, S.junk, S.junk, S.junk, S.junk, S.junk, S.junk, S.junk, S.junk, S.junk, S.junk, S.junk, S.junk, S.junk, S.junk, S.junk, S.junk, S.junk, S.junk, S.junk, S.junk, S.junk, S.junk, S.junk, S.junk], [])) (fun σ => σ.1 ≤ l.length ∧ takenF (f s) x.all (l.drop σ.1) σ.1 σ.2 = takenF (f s) x.all l 0 false) (fun σ => l.length - σ.1) (0, false) []
      ⟨Nat.zero_le _, rfl⟩ ⟨rfl, rfl, trivial, ⟨ent_t rfl, ent_t rfl, rfl, ent_t rfl, ent_i (by simp), rfl, trivial⟩⟩ ?_
    rintro ⟨k, rest⟩ ⟨hk, hI⟩
    have hk : k ≤ l.length := hk
    have hI : takenF (f s) x.all (l.drop k) k rest = takenF (f s) x.all l 0 false := hI
    by_cases hlt : k < l.length
    · obtain ⟨y, hy⟩ : ∃ y, l[k]? = some y := ⟨_, List.getElem?_eq_getElem hlt⟩
      have hd : l.drop k = y :: l.drop (k + 1) := by
        rw [List.drop_eq_getElem_cons hlt]
        rw [List.getElem?_eq_getElem hlt] at hy
        injection hy with hy
        rw [hy]
      have by1 := hB y (List.mem_of_getElem? hy)
      have b1 := hF s k
      have c := z_fCompare y (f s k) (by omega) (by omega)
      have cl := cmpR_lt (x := y) (y := f s k)
      have cg := cmpR_lt' (x := y) (y := f s k)
      have cr := cmpR_rng y (f s k)
      have gs : (matF N w f)[s]? = some (rowF w (f s)) := matF_get hsN
      have gk : (rowF w (f s))[k]? = some (fz (f s k)) := rowF_get (by omega)
      rw [hd] at hI
      have hI : (if f s k < y then 4 else takenF (f s) x.all (l.drop (k + 1)) (k + 1) (rest || decide (y < f s k))) = takenF (f s) x.all l 0 false := hI
      conv => whnf
      (repeat' (first | ((refine DecB.mk (fun h => ?_) (fun h => ?_)) <;> first | (exfalso; omega) | (conv => whnf)) | ((refine BoolB.mk (fun h => ?_) (fun h => ?_)) <;> first | (exact absurd h (by decide)) | (conv => whnf)) | (refine ⟨_, wrap_ok (by omega) (by omega), ?_⟩; conv => whnf) | (refine and_idx (by omega) (by omega) ?_; conv => whnf) | (refine reg_ok (by decide +kernel) ?_; conv => whnf) | (refine bar_ok (by decide +kernel) (by decide +kernel) ?_; conv => whnf) | (refine late_ok rfl rfl ?_; conv => whnf) | (refine src_ok rfl ?_; conv => whnf) | (refine .inl ⟨_, _, qcall_pure (c) rfl rfl, ?_⟩; conv => whnf) | (refine ex_row (zero_get l hy) ?_; conv => whnf) | (refine ex_rowE (k := s) hs gs ?_; conv => whnf) | (refine ex_row gk ?_; conv => whnf) | (refine LitB.data ?_; conv => whnf) | (refine BoxB.own ?_; conv => whnf)))
      · have h1 : f s k < y := cg.1 (by omega)
        exact fin_int (by rw [← hI, if_pos h1])
      · have h1 : y < f s k := cl.1 (by omega)
        have h2 : ¬ f s k < y := fun h => by have := cg.2 h; omega
        rw [if_neg h2, show (rest || decide (y < f s k)) = true by simp [h1]] at hI
        exact ⟨[], (k + 1, true), ⟨rfl, rfl, trivial, ⟨rfl, rfl, rfl, rfl, rfl, ent_i (by omega), trivial⟩⟩, ⟨hlt, hI⟩, by show l.length - (k + 1) < l.length - k; omega⟩
      · have h1 : ¬ y < f s k := fun h => by have := cl.2 h; omega
        have h2 : ¬ f s k < y := fun h => by have := cg.2 h; omega
        rw [if_neg h2, show (rest || decide (y < f s k)) = rest by simp [h1]] at hI
        exact ⟨[], (k + 1, rest), ⟨rfl, rfl, trivial, ⟨rfl, rfl, rfl, rfl, rfl, ent_i (by omega), trivial⟩⟩, ⟨hlt, hI⟩, by show l.length - (k + 1) < l.length - k; omega⟩
    · have hke : k = l.length := by omega
      subst hke
      rw [List.drop_of_length_le (Nat.le_refl _)] at hI
      have hI : (if rest && x.all then 7 else 0) = takenF (f s) x.all l 0 false := hI
      cases rest <;> cases hxa : x.all <;> rw [hxa] at hI <;>
      · conv => whnf
        (repeat' (first | ((refine DecB.mk (fun h => ?_) (fun h => ?_)) <;> first | (exfalso; omega) | (conv => whnf)) | ((refine BoolB.mk (fun h => ?_) (fun h => ?_)) <;> first | (exact absurd h (by decide)) | (conv => whnf)) | (refine ⟨_, wrap_ok (by omega) (by omega), ?_⟩; conv => whnf) | (refine and_idx (by omega) (by omega) ?_; conv => whnf) | (refine reg_ok (by decide +kernel) ?_; conv => whnf) | (refine bar_ok (by decide +kernel) (by decide +kernel) ?_; conv => whnf) | (refine late_ok rfl rfl ?_; conv => whnf) | (refine src_ok rfl ?_; conv => whnf) | (refine LitB.data ?_; conv => whnf) | (refine BoxB.own ?_; conv => whnf)))
        all_goals first
          | (exfalso; omega)
          | (exfalso; simp_all; done)
          | exact fin_int (by rw [← hI]; rfl)
end Go.Proofs.Ytomfnfbijgjfeaa
/- history: none. -/
namespace Go.Proofs.Ytomfnfbijgjfeaa
open Go.RowKit
set_option linter.unusedVariables false
set_option linter.unusedSimpArgs false
set_option maxRecDepth 100000

def noneRows (k N w : Nat) : List (List C) := (List.range N).map fun j => if j < k then [C.own (j + 1) 0 w true] else [C.t (.sl 0 .nil [])]
abbrev noneB (k N w : Nat) : Blk := { mode := .live, elem := 33, size := 1, rows := noneRows k N w, box := false }
theorem noneRows_len (k N w : Nat) : (noneRows k N w).length = N := by simp [noneRows]
theorem noneRows_get {k N w j : Nat} (h : j < N) : (noneRows k N w)[j]? = some (if j < k then [C.own (j + 1) 0 w true] else [C.t (.sl 0 .nil [])]) := by simp [noneRows, h]
theorem noneRows_set {k N w : Nat} (h : k < N) : (noneRows k N w).set k [C.own (k + 1) 0 w true] = noneRows (k + 1) N w := by
  apply List.ext_getElem?
  intro j
  by_cases hj : j < N
  · rw [noneRows_get hj, List.getElem?_set, noneRows_len]
    by_cases hjk : k = j
    · subst hjk; simp [h]
    · rw [if_neg hjk, noneRows_get hj]
      have : (j < k + 1) ↔ (j < k) := by omega
      simp only [this]
  · rw [List.getElem?_eq_none (by simp [noneRows_len]; omega), List.getElem?_eq_none (by simp [noneRows_len]; omega)]
theorem noneRows_all (N w : Nat) : noneRows N N w = ownRows N w := by
  unfold noneRows ownRows
  refine List.map_congr_left fun j hj => ?_
  rw [if_pos (List.mem_range.1 hj)]
theorem noneRows_none (N w : Nat) : noneRows 0 N w = List.replicate N [C.t (.sl 0 .nil [])] := by
  apply List.ext_getElem?
  intro j
  by_cases hj : j < N
  · rw [noneRows_get hj]; simp [hj]
  · rw [List.getElem?_eq_none (by simp [noneRows_len]; omega), List.getElem?_eq_none (by simp; omega)]
abbrev zR : Rat := ((0 : Int) : Rat)
def partF (m w : Nat) : List Fr := (List.range w).map fun j => if j < m then fz zR else zeroF
theorem partF_len (m w : Nat) : (partF m w).length = w := by simp [partF]
theorem partF_get {m w j : Nat} (h : j < w) : (partF m w)[j]? = some (if j < m then fz zR else zeroF) := by simp [partF, h]
theorem partF_set {m w : Nat} (h : m < w) : (partF m w).set m (fz zR) = partF (m + 1) w := by
  apply List.ext_getElem?
  intro j
  by_cases hj : j < w
  · rw [partF_get hj, List.getElem?_set, partF_len]
    by_cases hjk : m = j
    · subst hjk; simp [h]
    · rw [if_neg hjk, partF_get hj]
      have : (j < m + 1) ↔ (j < m) := by omega
      simp only [this]
  · rw [List.getElem?_eq_none (by simp [partF_len]; omega), List.getElem?_eq_none (by simp [partF_len]; omega)]
theorem partF_all (w : Nat) : partF w w = rowF w (fun _ => zR) := by
  unfold partF rowF
  refine List.map_congr_left fun j hj => ?_
  rw [if_pos (List.mem_range.1 hj)]
theorem partF_zero (w : Nat) : partF 0 w = List.replicate w zeroF := by
  apply List.ext_getElem?
  intro j
  by_cases hj : j < w
  · rw [partF_get hj]; simp [hj]
  · rw [List.getElem?_eq_none (by simp [partF_len]; omega), List.getElem?_eq_none (by simp; omega)]
abbrev zRows (k w : Nat) : List (List Fr) := List.replicate k (rowF w fun _ => zR)
theorem zRows_all (N w : Nat) : zRows N w = matF N w (fun _ _ => zR) := by
  apply List.ext_getElem?
  intro j
  by_cases hj : j < N
  · rw [matF_get hj]; simp [hj]
  · rw [List.getElem?_eq_none (by simp; omega), List.getElem?_eq_none (by simp [matF_len]; omega)]
theorem zRows_len (k w : Nat) : (zRows k w).length = k := by simp
abbrev noneH (k N w : Nat) : Hp := noneB k N w :: (zRows k w).map rowB
theorem ok_noneB {k N w : Nat} (n : Nat) (h : k + 1 ≤ n) : okB n (noneB k N w) := by
  intro r hr c hc
  obtain ⟨j, hj, rfl⟩ := List.mem_map.1 hr
  by_cases hjk : j < k
  · rw [if_pos hjk] at hc; simp at hc; subst hc; show j + 1 < n; omega
  · rw [if_neg hjk] at hc; simp at hc; subst hc; trivial
theorem ok_noneH {k N w : Nat} : ∀ b ∈ noneH k N w, okB (k + 1) b := by
  intro b hb
  rcases List.mem_cons.1 hb with rfl | hb
  · exact ok_noneB _ (Nat.le_refl _)
  · obtain ⟨l, _, rfl⟩ := List.mem_map.1 hb
    exact okB_toC rfl
theorem noneH_len {k N w : Nat} : (noneH k N w).length = k + 1 := by simp
theorem a_none (e : Ev) (N w : Nat) (hN : e.places.length = N) (hw : e.mats = w) (hN1 : N ≤ 1000) (hw1 : w ≤ 1000) :
    ACall Try.prog 67 [evS e] [] (.c (.own 0 0 N true)) (matH N w fun _ _ => zR) := by
  have m1 : (e.places.map Place.row).length = N := by simp [hN]
  have i0 := z_fInt 0 (by decide) (by decide)
  have hwn : e.mats.toNat = w := by omega
  (refine acall_of tab_ok Try.func67 rfl (by decide) ?_; (conv => whnf); repeat (first | (refine LitB.data ?_; conv => whnf) | (refine BoxB.data ?_; conv => whnf)))
  (repeat' (first | ((refine DecB.mk (fun h => ?_) (fun h => ?_)) <;> first | (exfalso; omega) | (conv => whnf)) | ((refine BoolB.mk (fun h => ?_) (fun h => ?_)) <;> first | (exact absurd h (by decide)) | (conv => whnf)) | (refine ⟨_, wrap_ok (by omega) (by omega), ?_⟩; conv => whnf) | (refine and_idx (by omega) (by omega) ?_; conv => whnf) | (refine reg_ok (by decide +kernel) ?_; conv => whnf) | (refine bar_ok (by decide +kernel) (by decide +kernel) ?_; conv => whnf) | (refine late_ok rfl rfl ?_; conv => whnf) | (refine src_ok rfl ?_; conv => whnf) | (refine mk_ok (by omega) (by omega) (by omega) (by decide) ?_; conv => whnf) | (refine LitB.data ?_; conv => whnf) | (refine BoxB.own ?_; conv => whnf)))
  refine awp_for tab_ok (fun k => ([S.junk, S.c (C.t (T.ptr (evT e))), S.junk, S.c (C.own 0 0 N true), S.junk, S.junk, S.junk, S.junk, S.junk, S.junk, S.junk, intS .i64 N, intS .i64 k, S.junk, S.junk, S.junk, S.junk, S.junk, S.junk, S.junk, S.junk, S.junk, S.junk, S.junk, S.junk, S.junk, S.junk, S.junk, S.junk, S.junk, S.junk, S.junk, S.junk, S.junk, S.junk, S.junk, S.junk, S.junk, S.junk], noneH k N w)) N (fun _ => True) (idR 1) trivial ?_ ?_
  · refine ent_first rfl (by simp) ok_noneH (fun i hi => ?_) ?_
    · obtain rfl : i = 0 := by omega
      rw [show noneH 0 N w = [noneB 0 N w] from rfl]
      unfold noneB
      rw [noneRows_none]
      simp [newBlk, m1]
      exact .inr rfl
    · exact ⟨ent_t rfl, ⟨rfl, rfl, by omega, fun h => h⟩, ent_i (by omega), rfl, trivial⟩
  intro k hk _
  by_cases hlt : k < N
  · conv => whnf
    have gn : (noneB k N w).rows[0 + (k : Int).toNat]? = some [C.t (.sl 0 .nil [])] := by
      show (noneRows k N w)[0 + (k : Int).toNat]? = _
      rw [Nat.zero_add, show (k : Int).toNat = k by omega, noneRows_get hlt, if_neg (by omega)]
    have gn2 : ∀ c, ((noneB k N w).rows.set (0 + (k : Int).toNat) c)[0 + (k : Int).toNat]? = some c := fun c => by
      rw [List.getElem?_set_self]
      show _ < (noneRows k N w).length
      rw [noneRows_len]; omega
    (repeat' (first | ((refine DecB.mk (fun h => ?_) (fun h => ?_)) <;> first | (exfalso; omega) | (conv => whnf)) | ((refine BoolB.mk (fun h => ?_) (fun h => ?_)) <;> first | (exact absurd h (by decide)) | (conv => whnf)) | (refine ⟨_, wrap_ok (by omega) (by omega), ?_⟩; conv => whnf) | (refine and_idx (by omega) (by omega) ?_; conv => whnf) | (refine reg_ok (by decide +kernel) ?_; conv => whnf) | (refine bar_ok (by decide +kernel) (by decide +kernel) ?_; conv => whnf) | (refine late_ok rfl rfl ?_; conv => whnf) | (refine src_ok rfl ?_; conv => whnf) | (refine mk_ok (by omega) (by omega) (by omega) (by decide) ?_; conv => whnf) | (refine lenK_map (zRows_len _ _) ?_; conv => whnf) | (refine appK_nil ?_; conv => whnf) | (refine appK_ok ?_; conv => whnf) | (refine ⟨_, gn, ?_⟩; conv => whnf) | (refine ⟨_, gn2 _, ?_⟩; conv => whnf) | (refine getK_map0 (zRows_len _ _) ?_; conv => whnf) | (refine LitB.data ?_; conv => whnf) | (refine BoxB.own ?_; conv => whnf)))
    refine awp_for tab_ok (fun m => ([S.junk, S.c (C.t (T.ptr (evT e))), S.junk, S.c (C.own 0 0 N true), intS .i64 k, S.junk, S.junk, S.junk, S.junk, S.junk, S.junk, intS .i64 N, intS .i64 k, S.junk, S.junk, S.junk, S.junk, S.junk, S.junk, S.junk, S.junk, S.junk, S.junk, S.junk, S.junk, intS .i64 w, intS .i64 m, S.junk, S.junk, S.junk, S.junk, S.junk, S.junk, S.junk, S.junk, S.junk, S.junk, S.junk, S.junk], noneB (k + 1) N w :: ((zRows k w).map rowB ++ [rowB (partF m w)]))) w (fun _ => True) (idR (k + 2)) trivial ?_ ?_
    · refine ent_mid (by simp) (by simp) ?_ (ok_noneB _ (by omega)) (fun _ => okB_toC rfl) ?_ ?_
      · unfold setRows noneB
        rw [Nat.zero_add, show (k : Int).toNat = k by omega, hwn]
        simp only
        rw [show k + (0 + 1) = k + 1 by omega, noneRows_set hlt]
      · refine ⟨rfl, rfl, rfl, .inr (entR_all ?_ ?_)⟩
        · simp [newBlk, toC, partF_len, hwn]
        · intro i x y hx hy
          simp only [newBlk, List.getElem?_replicate] at hx
          split at hx
          · rename_i hi
            injection hx with hx
            subst hx
            have hy : (toC ((partF 0 w).map frRow))[i]? = some y := hy
            rw [partF_zero] at hy
            simp only [toC, List.map_replicate, List.getElem?_replicate] at hy
            split at hy
            · injection hy with hy
              subst hy
              exact ⟨rfl, rfl, rfl, rfl, trivial⟩
            · cases hy
          · cases hx
      · exact ⟨rfl, ⟨idR_get (by omega), rfl, rfl, fun h => h⟩, rfl, rfl, rfl, ent_i (by omega), rfl, trivial⟩
    intro m hm _
    by_cases hmt : m < w
    · have gk : (noneB (k + 1) N w).rows[0 + (k : Int).toNat]? = some [C.own (k + 1) 0 w true] := by
        show (noneRows (k + 1) N w)[0 + (k : Int).toNat]? = _
        rw [Nat.zero_add, show (k : Int).toNat = k by omega, noneRows_get hlt, if_pos (by omega)]
      obtain ⟨pf, hpf⟩ : ∃ pf, (partF m w)[m]? = some pf := ⟨_, partF_get hmt⟩
      have gp : (partF m w)[0 + (m : Int).toNat]? = some pf := by rw [Nat.zero_add, show (m : Int).toNat = m by omega]; exact hpf
      have eM : 0 + (m : Int).toNat = m := by omega
      conv => whnf
      (repeat' (first | ((refine DecB.mk (fun h => ?_) (fun h => ?_)) <;> first | (exfalso; omega) | (conv => whnf)) | ((refine BoolB.mk (fun h => ?_) (fun h => ?_)) <;> first | (exact absurd h (by decide)) | (conv => whnf)) | (refine ⟨_, wrap_ok (by omega) (by omega), ?_⟩; conv => whnf) | (refine and_idx (by omega) (by omega) ?_; conv => whnf) | (refine reg_ok (by decide +kernel) ?_; conv => whnf) | (refine bar_ok (by decide +kernel) (by decide +kernel) ?_; conv => whnf) | (refine late_ok rfl rfl ?_; conv => whnf) | (refine src_ok rfl ?_; conv => whnf) | (refine .inl ⟨_, _, qcall_pure (i0) rfl rfl, ?_⟩; conv => whnf) | (refine lenK_map (zRows_len _ _) ?_; conv => whnf) | (refine appK_nil ?_; conv => whnf) | (refine appK_ok ?_; conv => whnf) | (refine ⟨_, gk, ?_⟩; conv => whnf) | (refine getK_map0 (zRows_len _ _) ?_; conv => whnf) | (refine ex_own gp ?_; conv => whnf) | (refine setK_map0 (zRows_len _ _) ?_; conv => whnf) | (refine LitB.data ?_; conv => whnf) | (refine BoxB.own ?_; conv => whnf)))
      refine ⟨hmt, trivial, idR (k + 2), ent_mid (by simp) (by simp) rfl (ok_noneB _ (by omega)) (fun _ => okB_toC rfl) ?_ ?_⟩
      · have e := rowB_set (row := partF m w) (y := fz zR) eM
        rw [partF_set hmt] at e
        have e2 : setRows (rowB (partF m w)) ((rowB (partF m w)).rows.set (0 + (m : Int).toNat) (frC (fz zR))) = rowB (partF (m + 1) w) := e
        exact entB_eq e2 (okB_toC rfl)
      · exact ⟨rfl, ⟨idR_get (by omega), rfl, rfl, fun h => h⟩, rfl, rfl, rfl, rfl, rfl, trivial⟩
    · have hme : m = w := by omega
      subst hme
      have eH : (zRows k m).map rowB ++ [rowB (partF m m)] = (zRows (k + 1) m).map rowB := by
        rw [partF_all]; simp [zRows, List.replicate_succ']
      conv => whnf
      (repeat' (first | ((refine DecB.mk (fun h => ?_) (fun h => ?_)) <;> first | (exfalso; omega) | (conv => whnf)) | ((refine BoolB.mk (fun h => ?_) (fun h => ?_)) <;> first | (exact absurd h (by decide)) | (conv => whnf)) | (refine ⟨_, wrap_ok (by omega) (by omega), ?_⟩; conv => whnf) | (refine and_idx (by omega) (by omega) ?_; conv => whnf) | (refine reg_ok (by decide +kernel) ?_; conv => whnf) | (refine bar_ok (by decide +kernel) (by decide +kernel) ?_; conv => whnf) | (refine late_ok rfl rfl ?_; conv => whnf) | (refine src_ok rfl ?_; conv => whnf) | (refine appK_nil ?_; conv => whnf) | (refine LitB.data ?_; conv => whnf) | (refine BoxB.own ?_; conv => whnf)))
      all_goals try (exfalso; omega)
      refine ⟨hlt, trivial, idR (k + 2), ent_first (H' := noneH (k + 1) N m) noneH_len (by simp) ok_noneH (fun i _ => by rw [eH]) ?_⟩
      exact ⟨rfl, ⟨idR_get (by omega), rfl, rfl, fun h => h⟩, rfl, rfl, trivial⟩
  · have hke : k = N := by omega
    subst hke
    conv => whnf
    (repeat' (first | ((refine DecB.mk (fun h => ?_) (fun h => ?_)) <;> first | (exfalso; omega) | (conv => whnf)) | ((refine BoolB.mk (fun h => ?_) (fun h => ?_)) <;> first | (exact absurd h (by decide)) | (conv => whnf)) | (refine ⟨_, wrap_ok (by omega) (by omega), ?_⟩; conv => whnf) | (refine and_idx (by omega) (by omega) ?_; conv => whnf) | (refine reg_ok (by decide +kernel) ?_; conv => whnf) | (refine bar_ok (by decide +kernel) (by decide +kernel) ?_; conv => whnf) | (refine late_ok rfl rfl ?_; conv => whnf) | (refine src_ok rfl ?_; conv => whnf) | (refine appK_nil ?_; conv => whnf) | (refine LitB.data ?_; conv => whnf) | (refine BoxB.own ?_; conv => whnf)))
    all_goals try (exfalso; omega)
    refine fin_first (H' := matH k w fun _ _ => zR) (n := k + 1) matH_len (by simp) ok_matH (fun i _ => ?_) ?_
    · unfold matH
      rw [← zRows_all]
      unfold noneB matB
      rw [noneRows_all]
    · exact ⟨idR_get (by omega), rfl, rfl, fun h => h⟩
end Go.Proofs.Ytomfnfbijgjfeaa
/- history: Check. -/
namespace Go.Proofs.Ytomfnfbijgjfeaa
open Go.RowKit
set_option linter.unusedVariables false
set_option linter.unusedSimpArgs false
set_option maxRecDepth 100000

theorem vx_mat {H : Hp} {p : Nat → Prop} {N w : Nat} {f : Nat → Nat → Rat} {T : Hp} (hH : H = matH N w f ++ T) (hp : ∀ i, p i) : VX H p (.own 0 0 N true) (histT (matF N w f)) := by
  have h0 : H[0]? = some (matB N w) := by rw [hH]; rfl
  have hi : ∀ i, i < N → H[i + 1]? = some (rowB (rowF w (f i))) := fun i h => by
    rw [hH]
    show ((matF N w f).map rowB ++ T)[i]? = _
    rw [List.getElem?_append_left (by simp [matF_len]; exact h), List.getElem?_map, matF_get h]; rfl
  refine .own (k := matB N w) (hp 0) h0 (fun h => h) rfl (by simp [matF_len]) ?_ (fun i _ => .own (i + 1) 0 w true) ?_ ?_
  · intro r hr
    obtain ⟨l, _, rfl⟩ := List.mem_map.1 hr
    rfl
  · intro i j c hc
    obtain ⟨row, h1, h2⟩ := at2_inv hc
    have hil : i < N := by have := (List.getElem?_eq_some_iff.1 h1).1; simpa [matF_len] using this
    rw [List.getElem?_map, matF_get hil] at h1
    injection h1 with h1
    subst h1
    have hj : j = 0 := by have := (List.getElem?_eq_some_iff.1 h2).1; simp [fracsRow] at this; omega
    subst hj
    rw [Nat.zero_add]
    exact at2_some (row := [C.own (i + 1) 0 w true]) (by simp [matB, ownRows, hil]) rfl
  · intro i j c hc
    obtain ⟨row, h1, h2⟩ := at2_inv hc
    have hil : i < N := by have := (List.getElem?_eq_some_iff.1 h1).1; simpa [matF_len] using this
    rw [List.getElem?_map, matF_get hil] at h1
    injection h1 with h1
    subst h1
    have hj : j = 0 := by have := (List.getElem?_eq_some_iff.1 h2).1; simp [fracsRow] at this; omega
    subst hj
    injection h2 with h2
    subst h2
    exact .vc (vc_all (hp _) (hi i hil) (fun h => h) rfl rfl (by simp [rowF_len]))
theorem live_matH {N w : Nat} {f : Nat → Nat → Rat} : ∀ k ∈ matH N w f, k.mode = .live ∧ k.app = false ∧ okB (N + 1) k := by
  intro k hk
  refine ⟨?_, ?_, ok_matH k hk⟩
  · rcases List.mem_cons.1 hk with rfl | hk
    · rfl
    · obtain ⟨l, _, rfl⟩ := List.mem_map.1 hk; rfl
  · rcases List.mem_cons.1 hk with rfl | hk
    · rfl
    · obtain ⟨l, _, rfl⟩ := List.mem_map.1 hk; rfl
theorem old_matH {N w : Nat} {f : Nat → Nat → Rat} : ∀ k ∈ matH N w f, k.mode ≠ .old ∧ okB (N + 1) k := fun k hk => by
  obtain ⟨h1, _, h3⟩ := live_matH k hk
  exact ⟨(by rw [h1]; intro h; cases h), h3⟩
theorem small_rats {n : Nat} {G : List (List Rat)} (h : SmallH n (hz G)) : ∀ l ∈ G, ∀ x ∈ l, rl x ≤ n := by
  intro l hl x hx
  have := h.l3 (l.map fz) (List.mem_map.2 ⟨l, hl, rfl⟩) (fz x) (List.mem_map.2 ⟨x, hx, rfl⟩)
  exact Nat.max_le.2 this
theorem check_bounds {e : Ev} (h : check e = 0) : 1 ≤ e.mats ∧ e.mats ≤ 6 ∧ e.places.length ≤ 100 ∧ e.moves.length ≤ 200 := by
  obtain ⟨h1, h2, _⟩ := check_zero h
  unfold fullB at h1
  simp only [Bool.or_eq_false_iff, decide_eq_false_iff_not] at h1
  omega
theorem hz_get {G : List (List Rat)} {k : Nat} {l : List Rat} (h : G[k]? = some l) : (hz G)[k]? = some (l.map fz) := by simp [hz, h]
set_option maxHeartbeats 4000000 in
theorem a_hCheck (e : Ev) (hh : List (List Fr)) (hs : e.Sized) (hS : SmallH 200 hh) : ACall Try.prog 29 [evS e, histS hh] [] (intS .i64 (histCheck e hh)) [] := by
  have ck := a_Check e hs
  have sh := a_shaped e hh ⟨hS.l1, hS.l2, fun l hl f hf => by have := hS.l3 l hl f hf; omega⟩ (by have := hs.s2; omega)
  unfold histCheck
  by_cases h0 : check e ≠ 0
  · rw [if_pos h0]
    (refine acall_of tab_ok Try.func29 rfl (by decide) ?_; (conv => whnf); repeat (first | (refine LitB.data ?_; conv => whnf) | (refine BoxB.data ?_; conv => whnf)))
    (repeat' (first | ((refine DecB.mk (fun h => ?_) (fun h => ?_)) <;> first | (exfalso; omega) | (conv => whnf)) | ((refine BoolB.mk (fun h => ?_) (fun h => ?_)) <;> first | (exact absurd h (by decide)) | (conv => whnf)) | (refine ⟨_, wrap_ok (by omega) (by omega), ?_⟩; conv => whnf) | (refine and_idx (by omega) (by omega) ?_; conv => whnf) | (refine reg_ok (by decide +kernel) ?_; conv => whnf) | (refine bar_ok (by decide +kernel) (by decide +kernel) ?_; conv => whnf) | (refine late_ok rfl rfl ?_; conv => whnf) | (refine src_ok rfl ?_; conv => whnf) | (refine .inl ⟨_, _, qcall_pure (ck) rfl rfl, ?_⟩; conv => whnf) | (refine LitB.data ?_; conv => whnf) | (refine BoxB.own ?_; conv => whnf)))
    all_goals first
      | (exfalso; omega)
      | exact fin_int rfl
  rw [if_neg h0]
  have h0 : check e = 0 := by omega
  cases hsb : shapedB e hh with
  | false =>
    rw [hsb] at sh
    (refine acall_of tab_ok Try.func29 rfl (by decide) ?_; (conv => whnf); repeat (first | (refine LitB.data ?_; conv => whnf) | (refine BoxB.data ?_; conv => whnf)))
    (repeat' (first | ((refine DecB.mk (fun h => ?_) (fun h => ?_)) <;> first | (exfalso; omega) | (conv => whnf)) | ((refine BoolB.mk (fun h => ?_) (fun h => ?_)) <;> first | (exact absurd h (by decide)) | (conv => whnf)) | (refine ⟨_, wrap_ok (by omega) (by omega), ?_⟩; conv => whnf) | (refine and_idx (by omega) (by omega) ?_; conv => whnf) | (refine reg_ok (by decide +kernel) ?_; conv => whnf) | (refine bar_ok (by decide +kernel) (by decide +kernel) ?_; conv => whnf) | (refine late_ok rfl rfl ?_; conv => whnf) | (refine src_ok rfl ?_; conv => whnf) | (refine .inl ⟨_, _, qcall_pure (ck) rfl rfl, ?_⟩; conv => whnf) | (refine .inl ⟨_, _, qcall_pure (sh) rfl rfl, ?_⟩; conv => whnf) | (refine LitB.data ?_; conv => whnf) | (refine BoxB.own ?_; conv => whnf)))
    all_goals first
      | (exfalso; omega)
      | (exfalso; simp_all; done)
      | exact fin_int rfl
  | true =>
    rw [hsb] at sh
    obtain ⟨G, rfl, hG⟩ := shaped_rats hsb
    have e1 : (if true = true then histE e ((hz G).map (·.map fv)) else 2) = histE e G := by rw [unhz]; rfl
    rw [e1]
    have hB := small_rats hS
    obtain ⟨b1, b2, b3, b4⟩ := check_bounds h0
    obtain ⟨w, hw⟩ : ∃ w : Nat, e.mats = w := ⟨e.mats.toNat, by omega⟩
    generalize hN : e.places.length = N at b3
    have no := a_none e N w hN hw (by omega) (by omega)
    have m2 : (e.moves.map Move.row).length = e.moves.length := by simp
    (refine acall_of tab_ok Try.func29 rfl (by decide) ?_; (conv => whnf); repeat (first | (refine LitB.data ?_; conv => whnf) | (refine BoxB.data ?_; conv => whnf)))
    (repeat' (first | ((refine DecB.mk (fun h => ?_) (fun h => ?_)) <;> first | (exfalso; omega) | (conv => whnf)) | ((refine BoolB.mk (fun h => ?_) (fun h => ?_)) <;> first | (exact absurd h (by decide)) | (conv => whnf)) | (refine ⟨_, wrap_ok (by omega) (by omega), ?_⟩; conv => whnf) | (refine and_idx (by omega) (by omega) ?_; conv => whnf) | (refine reg_ok (by decide +kernel) ?_; conv => whnf) | (refine bar_ok (by decide +kernel) (by decide +kernel) ?_; conv => whnf) | (refine late_ok rfl rfl ?_; conv => whnf) | (refine src_ok rfl ?_; conv => whnf) | (refine .inl ⟨_, _, qcall_pure (ck) rfl rfl, ?_⟩; conv => whnf) | (refine .inl ⟨_, _, qcall_pure (sh) rfl rfl, ?_⟩; conv => whnf) | (refine .inr ⟨_, _, no, ?_⟩; conv => whnf) | (refine appK_nil ?_; conv => whnf) | (refine LitB.data ?_; conv => whnf) | (refine BoxB.own ?_; conv => whnf)))
    refine awp_for tab_ok (fun k => ([S.junk, histS (hz G), S.c (C.t (T.ptr (evT e))), S.junk, S.junk, S.c (C.own 0 0 N true), S.junk, S.junk, S.junk, S.junk, S.junk, S.junk, S.junk, S.junk, S.junk, S.junk, S.junk, S.junk, S.junk, S.junk, S.c (C.t (movesT e.moves)), intS .i64 e.moves.length, intS .i64 k, S.junk, S.junk, S.junk, S.junk, S.junk, S.junk, S.junk, S.junk, S.junk, S.junk, S.junk, S.junk, S.junk, S.junk, S.junk, S.junk, S.junk, S.junk, S.junk, S.junk, S.junk, S.junk, S.junk, S.junk, S.junk, S.junk, S.junk, S.junk, S.junk, S.junk, S.junk, S.junk, S.junk, S.junk, S.junk, S.junk, S.junk, S.junk, S.junk, S.junk, S.junk, S.junk, S.junk, S.junk, S.junk, S.junk, S.junk, S.junk, S.junk], matH N w (stk e G k))) e.moves.length (fun k => movesE e G k (e.moves.drop k) = histE e G) (idR (N + 1)) rfl ?_ ?_
    · refine ent_first matH_len (by simp) ok_matH (fun i _ => rfl) ?_
      exact ⟨rfl, rfl, ⟨idR_get (by omega), rfl, rfl, fun h => h⟩, ent_t rfl, ent_i (by simp), rfl, trivial⟩
    intro k hk hI
    by_cases hlt : k < e.moves.length
    · obtain ⟨x, hx⟩ : ∃ x, e.moves[k]? = some x := ⟨_, List.getElem?_eq_getElem hlt⟩
      obtain ⟨l, hl⟩ : ∃ l, G[k]? = some l := ⟨_, List.getElem?_eq_getElem (by rw [hG.len]; exact hlt)⟩
      have hd : e.moves.drop k = x :: e.moves.drop (k + 1) := by
        rw [List.drop_eq_getElem_cons hlt]
        rw [List.getElem?_eq_getElem hlt] at hx
        injection hx with hx
        rw [hx]
      have hmem := List.mem_of_getElem? hl
      have hlB := hB l hmem
      have hlw : l.length = w := by have := hG.wid l hmem; omega
      have hgd : G.getD k [] = l := by rw [List.getD_eq_getElem?_getD, hl]; rfl
      rw [hd] at hI
      have hI : (if stepE e x l (stk e G k) k ≠ 0 then stepE e x l (stk e G k) k else movesE e G (k + 1) (e.moves.drop (k + 1))) = histE e G := by
        rw [← hgd]; exact hI
      have hm := check_move h0 (List.mem_of_getElem? hx)
      have ms := moveOk_src hm
      have md := moveOk_dst hm
      obtain ⟨s, hsn⟩ : ∃ s : Nat, x.src = s := ⟨x.src.toNat, by omega⟩
      obtain ⟨d, hdn⟩ : ∃ d : Nat, x.dst = d := ⟨x.dst.toNat, by omega⟩
      have hsd : s ≠ d := by
        have : x.src ≠ x.dst := by unfold moveOk at hm; simp only [Bool.and_eq_true, decide_eq_true_eq] at hm; exact hm.1.1.1.1.1.2
        omega
      obtain ⟨pl, hpl⟩ : ∃ pl, e.places[s]? = some pl := ⟨_, List.getElem?_eq_getElem (by omega)⟩
      have hF : ∀ p m, rl (stk e G k p m) ≤ 50000 := fun p m => by
        have := rl_stk (e := e) hB (by decide) k p m
        have h2 := Nat.mul_le_mul_right (200 + 1) (show k ≤ 200 by omega)
        omega
      have ng := z_negative l hlB (by omega)
      have tk := a_taken e x N w (stk e G k) l hlw (by omega) s hsn (by omega) pl hpl hlB hF
      have su := z_sum l hlB (by omega)
      have bs : rl (sumR l) ≤ 50000 := by
        have := rl_sumR hlB
        have h2 := Nat.mul_le_mul_right (200 + 1) (show l.length ≤ 6 by omega)
        omega
      have we := z_weighed e x (sumR l) (by omega) hs
      have pu := z_pure e k l (sumR l) bs hlB (by omega) (by omega) (check_zero h0).2.2.2.2.2.2 hs (by omega)
      have ca := a_carry N w (stk e G k) x l hlw (by omega) s d hsn hdn (by omega) (by omega) hsd hlB hF
      have hst : stk e G (k + 1) = carryF x (fun m => l.getD m 0) (stk e G k) := by
        conv => lhs; unfold stk
        rw [hx]
        simp only
        congr 1
        funext m
        show (G.getD k []).getD m 0 = _
        rw [hgd]
      rw [← hst] at ca
      have fin3 : ∀ (c : Int) (H1 : Hp), stepE e x l (stk e G k) k = c → c ≠ 0 → Fin 0 (intS .i64 c) H1 (intS .i64 (histE e G)) [] := fun c H1 h hc => fin_int (by rw [← hI, h, if_pos hc])
      cases hng : l.any (fun v => decide (v < 0)) with
      | true =>
        have hse : stepE e x l (stk e G k) k = 3 := by unfold stepE; rw [hng]; rfl
        rw [hng] at ng
        conv => whnf
        (repeat' (first | ((refine DecB.mk (fun h => ?_) (fun h => ?_)) <;> first | (exfalso; omega) | (conv => whnf)) | ((refine BoolB.mk (fun h => ?_) (fun h => ?_)) <;> first | (exact absurd h (by decide)) | (conv => whnf)) | (refine ⟨_, wrap_ok (by omega) (by omega), ?_⟩; conv => whnf) | (refine and_idx (by omega) (by omega) ?_; conv => whnf) | (refine reg_ok (by decide +kernel) ?_; conv => whnf) | (refine bar_ok (by decide +kernel) (by decide +kernel) ?_; conv => whnf) | (refine late_ok rfl rfl ?_; conv => whnf) | (refine src_ok rfl ?_; conv => whnf) | (refine .inl ⟨_, _, qcall_pure (ng) rfl rfl, ?_⟩; conv => whnf) | (refine ex_row hx ?_; conv => whnf) | (refine ex_row (hz_get hl) ?_; conv => whnf) | (refine lenK_mapA (matF_len _ _ _) ?_; conv => whnf) | (refine lenK_map (matF_len _ _ _) ?_; conv => whnf) | (refine appK_nil ?_; conv => whnf) | (refine appK_mapA ?_; conv => whnf) | (refine appK_ok ?_; conv => whnf) | (refine getK_map0 (matF_len _ _ _) ?_; conv => whnf) | (refine getK_mapT (matF_len _ _ _) ?_; conv => whnf) | (refine setK_map0 (matF_len _ _ _) ?_; conv => whnf) | (refine setK_mapT (matF_len _ _ _) ?_; conv => whnf) | (refine LitB.data ?_; conv => whnf) | (refine BoxB.own ?_; conv => whnf)))
        all_goals first
          | (exfalso; omega)
          | exact fin3 _ _ hse (by decide)
      | false =>
        rw [hng] at ng
        by_cases htk : takenE e (stk e G k) x l = 0
        · cases hwe : weighedB e x (sumR l) with
          | false =>
            have hse : stepE e x l (stk e G k) k = 24 := by unfold stepE; rw [hng, htk, hwe]; rfl
            rw [hwe] at we
            conv => whnf
            (repeat' (first | ((refine DecB.mk (fun h => ?_) (fun h => ?_)) <;> first | (exfalso; omega) | (conv => whnf)) | ((refine BoolB.mk (fun h => ?_) (fun h => ?_)) <;> first | (exact absurd h (by decide)) | (conv => whnf)) | (refine ⟨_, wrap_ok (by omega) (by omega), ?_⟩; conv => whnf) | (refine and_idx (by omega) (by omega) ?_; conv => whnf) | (refine reg_ok (by decide +kernel) ?_; conv => whnf) | (refine bar_ok (by decide +kernel) (by decide +kernel) ?_; conv => whnf) | (refine late_ok rfl rfl ?_; conv => whnf) | (refine src_ok rfl ?_; conv => whnf) | (refine .inl ⟨_, _, qcall_pure (ng) rfl rfl, ?_⟩; conv => whnf) | (refine .inl ⟨_, _, qcall_pure (su) rfl rfl, ?_⟩; conv => whnf) | (refine .inl ⟨_, _, qcall_pure (we) rfl rfl, ?_⟩; conv => whnf) | (refine .inl ⟨_, _, qcall_viewX tk ⟨.inl ⟨_, _, rfl, rfl, vx_mat rfl (fun _ => trivial)⟩, .inr (vs_ev e), .inr (vs_ts x.row), .inr vs_t, trivial⟩ rfl, ?_⟩; conv => whnf) | (refine ex_row hx ?_; conv => whnf) | (refine ex_row (hz_get hl) ?_; conv => whnf) | (refine lenK_mapA (matF_len _ _ _) ?_; conv => whnf) | (refine lenK_map (matF_len _ _ _) ?_; conv => whnf) | (refine appK_nil ?_; conv => whnf) | (refine appK_mapA ?_; conv => whnf) | (refine appK_ok ?_; conv => whnf) | (refine getK_map0 (matF_len _ _ _) ?_; conv => whnf) | (refine getK_mapT (matF_len _ _ _) ?_; conv => whnf) | (refine setK_map0 (matF_len _ _ _) ?_; conv => whnf) | (refine setK_mapT (matF_len _ _ _) ?_; conv => whnf) | (refine LitB.data ?_; conv => whnf) | (refine BoxB.own ?_; conv => whnf)))
            all_goals first
              | (exfalso; omega)
              | exact fin3 _ _ hse (by decide)
          | true =>
            rw [hwe] at we
            cases hpu : pureB e.purities k l (sumR l) with
            | false =>
              have hse : stepE e x l (stk e G k) k = 13 := by unfold stepE; rw [hng, htk, hwe, hpu]; rfl
              rw [hpu] at pu
              conv => whnf
              (repeat' (first | ((refine DecB.mk (fun h => ?_) (fun h => ?_)) <;> first | (exfalso; omega) | (conv => whnf)) | ((refine BoolB.mk (fun h => ?_) (fun h => ?_)) <;> first | (exact absurd h (by decide)) | (conv => whnf)) | (refine ⟨_, wrap_ok (by omega) (by omega), ?_⟩; conv => whnf) | (refine and_idx (by omega) (by omega) ?_; conv => whnf) | (refine reg_ok (by decide +kernel) ?_; conv => whnf) | (refine bar_ok (by decide +kernel) (by decide +kernel) ?_; conv => whnf) | (refine late_ok rfl rfl ?_; conv => whnf) | (refine src_ok rfl ?_; conv => whnf) | (refine .inl ⟨_, _, qcall_pure (ng) rfl rfl, ?_⟩; conv => whnf) | (refine .inl ⟨_, _, qcall_pure (su) rfl rfl, ?_⟩; conv => whnf) | (refine .inl ⟨_, _, qcall_pure (we) rfl rfl, ?_⟩; conv => whnf) | (refine .inl ⟨_, _, qcall_pure (pu) rfl rfl, ?_⟩; conv => whnf) | (refine .inl ⟨_, _, qcall_viewX tk ⟨.inl ⟨_, _, rfl, rfl, vx_mat rfl (fun _ => trivial)⟩, .inr (vs_ev e), .inr (vs_ts x.row), .inr vs_t, trivial⟩ rfl, ?_⟩; conv => whnf) | (refine ex_row hx ?_; conv => whnf) | (refine ex_row (hz_get hl) ?_; conv => whnf) | (refine lenK_mapA (matF_len _ _ _) ?_; conv => whnf) | (refine lenK_map (matF_len _ _ _) ?_; conv => whnf) | (refine appK_nil ?_; conv => whnf) | (refine appK_mapA ?_; conv => whnf) | (refine appK_ok ?_; conv => whnf) | (refine getK_map0 (matF_len _ _ _) ?_; conv => whnf) | (refine getK_mapT (matF_len _ _ _) ?_; conv => whnf) | (refine setK_map0 (matF_len _ _ _) ?_; conv => whnf) | (refine setK_mapT (matF_len _ _ _) ?_; conv => whnf) | (refine LitB.data ?_; conv => whnf) | (refine BoxB.own ?_; conv => whnf)))
              all_goals first
                | (exfalso; omega)
                | exact fin3 _ _ hse (by decide)
            | true =>
              have hse : stepE e x l (stk e G k) k = 0 := by unfold stepE; rw [hng, htk, hwe, hpu]; rfl
              rw [hpu] at pu
              rw [hse, if_neg (by decide)] at hI
              have hok : [S.c (.own 0 0 N true), moveS x, fracsS (l.map fz)].all (okS (N + 1)) = true := by
                simp [okS, okC, okL, Move.cs, Move.row]
              conv => whnf
              (repeat' (first | ((refine DecB.mk (fun h => ?_) (fun h => ?_)) <;> first | (exfalso; omega) | (conv => whnf)) | ((refine BoolB.mk (fun h => ?_) (fun h => ?_)) <;> first | (exact absurd h (by decide)) | (conv => whnf)) | (refine ⟨_, wrap_ok (by omega) (by omega), ?_⟩; conv => whnf) | (refine and_idx (by omega) (by omega) ?_; conv => whnf) | (refine reg_ok (by decide +kernel) ?_; conv => whnf) | (refine bar_ok (by decide +kernel) (by decide +kernel) ?_; conv => whnf) | (refine late_ok rfl rfl ?_; conv => whnf) | (refine src_ok rfl ?_; conv => whnf) | (refine .inl ⟨_, _, qcall_pure (ng) rfl rfl, ?_⟩; conv => whnf) | (refine .inl ⟨_, _, qcall_pure (su) rfl rfl, ?_⟩; conv => whnf) | (refine .inl ⟨_, _, qcall_pure (we) rfl rfl, ?_⟩; conv => whnf) | (refine .inl ⟨_, _, qcall_pure (pu) rfl rfl, ?_⟩; conv => whnf) | (refine .inl ⟨_, _, qcall_viewX tk ⟨.inl ⟨_, _, rfl, rfl, vx_mat rfl (fun _ => trivial)⟩, .inr (vs_ev e), .inr (vs_ts x.row), .inr vs_t, trivial⟩ rfl, ?_⟩; conv => whnf) | (refine .inr ⟨_, _, acall_first _ ca matH_len matH_len hok live_matH old_matH rfl rfl, ?_⟩; conv => whnf) | (refine ex_row hx ?_; conv => whnf) | (refine ex_row (hz_get hl) ?_; conv => whnf) | (refine lenK_mapA (matF_len _ _ _) ?_; conv => whnf) | (refine lenK_map (matF_len _ _ _) ?_; conv => whnf) | (refine appK_nil ?_; conv => whnf) | (refine appK_mapA ?_; conv => whnf) | (refine appK_ok ?_; conv => whnf) | (refine getK_map0 (matF_len _ _ _) ?_; conv => whnf) | (refine getK_mapT (matF_len _ _ _) ?_; conv => whnf) | (refine setK_map0 (matF_len _ _ _) ?_; conv => whnf) | (refine setK_mapT (matF_len _ _ _) ?_; conv => whnf) | (refine LitB.data ?_; conv => whnf) | (refine BoxB.own ?_; conv => whnf)))
              all_goals try (exfalso; omega)
              refine ⟨hlt, hI, idR (N + 1), ent_firstA matH_len (by simp) ok_matH ?_⟩
              exact ⟨rfl, rfl, ⟨idR_get (by omega), rfl, rfl, fun h => h⟩, rfl, rfl, rfl, trivial⟩
        · have hse : stepE e x l (stk e G k) k = takenE e (stk e G k) x l := by unfold stepE; rw [hng, if_neg (by simp), if_pos htk]
          conv => whnf
          (repeat' (first | ((refine DecB.mk (fun h => ?_) (fun h => ?_)) <;> first | (exfalso; omega) | (conv => whnf)) | ((refine BoolB.mk (fun h => ?_) (fun h => ?_)) <;> first | (exact absurd h (by decide)) | (conv => whnf)) | (refine ⟨_, wrap_ok (by omega) (by omega), ?_⟩; conv => whnf) | (refine and_idx (by omega) (by omega) ?_; conv => whnf) | (refine reg_ok (by decide +kernel) ?_; conv => whnf) | (refine bar_ok (by decide +kernel) (by decide +kernel) ?_; conv => whnf) | (refine late_ok rfl rfl ?_; conv => whnf) | (refine src_ok rfl ?_; conv => whnf) | (refine .inl ⟨_, _, qcall_pure (ng) rfl rfl, ?_⟩; conv => whnf) | (refine .inl ⟨_, _, qcall_viewX tk ⟨.inl ⟨_, _, rfl, rfl, vx_mat rfl (fun _ => trivial)⟩, .inr (vs_ev e), .inr (vs_ts x.row), .inr vs_t, trivial⟩ rfl, ?_⟩; conv => whnf) | (refine ex_row hx ?_; conv => whnf) | (refine ex_row (hz_get hl) ?_; conv => whnf) | (refine lenK_mapA (matF_len _ _ _) ?_; conv => whnf) | (refine lenK_map (matF_len _ _ _) ?_; conv => whnf) | (refine appK_nil ?_; conv => whnf) | (refine appK_mapA ?_; conv => whnf) | (refine appK_ok ?_; conv => whnf) | (refine getK_map0 (matF_len _ _ _) ?_; conv => whnf) | (refine getK_mapT (matF_len _ _ _) ?_; conv => whnf) | (refine setK_map0 (matF_len _ _ _) ?_; conv => whnf) | (refine setK_mapT (matF_len _ _ _) ?_; conv => whnf) | (refine LitB.data ?_; conv => whnf) | (refine BoxB.own ?_; conv => whnf)))
          all_goals first
            | (exfalso; omega)
            | exact fin3 _ _ hse htk
    · have hke : k = e.moves.length := by omega
      subst hke
      rw [List.drop_of_length_le (Nat.le_refl _)] at hI
      have hI : (0 : Int) = histE e G := hI
      conv => whnf
      (repeat' (first | ((refine DecB.mk (fun h => ?_) (fun h => ?_)) <;> first | (exfalso; omega) | (conv => whnf)) | ((refine BoolB.mk (fun h => ?_) (fun h => ?_)) <;> first | (exact absurd h (by decide)) | (conv => whnf)) | (refine ⟨_, wrap_ok (by omega) (by omega), ?_⟩; conv => whnf) | (refine and_idx (by omega) (by omega) ?_; conv => whnf) | (refine reg_ok (by decide +kernel) ?_; conv => whnf) | (refine bar_ok (by decide +kernel) (by decide +kernel) ?_; conv => whnf) | (refine late_ok rfl rfl ?_; conv => whnf) | (refine src_ok rfl ?_; conv => whnf) | (refine appK_nil ?_; conv => whnf) | (refine LitB.data ?_; conv => whnf) | (refine BoxB.own ?_; conv => whnf)))
      all_goals first
        | (exfalso; omega)
        | exact fin_int hI
end Go.Proofs.Ytomfnfbijgjfeaa
/- taint: what is known of a move, what it allows. -/
namespace Go.Proofs.Ytomfnfbijgjfeaa
open Go.RowKit
set_option linter.unusedVariables false
set_option linter.unusedSimpArgs false
set_option maxRecDepth 100000

/-- what is known about the matter in a move -/
def aboutT (h : Fr) (b : Bool) (gs : List Int) (n : Int) : List T := [ti h.p.sg, intsT h.p.dl, ti h.q.sg, intsT h.q.dl, tb b, intsT gs, ti n]
abbrev aboutS (h : Fr) (b : Bool) (gs : List Int) (n : Int) : S := .agg ((aboutT h b gs n).map .t)
def hiF (o : Option (Rat × Rat)) : Fr := match o with
  | some (_, hi) => fz hi
  | none => zeroF
def ivAt (e : Ev) (i : Nat) : Option (Rat × Rat) := match e.moves[i]? with
  | some x => ivOf e x
  | none => none
theorem ivAt_of {e : Ev} {i : Nat} {x : Move} (h : e.moves[i]? = some x) : ivAt e i = ivOf e x := by unfold ivAt; rw [h]
def aboutAt (t : Trace) (kind : Int) (i : Nat) : List T := aboutT (hiF (ivAt t.ev i)) (ivAt t.ev i).isSome (gramsOf t.finds kind i) (cleansOf t.cleans kind i)
abbrev knownT (t : Trace) (kind : Int) : T := .sl 7 .any ((List.range t.ev.moves.length).map (aboutAt t kind))
def allowE (b : Bool) (hi : Rat) (gs : List Int) (n : Int) (z : Rat) : Int := if b = true ∧ hi < z then 20 else if gs.any (fun g => decide (z < (g : Rat))) then 24 else if 0 < n ∧ z ≠ 0 then 13 else 0
set_option maxHeartbeats 2000000 in
theorem a_allows0 (H : Fr) (b : Bool) (hi : Rat) (gs : List Int) (n : Int) (z : Rat) (hH : b = true → H = fz hi ∧ rl hi ≤ 200) (hz : rl z ≤ 200) (hg : ∀ g ∈ gs, 1 ≤ g ∧ g ≤ 1099511627776) (hl : gs.length ≤ 1000000) :
    ACall Try.prog 43 [aboutS H b gs n, frS (fz z)] [] (intS .i64 (allowE b hi gs n z)) [] := by
  have m1 : (gs.map intRow).length = gs.length := by simp
  have c : b = true → ACall Try.prog 17 [frS (fz z), frS H] [] (intS .i64 (cmpR z hi)) [] := fun hb => by
    rw [(hH hb).1]; have := (hH hb).2; exact z_fCompare z hi (by omega) (by omega)
  have cg := cmpR_lt' (x := z) (y := hi)
  have sg := z_fSign z (by omega)
  have sz := sgR_zero (x := z)
  by_cases hcap : b = true ∧ hi < z
  · have e1 : allowE b hi gs n z = 20 := by unfold allowE; rw [if_pos hcap]
    have c1 := c hcap.1
    rw [e1]
    have h1 : cmpR z hi > 0 := cg.2 hcap.2
    clear c
    obtain ⟨rfl, _⟩ := hcap
    (refine acall_of tab_ok Try.func43 rfl (by decide) ?_; (conv => whnf); repeat (first | (refine LitB.data ?_; conv => whnf) | (refine BoxB.data ?_; conv => whnf)))
    (repeat' (first | ((refine DecB.mk (fun h => ?_) (fun h => ?_)) <;> first | (exfalso; omega) | (conv => whnf)) | ((refine BoolB.mk (fun h => ?_) (fun h => ?_)) <;> first | (exact absurd h (by decide)) | (conv => whnf)) | (refine ⟨_, wrap_ok (by omega) (by omega), ?_⟩; conv => whnf) | (refine and_idx (by omega) (by omega) ?_; conv => whnf) | (refine reg_ok (by decide +kernel) ?_; conv => whnf) | (refine bar_ok (by decide +kernel) (by decide +kernel) ?_; conv => whnf) | (refine late_ok rfl rfl ?_; conv => whnf) | (refine src_ok rfl ?_; conv => whnf) | (refine .inl ⟨_, _, qcall_pure (c1) rfl rfl, ?_⟩; conv => whnf) | (refine LitB.data ?_; conv => whnf) | (refine BoxB.own ?_; conv => whnf)))
    all_goals first
      | (exfalso; omega)
      | exact fin_int rfl
  have e1 : allowE b hi gs n z = if gs.any (fun g => decide (z < (g : Rat))) then 24 else if 0 < n ∧ z ≠ 0 then 13 else 0 := by unfold allowE; rw [if_neg hcap]
  rw [e1]
  clear e1
  have h1 : b = true → ¬ cmpR z hi > 0 := fun hb h => hcap ⟨hb, cg.1 h⟩
  clear cg hcap
  cases b
  case' true =>
    have c1 := c rfl
    have h2 := h1 rfl
  case' false =>
    have c1 := sg
    have h2 := True.intro
  all_goals
    clear c h1
    (refine acall_of tab_ok Try.func43 rfl (by decide) ?_; (conv => whnf); repeat (first | (refine LitB.data ?_; conv => whnf) | (refine BoxB.data ?_; conv => whnf)))
    (repeat' (first | ((refine DecB.mk (fun h => ?_) (fun h => ?_)) <;> first | (exfalso; omega) | (conv => whnf)) | ((refine BoolB.mk (fun h => ?_) (fun h => ?_)) <;> first | (exact absurd h (by decide)) | (conv => whnf)) | (refine ⟨_, wrap_ok (by omega) (by omega), ?_⟩; conv => whnf) | (refine and_idx (by omega) (by omega) ?_; conv => whnf) | (refine reg_ok (by decide +kernel) ?_; conv => whnf) | (refine bar_ok (by decide +kernel) (by decide +kernel) ?_; conv => whnf) | (refine late_ok rfl rfl ?_; conv => whnf) | (refine src_ok rfl ?_; conv => whnf) | (refine .inl ⟨_, _, qcall_pure (c1) rfl rfl, ?_⟩; conv => whnf) | (refine LitB.data ?_; conv => whnf) | (refine BoxB.own ?_; conv => whnf)))
    all_goals try (exfalso; omega)
    refine awp_for tab_ok (fun k => ([S.junk, S.junk, S.c (C.t (T.ptr (aboutT H _ gs n))), S.c (C.t (T.ptr (frRow (fz z)))), S.junk, S.junk, S.junk, S.junk, S.junk, S.junk, S.junk, S.junk, S.junk, S.junk, S.junk, S.junk, S.junk, S.c (C.t (intsT gs)), intS .i64 gs.length, intS .i64 k, S.junk, S.junk, S.junk, S.junk, S.junk, S.junk, S.junk, S.junk, S.junk, S.junk, S.junk, S.junk, S.junk, S.junk, S.junk, S.junk, S.junk], [])) gs.length (fun k => (gs.take k).any (fun g => decide (z < (g : Rat))) = false) [] rfl
      ⟨rfl, rfl, trivial, ⟨rfl, rfl, rfl, ent_i (by simp), rfl, trivial⟩⟩ ?_
    intro k hk hI
    by_cases hlt : k < gs.length
    · obtain ⟨g, hgk⟩ : ∃ g, gs[k]? = some g := ⟨_, List.getElem?_eq_getElem hlt⟩
      have bg := hg g (List.mem_of_getElem? hgk)
      have fi := z_fInt g (by omega) (by omega)
      have rg : rl (g : Rat) ≤ 4 := by rw [rl_int]; have := bl_int (x := g) (by omega) (by omega); omega
      have cm := z_fCompare z (g : Rat) (by omega) (by omega)
      have cl := cmpR_lt (x := z) (y := (g : Rat))
      by_cases hzg : z < (g : Rat)
      · have h2 := cl.2 hzg
        rw [any_of_get hgk (by simpa using hzg), if_pos rfl]
        conv => whnf
        (repeat' (first | ((refine DecB.mk (fun h => ?_) (fun h => ?_)) <;> first | (exfalso; omega) | (conv => whnf)) | ((refine BoolB.mk (fun h => ?_) (fun h => ?_)) <;> first | (exact absurd h (by decide)) | (conv => whnf)) | (refine ⟨_, wrap_ok (by omega) (by omega), ?_⟩; conv => whnf) | (refine and_idx (by omega) (by omega) ?_; conv => whnf) | (refine reg_ok (by decide +kernel) ?_; conv => whnf) | (refine bar_ok (by decide +kernel) (by decide +kernel) ?_; conv => whnf) | (refine late_ok rfl rfl ?_; conv => whnf) | (refine src_ok rfl ?_; conv => whnf) | (refine .inl ⟨_, _, qcall_pure (fi) rfl rfl, ?_⟩; conv => whnf) | (refine .inl ⟨_, _, qcall_pure (cm) rfl rfl, ?_⟩; conv => whnf) | (refine ex_row hgk ?_; conv => whnf) | (refine LitB.data ?_; conv => whnf) | (refine BoxB.own ?_; conv => whnf)))
        all_goals first
          | (exfalso; omega)
          | exact fin_int rfl
      · have h2 : ¬ cmpR z (g : Rat) < 0 := fun h => hzg (cl.1 h)
        conv => whnf
        (repeat' (first | ((refine DecB.mk (fun h => ?_) (fun h => ?_)) <;> first | (exfalso; omega) | (conv => whnf)) | ((refine BoolB.mk (fun h => ?_) (fun h => ?_)) <;> first | (exact absurd h (by decide)) | (conv => whnf)) | (refine ⟨_, wrap_ok (by omega) (by omega), ?_⟩; conv => whnf) | (refine and_idx (by omega) (by omega) ?_; conv => whnf) | (refine reg_ok (by decide +kernel) ?_; conv => whnf) | (refine bar_ok (by decide +kernel) (by decide +kernel) ?_; conv => whnf) | (refine late_ok rfl rfl ?_; conv => whnf) | (refine src_ok rfl ?_; conv => whnf) | (refine .inl ⟨_, _, qcall_pure (fi) rfl rfl, ?_⟩; conv => whnf) | (refine .inl ⟨_, _, qcall_pure (cm) rfl rfl, ?_⟩; conv => whnf) | (refine ex_row hgk ?_; conv => whnf) | (refine LitB.data ?_; conv => whnf) | (refine BoxB.own ?_; conv => whnf)))
        all_goals first
          | (exfalso; omega)
          | exact ⟨hlt, by rw [any_take_succ hgk, hI]; simpa using hzg, [], rfl, rfl, trivial, ⟨rfl, rfl, rfl, rfl, rfl, trivial⟩⟩
    · rw [List.take_of_length_le (by omega)] at hI
      rw [hI, if_neg (by simp)]
      by_cases h3 : 0 < n ∧ z ≠ 0
      · rw [if_pos h3]
        have h4 : sgR z ≠ 0 := fun h => h3.2 (sz.1 h)
        obtain ⟨h5, _⟩ := h3
        conv => whnf
        (repeat' (first | ((refine DecB.mk (fun h => ?_) (fun h => ?_)) <;> first | (exfalso; omega) | (conv => whnf)) | ((refine BoolB.mk (fun h => ?_) (fun h => ?_)) <;> first | (exact absurd h (by decide)) | (conv => whnf)) | (refine ⟨_, wrap_ok (by omega) (by omega), ?_⟩; conv => whnf) | (refine and_idx (by omega) (by omega) ?_; conv => whnf) | (refine reg_ok (by decide +kernel) ?_; conv => whnf) | (refine bar_ok (by decide +kernel) (by decide +kernel) ?_; conv => whnf) | (refine late_ok rfl rfl ?_; conv => whnf) | (refine src_ok rfl ?_; conv => whnf) | (refine .inl ⟨_, _, qcall_pure (sg) rfl rfl, ?_⟩; conv => whnf) | (refine LitB.data ?_; conv => whnf) | (refine BoxB.own ?_; conv => whnf)))
        all_goals first
          | (exfalso; omega)
          | exact fin_int rfl
      · rw [if_neg h3]
        have h4 : n ≤ 0 ∨ sgR z = 0 := by
          by_cases h5 : 0 < n
          · refine .inr (sz.2 ?_)
            by_cases h6 : z = 0
            · exact h6
            · exact absurd ⟨h5, h6⟩ h3
          · exact .inl (by omega)
        conv => whnf
        (repeat' (first | ((refine DecB.mk (fun h => ?_) (fun h => ?_)) <;> first | (exfalso; omega) | (conv => whnf)) | ((refine BoolB.mk (fun h => ?_) (fun h => ?_)) <;> first | (exact absurd h (by decide)) | (conv => whnf)) | (refine ⟨_, wrap_ok (by omega) (by omega), ?_⟩; conv => whnf) | (refine and_idx (by omega) (by omega) ?_; conv => whnf) | (refine reg_ok (by decide +kernel) ?_; conv => whnf) | (refine bar_ok (by decide +kernel) (by decide +kernel) ?_; conv => whnf) | (refine late_ok rfl rfl ?_; conv => whnf) | (refine src_ok rfl ?_; conv => whnf) | (refine .inl ⟨_, _, qcall_pure (sg) rfl rfl, ?_⟩; conv => whnf) | (refine LitB.data ?_; conv => whnf) | (refine BoxB.own ?_; conv => whnf)))
        all_goals first
          | (exfalso; omega)
          | exact fin_int rfl
theorem allow_eq {t : Trace} {kind : Int} {i : Nat} {x : Move} (hx : t.ev.moves[i]? = some x) {z hi : Rat} (hh : ∀ lo hi', ivAt t.ev i = some (lo, hi') → hi' = hi) :
    allowE (ivAt t.ev i).isSome hi (gramsOf t.finds kind i) (cleansOf t.cleans kind i) z = allowsE t kind i x z := by
  unfold allowE allowsE
  rw [ivAt_of hx] at hh ⊢
  cases hiv : ivOf t.ev x with
  | none =>
    simp only [Option.isSome_none, Bool.false_eq_true, false_and, if_false, capB, reduceCtorEq]
    have : (0 < (cleansOf t.cleans kind i : Int)) ↔ 0 < cleansOf t.cleans kind i := by omega
    simp only [this]
  | some p =>
    obtain ⟨lo, hi'⟩ := p
    have := hh lo hi' hiv
    subst this
    have e1 : (capB (some (lo, hi')) z = false) ↔ hi' < z := by
      unfold capB
      rw [decide_eq_false_iff_not]; exact Rat.not_le
    have e2 : (0 < (cleansOf t.cleans kind i : Int)) ↔ 0 < cleansOf t.cleans kind i := by omega
    simp only [Option.isSome_some, true_and, e1, e2]
end Go.Proofs.Ytomfnfbijgjfeaa
/- taint: known. -/
namespace Go.Proofs.Ytomfnfbijgjfeaa
open Go.RowKit
set_option linter.unusedVariables false
set_option linter.unusedSimpArgs false
set_option maxRecDepth 100000

/-- the rows while the intervals are found -/
def kn1 (e : Ev) (k i : Nat) : List T :=
  let h := if i < k then hiF (ivAt e i) else zeroF
  [ti h.p.sg, intsT h.p.dl, ti h.q.sg, intsT h.q.dl, tb (decide (i < k) && (ivAt e i).isSome), .sl 0 .nil [], ti 0]
abbrev knB (rows : List (List T)) : Blk := { mode := .live, elem := 95, size := 7, rows := toC rows, box := false }
theorem kn1_same {e : Ev} {k i : Nat} (h : i ≠ k) : kn1 e (k + 1) i = kn1 e k i := by
  unfold kn1
  by_cases h1 : i < k
  · simp only [if_pos h1, if_pos (show i < k + 1 by omega), h1, show i < k + 1 by omega]
  · simp only [if_neg h1, if_neg (show ¬ i < k + 1 by omega), h1, show ¬ i < k + 1 by omega]
theorem kn1_set {e : Ev} {k n : Nat} (h : k < n) : (toC ((List.range n).map (kn1 e k))).set k ((kn1 e (k + 1) k).map C.t) = toC ((List.range n).map (kn1 e (k + 1))) := by
  apply List.ext_getElem?
  intro i
  unfold toC
  rw [List.getElem?_set, List.getElem?_map, List.getElem?_map, List.getElem?_map]
  by_cases hi : k = i
  · subst hi
    rw [if_pos rfl]
    simp [h]
  · rw [if_neg hi, List.getElem?_map]
    cases hr : (List.range n)[i]? with
    | none => rfl
    | some j =>
      have : j = i := by
        obtain ⟨h1, h2⟩ := List.getElem?_eq_some_iff.1 hr
        simp at h2; omega
      subst this
      show some ((kn1 e k j).map C.t) = some ((kn1 e (k + 1) j).map C.t)
      rw [kn1_same (fun h => hi h.symm)]
theorem kn1_none {e : Ev} {k : Nat} (h : ivAt e k = none) : kn1 e (k + 1) k = kn1 e k k := by
  unfold kn1
  simp only [if_pos (show k < k + 1 by omega), if_neg (show ¬ k < k by omega), h]
  simp [hiF]
theorem kn1_none_all {e : Ev} {k n : Nat} (h : ivAt e k = none) : (List.range n).map (kn1 e (k + 1)) = (List.range n).map (kn1 e k) := List.map_congr_left fun i _ => by
  by_cases hi : i = k
  · subst hi; exact kn1_none h
  · exact kn1_same hi
theorem kn1_zero {e : Ev} {n : Nat} {ρ : List (Option Nat)} {H : Hp} : EntR ρ H (List.replicate n [C.t (ti 0), C.t (.sl 0 .nil []), C.t (ti 0), C.t (.sl 0 .nil []), C.t (tb false), C.t (.sl 0 .nil []), C.t (ti 0)]) (toC ((List.range n).map (kn1 e 0))) := by
  refine entR_of (by simp [toC]) fun i x y hx hy => ?_
  have hi : i < n := by have := (List.getElem?_eq_some_iff.1 hx).1; simpa using this
  rw [List.getElem?_replicate, if_pos hi] at hx
  injection hx with hx
  subst hx
  unfold toC at hy
  rw [List.getElem?_map, List.getElem?_map, List.getElem?_range hi] at hy
  injection hy with hy
  subst hy
  show EntL _ _ _ ((kn1 e 0 i).map C.t)
  unfold kn1
  simp only [if_neg (show ¬ i < 0 by omega)]
  exact ⟨rfl, rfl, rfl, rfl, rfl, rfl, rfl, trivial⟩
/-- the part of a row before the finds -/
def knA (e : Ev) (i : Nat) : List T := [ti (hiF (ivAt e i)).p.sg, intsT (hiF (ivAt e i)).p.dl, ti (hiF (ivAt e i)).q.sg, intsT (hiF (ivAt e i)).q.dl, tb (ivAt e i).isSome]
def gramsTo (t : Trace) (kind : Int) (k i : Nat) : List Int := gramsOf (t.finds.take k) kind i
theorem gramsOf_snoc (l : List Find) (f : Find) (kind : Int) (i : Nat) : gramsOf (l ++ [f]) kind i = if f.kind = kind ∧ f.mv = (i : Int) then gramsOf l kind i ++ [f.grams] else gramsOf l kind i := by
  rw [gramsOf_more]; split <;> simp
theorem take_succ_get {α : Type} {l : List α} {k : Nat} {x : α} (h : l[k]? = some x) : l.take (k + 1) = l.take k ++ [x] := by rw [List.take_add_one, h]; rfl
/-- the rows while the cleans are counted -/
def kn3 (t : Trace) (kind : Int) (k i : Nat) : List T := knA t.ev i ++ intsT (gramsOf t.finds kind i) :: [ti (cleansOf (t.cleans.take k) kind i)]
theorem kn3_le (t : Trace) (kind : Int) (k i : Nat) : cleansOf (t.cleans.take k) kind i ≤ t.cleans.length := Nat.le_trans (List.length_filter_le _ _) (by simp; omega)
theorem kn3_all {t : Trace} {kind : Int} {n : Nat} : (List.range n).map (kn3 t kind t.cleans.length) = (List.range n).map (aboutAt t kind) := List.map_congr_left fun i _ => by
  unfold kn3; rw [List.take_of_length_le (Nat.le_refl _)]; rfl
theorem kn3_same {t : Trace} {kind : Int} {n k : Nat} {c : Clean} (h : t.cleans[k]? = some c) (hk : c.kind ≠ kind) : (List.range n).map (kn3 t kind (k + 1)) = (List.range n).map (kn3 t kind k) := List.map_congr_left fun i _ => by
  unfold kn3
  rw [take_succ_get h, cleansOf_more, if_neg (fun h => hk h.1)]; rfl
theorem kn3_set {t : Trace} {kind : Int} {n k m : Nat} {c : Clean} (hm : m < n) (h : t.cleans[k]? = some c) (hk : c.kind = kind) (hmv : c.mv = m) :
    (toC ((List.range n).map (kn3 t kind k))).set m ((knA t.ev m ++ intsT (gramsOf t.finds kind m) :: [ti ((cleansOf (t.cleans.take k) kind m : Int) + 1)]).map C.t) = toC ((List.range n).map (kn3 t kind (k + 1))) := by
  have key : ∀ i, i < n → i ≠ m → kn3 t kind (k + 1) i = kn3 t kind k i := fun i _ hi => by
    unfold kn3
    rw [take_succ_get h, cleansOf_more, if_neg (fun h => hi (by omega))]; rfl
  have own : kn3 t kind (k + 1) m = knA t.ev m ++ intsT (gramsOf t.finds kind m) :: [ti ((cleansOf (t.cleans.take k) kind m : Int) + 1)] := by
    unfold kn3
    rw [take_succ_get h, cleansOf_more, if_pos ⟨hk, hmv⟩]; rfl
  rw [← own]
  unfold toC
  rw [← List.map_set]
  congr 1
  apply List.ext_getElem?
  intro i
  simp only [List.getElem?_set, List.getElem?_map, List.length_map, List.length_range]
  by_cases hi : m = i
  · subst hi; simp [hm]
  · rw [if_neg hi]
    by_cases hin : i < n
    · rw [List.getElem?_range hin]
      show some _ = some _
      rw [key i hin (fun h => hi h.symm)]
    · rw [List.getElem?_eq_none (by simp; omega)]; rfl
theorem ext_ints {l : List Int} {x : Int} : List.take l.length (toC (l.map intRow)) ++ toC [[ti x]] = toC ((l ++ [x]).map intRow) := by
  rw [List.take_of_length_le (by simp [toC])]
  simp [toC, intRow]
set_option maxHeartbeats 4000000 in
theorem a_known (t : Trace) (kind : Int) (hs : t.Sized) (h0 : check t.ev = 0) (hf : ∀ f ∈ t.finds, 0 ≤ f.mv ∧ f.mv < t.ev.moves.length) (hc : ∀ c ∈ t.cleans, 0 ≤ c.mv ∧ c.mv < t.ev.moves.length) :
    ACall Try.prog 41 [trS t, intS .i64 kind] [] (.c (.t (knownT t kind))) [] := by
  obtain ⟨b1, b2, b3, b4⟩ := check_bounds h0
  have l1 := hs.f
  have l2 := hs.c
  have m0 : (t.ev.moves.map Move.row).length = t.ev.moves.length := by simp
  have m1 : (t.finds.map Find.row).length = t.finds.length := by simp
  have m2 : (t.cleans.map Clean.row).length = t.cleans.length := by simp
  have s3 := hs.ev.s3
  have s4 := hs.ev.s4
  (refine acall_of tab_ok Try.func41 rfl (by decide) ?_; (conv => whnf); repeat (first | (refine LitB.data ?_; conv => whnf) | (refine BoxB.data ?_; conv => whnf)))
  (repeat' (first | ((refine DecB.mk (fun h => ?_) (fun h => ?_)) <;> first | (exfalso; omega) | (conv => whnf)) | ((refine BoolB.mk (fun h => ?_) (fun h => ?_)) <;> first | (exact absurd h (by decide)) | (conv => whnf)) | (refine ⟨_, wrap_ok (by omega) (by omega), ?_⟩; conv => whnf) | (refine and_idx (by omega) (by omega) ?_; conv => whnf) | (refine reg_ok (by decide +kernel) ?_; conv => whnf) | (refine bar_ok (by decide +kernel) (by decide +kernel) ?_; conv => whnf) | (refine late_ok rfl rfl ?_; conv => whnf) | (refine src_ok rfl ?_; conv => whnf) | (refine mk_ok (by omega) (by omega) (by omega) (by decide) ?_; conv => whnf) | (refine LitB.data ?_; conv => whnf) | (refine BoxB.own ?_; conv => whnf)))
  refine awp_for tab_ok (fun k => ([S.junk, intS .i64 kind, S.c (C.t (T.ptr (trT t))), S.junk, S.junk, S.c (C.ptr 0 0 0), S.c (C.own 1 0 t.ev.moves.length true), S.junk, S.junk, S.junk, S.junk, S.junk, S.junk, S.junk, S.junk, S.junk, S.junk, S.junk, S.junk, S.junk, S.c (C.t (movesT t.ev.moves)), intS .i64 t.ev.moves.length, intS .i64 k, S.junk, S.junk, S.junk, S.junk, S.junk, S.junk, S.junk, S.junk, S.junk, S.junk, S.junk, S.junk, S.junk, S.junk, S.junk, S.junk, S.junk, S.junk, S.junk, S.junk, S.junk, S.junk, S.junk, S.junk, S.junk, S.junk, S.junk, S.junk, S.junk, S.junk, S.junk, S.junk, S.junk, S.junk, S.junk, S.junk, S.junk, S.junk, S.junk, S.junk, S.junk, S.junk, S.junk, S.junk, S.junk, S.junk, S.junk, S.junk, S.junk, S.junk, S.junk, S.junk, S.junk, S.junk, S.junk, S.junk, S.junk, S.junk, S.junk, S.junk, S.junk, S.junk, S.junk, S.junk, S.junk, S.junk, S.junk, S.junk, S.junk, S.junk, S.junk, S.junk, S.junk, S.junk, S.junk, S.junk, S.junk, S.junk, S.junk, S.junk], [evB t.ev, knB ((List.range t.ev.moves.length).map (kn1 t.ev k))])) t.ev.moves.length (fun _ => True) [some 0, some 1] trivial ?_ ?_
  · refine ⟨rfl, rfl, ⟨⟨rfl, rfl, rfl, .inl ⟨rfl, rowsT_ev _⟩⟩, ⟨rfl, rfl, rfl, .inr ?_⟩, trivial⟩, ⟨rfl, rfl, ⟨rfl, rfl, rfl⟩, ⟨rfl, rfl, ?_, fun h => h⟩, rfl, ent_i (by simp), rfl, trivial⟩⟩
    · have e9 : ((((t.ev.moves.map Move.row).length : Nat) : Int)).toNat = t.ev.moves.length := by omega
      rw [← e9]
      exact kn1_zero
    · omega
  intro k hk _
  by_cases hlt : k < t.ev.moves.length
  · obtain ⟨x, hx⟩ : ∃ x, t.ev.moves[k]? = some x := ⟨_, List.getElem?_eq_getElem hlt⟩
    have iv := a_Interval t.ev.certs t.ev.recalls (by omega) (by omega) x.scale x.reading x.day
    have eK : 0 + (k : Int).toNat = k := by omega
    have hk0 : (List.range t.ev.moves.length)[0 + (k : Int).toNat]? = some k := by rw [eK, List.getElem?_range hlt]
    have gs : ∀ c, ((knB ((List.range t.ev.moves.length).map (kn1 t.ev k))).rows.set (0 + (k : Int).toNat) c)[0 + (k : Int).toNat]? = some c := fun c => by
      rw [List.getElem?_set_self]
      show _ < (toC _).length
      simp [toC]; omega
    by_cases hsc : x.scale = -1
    · have hn : ivAt t.ev k = none := by rw [ivAt_of hx]; unfold ivOf; rw [if_pos hsc]
      have e1 := kn1_none_all (n := t.ev.moves.length) hn
      conv => whnf
      (repeat' (first | ((refine DecB.mk (fun h => ?_) (fun h => ?_)) <;> first | (exfalso; omega) | (conv => whnf)) | ((refine BoolB.mk (fun h => ?_) (fun h => ?_)) <;> first | (exact absurd h (by decide)) | (conv => whnf)) | (refine ⟨_, wrap_ok (by omega) (by omega), ?_⟩; conv => whnf) | (refine and_idx (by omega) (by omega) ?_; conv => whnf) | (refine reg_ok (by decide +kernel) ?_; conv => whnf) | (refine bar_ok (by decide +kernel) (by decide +kernel) ?_; conv => whnf) | (refine late_ok rfl rfl ?_; conv => whnf) | (refine src_ok rfl ?_; conv => whnf) | (refine ex_row hx ?_; conv => whnf) | (refine LitB.data ?_; conv => whnf) | (refine BoxB.own ?_; conv => whnf)))
      all_goals try (exfalso; omega)
      refine ⟨hlt, trivial, [some 0, some 1], rfl, rfl, ⟨⟨rfl, rfl, rfl, .inl ⟨rfl, rowsT_ev _⟩⟩, entB_rows rfl rfl rfl ?_ rfl, trivial⟩, ⟨rfl, rfl, ⟨rfl, rfl, rfl⟩, ⟨rfl, rfl, rfl, fun h => h⟩, rfl, rfl, rfl, trivial⟩⟩
      rw [e1]
    · have hiv : ivAt t.ev k = interval t.ev.certs t.ev.recalls x.scale x.reading x.day := by rw [ivAt_of hx]; unfold ivOf; rw [if_neg hsc]
      rw [← hiv] at iv
      cases hi : ivAt t.ev k with
      | none =>
        rw [hi] at iv
        have er : (kn1 t.ev (k + 1) k).map C.t = frC zeroF ++ [C.t (tb false), C.t (.sl 0 .nil []), C.t (ti 0)] := by rw [kn1_none hi]; simp [kn1]
        conv => whnf
        (repeat' (first | ((refine DecB.mk (fun h => ?_) (fun h => ?_)) <;> first | (exfalso; omega) | (conv => whnf)) | ((refine BoolB.mk (fun h => ?_) (fun h => ?_)) <;> first | (exact absurd h (by decide)) | (conv => whnf)) | (refine ⟨_, wrap_ok (by omega) (by omega), ?_⟩; conv => whnf) | (refine and_idx (by omega) (by omega) ?_; conv => whnf) | (refine reg_ok (by decide +kernel) ?_; conv => whnf) | (refine bar_ok (by decide +kernel) (by decide +kernel) ?_; conv => whnf) | (refine late_ok rfl rfl ?_; conv => whnf) | (refine src_ok rfl ?_; conv => whnf) | (refine .inl ⟨_, _, qcall_pure (iv) rfl rfl, ?_⟩; conv => whnf) | (refine .inl ⟨_, _, qcall_pure (2, 3, 18) rfl rfl, ?_⟩; conv => whnf) | (refine ex_row hx ?_; conv => whnf) | (refine ex_own hk0 ?_; conv => whnf) | (refine ⟨_, gs _, ?_⟩; conv => whnf) | (refine bar_late [2, 3, 18] (by decide +kernel) (by decide +kernel) ?_; conv => whnf) | (refine LitB.data ?_; conv => whnf) | (refine BoxB.own ?_; conv => whnf)))
        all_goals try (exfalso; omega)
        refine ⟨hlt, trivial, [some 0, some 1], rfl, rfl, ⟨⟨rfl, rfl, rfl, .inl ⟨rfl, rowsT_ev _⟩⟩, entB_rows rfl rfl rfl ?_ rfl, trivial⟩, ⟨rfl, rfl, ⟨rfl, rfl, rfl⟩, ⟨rfl, rfl, rfl, fun h => h⟩, rfl, rfl, rfl, trivial⟩⟩
        have e2 := kn1_set (e := t.ev) hlt
        rw [er] at e2
        rw [← e2]
        show ((toC _).set (0 + (k : Int).toNat) _).set (0 + (k : Int).toNat) _ = _
        rw [List.set_set, eK]
        rfl
      | some p =>
        obtain ⟨lo, hi'⟩ := p
        rw [hi] at iv
        have er : (kn1 t.ev (k + 1) k).map C.t = frC (fz hi') ++ [C.t (tb true), C.t (.sl 0 .nil []), C.t (ti 0)] := by simp [kn1, hi, hiF]
        conv => whnf
        (repeat' (first | ((refine DecB.mk (fun h => ?_) (fun h => ?_)) <;> first | (exfalso; omega) | (conv => whnf)) | ((refine BoolB.mk (fun h => ?_) (fun h => ?_)) <;> first | (exact absurd h (by decide)) | (conv => whnf)) | (refine ⟨_, wrap_ok (by omega) (by omega), ?_⟩; conv => whnf) | (refine and_idx (by omega) (by omega) ?_; conv => whnf) | (refine reg_ok (by decide +kernel) ?_; conv => whnf) | (refine bar_ok (by decide +kernel) (by decide +kernel) ?_; conv => whnf) | (refine late_ok rfl rfl ?_; conv => whnf) | (refine src_ok rfl ?_; conv => whnf) | (refine .inl ⟨_, _, qcall_pure (iv) rfl rfl, ?_⟩; conv => whnf) | (refine .inl ⟨_, _, qcall_pure (2, 3, 18) rfl rfl, ?_⟩; conv => whnf) | (refine ex_row hx ?_; conv => whnf) | (refine ex_own hk0 ?_; conv => whnf) | (refine ⟨_, gs _, ?_⟩; conv => whnf) | (refine bar_late [2, 3, 18] (by decide +kernel) (by decide +kernel) ?_; conv => whnf) | (refine LitB.data ?_; conv => whnf) | (refine BoxB.own ?_; conv => whnf)))
        all_goals try (exfalso; omega)
        refine ⟨hlt, trivial, [some 0, some 1], rfl, rfl, ⟨⟨rfl, rfl, rfl, .inl ⟨rfl, rowsT_ev _⟩⟩, entB_rows rfl rfl rfl ?_ rfl, trivial⟩, ⟨rfl, rfl, ⟨rfl, rfl, rfl⟩, ⟨rfl, rfl, rfl, fun h => h⟩, rfl, rfl, rfl, trivial⟩⟩
        have e2 := kn1_set (e := t.ev) hlt
        rw [er] at e2
        rw [← e2]
        show ((toC _).set (0 + (k : Int).toNat) _).set (0 + (k : Int).toNat) _ = _
        rw [List.set_set, eK]
        rfl
  · conv => whnf
    (repeat' (first | ((refine DecB.mk (fun h => ?_) (fun h => ?_)) <;> first | (exfalso; omega) | (conv => whnf)) | ((refine BoolB.mk (fun h => ?_) (fun h => ?_)) <;> first | (exact absurd h (by decide)) | (conv => whnf)) | (refine ⟨_, wrap_ok (by omega) (by omega), ?_⟩; conv => whnf) | (refine and_idx (by omega) (by omega) ?_; conv => whnf) | (refine reg_ok (by decide +kernel) ?_; conv => whnf) | (refine bar_ok (by decide +kernel) (by decide +kernel) ?_; conv => whnf) | (refine late_ok rfl rfl ?_; conv => whnf) | (refine src_ok rfl ?_; conv => whnf) | (refine LitB.data ?_; conv => whnf) | (refine BoxB.own ?_; conv => whnf)))
    all_goals try (exfalso; omega)
    have e0 : gramsTo t kind 0 = fun _ => [] := by funext i; simp [gramsTo, gramsOf]
    refine awp_for tab_ok (fun k => ([S.junk, intS .i64 kind, S.c (C.t (T.ptr (trT t))), S.junk, S.junk, S.junk, S.c (C.own 0 0 t.ev.moves.length true), S.junk, S.junk, S.junk, S.junk, S.junk, S.junk, S.junk, S.junk, S.junk, S.junk, S.junk, S.junk, S.junk, S.junk, S.junk, S.junk, S.junk, S.junk, S.junk, S.junk, S.junk, S.junk, S.junk, S.junk, S.junk, S.junk, S.junk, S.junk, S.junk, S.junk, S.junk, S.junk, S.junk, S.junk, S.junk, S.junk, S.junk, S.junk, S.junk, S.junk, S.junk, S.junk, S.junk, S.junk, S.junk, S.junk, S.junk, S.junk, S.c (C.t (findsT t.finds)), intS .i64 t.finds.length, intS .i64 k, S.junk, S.junk, S.junk, S.junk, S.junk, S.junk, S.junk, S.junk, S.junk, S.junk, S.junk, S.junk, S.junk, S.junk, S.junk, S.junk, S.junk, S.junk, S.junk, S.junk, S.junk, S.junk, S.junk, S.junk, S.junk, S.junk, S.junk, S.junk, S.junk, S.junk, S.junk, S.junk, S.junk, S.junk, S.junk, S.junk, S.junk, S.junk, S.junk, S.junk, S.junk, S.junk, S.junk, S.junk, S.junk], gHeap 95 7 t.ev.moves.length (knA t.ev) (gramsTo t kind k) (fun _ => [ti 0]))) t.finds.length (fun _ => True) (newR 1 t.ev.moves.length) trivial ?_ ?_
    · have hke : k = t.ev.moves.length := by omega
      subst hke
      refine (?_ : Ent 0 (newR 1 t.ev.moves.length) _ _ _ (gHeap 95 7 t.ev.moves.length (knA t.ev) (gramsTo t kind 0) (fun _ => [ti 0])))
      rw [e0]
      refine ent_new (k0 := knB ((List.range t.ev.moves.length).map (kn1 t.ev t.ev.moves.length))) (s := 0) rfl ⟨rfl, rfl, rfl, rfl⟩ ?_ ?_
      · show toC _ = _
        unfold toC
        rw [List.map_map]
        refine List.map_congr_left fun i hi => ?_
        have := List.mem_range.1 hi
        simp [kn1, knA, this]
      · exact ⟨rfl, rfl, ⟨rfl, rfl, rfl, fun h => h⟩, ent_t rfl, ent_i (by simp), rfl, trivial⟩
    intro j hj _
    by_cases hjt : j < t.finds.length
    · obtain ⟨f, hfj⟩ : ∃ f, t.finds[j]? = some f := ⟨_, List.getElem?_eq_getElem hjt⟩
      obtain ⟨f1, f2⟩ := hf f (List.mem_of_getElem? hfj)
      obtain ⟨m, hm⟩ : ∃ m : Nat, f.mv = m := ⟨f.mv.toNat, by omega⟩
      have hmn : m < t.ev.moves.length := by omega
      have eM : 0 + f.mv.toNat = m := by omega
      have rL : (List.range t.ev.moves.length).length = t.ev.moves.length := by simp
      have rG : (List.range t.ev.moves.length)[m]? = some m := List.getElem?_range hmn
      have gR : (gRows t.ev.moves.length (knA t.ev) (gramsTo t kind j) (fun _ => [ti 0]))[0 + f.mv.toNat]? = some (gRow (knA t.ev) (gramsTo t kind j) (fun _ => [ti 0]) (m + 1) m) := by rw [eM]; exact gRows_get hmn
      have gl : (gramsTo t kind j m).length ≤ t.finds.length := by
        unfold gramsTo gramsOf
        rw [List.length_map]
        exact Nat.le_trans (List.length_filter_le _ _) (by simp; omega)
      have hbox : ∀ (fB : Nat → Blk) (dead nb fb : Blk), (((((List.range t.ev.moves.length).map fB ++ [fb]).set m dead) ++ [nb])[t.ev.moves.length]?) = some fb := fun fB dead nb fb => by
        rw [List.getElem?_append_left (by simp), List.getElem?_set, if_neg (by omega), List.getElem?_append_right (by simp)]
        simp
      have hnew : ∀ (fB : Nat → Blk) (dead nb fb : Blk), (((((List.range t.ev.moves.length).map fB ++ [fb]).set m dead) ++ [nb])[t.ev.moves.length + 1]?) = some nb := fun fB dead nb fb => by
        rw [List.getElem?_append_right (by simp)]
        simp
      have hold : ∀ (fB : Nat → Blk) (dead nb fb : Blk) (p : Nat), p < t.ev.moves.length → p ≠ m → (((((List.range t.ev.moves.length).map fB ++ [fb]).set m dead) ++ [nb])[p]?) = some (fB p) := fun fB dead nb fb p hp hpm => by
        rw [List.getElem?_append_left (by simp; omega), List.getElem?_set, if_neg (by omega), List.getElem?_append_left (by simpa using hp), List.getElem?_map, List.getElem?_range hp]; rfl
      by_cases hkd : f.kind = kind
      · conv => whnf
        (repeat' (first | ((refine DecB.mk (fun h => ?_) (fun h => ?_)) <;> first | (exfalso; omega) | (conv => whnf)) | ((refine BoolB.mk (fun h => ?_) (fun h => ?_)) <;> first | (exact absurd h (by decide)) | (conv => whnf)) | (refine ⟨_, wrap_ok (by omega) (by omega), ?_⟩; conv => whnf) | (refine and_idx (by omega) (by omega) ?_; conv => whnf) | (refine reg_ok (by decide +kernel) ?_; conv => whnf) | (refine bar_ok (by decide +kernel) (by decide +kernel) ?_; conv => whnf) | (refine late_ok rfl rfl ?_; conv => whnf) | (refine src_ok rfl ?_; conv => whnf) | (refine .inl ⟨_, _, qcall_pure (toC) rfl rfl, ?_⟩; conv => whnf) | (refine .inl ⟨_, _, qcall_pure (toC) rfl rfl, ?_⟩; conv => whnf) | (refine .inl ⟨_, _, qcall_pure (0, 1, 2) rfl rfl, ?_⟩; conv => whnf) | (refine ex_row hfj ?_; conv => whnf) | (refine lenK_mapA rL ?_; conv => whnf) | (refine lenK_map rL ?_; conv => whnf) | (refine appK_nil ?_; conv => whnf) | (refine appK_ok ?_; conv => whnf) | (refine ⟨_, gR, ?_⟩; conv => whnf) | (refine getK_ok (hbox _ _ _ _) ?_; conv => whnf) | (refine getK_mapA rG ?_; conv => whnf) | (refine getK_map rG ?_; conv => whnf) | (refine getK_map0 rL ?_; conv => whnf) | (refine getK_mapT rL ?_; conv => whnf) | (refine setK_map0 rL ?_; conv => whnf) | (refine setK_mapT rL ?_; conv => whnf) | (refine setK_ok ?_; conv => whnf) | (refine app_ok (by simp [toC]) (by simp [toC]; omega) ?_; conv => whnf) | (refine bar_late [0, 1, 2] (by decide +kernel) (by decide +kernel) ?_; conv => whnf) | (refine LitB.data ?_; conv => whnf) | (refine BoxB.own ?_; conv => whnf)))
        all_goals try (exfalso; omega)
        refine ⟨hjt, trivial, growR t.ev.moves.length m (t.ev.moves.length + 2), ?_⟩
        refine (?_ : Ent 0 (growR t.ev.moves.length m (t.ev.moves.length + 2)) _ _ _ (gHeap 95 7 t.ev.moves.length (knA t.ev) (gramsTo t kind (j + 1)) (fun _ => [ti 0])))
        have eg : gramsTo t kind (j + 1) = updG (gramsTo t kind j) m (gramsTo t kind j m ++ [f.grams]) := by
          funext i
          unfold gramsTo updG
          rw [take_succ_get hfj, gramsOf_snoc]
          by_cases hi : i = m
          · subst hi; rw [if_pos ⟨hkd, hm⟩, if_pos rfl]
          · rw [if_neg (fun h => hi (by omega)), if_neg hi]
        rw [eg]
        refine ent_grow hmn (by omega) rfl ⟨rfl, rfl, rfl, rfl⟩ ?_ ?_ ?_ ?_
        · show (gRows _ _ _ _).set (0 + f.mv.toNat) _ = _
          rw [eM, List.length_append]
          rfl
        · intro p hp hpm
          exact hold _ _ _ _ p hp hpm
        · refine (hnew _ _ _ _).trans ?_
          show some (Blk.mk .live _ 1 (List.take _ (toC ((gramsTo t kind j m).map intRow)) ++ toC [[ti f.grams]]) false false) = _
          rw [ext_ints]
        · exact ⟨rfl, rfl, ⟨by rw [growR_get (by omega)]; rfl, rfl, rfl, fun h => h⟩, rfl, rfl, rfl, trivial⟩
      · conv => whnf
        (repeat' (first | ((refine DecB.mk (fun h => ?_) (fun h => ?_)) <;> first | (exfalso; omega) | (conv => whnf)) | ((refine BoolB.mk (fun h => ?_) (fun h => ?_)) <;> first | (exact absurd h (by decide)) | (conv => whnf)) | (refine ⟨_, wrap_ok (by omega) (by omega), ?_⟩; conv => whnf) | (refine and_idx (by omega) (by omega) ?_; conv => whnf) | (refine reg_ok (by decide +kernel) ?_; conv => whnf) | (refine bar_ok (by decide +kernel) (by decide +kernel) ?_; conv => whnf) | (refine late_ok rfl rfl ?_; conv => whnf) | (refine src_ok rfl ?_; conv => whnf) | (refine ex_row hfj ?_; conv => whnf) | (refine lenK_mapA rL ?_; conv => whnf) | (refine lenK_map rL ?_; conv => whnf) | (refine appK_nil ?_; conv => whnf) | (refine appK_ok ?_; conv => whnf) | (refine getK_map0 rL ?_; conv => whnf) | (refine getK_mapT rL ?_; conv => whnf) | (refine setK_map0 rL ?_; conv => whnf) | (refine setK_mapT rL ?_; conv => whnf) | (refine LitB.data ?_; conv => whnf) | (refine BoxB.own ?_; conv => whnf)))
        all_goals try (exfalso; omega)
        refine ⟨hjt, trivial, idR (t.ev.moves.length + 1), ?_⟩
        refine (?_ : Ent 0 (idR (t.ev.moves.length + 1)) _ (gHeap 95 7 t.ev.moves.length (knA t.ev) (gramsTo t kind j) (fun _ => [ti 0]) ++ _) _ (gHeap 95 7 t.ev.moves.length (knA t.ev) (gramsTo t kind (j + 1)) (fun _ => [ti 0])))
        have eg : gramsTo t kind (j + 1) = gramsTo t kind j := by
          funext i
          unfold gramsTo
          rw [take_succ_get hfj, gramsOf_snoc, if_neg (fun h => hkd h.1)]
        rw [eg]
        exact ent_gsame ⟨rfl, rfl, ⟨idR_get (by omega), rfl, rfl, fun h => h⟩, rfl, rfl, rfl, trivial⟩
    · have hje : j = t.finds.length := by omega
      subst hje
      have rL : (List.range t.ev.moves.length).length = t.ev.moves.length := by simp
      conv => whnf
      (repeat' (first | ((refine DecB.mk (fun h => ?_) (fun h => ?_)) <;> first | (exfalso; omega) | (conv => whnf)) | ((refine BoolB.mk (fun h => ?_) (fun h => ?_)) <;> first | (exact absurd h (by decide)) | (conv => whnf)) | (refine ⟨_, wrap_ok (by omega) (by omega), ?_⟩; conv => whnf) | (refine and_idx (by omega) (by omega) ?_; conv => whnf) | (refine reg_ok (by decide +kernel) ?_; conv => whnf) | (refine bar_ok (by decide +kernel) (by decide +kernel) ?_; conv => whnf) | (refine late_ok rfl rfl ?_; conv => whnf) | (refine src_ok rfl ?_; conv => whnf) | (refine appK_nil ?_; conv => whnf) | (refine appK_ok ?_; conv => whnf) | (refine lenK_map rL ?_; conv => whnf) | (refine LitB.data ?_; conv => whnf) | (refine BoxB.own ?_; conv => whnf)))
      all_goals try (exfalso; omega)
      have eg : gramsTo t kind t.finds.length = gramsOf t.finds kind := by funext i; unfold gramsTo; rw [List.take_of_length_le (Nat.le_refl _)]
      rw [eg]
      refine awp_for tab_ok (fun k => ([S.junk, intS .i64 kind, S.junk, S.junk, S.junk, S.junk, S.c (C.own 0 0 t.ev.moves.length true), S.junk, S.junk, S.junk, S.junk, S.junk, S.junk, S.junk, S.junk, S.junk, S.junk, S.junk, S.junk, S.junk, S.junk, S.junk, S.junk, S.junk, S.junk, S.junk, S.junk, S.junk, S.junk, S.junk, S.junk, S.junk, S.junk, S.junk, S.junk, S.junk, S.junk, S.junk, S.junk, S.junk, S.junk, S.junk, S.junk, S.junk, S.junk, S.junk, S.junk, S.junk, S.junk, S.junk, S.junk, S.junk, S.junk, S.junk, S.junk, S.junk, S.junk, S.junk, S.junk, S.junk, S.junk, S.junk, S.junk, S.junk, S.junk, S.junk, S.junk, S.junk, S.junk, S.junk, S.junk, S.junk, S.junk, S.junk, S.junk, S.junk, S.junk, S.junk, S.junk, S.junk, S.junk, S.junk, S.c (C.t (cleansT t.cleans)), intS .i64 t.cleans.length, intS .i64 k, S.junk, S.junk, S.junk, S.junk, S.junk, S.junk, S.junk, S.junk, S.junk, S.junk, S.junk, S.junk, S.junk, S.junk, S.junk, S.junk, S.junk, S.junk], [knB ((List.range t.ev.moves.length).map (kn3 t kind k))])) t.cleans.length (fun _ => True) [some 0] trivial ?_ ?_
      · exact ent_ripe (g := gramsOf t.finds kind) ⟨rfl, ⟨rfl, rfl, rfl, fun h => h⟩, ent_t rfl, ent_i (by simp), rfl, trivial⟩
      intro q hq _
      by_cases hqt : q < t.cleans.length
      · obtain ⟨c, hcq⟩ : ∃ c, t.cleans[q]? = some c := ⟨_, List.getElem?_eq_getElem hqt⟩
        obtain ⟨g1, g2⟩ := hc c (List.mem_of_getElem? hcq)
        obtain ⟨m, hm⟩ : ∃ m : Nat, c.mv = m := ⟨c.mv.toNat, by omega⟩
        have hmn : m < t.ev.moves.length := by omega
        have eM : 0 + c.mv.toNat = m := by omega
        have hk0 : (List.range t.ev.moves.length)[0 + c.mv.toNat]? = some m := by rw [eM]; exact List.getElem?_range hmn
        have cb := kn3_le t kind q m
        by_cases hkd : c.kind = kind
        · conv => whnf
          (repeat' (first | ((refine DecB.mk (fun h => ?_) (fun h => ?_)) <;> first | (exfalso; omega) | (conv => whnf)) | ((refine BoolB.mk (fun h => ?_) (fun h => ?_)) <;> first | (exact absurd h (by decide)) | (conv => whnf)) | (refine ⟨_, wrap_ok (by omega) (by omega), ?_⟩; conv => whnf) | (refine and_idx (by omega) (by omega) ?_; conv => whnf) | (refine reg_ok (by decide +kernel) ?_; conv => whnf) | (refine bar_ok (by decide +kernel) (by decide +kernel) ?_; conv => whnf) | (refine late_ok rfl rfl ?_; conv => whnf) | (refine src_ok rfl ?_; conv => whnf) | (refine ex_row hcq ?_; conv => whnf) | (refine ex_own hk0 ?_; conv => whnf) | (refine LitB.data ?_; conv => whnf) | (refine BoxB.own ?_; conv => whnf)))
          all_goals try (exfalso; omega)
          refine ⟨hqt, trivial, [some 0], rfl, rfl, ⟨entB_rows rfl rfl rfl ?_ rfl, trivial⟩, ⟨rfl, ⟨rfl, rfl, rfl, fun h => h⟩, rfl, rfl, rfl, trivial⟩⟩
          show (toC _).set (0 + c.mv.toNat) _ = _
          rw [eM, ← kn3_set hmn hcq hkd hm]
          rfl
        · have e3 := kn3_same (t := t) (kind := kind) (n := t.ev.moves.length) hcq hkd
          conv => whnf
          (repeat' (first | ((refine DecB.mk (fun h => ?_) (fun h => ?_)) <;> first | (exfalso; omega) | (conv => whnf)) | ((refine BoolB.mk (fun h => ?_) (fun h => ?_)) <;> first | (exact absurd h (by decide)) | (conv => whnf)) | (refine ⟨_, wrap_ok (by omega) (by omega), ?_⟩; conv => whnf) | (refine and_idx (by omega) (by omega) ?_; conv => whnf) | (refine reg_ok (by decide +kernel) ?_; conv => whnf) | (refine bar_ok (by decide +kernel) (by decide +kernel) ?_; conv => whnf) | (refine late_ok rfl rfl ?_; conv => whnf) | (refine src_ok rfl ?_; conv => whnf) | (refine ex_row hcq ?_; conv => whnf) | (refine ex_own hk0 ?_; conv => whnf) | (refine LitB.data ?_; conv => whnf) | (refine BoxB.own ?_; conv => whnf)))
          all_goals try (exfalso; omega)
          refine ⟨hqt, trivial, [some 0], rfl, rfl, ⟨entB_rows rfl rfl rfl ?_ rfl, trivial⟩, ⟨rfl, ⟨rfl, rfl, rfl, fun h => h⟩, rfl, rfl, rfl, trivial⟩⟩
          rw [e3]
      · have hqe : q = t.cleans.length := by omega
        subst hqe
        conv => whnf
        (repeat' (first | ((refine DecB.mk (fun h => ?_) (fun h => ?_)) <;> first | (exfalso; omega) | (conv => whnf)) | ((refine BoolB.mk (fun h => ?_) (fun h => ?_)) <;> first | (exact absurd h (by decide)) | (conv => whnf)) | (refine ⟨_, wrap_ok (by omega) (by omega), ?_⟩; conv => whnf) | (refine and_idx (by omega) (by omega) ?_; conv => whnf) | (refine reg_ok (by decide +kernel) ?_; conv => whnf) | (refine bar_ok (by decide +kernel) (by decide +kernel) ?_; conv => whnf) | (refine late_ok rfl rfl ?_; conv => whnf) | (refine src_ok rfl ?_; conv => whnf) | (refine LitB.data ?_; conv => whnf) | (refine BoxB.own ?_; conv => whnf)))
        all_goals try (exfalso; omega)
        rw [kn3_all]
        exact fin_own (k := knB ((List.range t.ev.moves.length).map (aboutAt t kind))) rfl (by intro h; cases h) rfl rfl (by simp)
end Go.Proofs.Ytomfnfbijgjfeaa
/- taint: stock, the closure of System, System. -/
namespace Go.Proofs.Ytomfnfbijgjfeaa
open Go.RowKit
set_option linter.unusedVariables false
set_option linter.unusedSimpArgs false
set_option maxRecDepth 100000

abbrev termsB (l : List (Int × Rat)) : Blk := { mode := .live, elem := 110, size := 5, rows := toC (l.map termRow), box := false }
abbrev rowsB (l : List RowP) : Blk := { mode := .live, elem := 89, size := 6, rows := toC (l.map rowRow), box := false }
abbrev sysB (n : Int) (id len : Nat) : Blk := { mode := .live, elem := 67, size := 2, rows := [[.t (ti n), .own id 0 len true]], box := true }
/-- a row whose terms grow yet -/
abbrev growB (id len : Nat) (kind : Int) : Blk := { mode := .live, elem := 89, size := 6, rows := [.own id 0 len true :: .t (ti kind) :: frC (fz zR)], box := true }
abbrev moveB24 (x : Move) : Blk := { mode := .live, elem := 55, size := 6, rows := [x.row.map .t], box := true }
theorem rowsT_mv24 (x : Move) : rowsT [x.row.map C.t] := by simp [rowsT, Move.row, C.isT]
abbrev rowZB : Blk := { mode := .live, elem := 89, size := 6, rows := [.t (termsT []) :: .t (ti 0) :: frC zeroF], box := true }
abbrev deadB (el : TypeId) (size : Nat) : Blk := ⟨.dead, el, size, [], false, false⟩
theorem ext_rowsN {l : List RowP} {w : RowP} {n : Nat} (h : n = l.length) : List.take n (toC (l.map rowRow)) ++ toC [rowRow w] = toC ((l ++ [w]).map rowRow) := by
  rw [List.take_of_length_le (by simp [toC, h])]
  simp [toC]
set_option maxHeartbeats 4000000 in
theorem a_row1 (n : Int) (rows : List RowP) (hr : rows.length ≤ 1000000) (mv : Nat) (kind : Int) (v : Rat) :
    ACall Try.prog 60 [intS .i64 mv, intS .i64 kind, frS (fz v), .c (.ptr 0 0 0)] [sysB n 1 rows.length, rowsB rows] (.tup []) [sysB n 2 (rows.length + 1), deadB 89 6, rowsB (rows ++ [oneRow mv kind v])] := by
  have i1 := z_fInt 1 (by decide) (by decide)
  (refine acall_of tab_ok Try.func60 rfl (by decide) ?_; (conv => whnf); repeat (first | (refine LitB.data ?_; conv => whnf) | (refine BoxB.data ?_; conv => whnf)))
  (repeat' (first | ((refine DecB.mk (fun h => ?_) (fun h => ?_)) <;> first | (exfalso; omega) | (conv => whnf)) | ((refine BoolB.mk (fun h => ?_) (fun h => ?_)) <;> first | (exact absurd h (by decide)) | (conv => whnf)) | (refine ⟨_, wrap_ok (by omega) (by omega), ?_⟩; conv => whnf) | (refine and_idx (by omega) (by omega) ?_; conv => whnf) | (refine reg_ok (by decide +kernel) ?_; conv => whnf) | (refine bar_ok (by decide +kernel) (by decide +kernel) ?_; conv => whnf) | (refine late_ok rfl rfl ?_; conv => whnf) | (refine src_ok rfl ?_; conv => whnf) | (refine .inl ⟨_, _, qcall_pure (i1) rfl rfl, ?_⟩; conv => whnf) | (refine .inl ⟨_, _, qcall_pure (toC) rfl rfl, ?_⟩; conv => whnf) | (refine .inl ⟨_, _, qcall_pure (toC) rfl rfl, ?_⟩; conv => whnf) | (refine LitB.weak ?_; conv => whnf) | (refine app_ok (by simp [toC]) (by simp [toC]; omega) ?_; conv => whnf) | (refine LitB.data ?_; conv => whnf) | (refine BoxB.own ?_; conv => whnf)))
  refine ⟨⟨[some 0, some 1, some 2], rfl, rfl, ⟨⟨rfl, rfl, rfl, .inr ⟨⟨rfl, ⟨rfl, rfl, rfl, fun h => h⟩, trivial⟩, trivial⟩⟩, ⟨rfl, rfl, rfl, .inl ⟨rfl, by simp [rowsT]⟩⟩, entB_rows rfl rfl rfl ?_ rfl, trivial⟩, trivial⟩⟩
  show List.take rows.length (toC (rows.map rowRow)) ++ toC [rowRow (oneRow mv kind v)] = _
  exact ext_rowsN rfl
/-- the closure called in a greater heap: s is the block 2, its rows the block id -/
theorem a_push {H : Hp} {id : Nat} {n : Int} {rows : List RowP} (hs : H[2]? = some (sysB n id rows.length)) (hid : H[id]? = some (rowsB rows)) (hne : id ≠ 2) (hr : rows.length ≤ 1000000) (mv : Nat) (kind : Int) (v : Rat) :
    ACall Try.prog 60 [intS .i64 mv, intS .i64 kind, frS (fz v), .c (.ptr 2 0 0)] H (.tup []) (((H.set 2 (sysB n H.length (rows.length + 1))).set id (deadB 89 6)) ++ [rowsB (rows ++ [oneRow mv kind v])]) := by
  have h2 : 2 < H.length := (List.getElem?_eq_some_iff.1 hs).1
  have hi : id < H.length := (List.getElem?_eq_some_iff.1 hid).1
  have ex : extR [2, id] H.length 1 = [2, id, H.length] := by simp [extR]
  refine acall_frame [2, id] (a_row1 n rows hr mv kind v) rfl rfl rfl (by simp; omega) ?_ ?_ (by simp) rfl rfl (by simp) ?_ ?_
  · intro i k hk
    match i, hk with
    | 0, hk =>
      injection hk with hk
      subst hk
      exact ⟨rfl, rfl, by simp [okL, okC], _, hs, ⟨rfl, rfl, rfl, rfl, by simp [renR, renL, renC]⟩⟩
    | 1, hk =>
      injection hk with hk
      subst hk
      exact ⟨rfl, rfl, okRows_toC _, _, hid, renB_data rfl⟩
  · intro k hk
    simp at hk
    rcases hk with rfl | rfl | rfl <;> (intro h; cases h)
  · intro i k hk
    show ∃ k', _[(extR [2, id] H.length 1).getD i 0]? = some k' ∧ RenB (extR [2, id] H.length 1) k k'
    rw [ex]
    match i, hk with
    | 0, hk =>
      injection hk with hk
      subst hk
      refine ⟨sysB n H.length (rows.length + 1), ?_, ⟨rfl, rfl, rfl, rfl, by simp [renR, renL, renC]⟩⟩
      show (_ ++ _)[2]? = _
      rw [List.getElem?_append_left (by simp; omega), List.getElem?_set, if_neg (by omega), List.getElem?_set, if_pos rfl, if_pos h2]
    | 1, hk =>
      injection hk with hk
      subst hk
      refine ⟨deadB 89 6, ?_, ⟨rfl, rfl, rfl, rfl, rfl⟩⟩
      show (_ ++ _)[id]? = _
      rw [List.getElem?_append_left (by simp; omega), List.getElem?_set, if_pos rfl, if_pos (by simp; omega)]
    | 2, hk =>
      injection hk with hk
      subst hk
      refine ⟨rowsB (rows ++ [oneRow mv kind v]), ?_, renB_data rfl⟩
      show (_ ++ _)[H.length]? = _
      rw [List.getElem?_append_right (by simp)]
      simp
  · intro j hj hjn
    simp at hjn
    rw [List.getElem?_append_left (by simp; omega), List.getElem?_set, if_neg (by omega), List.getElem?_set, if_neg (by omega)]
theorem ext_terms {l : List (Int × Rat)} {w : Int × Rat} {n : Nat} (h : n = l.length) : List.take n (toC (l.map termRow)) ++ toC [termRow w] = toC ((l ++ [w]).map termRow) := by
  rw [List.take_of_length_le (by simp [toC, h])]
  simp [toC]
theorem termsTo_succ {e : Ev} {p : Int} {k : Nat} {y : Move} (h : e.moves[k]? = some y) : termsTo e p (k + 1) = if y.dst = p then termsTo e p k ++ [((k : Int), ((1 : Int) : Rat))] else if y.src = p then termsTo e p k ++ [((k : Int), ((-1 : Int) : Rat))] else termsTo e p k := by rw [termsTo, h]
theorem termsTo_len {e : Ev} {p : Int} : ∀ k, (termsTo e p k).length ≤ k
  | 0 => by simp [termsTo]
  | k + 1 => by
    have ih := termsTo_len (e := e) (p := p) k
    unfold termsTo
    cases e.moves[k]? with
    | none => simp only; omega
    | some y =>
      simp only
      split
      · simp; omega
      · split
        · simp; omega
        · omega
set_option maxHeartbeats 4000000 in
theorem a_stock (e : Ev) (h0 : check e = 0) {i : Nat} {x : Move} (hx : e.moves[i]? = some x) : ACall Try.prog 61 [evS e, intS .i64 i] [] (rowS (stockRow e i x)) [] := by
  obtain ⟨b1, b2, b3, b4⟩ := check_bounds h0
  have hi : i < e.moves.length := (List.getElem?_eq_some_iff.1 hx).1
  have m0 : (e.moves.map Move.row).length = e.moves.length := by simp
  have i0 := z_fInt 0 (by decide) (by decide)
  have i1 := z_fInt 1 (by decide) (by decide)
  have im := z_fInt (-1) (by decide) (by decide)
  have tk : (e.moves.map Move.row).take i = (e.moves.take i).map Move.row := (List.map_take ..).symm
  have tl : (e.moves.take i).length = i := by simp; omega
  have mt : ((e.moves.take i).map Move.row).length = i := by simp; omega
  cases hal : x.all
  case' false => have hK : (stockRow e i x).kind = 0 := by unfold stockRow; rw [hal]; rfl
  case' true => have hK : (stockRow e i x).kind = 2 := by unfold stockRow; rw [hal]; rfl
  all_goals
    (refine acall_of tab_ok Try.func61 rfl (by decide) ?_; (conv => whnf); repeat (first | (refine LitB.data ?_; conv => whnf) | (refine BoxB.data ?_; conv => whnf)))
    (repeat' (first | ((refine DecB.mk (fun h => ?_) (fun h => ?_)) <;> first | (exfalso; omega) | (conv => whnf)) | ((refine BoolB.mk (fun h => ?_) (fun h => ?_)) <;> first | (exact absurd h (by decide)) | (conv => whnf)) | (refine ⟨_, wrap_ok (by omega) (by omega), ?_⟩; conv => whnf) | (refine and_idx (by omega) (by omega) ?_; conv => whnf) | (refine reg_ok (by decide +kernel) ?_; conv => whnf) | (refine bar_ok (by decide +kernel) (by decide +kernel) ?_; conv => whnf) | (refine late_ok rfl rfl ?_; conv => whnf) | (refine src_ok rfl ?_; conv => whnf) | (refine .inl ⟨_, _, qcall_pure (i0) rfl rfl, ?_⟩; conv => whnf) | (refine ex_row hx ?_; conv => whnf) | (refine sl_ok (by omega) (by omega) (by omega) ?_; conv => whnf) | (refine LitB.data ?_; conv => whnf) | (refine BoxB.own ?_; conv => whnf)))
    all_goals first
      | (exfalso; omega)
      | (exfalso; simp_all; done)
      | skip
    refine awp_for tab_ok (fun k => ([S.junk, intS .i64 i, S.junk, S.junk, S.c (C.ptr 0 0 0), S.c (C.ptr 1 0 0), S.c (C.ptr 2 0 0), S.junk, S.junk, S.junk, S.junk, S.junk, S.junk, S.junk, S.junk, S.junk, S.junk, S.junk, S.junk, S.junk, S.junk, S.junk, S.c (C.t (movesT (e.moves.take i))), intS .i64 i, intS .i64 k, S.junk, S.junk, S.junk, S.junk, S.junk, S.junk, S.junk, S.junk, S.junk, S.junk, S.junk, S.junk, S.junk, S.junk, S.junk, S.junk, S.junk, S.junk, S.junk, S.junk, S.junk, S.junk, S.junk, S.junk, S.junk, S.junk, S.junk, S.junk, S.junk, S.junk, S.junk, S.junk, S.junk, S.junk, S.junk, S.junk, S.junk, S.junk, S.junk, S.junk], [rowZB, moveB24 x, growB 3 (termsTo e x.src k).length (stockRow e i x).kind, termsB (termsTo e x.src k)])) i (fun _ => True) [some 0, some 1, some 2, none] trivial ?_ ?_
    · rw [hK]
      refine ⟨rfl, rfl, ⟨⟨rfl, rfl, rfl, .inr ⟨⟨rfl, rfl, rfl, rfl, rfl, rfl, trivial⟩, trivial⟩⟩, ⟨rfl, rfl, rfl, .inl ⟨rfl, rowsT_mv24 x⟩⟩, ⟨rfl, rfl, rfl, .inr ⟨⟨⟨rfl, rfl, rfl⟩, rfl, rfl, rfl, rfl, rfl, trivial⟩, trivial⟩⟩, ⟨rfl, rfl⟩, trivial⟩, ⟨rfl, ⟨rfl, rfl, rfl⟩, ⟨rfl, rfl, rfl⟩, ⟨rfl, rfl, rfl⟩, ent_t ?_, ent_i ?_, rfl, trivial⟩⟩
      · show T.sl 6 _ (((e.moves.map Move.row).take ((i : Int)).toNat).drop 0) = _
        rw [Int.toNat_natCast, tk]; rfl
      · show ((((e.moves.map Move.row).take ((i : Int)).toNat).drop 0).length : Int) = i
        rw [Int.toNat_natCast, tk, List.drop_zero, mt]
    intro k hk _
    have kl := termsTo_len (e := e) (p := x.src) k
    by_cases hlt : k < i
    · obtain ⟨y, hy⟩ : ∃ y, e.moves[k]? = some y := ⟨_, List.getElem?_eq_getElem (by omega)⟩
      have hyt : (e.moves.take i)[k]? = some y := by rw [List.getElem?_take, if_pos hlt]; exact hy
      by_cases c1 : y.dst = x.src
      · have et : termsTo e x.src (k + 1) = termsTo e x.src k ++ [((k : Int), ((1 : Int) : Rat))] := by rw [termsTo_succ hy, if_pos c1]
        conv => whnf
        (repeat' (first | ((refine DecB.mk (fun h => ?_) (fun h => ?_)) <;> first | (exfalso; omega) | (conv => whnf)) | ((refine BoolB.mk (fun h => ?_) (fun h => ?_)) <;> first | (exact absurd h (by decide)) | (conv => whnf)) | (refine ⟨_, wrap_ok (by omega) (by omega), ?_⟩; conv => whnf) | (refine and_idx (by omega) (by omega) ?_; conv => whnf) | (refine reg_ok (by decide +kernel) ?_; conv => whnf) | (refine bar_ok (by decide +kernel) (by decide +kernel) ?_; conv => whnf) | (refine late_ok rfl rfl ?_; conv => whnf) | (refine src_ok rfl ?_; conv => whnf) | (refine .inl ⟨_, _, qcall_pure (i1) rfl rfl, ?_⟩; conv => whnf) | (refine .inl ⟨_, _, qcall_pure (toC) rfl rfl, ?_⟩; conv => whnf) | (refine .inl ⟨_, _, qcall_pure (toC) rfl rfl, ?_⟩; conv => whnf) | (refine ex_row hyt ?_; conv => whnf) | (refine app_ok (by simp [toC]) (by simp [toC]; omega) ?_; conv => whnf) | (refine LitB.data ?_; conv => whnf) | (refine BoxB.own ?_; conv => whnf)))
        all_goals try (exfalso; omega)
        refine ⟨hlt, trivial, [some 0, some 1, some 2, some 5], rfl, rfl, ⟨⟨rfl, rfl, rfl, .inr ⟨⟨rfl, rfl, rfl, rfl, rfl, rfl, trivial⟩, trivial⟩⟩, ⟨rfl, rfl, rfl, .inl ⟨rfl, rowsT_mv24 x⟩⟩, ⟨rfl, rfl, rfl, .inr ⟨⟨⟨rfl, rfl, ?_, fun h => h⟩, rfl, rfl, rfl, rfl, rfl, trivial⟩, trivial⟩⟩, entB_rows rfl rfl rfl ?_ rfl, trivial⟩, ⟨rfl, ⟨rfl, rfl, rfl⟩, ⟨rfl, rfl, rfl⟩, ⟨rfl, rfl, rfl⟩, rfl, rfl, rfl, trivial⟩⟩
        · rw [et, List.length_append]; rfl
        · rw [et]
          show List.take (termsTo e x.src k).length (toC ((termsTo e x.src k).map termRow)) ++ toC [termRow ((k : Int), ((1 : Int) : Rat))] = _
          exact ext_terms rfl
      · by_cases c2 : y.src = x.src
        · have et : termsTo e x.src (k + 1) = termsTo e x.src k ++ [((k : Int), ((-1 : Int) : Rat))] := by rw [termsTo_succ hy, if_neg c1, if_pos c2]
          conv => whnf
          (repeat' (first | ((refine DecB.mk (fun h => ?_) (fun h => ?_)) <;> first | (exfalso; omega) | (conv => whnf)) | ((refine BoolB.mk (fun h => ?_) (fun h => ?_)) <;> first | (exact absurd h (by decide)) | (conv => whnf)) | (refine ⟨_, wrap_ok (by omega) (by omega), ?_⟩; conv => whnf) | (refine and_idx (by omega) (by omega) ?_; conv => whnf) | (refine reg_ok (by decide +kernel) ?_; conv => whnf) | (refine bar_ok (by decide +kernel) (by decide +kernel) ?_; conv => whnf) | (refine late_ok rfl rfl ?_; conv => whnf) | (refine src_ok rfl ?_; conv => whnf) | (refine .inl ⟨_, _, qcall_pure (im) rfl rfl, ?_⟩; conv => whnf) | (refine .inl ⟨_, _, qcall_pure (toC) rfl rfl, ?_⟩; conv => whnf) | (refine .inl ⟨_, _, qcall_pure (toC) rfl rfl, ?_⟩; conv => whnf) | (refine ex_row hyt ?_; conv => whnf) | (refine app_ok (by simp [toC]) (by simp [toC]; omega) ?_; conv => whnf) | (refine LitB.data ?_; conv => whnf) | (refine BoxB.own ?_; conv => whnf)))
          all_goals try (exfalso; omega)
          refine ⟨hlt, trivial, [some 0, some 1, some 2, some 5], rfl, rfl, ⟨⟨rfl, rfl, rfl, .inr ⟨⟨rfl, rfl, rfl, rfl, rfl, rfl, trivial⟩, trivial⟩⟩, ⟨rfl, rfl, rfl, .inl ⟨rfl, rowsT_mv24 x⟩⟩, ⟨rfl, rfl, rfl, .inr ⟨⟨⟨rfl, rfl, ?_, fun h => h⟩, rfl, rfl, rfl, rfl, rfl, trivial⟩, trivial⟩⟩, entB_rows rfl rfl rfl ?_ rfl, trivial⟩, ⟨rfl, ⟨rfl, rfl, rfl⟩, ⟨rfl, rfl, rfl⟩, ⟨rfl, rfl, rfl⟩, rfl, rfl, rfl, trivial⟩⟩
          · rw [et, List.length_append]; rfl
          · rw [et]
            show List.take (termsTo e x.src k).length (toC ((termsTo e x.src k).map termRow)) ++ toC [termRow ((k : Int), ((-1 : Int) : Rat))] = _
            exact ext_terms rfl
        · have et : termsTo e x.src (k + 1) = termsTo e x.src k := by rw [termsTo_succ hy, if_neg c1, if_neg c2]
          conv => whnf
          (repeat' (first | ((refine DecB.mk (fun h => ?_) (fun h => ?_)) <;> first | (exfalso; omega) | (conv => whnf)) | ((refine BoolB.mk (fun h => ?_) (fun h => ?_)) <;> first | (exact absurd h (by decide)) | (conv => whnf)) | (refine ⟨_, wrap_ok (by omega) (by omega), ?_⟩; conv => whnf) | (refine and_idx (by omega) (by omega) ?_; conv => whnf) | (refine reg_ok (by decide +kernel) ?_; conv => whnf) | (refine bar_ok (by decide +kernel) (by decide +kernel) ?_; conv => whnf) | (refine late_ok rfl rfl ?_; conv => whnf) | (refine src_ok rfl ?_; conv => whnf) | (refine ex_row hyt ?_; conv => whnf) | (refine LitB.data ?_; conv => whnf) | (refine BoxB.own ?_; conv => whnf)))
          all_goals try (exfalso; omega)
          refine ⟨hlt, trivial, [some 0, some 1, some 2, some 3], rfl, rfl, ⟨⟨rfl, rfl, rfl, .inr ⟨⟨rfl, rfl, rfl, rfl, rfl, rfl, trivial⟩, trivial⟩⟩, ⟨rfl, rfl, rfl, .inl ⟨rfl, rowsT_mv24 x⟩⟩, ⟨rfl, rfl, rfl, .inr ⟨⟨⟨rfl, rfl, ?_, fun h => h⟩, rfl, rfl, rfl, rfl, rfl, trivial⟩, trivial⟩⟩, entB_rows rfl rfl rfl ?_ rfl, trivial⟩, ⟨rfl, ⟨rfl, rfl, rfl⟩, ⟨rfl, rfl, rfl⟩, ⟨rfl, rfl, rfl⟩, rfl, rfl, rfl, trivial⟩⟩
          · rw [et]
          · rw [et]
    · have hke : k = i := by omega
      subst hke
      conv => whnf
      (repeat' (first | ((refine DecB.mk (fun h => ?_) (fun h => ?_)) <;> first | (exfalso; omega) | (conv => whnf)) | ((refine BoolB.mk (fun h => ?_) (fun h => ?_)) <;> first | (exact absurd h (by decide)) | (conv => whnf)) | (refine ⟨_, wrap_ok (by omega) (by omega), ?_⟩; conv => whnf) | (refine and_idx (by omega) (by omega) ?_; conv => whnf) | (refine reg_ok (by decide +kernel) ?_; conv => whnf) | (refine bar_ok (by decide +kernel) (by decide +kernel) ?_; conv => whnf) | (refine late_ok rfl rfl ?_; conv => whnf) | (refine src_ok rfl ?_; conv => whnf) | (refine .inl ⟨_, _, qcall_pure (im) rfl rfl, ?_⟩; conv => whnf) | (refine .inl ⟨_, _, qcall_pure (toC) rfl rfl, ?_⟩; conv => whnf) | (refine .inl ⟨_, _, qcall_pure (toC) rfl rfl, ?_⟩; conv => whnf) | (refine app_ok (by simp [toC]) (by simp [toC]; omega) ?_; conv => whnf) | (refine LitB.data ?_; conv => whnf) | (refine BoxB.own ?_; conv => whnf)))
      all_goals try (exfalso; omega)
      refine fin_t ⟨show VC _ (fun id => notIn [] id = true) _ _ from vc_all rfl rfl (by intro h; cases h) rfl (rows := (termsTo e x.src k ++ [((k : Int), ((-1 : Int) : Rat))]).map termRow) ?_ ?_, rfl, rfl, rfl, rfl, rfl, trivial⟩
      · show List.take (termsTo e x.src k).length (toC ((termsTo e x.src k).map termRow)) ++ toC [termRow ((k : Int), ((-1 : Int) : Rat))] = _
        exact ext_terms rfl
      · rw [List.length_map, List.length_append]; rfl
end Go.Proofs.Ytomfnfbijgjfeaa
/- linear: RightTerms, Right, point, value, Holds; what is equal, what is short. -/
namespace Go.Proofs.Ytomfnfbijgjfeaa
open Go.RowKit
set_option linter.unusedVariables false
set_option linter.unusedSimpArgs false
set_option maxRecDepth 100000

abbrev termsS (l : List (Int × Rat)) : S := .c (.t (termsT l))
def lastT (l : List (Int × Rat)) : Nat → Int
  | 0 => -1
  | k + 1 => ((l[k]?).map (·.1)).getD 0
theorem lastT_succ {l : List (Int × Rat)} {k : Nat} {t : Int × Rat} (h : l[k]? = some t) : lastT l (k + 1) = t.1 := by simp [lastT, h]
theorem a_RightTerms (l : List (Int × Rat)) (n : Int) (hl : l.length ≤ 1000000) (hB : ∀ t ∈ l, rl t.2 ≤ 200) : ACall Try.prog 62 [termsS l, intS .i64 n] [] (boolS (decide (0 ≤ n) && rightT (-1) n l)) [] := by
  have m1 : (l.map termRow).length = l.length := by simp
  by_cases h0 : n < 0
  · rw [decide_eq_false (by omega), Bool.false_and]
    (refine acall_of tab_ok Try.func62 rfl (by decide) ?_; (conv => whnf); repeat (first | (refine LitB.data ?_; conv => whnf) | (refine BoxB.data ?_; conv => whnf)))
    (repeat' (first | ((refine DecB.mk (fun h => ?_) (fun h => ?_)) <;> first | (exfalso; omega) | (conv => whnf)) | ((refine BoolB.mk (fun h => ?_) (fun h => ?_)) <;> first | (exact absurd h (by decide)) | (conv => whnf)) | (refine ⟨_, wrap_ok (by omega) (by omega), ?_⟩; conv => whnf) | (refine and_idx (by omega) (by omega) ?_; conv => whnf) | (refine reg_ok (by decide +kernel) ?_; conv => whnf) | (refine bar_ok (by decide +kernel) (by decide +kernel) ?_; conv => whnf) | (refine late_ok rfl rfl ?_; conv => whnf) | (refine src_ok rfl ?_; conv => whnf) | (refine LitB.data ?_; conv => whnf) | (refine BoxB.own ?_; conv => whnf)))
    all_goals first
      | (exfalso; omega)
      | exact fin_bool rfl
  rw [decide_eq_true (by omega), Bool.true_and]
  (refine acall_of tab_ok Try.func62 rfl (by decide) ?_; (conv => whnf); repeat (first | (refine LitB.data ?_; conv => whnf) | (refine BoxB.data ?_; conv => whnf)))
  (repeat' (first | ((refine DecB.mk (fun h => ?_) (fun h => ?_)) <;> first | (exfalso; omega) | (conv => whnf)) | ((refine BoolB.mk (fun h => ?_) (fun h => ?_)) <;> first | (exact absurd h (by decide)) | (conv => whnf)) | (refine ⟨_, wrap_ok (by omega) (by omega), ?_⟩; conv => whnf) | (refine and_idx (by omega) (by omega) ?_; conv => whnf) | (refine reg_ok (by decide +kernel) ?_; conv => whnf) | (refine bar_ok (by decide +kernel) (by decide +kernel) ?_; conv => whnf) | (refine late_ok rfl rfl ?_; conv => whnf) | (refine src_ok rfl ?_; conv => whnf) | (refine LitB.data ?_; conv => whnf) | (refine BoxB.own ?_; conv => whnf)))
  all_goals try (exfalso; omega)
  refine awp_for tab_ok (fun k => ([S.junk, intS .i64 n, S.junk, S.junk, S.junk, intS .i64 (lastT l k), S.junk, S.junk, S.junk, S.junk, termsS l, intS .i64 l.length, intS .i64 k, S.junk, S.junk, S.junk, S.junk, S.junk, S.junk, S.junk, S.junk, S.junk, S.junk, S.junk, S.junk, S.junk, S.junk, S.junk, S.junk, S.junk, S.junk, S.junk, S.junk, S.junk, S.junk], [])) l.length (fun k => rightT (-1) n l = rightT (lastT l k) n (l.drop k)) [] rfl
    ⟨rfl, rfl, trivial, ⟨rfl, rfl, rfl, ent_i (by simp), rfl, trivial⟩⟩ ?_
  intro k hk hI
  by_cases hlt : k < l.length
  · obtain ⟨t, ht⟩ : ∃ t, l[k]? = some t := ⟨_, List.getElem?_eq_getElem hlt⟩
    obtain ⟨v, c⟩ := t
    have bc := hB _ (List.mem_of_getElem? ht)
    simp only at bc
    have sg := z_fSign c (by omega)
    have sz := sgR_zero (x := c)
    rw [drop_get ht, rightT] at hI
    simp only at hI
    by_cases hok : lastT l k < v ∧ v < n ∧ c ≠ 0
    · rw [decide_eq_true hok.1, decide_eq_true hok.2.1, decide_eq_true hok.2.2] at hI
      simp only [Bool.true_and] at hI
      have hne : sgR c ≠ 0 := fun h => hok.2.2 (sz.1 h)
      obtain ⟨q1, q2, _⟩ := hok
      conv => whnf
      (repeat' (first | ((refine DecB.mk (fun h => ?_) (fun h => ?_)) <;> first | (exfalso; omega) | (conv => whnf)) | ((refine BoolB.mk (fun h => ?_) (fun h => ?_)) <;> first | (exact absurd h (by decide)) | (conv => whnf)) | (refine ⟨_, wrap_ok (by omega) (by omega), ?_⟩; conv => whnf) | (refine and_idx (by omega) (by omega) ?_; conv => whnf) | (refine reg_ok (by decide +kernel) ?_; conv => whnf) | (refine bar_ok (by decide +kernel) (by decide +kernel) ?_; conv => whnf) | (refine late_ok rfl rfl ?_; conv => whnf) | (refine src_ok rfl ?_; conv => whnf) | (refine .inl ⟨_, _, qcall_pure (sg) rfl rfl, ?_⟩; conv => whnf) | (refine ex_row ht ?_; conv => whnf) | (refine LitB.data ?_; conv => whnf) | (refine BoxB.own ?_; conv => whnf)))
      all_goals first
        | (exfalso; omega)
        | exact ⟨hlt, by rw [lastT_succ ht]; exact hI, [], rfl, rfl, trivial, ⟨rfl, ent_i (by rw [lastT_succ ht]), rfl, rfl, rfl, trivial⟩⟩
    · have hF : rightT (-1) n l = false := by
        rw [hI]
        rw [← Bool.not_eq_true]
        simp only [Bool.and_eq_true, decide_eq_true_eq]
        exact fun h => hok ⟨h.1.1.1, h.1.1.2, h.1.2⟩
      rw [hF]
      have hor : v ≤ lastT l k ∨ n ≤ v ∨ sgR c = 0 := by
        by_cases q1 : lastT l k < v
        · by_cases q2 : v < n
          · refine .inr (.inr (sz.2 ?_))
            by_cases q3 : c = 0
            · exact q3
            · exact absurd ⟨q1, q2, q3⟩ hok
          · exact .inr (.inl (by omega))
        · exact .inl (by omega)
      clear hI hok
      conv => whnf
      (repeat' (first | ((refine DecB.mk (fun h => ?_) (fun h => ?_)) <;> first | (exfalso; omega) | (conv => whnf)) | ((refine BoolB.mk (fun h => ?_) (fun h => ?_)) <;> first | (exact absurd h (by decide)) | (conv => whnf)) | (refine ⟨_, wrap_ok (by omega) (by omega), ?_⟩; conv => whnf) | (refine and_idx (by omega) (by omega) ?_; conv => whnf) | (refine reg_ok (by decide +kernel) ?_; conv => whnf) | (refine bar_ok (by decide +kernel) (by decide +kernel) ?_; conv => whnf) | (refine late_ok rfl rfl ?_; conv => whnf) | (refine src_ok rfl ?_; conv => whnf) | (refine .inl ⟨_, _, qcall_pure (sg) rfl rfl, ?_⟩; conv => whnf) | (refine ex_row ht ?_; conv => whnf) | (refine LitB.data ?_; conv => whnf) | (refine BoxB.own ?_; conv => whnf)))
      all_goals first
        | (exfalso; omega)
        | exact fin_bool rfl
  · rw [List.drop_of_length_le (by omega)] at hI
    have hI : rightT (-1) n l = true := hI
    rw [hI]
    conv => whnf
    (repeat' (first | ((refine DecB.mk (fun h => ?_) (fun h => ?_)) <;> first | (exfalso; omega) | (conv => whnf)) | ((refine BoolB.mk (fun h => ?_) (fun h => ?_)) <;> first | (exact absurd h (by decide)) | (conv => whnf)) | (refine ⟨_, wrap_ok (by omega) (by omega), ?_⟩; conv => whnf) | (refine and_idx (by omega) (by omega) ?_; conv => whnf) | (refine reg_ok (by decide +kernel) ?_; conv => whnf) | (refine bar_ok (by decide +kernel) (by decide +kernel) ?_; conv => whnf) | (refine late_ok rfl rfl ?_; conv => whnf) | (refine src_ok rfl ?_; conv => whnf) | (refine LitB.data ?_; conv => whnf) | (refine BoxB.own ?_; conv => whnf)))
    all_goals first
      | (exfalso; omega)
      | exact fin_bool rfl
structure SysB (s : SysP) : Prop where
  n0 : s.rows.length ≤ 1000000
  t : ∀ w ∈ s.rows, w.terms.length ≤ 100 ∧ (∀ t ∈ w.terms, rl t.2 ≤ 200) ∧ rl w.value ≤ 200
theorem a_LRight (s : SysP) (hb : SysB s) : ACall Try.prog 25 [sysS s] [] (boolS (rightSys s)) [] := by
  have m1 : (s.rows.map rowRow).length = s.rows.length := by simp
  have l1 := hb.n0
  by_cases h0 : ¬ (0 ≤ s.n ∧ s.n ≤ 1500 ∧ s.rows.length ≤ 6000)
  · have e1 : rightSys s = false := by
      unfold rightSys
      rw [← Bool.not_eq_true]
      simp only [Bool.and_eq_true, decide_eq_true_eq]
      exact fun h => h0 ⟨h.1.1.1, h.1.1.2, h.1.2⟩
    rw [e1]
    (refine acall_of tab_ok Try.func25 rfl (by decide) ?_; (conv => whnf); repeat (first | (refine LitB.data ?_; conv => whnf) | (refine BoxB.data ?_; conv => whnf)))
    (repeat' (first | ((refine DecB.mk (fun h => ?_) (fun h => ?_)) <;> first | (exfalso; omega) | (conv => whnf)) | ((refine BoolB.mk (fun h => ?_) (fun h => ?_)) <;> first | (exact absurd h (by decide)) | (conv => whnf)) | (refine ⟨_, wrap_ok (by omega) (by omega), ?_⟩; conv => whnf) | (refine and_idx (by omega) (by omega) ?_; conv => whnf) | (refine reg_ok (by decide +kernel) ?_; conv => whnf) | (refine bar_ok (by decide +kernel) (by decide +kernel) ?_; conv => whnf) | (refine late_ok rfl rfl ?_; conv => whnf) | (refine src_ok rfl ?_; conv => whnf) | (refine LitB.data ?_; conv => whnf) | (refine BoxB.own ?_; conv => whnf)))
    all_goals first
      | (exfalso; omega)
      | exact fin_bool rfl
  obtain ⟨c1, c2, c3⟩ := Decidable.not_not.1 h0
  have e1 : rightSys s = s.rows.all (rightRow s.n) := by
    unfold rightSys
    rw [decide_eq_true c1, decide_eq_true c2, decide_eq_true c3]; rfl
  rw [e1]
  clear h0
  (refine acall_of tab_ok Try.func25 rfl (by decide) ?_; (conv => whnf); repeat (first | (refine LitB.data ?_; conv => whnf) | (refine BoxB.data ?_; conv => whnf)))
  (repeat' (first | ((refine DecB.mk (fun h => ?_) (fun h => ?_)) <;> first | (exfalso; omega) | (conv => whnf)) | ((refine BoolB.mk (fun h => ?_) (fun h => ?_)) <;> first | (exact absurd h (by decide)) | (conv => whnf)) | (refine ⟨_, wrap_ok (by omega) (by omega), ?_⟩; conv => whnf) | (refine and_idx (by omega) (by omega) ?_; conv => whnf) | (refine reg_ok (by decide +kernel) ?_; conv => whnf) | (refine bar_ok (by decide +kernel) (by decide +kernel) ?_; conv => whnf) | (refine late_ok rfl rfl ?_; conv => whnf) | (refine src_ok rfl ?_; conv => whnf) | (refine LitB.data ?_; conv => whnf) | (refine BoxB.own ?_; conv => whnf)))
  all_goals try (exfalso; omega)
  refine awp_for tab_ok (fun k => ([S.junk, S.c (C.t (T.ptr [ti s.n, rowsTT s.rows])), S.junk, S.junk, S.junk, S.junk, S.junk, S.junk, S.junk, S.junk, S.junk, S.junk, S.junk, S.junk, S.junk, S.junk, S.junk, S.junk, S.junk, S.junk, S.c (C.t (rowsTT s.rows)), intS .i64 s.rows.length, intS .i64 k, S.junk, S.junk, S.junk, S.junk, S.junk, S.junk, S.junk, S.junk, S.junk, S.junk, S.junk, S.junk, S.junk, S.junk, S.junk, S.junk, S.junk, S.junk, S.junk, S.junk, S.junk, S.junk, S.junk, S.junk, S.junk, S.junk], [])) s.rows.length (fun k => (s.rows.take k).all (rightRow s.n) = true) [] rfl
    ⟨rfl, rfl, trivial, ⟨rfl, rfl, ent_i (by simp), rfl, trivial⟩⟩ ?_
  intro k hk hI
  by_cases hlt : k < s.rows.length
  · obtain ⟨w, hw⟩ : ∃ w, s.rows[k]? = some w := ⟨_, List.getElem?_eq_getElem hlt⟩
    obtain ⟨b1, b2, b3⟩ := hb.t w (List.mem_of_getElem? hw)
    have rt := a_RightTerms w.terms s.n (by omega) b2
    rw [decide_eq_true c1, Bool.true_and] at rt
    have rv := z_fRight w.value (by omega)
    cases hrt : rightT (-1) s.n w.terms with
    | false =>
      rw [hrt] at rt
      have hF : rightRow s.n w = false := by unfold rightRow; rw [hrt]; rfl
      rw [all_of_get hw hF]
      conv => whnf
      (repeat' (first | ((refine DecB.mk (fun h => ?_) (fun h => ?_)) <;> first | (exfalso; omega) | (conv => whnf)) | ((refine BoolB.mk (fun h => ?_) (fun h => ?_)) <;> first | (exact absurd h (by decide)) | (conv => whnf)) | (refine ⟨_, wrap_ok (by omega) (by omega), ?_⟩; conv => whnf) | (refine and_idx (by omega) (by omega) ?_; conv => whnf) | (refine reg_ok (by decide +kernel) ?_; conv => whnf) | (refine bar_ok (by decide +kernel) (by decide +kernel) ?_; conv => whnf) | (refine late_ok rfl rfl ?_; conv => whnf) | (refine src_ok rfl ?_; conv => whnf) | (refine .inl ⟨_, _, qcall_pure (rt) rfl rfl, ?_⟩; conv => whnf) | (refine .inl ⟨_, _, qcall_pure (rv) rfl rfl, ?_⟩; conv => whnf) | (refine ex_row hw ?_; conv => whnf) | (refine LitB.data ?_; conv => whnf) | (refine BoxB.own ?_; conv => whnf)))
      all_goals first
        | (exfalso; omega)
        | (exfalso; simp_all; done)
        | exact fin_bool rfl
    | true =>
      rw [hrt] at rt
      by_cases hk3 : 0 ≤ w.kind ∧ w.kind < 3
      · have hT : rightRow s.n w = true := by unfold rightRow; rw [hrt, decide_eq_true hk3.1, decide_eq_true hk3.2]; rfl
        conv => whnf
        (repeat' (first | ((refine DecB.mk (fun h => ?_) (fun h => ?_)) <;> first | (exfalso; omega) | (conv => whnf)) | ((refine BoolB.mk (fun h => ?_) (fun h => ?_)) <;> first | (exact absurd h (by decide)) | (conv => whnf)) | (refine ⟨_, wrap_ok (by omega) (by omega), ?_⟩; conv => whnf) | (refine and_idx (by omega) (by omega) ?_; conv => whnf) | (refine reg_ok (by decide +kernel) ?_; conv => whnf) | (refine bar_ok (by decide +kernel) (by decide +kernel) ?_; conv => whnf) | (refine late_ok rfl rfl ?_; conv => whnf) | (refine src_ok rfl ?_; conv => whnf) | (refine .inl ⟨_, _, qcall_pure (rt) rfl rfl, ?_⟩; conv => whnf) | (refine .inl ⟨_, _, qcall_pure (rv) rfl rfl, ?_⟩; conv => whnf) | (refine ex_row hw ?_; conv => whnf) | (refine LitB.data ?_; conv => whnf) | (refine BoxB.own ?_; conv => whnf)))
        all_goals first
          | (exfalso; omega)
          | (exfalso; simp_all; done)
          | exact ⟨hlt, by rw [all_take_succ hw, hI, hT]; rfl, [], rfl, rfl, trivial, ⟨rfl, rfl, rfl, rfl, trivial⟩⟩
      · have hF : rightRow s.n w = false := by
          unfold rightRow
          rw [← Bool.not_eq_true]
          simp only [Bool.and_eq_true, decide_eq_true_eq]
          exact fun h => hk3 ⟨h.1.2, h.2⟩
        rw [all_of_get hw hF]
        conv => whnf
        (repeat' (first | ((refine DecB.mk (fun h => ?_) (fun h => ?_)) <;> first | (exfalso; omega) | (conv => whnf)) | ((refine BoolB.mk (fun h => ?_) (fun h => ?_)) <;> first | (exact absurd h (by decide)) | (conv => whnf)) | (refine ⟨_, wrap_ok (by omega) (by omega), ?_⟩; conv => whnf) | (refine and_idx (by omega) (by omega) ?_; conv => whnf) | (refine reg_ok (by decide +kernel) ?_; conv => whnf) | (refine bar_ok (by decide +kernel) (by decide +kernel) ?_; conv => whnf) | (refine late_ok rfl rfl ?_; conv => whnf) | (refine src_ok rfl ?_; conv => whnf) | (refine .inl ⟨_, _, qcall_pure (rt) rfl rfl, ?_⟩; conv => whnf) | (refine .inl ⟨_, _, qcall_pure (rv) rfl rfl, ?_⟩; conv => whnf) | (refine ex_row hw ?_; conv => whnf) | (refine LitB.data ?_; conv => whnf) | (refine BoxB.own ?_; conv => whnf)))
        all_goals first
          | (exfalso; omega)
          | (exfalso; simp_all; done)
          | exact fin_bool rfl
  · rw [List.take_of_length_le (by omega)] at hI
    rw [hI]
    conv => whnf
    (repeat' (first | ((refine DecB.mk (fun h => ?_) (fun h => ?_)) <;> first | (exfalso; omega) | (conv => whnf)) | ((refine BoolB.mk (fun h => ?_) (fun h => ?_)) <;> first | (exact absurd h (by decide)) | (conv => whnf)) | (refine ⟨_, wrap_ok (by omega) (by omega), ?_⟩; conv => whnf) | (refine and_idx (by omega) (by omega) ?_; conv => whnf) | (refine reg_ok (by decide +kernel) ?_; conv => whnf) | (refine bar_ok (by decide +kernel) (by decide +kernel) ?_; conv => whnf) | (refine late_ok rfl rfl ?_; conv => whnf) | (refine src_ok rfl ?_; conv => whnf) | (refine LitB.data ?_; conv => whnf) | (refine BoxB.own ?_; conv => whnf)))
    all_goals first
      | (exfalso; omega)
      | exact fin_bool rfl
theorem a_IndexFr (rs : List Fr) (hl : rs.length ≤ 1000000) (g : FuncId) (caps : List T) (q : Fr → Bool) (hg : ∀ r ∈ rs, ACall Try.prog g (frS r :: caps.map fun x => .c (.t x)) [] (boolS (q r)) []) :
    ACall Try.prog 121 [.c (.t (fracsT rs)), .c (.t (.fn (.func g) caps))] [] (intS .i64 (indexI q rs 0)) [] := by
  have l1 : (rs.map frRow).length = rs.length := by simp
  (refine acall_of tab_ok Try.func121 rfl (by decide) ?_; (conv => whnf); repeat (first | (refine LitB.data ?_; conv => whnf) | (refine BoxB.own ?_; conv => whnf)))
  (repeat' (first | ((refine DecB.mk (fun h => ?_) (fun h => ?_)) <;> first | (exfalso; omega) | (conv => whnf)) | ((refine BoolB.mk (fun h => ?_) (fun h => ?_)) <;> first | (exact absurd h (by decide)) | (conv => whnf)) | (refine ⟨_, wrap_ok (by omega) (by omega), ?_⟩; conv => whnf) | (refine and_idx (by omega) (by omega) ?_; conv => whnf) | (refine reg_ok (by decide +kernel) ?_; conv => whnf) | (refine bar_ok (by decide +kernel) (by decide +kernel) ?_; conv => whnf) | (refine late_ok rfl rfl ?_; conv => whnf) | (refine src_ok rfl ?_; conv => whnf) | (refine LitB.data ?_; conv => whnf) | (refine BoxB.own ?_; conv => whnf)))
  refine awp_for tab_ok (fun k => ([S.c (C.t (fracsT rs)), S.c (C.t (T.fn (.func g) caps)), S.junk, S.junk, S.junk, S.junk, S.junk, intS .i64 rs.length, intS .i64 k, S.junk, S.junk, S.junk, S.junk, S.junk, S.junk, S.junk, S.junk, S.junk, S.junk], [])) rs.length (fun k => indexI q (rs.drop k) k = indexI q rs 0) [] rfl
    ⟨rfl, rfl, trivial, ⟨ent_t rfl, ent_t rfl, ent_i (by simp), rfl, trivial⟩⟩ ?_
  intro k hk hI
  by_cases hlt : k < rs.length
  · obtain ⟨r, hr⟩ : ∃ r, rs[k]? = some r := ⟨_, List.getElem?_eq_getElem hlt⟩
    have hd : rs.drop k = r :: rs.drop (k + 1) := by
      rw [List.drop_eq_getElem_cons hlt]
      rw [List.getElem?_eq_getElem hlt] at hr
      injection hr with hr
      rw [hr]
    have hgr := hg r (List.mem_of_getElem? hr)
    have ha : (frS r :: caps.map fun x => S.c (C.t x)).all S.isT = true := by simp [S.isT, C.isT, frRow]
    rw [hd] at hI
    have hI : (if q r then (k : Int) else indexI q (rs.drop (k + 1)) (k + 1)) = indexI q rs 0 := hI
    cases hq : q r with
    | true =>
      rw [hq] at hgr hI
      conv => whnf
      (repeat' (first | ((refine DecB.mk (fun h => ?_) (fun h => ?_)) <;> first | (exfalso; omega) | (conv => whnf)) | ((refine BoolB.mk (fun h => ?_) (fun h => ?_)) <;> first | (exact absurd h (by decide)) | (conv => whnf)) | (refine ⟨_, wrap_ok (by omega) (by omega), ?_⟩; conv => whnf) | (refine and_idx (by omega) (by omega) ?_; conv => whnf) | (refine reg_ok (by decide +kernel) ?_; conv => whnf) | (refine bar_ok (by decide +kernel) (by decide +kernel) ?_; conv => whnf) | (refine late_ok rfl rfl ?_; conv => whnf) | (refine src_ok rfl ?_; conv => whnf) | (refine .inl ⟨_, _, qcall_pure hgr ha rfl, ?_⟩; conv => whnf) | (refine ex_row hr ?_; conv => whnf) | (refine LitB.data ?_; conv => whnf) | (refine BoxB.own ?_; conv => whnf)))
      all_goals first
        | (exfalso; omega)
        | exact fin_int hI
    | false =>
      rw [hq] at hgr hI
      conv => whnf
      (repeat' (first | ((refine DecB.mk (fun h => ?_) (fun h => ?_)) <;> first | (exfalso; omega) | (conv => whnf)) | ((refine BoolB.mk (fun h => ?_) (fun h => ?_)) <;> first | (exact absurd h (by decide)) | (conv => whnf)) | (refine ⟨_, wrap_ok (by omega) (by omega), ?_⟩; conv => whnf) | (refine and_idx (by omega) (by omega) ?_; conv => whnf) | (refine reg_ok (by decide +kernel) ?_; conv => whnf) | (refine bar_ok (by decide +kernel) (by decide +kernel) ?_; conv => whnf) | (refine late_ok rfl rfl ?_; conv => whnf) | (refine src_ok rfl ?_; conv => whnf) | (refine .inl ⟨_, _, qcall_pure hgr ha rfl, ?_⟩; conv => whnf) | (refine ex_row hr ?_; conv => whnf) | (refine LitB.data ?_; conv => whnf) | (refine BoxB.own ?_; conv => whnf)))
      all_goals first
        | (exfalso; omega)
        | exact ⟨hlt, by simpa using hI, [], rfl, rfl, trivial, ⟨rfl, rfl, rfl, rfl, trivial⟩⟩
  · have hke : k = rs.length := by omega
    subst hke
    rw [List.drop_of_length_le (Nat.le_refl _)] at hI
    conv => whnf
    (repeat' (first | ((refine DecB.mk (fun h => ?_) (fun h => ?_)) <;> first | (exfalso; omega) | (conv => whnf)) | ((refine BoolB.mk (fun h => ?_) (fun h => ?_)) <;> first | (exact absurd h (by decide)) | (conv => whnf)) | (refine ⟨_, wrap_ok (by omega) (by omega), ?_⟩; conv => whnf) | (refine and_idx (by omega) (by omega) ?_; conv => whnf) | (refine reg_ok (by decide +kernel) ?_; conv => whnf) | (refine bar_ok (by decide +kernel) (by decide +kernel) ?_; conv => whnf) | (refine late_ok rfl rfl ?_; conv => whnf) | (refine src_ok rfl ?_; conv => whnf) | (refine LitB.data ?_; conv => whnf) | (refine BoxB.own ?_; conv => whnf)))
    all_goals first
      | (exfalso; omega)
      | exact fin_int hI
theorem a_ContainsFr (rs : List Fr) (hl : rs.length ≤ 1000000) (g : FuncId) (caps : List T) (q : Fr → Bool) (hg : ∀ r ∈ rs, ACall Try.prog g (frS r :: caps.map fun x => .c (.t x)) [] (boolS (q r)) []) :
    ACall Try.prog 101 [.c (.t (fracsT rs)), .c (.t (.fn (.func g) caps))] [] (boolS (rs.any q)) [] := by
  have ix := a_IndexFr rs hl g caps q hg
  (refine acall_of tab_ok Try.func101 rfl (by decide) ?_; (conv => whnf); repeat (first | (refine LitB.data ?_; conv => whnf) | (refine BoxB.own ?_; conv => whnf)))
  (repeat' (first | ((refine DecB.mk (fun h => ?_) (fun h => ?_)) <;> first | (exfalso; omega) | (conv => whnf)) | ((refine BoolB.mk (fun h => ?_) (fun h => ?_)) <;> first | (exact absurd h (by decide)) | (conv => whnf)) | (refine ⟨_, wrap_ok (by omega) (by omega), ?_⟩; conv => whnf) | (refine and_idx (by omega) (by omega) ?_; conv => whnf) | (refine reg_ok (by decide +kernel) ?_; conv => whnf) | (refine bar_ok (by decide +kernel) (by decide +kernel) ?_; conv => whnf) | (refine late_ok rfl rfl ?_; conv => whnf) | (refine src_ok rfl ?_; conv => whnf) | (refine .inl ⟨_, _, qcall_pure (ix) rfl rfl, ?_⟩; conv => whnf) | (refine LitB.data ?_; conv => whnf) | (refine BoxB.own ?_; conv => whnf)))
  all_goals (refine fin_bool ?_; rw [← indexI_any q rs 0]; simp; omega)
theorem a_point1 (f : Fr) (lp : f.p.dl.length ≤ 200000) (lq : f.q.dl.length ≤ 200000) : ACall Try.prog 102 (frS f :: [].map fun x => .c (.t x)) [] (boolS (!rightF f)) [] := by
  have r := a_fRight f lp lq
  (refine acall_of tab_ok Try.func102 rfl (by decide) ?_; (conv => whnf); repeat (first | (refine LitB.data ?_; conv => whnf) | (refine BoxB.data ?_; conv => whnf)))
  (repeat' (first | ((refine DecB.mk (fun h => ?_) (fun h => ?_)) <;> first | (exfalso; omega) | (conv => whnf)) | ((refine BoolB.mk (fun h => ?_) (fun h => ?_)) <;> first | (exact absurd h (by decide)) | (conv => whnf)) | (refine ⟨_, wrap_ok (by omega) (by omega), ?_⟩; conv => whnf) | (refine and_idx (by omega) (by omega) ?_; conv => whnf) | (refine reg_ok (by decide +kernel) ?_; conv => whnf) | (refine bar_ok (by decide +kernel) (by decide +kernel) ?_; conv => whnf) | (refine late_ok rfl rfl ?_; conv => whnf) | (refine src_ok rfl ?_; conv => whnf) | (refine .inl ⟨_, _, qcall_pure (r) rfl rfl, ?_⟩; conv => whnf) | (refine LitB.data ?_; conv => whnf) | (refine BoxB.own ?_; conv => whnf)))
  all_goals (refine fin_bool ?_; simp [*])
theorem a_point (z : List Fr) (hl : z.length ≤ 1000000) (hd : ∀ f ∈ z, f.p.dl.length ≤ 200000 ∧ f.q.dl.length ≤ 200000) : ACall Try.prog 63 [fracsS z] [] (boolS (z.all rightF)) [] := by
  have ct := a_ContainsFr z hl 102 [] _ (fun f hf => a_point1 f (hd f hf).1 (hd f hf).2)
  have e : (z.any fun f => !rightF f) = !(z.all rightF) := by rw [List.not_all_eq_any_not]
  rw [e] at ct
  cases hz : z.all rightF <;> rw [hz] at ct <;>
  · (refine acall_of tab_ok Try.func63 rfl (by decide) ?_; (conv => whnf); repeat (first | (refine LitB.data ?_; conv => whnf) | (refine BoxB.data ?_; conv => whnf)))
    (repeat' (first | ((refine DecB.mk (fun h => ?_) (fun h => ?_)) <;> first | (exfalso; omega) | (conv => whnf)) | ((refine BoolB.mk (fun h => ?_) (fun h => ?_)) <;> first | (exact absurd h (by decide)) | (conv => whnf)) | (refine ⟨_, wrap_ok (by omega) (by omega), ?_⟩; conv => whnf) | (refine and_idx (by omega) (by omega) ?_; conv => whnf) | (refine reg_ok (by decide +kernel) ?_; conv => whnf) | (refine bar_ok (by decide +kernel) (by decide +kernel) ?_; conv => whnf) | (refine late_ok rfl rfl ?_; conv => whnf) | (refine src_ok rfl ?_; conv => whnf) | (refine .inl ⟨_, _, qcall_pure (ct) rfl rfl, ?_⟩; conv => whnf) | (refine LitB.data ?_; conv => whnf) | (refine BoxB.own ?_; conv => whnf)))
    all_goals exact fin_bool rfl
theorem rl_valT {l : List (Int × Rat)} {z : List Rat} (h1 : ∀ t ∈ l, rl t.2 ≤ 200) (h2 : ∀ v ∈ z, rl v ≤ 200) : ∀ k, rl (valT (l.take k) z) ≤ k * 402 + 1
  | 0 => by simp [valT]; exact Nat.le_of_eq rl_zero
  | k + 1 => by
    have ih := rl_valT h1 h2 k
    by_cases hk : k < l.length
    · have e : l.take (k + 1) = l.take k ++ [l[k]] := List.take_succ_eq_append_getElem hk
      rw [e, valT_snoc]
      have a1 := h1 l[k] (List.getElem_mem hk)
      have a2 : rl (z.getD l[k].1.toNat 0) ≤ 200 := by
        by_cases hz : l[k].1.toNat < z.length
        · exact h2 _ (List.mem_of_getElem? (getD_some hz))
        · rw [List.getD_eq_getElem?_getD, List.getElem?_eq_none (by omega)]
          show rl ((0 : Int) : Rat) ≤ 200
          rw [rl_zero]; omega
      have a3 := rl_mul l[k].2 (z.getD l[k].1.toNat 0)
      have a4 := rl_add (valT (l.take k) z) (l[k].2 * z.getD l[k].1.toNat 0)
      omega
    · rw [List.take_of_length_le (by omega), ← List.take_of_length_le (show l.length ≤ k by omega)]
      omega
theorem rightT_lt {n : Int} : ∀ {l : List (Int × Rat)} {last : Int}, rightT last n l = true → ∀ t ∈ l, last < t.1 ∧ t.1 < n
  | [], _, _, t, ht => by cases ht
  | u :: r, last, h, t, ht => by
    unfold rightT at h
    simp only [Bool.and_eq_true, decide_eq_true_eq] at h
    rcases List.mem_cons.1 ht with rfl | ht
    · exact ⟨h.1.1.1, h.1.1.2⟩
    · have := rightT_lt h.2 t ht
      omega
theorem a_value (l : List (Int × Rat)) (z : List Rat) (hl : l.length ≤ 100) (h1 : ∀ t ∈ l, rl t.2 ≤ 200) (h2 : ∀ v ∈ z, rl v ≤ 200) (hz : z.length ≤ 1000000) (hr : rightT (-1) z.length l = true) :
    ACall Try.prog 64 [termsS l, fracsS (z.map fz)] [] (frS (fz (valT l z))) [] := by
  have m1 : (l.map termRow).length = l.length := by simp
  have m2 : ((z.map fz).map frRow).length = z.length := by simp
  have i0 := z_fInt 0 (by decide) (by decide)
  (refine acall_of tab_ok Try.func64 rfl (by decide) ?_; (conv => whnf); repeat (first | (refine LitB.data ?_; conv => whnf) | (refine BoxB.data ?_; conv => whnf)))
  (repeat' (first | ((refine DecB.mk (fun h => ?_) (fun h => ?_)) <;> first | (exfalso; omega) | (conv => whnf)) | ((refine BoolB.mk (fun h => ?_) (fun h => ?_)) <;> first | (exact absurd h (by decide)) | (conv => whnf)) | (refine ⟨_, wrap_ok (by omega) (by omega), ?_⟩; conv => whnf) | (refine and_idx (by omega) (by omega) ?_; conv => whnf) | (refine reg_ok (by decide +kernel) ?_; conv => whnf) | (refine bar_ok (by decide +kernel) (by decide +kernel) ?_; conv => whnf) | (refine late_ok rfl rfl ?_; conv => whnf) | (refine src_ok rfl ?_; conv => whnf) | (refine .inl ⟨_, _, qcall_pure (i0) rfl rfl, ?_⟩; conv => whnf) | (refine LitB.data ?_; conv => whnf) | (refine BoxB.own ?_; conv => whnf)))
  refine awp_for tab_ok (fun k => ([S.junk, fracsS (z.map fz), S.junk, S.junk, S.c (C.ptr 0 0 0), S.c (C.ptr 1 0 0), S.junk, S.junk, S.junk, S.junk, S.junk, termsS l, intS .i64 l.length, intS .i64 k, S.junk, S.junk, S.junk, S.junk, S.junk, S.junk, S.junk, S.junk, S.junk, S.junk, S.junk, S.junk, S.junk, S.junk, S.junk, S.junk, S.junk, S.junk, S.junk, S.junk, S.junk, S.junk], [frB zeroF, frB (fz (valT (l.take k) z))])) l.length (fun _ => True) [some 0, some 1] trivial
    ⟨rfl, rfl, ⟨⟨rfl, rfl, rfl, .inr ⟨⟨rfl, rfl, rfl, rfl, trivial⟩, trivial⟩⟩, ⟨rfl, rfl, rfl, .inl ⟨rfl, rowsT_fr _⟩⟩, trivial⟩, ⟨rfl, ⟨rfl, rfl, rfl⟩, ⟨rfl, rfl, rfl⟩, rfl, ent_i (by simp), rfl, trivial⟩⟩ ?_
  intro k hk _
  by_cases hlt : k < l.length
  · obtain ⟨t, ht⟩ : ∃ t, l[k]? = some t := ⟨_, List.getElem?_eq_getElem hlt⟩
    obtain ⟨v, c⟩ := t
    have hv := rightT_lt hr _ (List.mem_of_getElem? ht)
    simp only at hv
    have bc := h1 _ (List.mem_of_getElem? ht)
    simp only at bc
    obtain ⟨x, hx⟩ : ∃ x, z[v.toNat]? = some x := ⟨_, List.getElem?_eq_getElem (by omega)⟩
    have hxd : z.getD v.toNat 0 = x := by rw [List.getD_eq_getElem?_getD, hx]; rfl
    have bx := h2 x (List.mem_of_getElem? hx)
    have b3 := rl_mul c x
    have bs := rl_valT h1 h2 k
    have h4 := Nat.mul_le_mul_right 402 (show k ≤ 100 by omega)
    have mu := z_fMul c x (by omega) (by omega)
    have ad := z_fAdd (valT (l.take k) z) (c * x) (by omega) (by omega)
    have e : valT (l.take k) z + c * x = valT (l.take (k + 1)) z := by
      have : l.take (k + 1) = l.take k ++ [(v, c)] := by rw [List.take_add_one, ht]; rfl
      rw [this, valT_snoc, ← hxd]
    rw [e] at ad
    have xz : (z.map fz)[v.toNat]? = some (fz x) := by rw [List.getElem?_map, hx]; rfl
    conv => whnf
    (repeat' (first | ((refine DecB.mk (fun h => ?_) (fun h => ?_)) <;> first | (exfalso; omega) | (conv => whnf)) | ((refine BoolB.mk (fun h => ?_) (fun h => ?_)) <;> first | (exact absurd h (by decide)) | (conv => whnf)) | (refine ⟨_, wrap_ok (by omega) (by omega), ?_⟩; conv => whnf) | (refine and_idx (by omega) (by omega) ?_; conv => whnf) | (refine reg_ok (by decide +kernel) ?_; conv => whnf) | (refine bar_ok (by decide +kernel) (by decide +kernel) ?_; conv => whnf) | (refine late_ok rfl rfl ?_; conv => whnf) | (refine src_ok rfl ?_; conv => whnf) | (refine .inl ⟨_, _, qcall_pure (mu) rfl rfl, ?_⟩; conv => whnf) | (refine .inl ⟨_, _, qcall_pure (ad) rfl rfl, ?_⟩; conv => whnf) | (refine .inl ⟨_, _, qcall_pure (10) rfl rfl, ?_⟩; conv => whnf) | (refine .inl ⟨_, _, qcall_pure (5) rfl rfl, ?_⟩; conv => whnf) | (refine ex_row ht ?_; conv => whnf) | (refine ex_rowI (by omega) xz ?_; conv => whnf) | (refine bar_late [10] (by decide +kernel) (by decide +kernel) ?_; conv => whnf) | (refine bar_late [5] (by decide +kernel) (by decide +kernel) ?_; conv => whnf) | (refine LitB.data ?_; conv => whnf) | (refine BoxB.own ?_; conv => whnf)))
    all_goals first
      | (exfalso; omega)
      | exact ⟨hlt, trivial, [some 0, some 1], rfl, rfl, ⟨⟨rfl, rfl, rfl, .inl ⟨rfl, rowsT_fr _⟩⟩, ⟨rfl, rfl, rfl, .inl ⟨rfl, rowsT_fr _⟩⟩, trivial⟩, ⟨rfl, ⟨rfl, rfl, rfl⟩, ⟨rfl, rfl, rfl⟩, rfl, rfl, rfl, trivial⟩⟩
  · have hke : k = l.length := by omega
    subst hke
    rw [List.take_of_length_le (Nat.le_refl _)]
    conv => whnf
    (repeat' (first | ((refine DecB.mk (fun h => ?_) (fun h => ?_)) <;> first | (exfalso; omega) | (conv => whnf)) | ((refine BoolB.mk (fun h => ?_) (fun h => ?_)) <;> first | (exact absurd h (by decide)) | (conv => whnf)) | (refine ⟨_, wrap_ok (by omega) (by omega), ?_⟩; conv => whnf) | (refine and_idx (by omega) (by omega) ?_; conv => whnf) | (refine reg_ok (by decide +kernel) ?_; conv => whnf) | (refine bar_ok (by decide +kernel) (by decide +kernel) ?_; conv => whnf) | (refine late_ok rfl rfl ?_; conv => whnf) | (refine src_ok rfl ?_; conv => whnf) | (refine LitB.data ?_; conv => whnf) | (refine BoxB.own ?_; conv => whnf)))
    all_goals first
      | (exfalso; omega)
      | exact fin_f rfl
def solB (s : SysP) (z : List Fr) : Bool := z.all rightF && holdsSys s (z.map fv)
theorem a_Holds (s : SysP) (hb : SysB s) (hr : rightSys s = true) (z : List Fr) (hl : z.length ≤ 1000000) (hd : ∀ f ∈ z, f.p.dl.length ≤ 200 ∧ f.q.dl.length ≤ 200) :
    ACall Try.prog 26 [sysS s, fracsS z] [] (boolS (solB s z)) [] := by
  have m1 : (s.rows.map rowRow).length = s.rows.length := by simp
  have m2 : (z.map frRow).length = z.length := by simp
  have l1 := hb.n0
  have lr := a_LRight s hb
  rw [hr] at lr
  have pt := a_point z hl (fun f hf => by have := hd f hf; omega)
  cases hz : z.all rightF with
  | false =>
    rw [hz] at pt
    have e1 : solB s z = false := by unfold solB; rw [hz]; rfl
    rw [e1]
    (refine acall_of tab_ok Try.func26 rfl (by decide) ?_; (conv => whnf); repeat (first | (refine LitB.data ?_; conv => whnf) | (refine BoxB.data ?_; conv => whnf)))
    (repeat' (first | ((refine DecB.mk (fun h => ?_) (fun h => ?_)) <;> first | (exfalso; omega) | (conv => whnf)) | ((refine BoolB.mk (fun h => ?_) (fun h => ?_)) <;> first | (exact absurd h (by decide)) | (conv => whnf)) | (refine ⟨_, wrap_ok (by omega) (by omega), ?_⟩; conv => whnf) | (refine and_idx (by omega) (by omega) ?_; conv => whnf) | (refine reg_ok (by decide +kernel) ?_; conv => whnf) | (refine bar_ok (by decide +kernel) (by decide +kernel) ?_; conv => whnf) | (refine late_ok rfl rfl ?_; conv => whnf) | (refine src_ok rfl ?_; conv => whnf) | (refine .inl ⟨_, _, qcall_pure (lr) rfl rfl, ?_⟩; conv => whnf) | (refine .inl ⟨_, _, qcall_pure (pt) rfl rfl, ?_⟩; conv => whnf) | (refine LitB.data ?_; conv => whnf) | (refine BoxB.own ?_; conv => whnf)))
    all_goals first
      | (exfalso; omega)
      | exact fin_bool rfl
  | true =>
  rw [hz] at pt
  obtain ⟨Z, rfl⟩ := right_rats hz
  have e1 : solB s (Z.map fz) = holdsSys s Z := by unfold solB; rw [hz, fv_map]; rfl
  rw [e1]
  have hZ : ∀ v ∈ Z, rl v ≤ 200 := fun v hv => by
    have := hd (fz v) (List.mem_map.2 ⟨v, hv, rfl⟩)
    exact Nat.max_le.2 this
  have m3 : Z.length = (Z.map fz).length := by simp
  by_cases hn : (Z.length : Int) ≠ s.n
  · have e2 : holdsSys s Z = false := by unfold holdsSys; rw [decide_eq_false hn]; simp
    rw [e2]
    (refine acall_of tab_ok Try.func26 rfl (by decide) ?_; (conv => whnf); repeat (first | (refine LitB.data ?_; conv => whnf) | (refine BoxB.data ?_; conv => whnf)))
    (repeat' (first | ((refine DecB.mk (fun h => ?_) (fun h => ?_)) <;> first | (exfalso; omega) | (conv => whnf)) | ((refine BoolB.mk (fun h => ?_) (fun h => ?_)) <;> first | (exact absurd h (by decide)) | (conv => whnf)) | (refine ⟨_, wrap_ok (by omega) (by omega), ?_⟩; conv => whnf) | (refine and_idx (by omega) (by omega) ?_; conv => whnf) | (refine reg_ok (by decide +kernel) ?_; conv => whnf) | (refine bar_ok (by decide +kernel) (by decide +kernel) ?_; conv => whnf) | (refine late_ok rfl rfl ?_; conv => whnf) | (refine src_ok rfl ?_; conv => whnf) | (refine .inl ⟨_, _, qcall_pure (lr) rfl rfl, ?_⟩; conv => whnf) | (refine .inl ⟨_, _, qcall_pure (pt) rfl rfl, ?_⟩; conv => whnf) | (refine LitB.data ?_; conv => whnf) | (refine BoxB.own ?_; conv => whnf)))
    all_goals first
      | (exfalso; omega)
      | exact fin_bool rfl
  have hn : (Z.length : Int) = s.n := by omega
  have e2 : holdsSys s Z = (Z.all (fun v => decide (0 ≤ v)) && s.rows.all (fun w => rowB3 w Z)) := by unfold holdsSys; rw [hr, decide_eq_true hn]; simp
  rw [e2]
  (refine acall_of tab_ok Try.func26 rfl (by decide) ?_; (conv => whnf); repeat (first | (refine LitB.data ?_; conv => whnf) | (refine BoxB.data ?_; conv => whnf)))
  (repeat' (first | ((refine DecB.mk (fun h => ?_) (fun h => ?_)) <;> first | (exfalso; omega) | (conv => whnf)) | ((refine BoolB.mk (fun h => ?_) (fun h => ?_)) <;> first | (exact absurd h (by decide)) | (conv => whnf)) | (refine ⟨_, wrap_ok (by omega) (by omega), ?_⟩; conv => whnf) | (refine and_idx (by omega) (by omega) ?_; conv => whnf) | (refine reg_ok (by decide +kernel) ?_; conv => whnf) | (refine bar_ok (by decide +kernel) (by decide +kernel) ?_; conv => whnf) | (refine late_ok rfl rfl ?_; conv => whnf) | (refine src_ok rfl ?_; conv => whnf) | (refine .inl ⟨_, _, qcall_pure (lr) rfl rfl, ?_⟩; conv => whnf) | (refine .inl ⟨_, _, qcall_pure (pt) rfl rfl, ?_⟩; conv => whnf) | (refine LitB.data ?_; conv => whnf) | (refine BoxB.own ?_; conv => whnf)))
  all_goals try (exfalso; omega)
  refine awp_for tab_ok (fun k => ([S.junk, fracsS (Z.map fz), S.c (C.t (T.ptr [ti s.n, rowsTT s.rows])), S.junk, S.junk, S.junk, S.junk, S.junk, S.junk, S.junk, S.junk, S.junk, S.junk, S.junk, S.junk, S.junk, S.junk, S.junk, S.junk, S.junk, S.junk, S.junk, S.junk, S.junk, S.junk, fracsS (Z.map fz), intS .i64 Z.length, intS .i64 k, S.junk, S.junk, S.junk, S.junk, S.junk, S.junk, S.junk, S.junk, S.junk, S.junk, S.junk, S.junk, S.junk, S.junk, S.junk, S.junk, S.junk, S.junk, S.junk, S.junk, S.junk, S.junk, S.junk, S.junk, S.junk, S.junk, S.junk, S.junk, S.junk, S.junk, S.junk, S.junk, S.junk, S.junk, S.junk, S.junk, S.junk, S.junk], [])) Z.length (fun k => (Z.take k).all (fun v => decide (0 ≤ v)) = true) [] rfl
    ⟨rfl, rfl, trivial, ⟨rfl, rfl, rfl, ent_i (by simp), rfl, trivial⟩⟩ ?_
  intro k hk hI
  by_cases hlt : k < Z.length
  · obtain ⟨x, hx⟩ : ∃ x, Z[k]? = some x := ⟨_, List.getElem?_eq_getElem hlt⟩
    have bx := hZ x (List.mem_of_getElem? hx)
    have sg := z_fSign x (by omega)
    have sn := sgR_neg (x := x)
    conv => whnf
    (repeat' (first | ((refine DecB.mk (fun h => ?_) (fun h => ?_)) <;> first | (exfalso; omega) | (conv => whnf)) | ((refine BoolB.mk (fun h => ?_) (fun h => ?_)) <;> first | (exact absurd h (by decide)) | (conv => whnf)) | (refine ⟨_, wrap_ok (by omega) (by omega), ?_⟩; conv => whnf) | (refine and_idx (by omega) (by omega) ?_; conv => whnf) | (refine reg_ok (by decide +kernel) ?_; conv => whnf) | (refine bar_ok (by decide +kernel) (by decide +kernel) ?_; conv => whnf) | (refine late_ok rfl rfl ?_; conv => whnf) | (refine src_ok rfl ?_; conv => whnf) | (refine .inl ⟨_, _, qcall_pure (sg) rfl rfl, ?_⟩; conv => whnf) | (refine ex_row (zero_get Z hx) ?_; conv => whnf) | (refine LitB.data ?_; conv => whnf) | (refine BoxB.own ?_; conv => whnf)))
    all_goals first
      | (exfalso; omega)
      | (have h0 : ¬ sgR x < 0 := by omega
         exact ⟨hlt, by rw [all_take_succ hx, hI]; simpa using Rat.not_lt.1 (fun h => h0 (sn.2 h)), [], rfl, rfl, trivial, ⟨rfl, rfl, rfl, rfl, rfl, trivial⟩⟩)
      | (have h0 : sgR x < 0 := by omega
         have hF : Z.all (fun v => decide (0 ≤ v)) = false := all_of_get hx (decide_eq_false (Rat.not_le.2 (sn.1 h0)))
         refine fin_bool ?_; rw [hF]; rfl)
  · have hA : Z.all (fun v => decide (0 ≤ v)) = true := by rw [← hI, List.take_of_length_le (by omega)]
    rw [hA, Bool.true_and]
    conv => whnf
    (repeat' (first | ((refine DecB.mk (fun h => ?_) (fun h => ?_)) <;> first | (exfalso; omega) | (conv => whnf)) | ((refine BoolB.mk (fun h => ?_) (fun h => ?_)) <;> first | (exact absurd h (by decide)) | (conv => whnf)) | (refine ⟨_, wrap_ok (by omega) (by omega), ?_⟩; conv => whnf) | (refine and_idx (by omega) (by omega) ?_; conv => whnf) | (refine reg_ok (by decide +kernel) ?_; conv => whnf) | (refine bar_ok (by decide +kernel) (by decide +kernel) ?_; conv => whnf) | (refine late_ok rfl rfl ?_; conv => whnf) | (refine src_ok rfl ?_; conv => whnf) | (refine LitB.data ?_; conv => whnf) | (refine BoxB.own ?_; conv => whnf)))
    all_goals try (exfalso; omega)
    clear hI hlt hk
    refine awp_for tab_ok (fun k => ([S.junk, fracsS (Z.map fz), S.junk, S.junk, S.junk, S.junk, S.junk, S.junk, S.junk, S.junk, S.junk, S.junk, S.junk, S.junk, S.junk, S.junk, S.junk, S.junk, S.junk, S.junk, S.junk, S.junk, S.junk, S.junk, S.junk, S.junk, S.junk, S.junk, S.junk, S.junk, S.junk, S.junk, S.junk, S.junk, S.junk, S.junk, S.c (C.t (rowsTT s.rows)), intS .i64 s.rows.length, intS .i64 k, S.junk, S.junk, S.junk, S.junk, S.junk, S.junk, S.junk, S.junk, S.junk, S.junk, S.junk, S.junk, S.junk, S.junk, S.junk, S.junk, S.junk, S.junk, S.junk, S.junk, S.junk, S.junk, S.junk, S.junk, S.junk, S.junk, S.junk], [])) s.rows.length (fun k => (s.rows.take k).all (fun w => rowB3 w Z) = true) [] rfl
      ⟨rfl, rfl, trivial, ⟨rfl, rfl, ent_i (by simp), rfl, trivial⟩⟩ ?_
    intro k hk hI
    by_cases hlt : k < s.rows.length
    · obtain ⟨w, hw⟩ : ∃ w, s.rows[k]? = some w := ⟨_, List.getElem?_eq_getElem hlt⟩
      obtain ⟨b1, b2, b3⟩ := hb.t w (List.mem_of_getElem? hw)
      have hrw : rightRow s.n w = true := by
        unfold rightSys at hr
        simp only [Bool.and_eq_true, List.all_eq_true] at hr
        exact hr.2 w (List.mem_of_getElem? hw)
      have hrt : rightT (-1) Z.length w.terms = true := by
        unfold rightRow at hrw
        simp only [Bool.and_eq_true] at hrw
        rw [hn]; exact hrw.1.1
      have va := a_value w.terms Z b1 b2 hZ (by omega) hrt
      have bv := rl_valT b2 hZ w.terms.length
      rw [List.take_of_length_le (Nat.le_refl _)] at bv
      have h4 := Nat.mul_le_mul_right 402 b1
      have c := z_fCompare (valT w.terms Z) w.value (by omega) (by omega)
      have k1 := cmpR_lt (x := valT w.terms Z) (y := w.value)
      have k2 := cmpR_lt' (x := valT w.terms Z) (y := w.value)
      have hro := rowB3_iff (w := w) (z := Z)
      rw [← k1, ← k2] at hro
      generalize cmpR (valT w.terms Z) w.value = U at c hro
      by_cases hok : (U < 0 → w.kind = 1) ∧ (U > 0 → w.kind = 0)
      · have hT := hro.2 hok
        obtain ⟨q1, q2⟩ := hok
        conv => whnf
        (repeat' (first | ((refine DecB.mk (fun h => ?_) (fun h => ?_)) <;> first | (exfalso; omega) | (conv => whnf)) | ((refine BoolB.mk (fun h => ?_) (fun h => ?_)) <;> first | (exact absurd h (by decide)) | (conv => whnf)) | (refine ⟨_, wrap_ok (by omega) (by omega), ?_⟩; conv => whnf) | (refine and_idx (by omega) (by omega) ?_; conv => whnf) | (refine reg_ok (by decide +kernel) ?_; conv => whnf) | (refine bar_ok (by decide +kernel) (by decide +kernel) ?_; conv => whnf) | (refine late_ok rfl rfl ?_; conv => whnf) | (refine src_ok rfl ?_; conv => whnf) | (refine .inl ⟨_, _, qcall_pure (va) rfl rfl, ?_⟩; conv => whnf) | (refine .inl ⟨_, _, qcall_pure (c) rfl rfl, ?_⟩; conv => whnf) | (refine ex_row hw ?_; conv => whnf) | (refine LitB.data ?_; conv => whnf) | (refine BoxB.own ?_; conv => whnf)))
        all_goals first
          | (exfalso; omega)
          | exact ⟨hlt, by rw [all_take_succ hw, hI, hT]; rfl, [], rfl, rfl, trivial, ⟨rfl, rfl, rfl, rfl, trivial⟩⟩
      · have hF : rowB3 w Z = false := by rw [← Bool.not_eq_true]; exact fun h => hok (hro.1 h)
        rw [all_of_get hw hF]
        have hor : (U < 0 ∧ w.kind ≠ 1) ∨ (U > 0 ∧ w.kind ≠ 0) := by omega
        clear hro hok
        conv => whnf
        (repeat' (first | ((refine DecB.mk (fun h => ?_) (fun h => ?_)) <;> first | (exfalso; omega) | (conv => whnf)) | ((refine BoolB.mk (fun h => ?_) (fun h => ?_)) <;> first | (exact absurd h (by decide)) | (conv => whnf)) | (refine ⟨_, wrap_ok (by omega) (by omega), ?_⟩; conv => whnf) | (refine and_idx (by omega) (by omega) ?_; conv => whnf) | (refine reg_ok (by decide +kernel) ?_; conv => whnf) | (refine bar_ok (by decide +kernel) (by decide +kernel) ?_; conv => whnf) | (refine late_ok rfl rfl ?_; conv => whnf) | (refine src_ok rfl ?_; conv => whnf) | (refine .inl ⟨_, _, qcall_pure (va) rfl rfl, ?_⟩; conv => whnf) | (refine .inl ⟨_, _, qcall_pure (c) rfl rfl, ?_⟩; conv => whnf) | (refine ex_row hw ?_; conv => whnf) | (refine LitB.data ?_; conv => whnf) | (refine BoxB.own ?_; conv => whnf)))
        all_goals first
          | (exfalso; omega)
          | exact fin_bool rfl
    · rw [List.take_of_length_le (by omega)] at hI
      rw [hI]
      conv => whnf
      (repeat' (first | ((refine DecB.mk (fun h => ?_) (fun h => ?_)) <;> first | (exfalso; omega) | (conv => whnf)) | ((refine BoolB.mk (fun h => ?_) (fun h => ?_)) <;> first | (exact absurd h (by decide)) | (conv => whnf)) | (refine ⟨_, wrap_ok (by omega) (by omega), ?_⟩; conv => whnf) | (refine and_idx (by omega) (by omega) ?_; conv => whnf) | (refine reg_ok (by decide +kernel) ?_; conv => whnf) | (refine bar_ok (by decide +kernel) (by decide +kernel) ?_; conv => whnf) | (refine late_ok rfl rfl ?_; conv => whnf) | (refine src_ok rfl ?_; conv => whnf) | (refine LitB.data ?_; conv => whnf) | (refine BoxB.own ?_; conv => whnf)))
      all_goals first
        | (exfalso; omega)
        | exact fin_bool rfl
end Go.Proofs.Ytomfnfbijgjfeaa
/- taint: Matter. -/
namespace Go.Proofs.Ytomfnfbijgjfeaa
open Go.RowKit
set_option linter.unusedVariables false
set_option linter.unusedSimpArgs false
set_option maxRecDepth 100000

theorem cleansE_get {e : Ev} : ∀ {l : List Clean}, cleansE e l = 0 → ∀ c ∈ l, 0 ≤ c.mv ∧ c.mv < e.moves.length
  | [], _, c, hc => by cases hc
  | g :: r, h, c, hc => by
    unfold cleansE at h
    by_cases h1 : markE e g.mv g.kind ≠ 0
    · rw [if_pos h1] at h; exact absurd h h1
    rw [if_neg h1] at h
    rcases List.mem_cons.1 hc with rfl | hc
    · unfold markE at h1
      by_cases h3 : c.mv < 0 ∨ (e.moves.length : Int) ≤ c.mv
      · rw [if_pos h3] at h1; exact absurd (by decide) h1
      omega
    · exact cleansE_get h c hc
theorem rl_tstk {e : Ev} {Z : List Rat} (hZ : ∀ v ∈ Z, rl v ≤ 200) (hm : e.moves.length ≤ 200) {k : Nat} (hk : k ≤ 200) (p : Nat) : rl (tstk e Z k p) ≤ 50000 := by
  have hB : ∀ l ∈ col Z, ∀ x ∈ l, rl x ≤ 200 := fun l hl x hx => by
    obtain ⟨v, hv, rfl⟩ := List.mem_map.1 hl
    simp at hx
    subst hx
    exact hZ x hv
  have := rl_stk (e := e) hB (by decide) k p 0
  have h2 := Nat.mul_le_mul_right (200 + 1) hk
  unfold tstk
  omega
def hiR (o : Option (Rat × Rat)) : Rat := match o with
  | some (_, hi) => hi
  | none => 0
theorem hiR_some {o : Option (Rat × Rat)} {lo hi : Rat} (h : o = some (lo, hi)) : hi = hiR o := by rw [h]; rfl
theorem hiF_some {e : Ev} {x : Move} (h : (ivOf e x).isSome = true) : hiF (ivOf e x) = fz (hiR (ivOf e x)) ∧ rl (hiR (ivOf e x)) ≤ 200 := by
  cases hiv : ivOf e x with
  | none => rw [hiv] at h; cases h
  | some p =>
    obtain ⟨lo, hi⟩ := p
    refine ⟨rfl, ?_⟩
    show rl hi ≤ 200
    unfold ivOf at hiv
    by_cases hs : x.scale = -1
    · rw [if_pos hs] at hiv; cases hiv
    · rw [if_neg hs] at hiv
      have := (rl_interval hiv).2
      omega
theorem a_allows {t : Trace} {kind : Int} {i : Nat} {x : Move} (hx : t.ev.moves[i]? = some x) (ht : findsE t.ev t.finds = 0) (hl : t.finds.length ≤ 1000000) (z : Rat) (hz : rl z ≤ 200) :
    ACall Try.prog 43 [.agg ((aboutAt t kind i).map .t), frS (fz z)] [] (intS .i64 (allowsE t kind i x z)) [] := by
  have h := a_allows0 (hiF (ivAt t.ev i)) (ivAt t.ev i).isSome (hiR (ivAt t.ev i)) (gramsOf t.finds kind i) (cleansOf t.cleans kind i) z
    (by rw [ivAt_of hx]; exact hiF_some) hz (fun g hg => by
      unfold gramsOf at hg
      obtain ⟨f, hf, rfl⟩ := List.mem_map.1 hg
      have := findsE_get ht f (List.mem_filter.1 hf).1
      omega) (by unfold gramsOf; rw [List.length_map]; exact Nat.le_trans (List.length_filter_le _ _) hl)
  rw [allow_eq hx (fun lo hi' h => (hiR_some h))] at h
  exact h
theorem toC_fset {l : List Fr} {i : Nat} {y : Fr} : (toC (l.map frRow)).set i (frC y) = toC ((l.set i y).map frRow) := by simp [toC, List.map_set, frRow]
theorem zero_fracs {n : Nat} {ρ : List (Option Nat)} {H : Hp} : EntR ρ H (List.replicate n [C.t (ti 0), C.t (.sl 0 .nil []), C.t (ti 0), C.t (.sl 0 .nil [])]) (toC ((partF 0 n).map frRow)) := by
  rw [partF_zero]
  refine entR_of (by simp [toC]) fun i x y hx hy => ?_
  have hi : i < n := by have := (List.getElem?_eq_some_iff.1 hx).1; simpa using this
  rw [List.getElem?_replicate, if_pos hi] at hx
  injection hx with hx
  subst hx
  unfold toC at hy
  rw [List.getElem?_map, List.getElem?_map, List.getElem?_replicate, if_pos hi] at hy
  injection hy with hy
  subst hy
  exact ⟨rfl, rfl, rfl, rfl, trivial⟩
theorem tstk_rows {e : Ev} {Z : List Rat} {j k s d : Nat} {x : Move} {v : Rat} (hx : e.moves[j]? = some x) (hv : Z.getD j 0 = v) (hs : x.src = s) (hd : x.dst = d) (hsk : s < k) (hdk : d < k) (hsd : s ≠ d) :
    ((rowF k (tstk e Z j)).set s (fz (tstk e Z j s - v))).set d (fz (tstk e Z j d + v)) = rowF k (tstk e Z (j + 1)) := by
  rw [rowF_set hsk, rowF_set hdk]
  congr 1
  funext p
  rw [tstk_succ hx, hv]
  have c1 : (x.src = (p : Int)) ↔ p = s := by omega
  have c2 : (x.dst = (p : Int)) ↔ p = d := by omega
  simp only [c1, c2]
  by_cases h1 : p = d
  · subst h1
    rw [if_pos rfl, if_neg (fun h => hsd h.symm), if_pos rfl]
  · rw [if_neg h1]
    by_cases h2 : p = s
    · subst h2; rw [if_pos rfl, if_pos rfl]
    · rw [if_neg h2, if_neg h2, if_neg h1]
theorem cmpR_zero {x y : Rat} : cmpR x y = 0 ↔ x = y := by
  have h1 := cmpR_le (x := x) (y := y)
  have h2 := cmpR_lt (x := x) (y := y)
  constructor
  · intro h
    have q1 : x ≤ y := h1.1 (by omega)
    have q2 : ¬ x < y := fun h' => by have := h2.2 h'; omega
    grind
  · intro h
    have q1 : cmpR x y ≤ 0 := h1.2 (by grind)
    have q2 : ¬ cmpR x y < 0 := fun h' => by have := h2.1 h'; grind
    omega
set_option maxHeartbeats 4000000 in
theorem a_Matter (t : Trace) (kind : Int) (z : List Fr) (hs : t.Sized) (hl : z.length ≤ 1000000) (hd : ∀ f ∈ z, f.p.dl.length ≤ 200 ∧ f.q.dl.length ≤ 200) :
    ACall Try.prog 11 [trS t, intS .i64 kind, fracsS z] [] (intS .i64 (matterE t kind z)) [] := by
  have ck := a_TCheck t hs
  have m1 : (z.map frRow).length = z.length := by simp
  have m2 : (t.ev.moves.map Move.row).length = t.ev.moves.length := by simp
  have m3 : (t.ev.places.map Place.row).length = t.ev.places.length := by simp
  by_cases h1 : traceE t ≠ 0 ∨ kind < 0 ∨ 8 ≤ kind
  · have e1 : matterE t kind z = 1 := by unfold matterE; rw [if_pos h1]
    rw [e1]
    (refine acall_of tab_ok Try.func11 rfl (by decide) ?_; (conv => whnf); repeat (first | (refine LitB.data ?_; conv => whnf) | (refine BoxB.data ?_; conv => whnf)))
    (repeat' (first | ((refine DecB.mk (fun h => ?_) (fun h => ?_)) <;> first | (exfalso; omega) | (conv => whnf)) | ((refine BoolB.mk (fun h => ?_) (fun h => ?_)) <;> first | (exact absurd h (by decide)) | (conv => whnf)) | (refine ⟨_, wrap_ok (by omega) (by omega), ?_⟩; conv => whnf) | (refine and_idx (by omega) (by omega) ?_; conv => whnf) | (refine reg_ok (by decide +kernel) ?_; conv => whnf) | (refine bar_ok (by decide +kernel) (by decide +kernel) ?_; conv => whnf) | (refine late_ok rfl rfl ?_; conv => whnf) | (refine src_ok rfl ?_; conv => whnf) | (refine .inl ⟨_, _, qcall_pure (ck) rfl rfl, ?_⟩; conv => whnf) | (refine LitB.data ?_; conv => whnf) | (refine BoxB.own ?_; conv => whnf)))
    all_goals first
      | (exfalso; omega)
      | exact fin_int rfl
  obtain ⟨k1, k2, k3⟩ : traceE t = 0 ∧ 0 ≤ kind ∧ kind < 8 := by omega
  rw [k1] at ck
  by_cases h2 : z.length ≠ t.ev.moves.length
  · have e1 : matterE t kind z = 2 := by unfold matterE; rw [if_neg h1, if_pos h2]
    rw [e1]
    (refine acall_of tab_ok Try.func11 rfl (by decide) ?_; (conv => whnf); repeat (first | (refine LitB.data ?_; conv => whnf) | (refine BoxB.data ?_; conv => whnf)))
    (repeat' (first | ((refine DecB.mk (fun h => ?_) (fun h => ?_)) <;> first | (exfalso; omega) | (conv => whnf)) | ((refine BoolB.mk (fun h => ?_) (fun h => ?_)) <;> first | (exact absurd h (by decide)) | (conv => whnf)) | (refine ⟨_, wrap_ok (by omega) (by omega), ?_⟩; conv => whnf) | (refine and_idx (by omega) (by omega) ?_; conv => whnf) | (refine reg_ok (by decide +kernel) ?_; conv => whnf) | (refine bar_ok (by decide +kernel) (by decide +kernel) ?_; conv => whnf) | (refine late_ok rfl rfl ?_; conv => whnf) | (refine src_ok rfl ?_; conv => whnf) | (refine .inl ⟨_, _, qcall_pure (ck) rfl rfl, ?_⟩; conv => whnf) | (refine LitB.data ?_; conv => whnf) | (refine BoxB.own ?_; conv => whnf)))
    all_goals first
      | (exfalso; omega)
      | exact fin_int rfl
  have h2 : z.length = t.ev.moves.length := by omega
  have e1 : matterE t kind z = if z.all rightF then tmovesE t kind (z.map fv) 0 t.ev.moves else 2 := by unfold matterE; rw [if_neg h1, if_neg (by omega)]
  rw [e1]
  clear e1 h1
  obtain ⟨q1, q2, q3, q4, q5⟩ := traceE_zero k1
  obtain ⟨b1, b2, b3, b4⟩ := check_bounds q1
  have kn := a_known t kind hs q1 (fun f hf => by have := findsE_get q4 f hf; omega) (fun c hc => cleansE_get q5 c hc)
  have i0 := z_fInt 0 (by decide) (by decide)
  (refine acall_of tab_ok Try.func11 rfl (by decide) ?_; (conv => whnf); repeat (first | (refine LitB.data ?_; conv => whnf) | (refine BoxB.data ?_; conv => whnf)))
  (repeat' (first | ((refine DecB.mk (fun h => ?_) (fun h => ?_)) <;> first | (exfalso; omega) | (conv => whnf)) | ((refine BoolB.mk (fun h => ?_) (fun h => ?_)) <;> first | (exact absurd h (by decide)) | (conv => whnf)) | (refine ⟨_, wrap_ok (by omega) (by omega), ?_⟩; conv => whnf) | (refine and_idx (by omega) (by omega) ?_; conv => whnf) | (refine reg_ok (by decide +kernel) ?_; conv => whnf) | (refine bar_ok (by decide +kernel) (by decide +kernel) ?_; conv => whnf) | (refine late_ok rfl rfl ?_; conv => whnf) | (refine src_ok rfl ?_; conv => whnf) | (refine .inl ⟨_, _, qcall_pure (ck) rfl rfl, ?_⟩; conv => whnf) | (refine LitB.data ?_; conv => whnf) | (refine BoxB.own ?_; conv => whnf)))
  all_goals try (exfalso; omega)
  refine awp_for tab_ok (fun k => ([S.junk, intS .i64 kind, fracsS z, S.c (C.t (T.ptr (trT t))), S.junk, S.junk, S.junk, S.c (C.ptr 0 0 0), S.junk, S.junk, S.junk, S.junk, S.junk, S.junk, S.junk, S.junk, S.junk, S.junk, S.junk, S.junk, S.junk, S.junk, S.junk, S.junk, S.junk, S.junk, S.junk, S.junk, S.junk, S.junk, S.junk, S.junk, S.junk, S.junk, S.junk, S.junk, fracsS z, intS .i64 z.length, intS .i64 k, S.junk, S.junk, S.junk, S.junk, S.junk, S.junk, S.junk, S.junk, S.junk, S.junk, S.junk, S.junk, S.junk, S.junk, S.junk, S.junk, S.junk, S.junk, S.junk, S.junk, S.junk, S.junk, S.junk, S.junk, S.junk, S.junk, S.junk, S.junk, S.junk, S.junk, S.junk, S.junk, S.junk, S.junk, S.junk, S.junk, S.junk, S.junk, S.junk, S.junk, S.junk, S.junk, S.junk, S.junk, S.junk, S.junk, S.junk, S.junk, S.junk, S.junk, S.junk, S.junk, S.junk, S.junk, S.junk, S.junk, S.junk, S.junk, S.junk, S.junk, S.junk, S.junk, S.junk, S.junk, S.junk, S.junk, S.junk, S.junk, S.junk, S.junk, S.junk, S.junk, S.junk, S.junk, S.junk, S.junk, S.junk, S.junk, S.junk, S.junk, S.junk, S.junk, S.junk, S.junk, S.junk, S.junk, S.junk, S.junk, S.junk, S.junk, S.junk, S.junk, S.junk, S.junk, S.junk, S.junk, S.junk, S.junk, S.junk, S.junk, S.junk, S.junk, S.junk, S.junk, S.junk, S.junk, S.junk, S.junk, S.junk, S.junk, S.junk, S.junk], [evB t.ev])) z.length (fun k => (z.take k).all rightF = true) [some 0] rfl
    ⟨rfl, rfl, ⟨⟨rfl, rfl, rfl, .inl ⟨rfl, rowsT_ev _⟩⟩, trivial⟩, ⟨rfl, rfl, rfl, ⟨rfl, rfl, rfl⟩, rfl, ent_i (by simp), rfl, trivial⟩⟩ ?_
  intro k hk hI
  by_cases hlt : k < z.length
  · obtain ⟨f, hf⟩ : ∃ f, z[k]? = some f := ⟨_, List.getElem?_eq_getElem hlt⟩
    obtain ⟨d1, d2⟩ := hd f (List.mem_of_getElem? hf)
    have r := a_fRight f (by omega) (by omega)
    cases hr : rightF f with
    | true =>
      rw [hr] at r
      conv => whnf
      (repeat' (first | ((refine DecB.mk (fun h => ?_) (fun h => ?_)) <;> first | (exfalso; omega) | (conv => whnf)) | ((refine BoolB.mk (fun h => ?_) (fun h => ?_)) <;> first | (exact absurd h (by decide)) | (conv => whnf)) | (refine ⟨_, wrap_ok (by omega) (by omega), ?_⟩; conv => whnf) | (refine and_idx (by omega) (by omega) ?_; conv => whnf) | (refine reg_ok (by decide +kernel) ?_; conv => whnf) | (refine bar_ok (by decide +kernel) (by decide +kernel) ?_; conv => whnf) | (refine late_ok rfl rfl ?_; conv => whnf) | (refine src_ok rfl ?_; conv => whnf) | (refine .inl ⟨_, _, qcall_pure (r) rfl rfl, ?_⟩; conv => whnf) | (refine ex_row hf ?_; conv => whnf) | (refine LitB.data ?_; conv => whnf) | (refine BoxB.own ?_; conv => whnf)))
      all_goals first
        | (exfalso; omega)
        | exact ⟨hlt, by rw [all_take_succ hf, hI, hr]; rfl, [some 0], rfl, rfl, ⟨⟨rfl, rfl, rfl, .inl ⟨rfl, rowsT_ev _⟩⟩, trivial⟩, ⟨rfl, rfl, rfl, ⟨rfl, rfl, rfl⟩, rfl, rfl, rfl, trivial⟩⟩
    | false =>
      rw [hr] at r
      rw [all_of_get hf hr]
      conv => whnf
      (repeat' (first | ((refine DecB.mk (fun h => ?_) (fun h => ?_)) <;> first | (exfalso; omega) | (conv => whnf)) | ((refine BoolB.mk (fun h => ?_) (fun h => ?_)) <;> first | (exact absurd h (by decide)) | (conv => whnf)) | (refine ⟨_, wrap_ok (by omega) (by omega), ?_⟩; conv => whnf) | (refine and_idx (by omega) (by omega) ?_; conv => whnf) | (refine reg_ok (by decide +kernel) ?_; conv => whnf) | (refine bar_ok (by decide +kernel) (by decide +kernel) ?_; conv => whnf) | (refine late_ok rfl rfl ?_; conv => whnf) | (refine src_ok rfl ?_; conv => whnf) | (refine .inl ⟨_, _, qcall_pure (r) rfl rfl, ?_⟩; conv => whnf) | (refine ex_row hf ?_; conv => whnf) | (refine LitB.data ?_; conv => whnf) | (refine BoxB.own ?_; conv => whnf)))
      all_goals first
        | (exfalso; omega)
        | exact fin_int rfl
  have hz : z.all rightF = true := by rw [← hI, List.take_of_length_le (by omega)]
  rw [if_pos hz]
  obtain ⟨Z, rfl⟩ := right_rats hz
  rw [fv_map]
  have hZ : ∀ v ∈ Z, rl v ≤ 200 := fun v hv => by
    have := hd (fz v) (List.mem_map.2 ⟨v, hv, rfl⟩)
    exact Nat.max_le.2 this
  have zl : Z.length = t.ev.moves.length := by simpa using h2
  generalize hN : t.ev.places.length = N at *
  conv => whnf
  (repeat' (first | ((refine DecB.mk (fun h => ?_) (fun h => ?_)) <;> first | (exfalso; omega) | (conv => whnf)) | ((refine BoolB.mk (fun h => ?_) (fun h => ?_)) <;> first | (exact absurd h (by decide)) | (conv => whnf)) | (refine ⟨_, wrap_ok (by omega) (by omega), ?_⟩; conv => whnf) | (refine and_idx (by omega) (by omega) ?_; conv => whnf) | (refine reg_ok (by decide +kernel) ?_; conv => whnf) | (refine bar_ok (by decide +kernel) (by decide +kernel) ?_; conv => whnf) | (refine late_ok rfl rfl ?_; conv => whnf) | (refine src_ok rfl ?_; conv => whnf) | (refine mk_ok (by omega) (by omega) (by omega) (by decide) ?_; conv => whnf) | (refine LitB.data ?_; conv => whnf) | (refine BoxB.own ?_; conv => whnf)))
  all_goals try (exfalso; omega)
  clear hI hlt hk
  refine awp_for tab_ok (fun k => ([S.junk, intS .i64 kind, fracsS (Z.map fz), S.c (C.t (T.ptr (trT t))), S.junk, S.junk, S.junk, S.c (C.ptr 0 0 0), S.junk, S.junk, S.c (C.own 1 0 N true), S.junk, S.junk, S.junk, S.junk, S.junk, S.junk, S.junk, S.junk, S.junk, S.junk, S.junk, S.junk, S.junk, S.junk, S.junk, S.junk, S.junk, S.junk, S.junk, S.junk, S.junk, S.junk, S.junk, S.junk, S.junk, S.junk, S.junk, S.junk, S.junk, S.junk, S.junk, S.junk, S.junk, S.junk, S.junk, S.junk, S.junk, S.junk, S.junk, S.junk, intS .i64 N, intS .i64 k, S.junk, S.junk, S.junk, S.junk, S.junk, S.junk, S.junk, S.junk, S.junk, S.junk, S.junk, S.junk, S.junk, S.junk, S.junk, S.junk, S.junk, S.junk, S.junk, S.junk, S.junk, S.junk, S.junk, S.junk, S.junk, S.junk, S.junk, S.junk, S.junk, S.junk, S.junk, S.junk, S.junk, S.junk, S.junk, S.junk, S.junk, S.junk, S.junk, S.junk, S.junk, S.junk, S.junk, S.junk, S.junk, S.junk, S.junk, S.junk, S.junk, S.junk, S.junk, S.junk, S.junk, S.junk, S.junk, S.junk, S.junk, S.junk, S.junk, S.junk, S.junk, S.junk, S.junk, S.junk, S.junk, S.junk, S.junk, S.junk, S.junk, S.junk, S.junk, S.junk, S.junk, S.junk, S.junk, S.junk, S.junk, S.junk, S.junk, S.junk, S.junk, S.junk, S.junk, S.junk, S.junk, S.junk, S.junk, S.junk, S.junk, S.junk, S.junk, S.junk, S.junk, S.junk, S.junk, S.junk, S.junk, S.junk], [evB t.ev, rowB (partF k N)])) N (fun _ => True) [some 0, some 1] trivial ?_ ?_
  · refine ⟨rfl, rfl, ⟨⟨rfl, rfl, rfl, .inl ⟨rfl, rowsT_ev _⟩⟩, ⟨rfl, rfl, rfl, .inr ?_⟩, trivial⟩, ⟨rfl, rfl, rfl, ⟨rfl, rfl, rfl⟩, ⟨rfl, rfl, ?_, fun h => h⟩, ent_i (by omega), rfl, trivial⟩⟩
    · have e9 : ((((t.ev.places.map Place.row).length : Nat) : Int)).toNat = N := by omega
      show EntR _ _ (List.replicate ((((t.ev.places.map Place.row).length : Nat) : Int)).toNat _) _
      rw [e9]
      exact zero_fracs
    · omega
  intro k hk _
  by_cases hlt : k < N
  · have eM : 0 + (k : Int).toNat = k := by omega
    obtain ⟨pf, hpf⟩ : ∃ pf, (partF k N)[k]? = some pf := ⟨_, partF_get hlt⟩
    have gp : (partF k N)[0 + (k : Int).toNat]? = some pf := by rw [eM]; exact hpf
    conv => whnf
    (repeat' (first | ((refine DecB.mk (fun h => ?_) (fun h => ?_)) <;> first | (exfalso; omega) | (conv => whnf)) | ((refine BoolB.mk (fun h => ?_) (fun h => ?_)) <;> first | (exact absurd h (by decide)) | (conv => whnf)) | (refine ⟨_, wrap_ok (by omega) (by omega), ?_⟩; conv => whnf) | (refine and_idx (by omega) (by omega) ?_; conv => whnf) | (refine reg_ok (by decide +kernel) ?_; conv => whnf) | (refine bar_ok (by decide +kernel) (by decide +kernel) ?_; conv => whnf) | (refine late_ok rfl rfl ?_; conv => whnf) | (refine src_ok rfl ?_; conv => whnf) | (refine .inl ⟨_, _, qcall_pure (i0) rfl rfl, ?_⟩; conv => whnf) | (refine ex_own gp ?_; conv => whnf) | (refine LitB.data ?_; conv => whnf) | (refine BoxB.own ?_; conv => whnf)))
    all_goals try (exfalso; omega)
    refine ⟨hlt, trivial, [some 0, some 1], rfl, rfl, ⟨⟨rfl, rfl, rfl, .inl ⟨rfl, rowsT_ev _⟩⟩, entB_rows rfl rfl rfl ?_ rfl, trivial⟩, ⟨rfl, rfl, rfl, ⟨rfl, rfl, rfl⟩, ⟨rfl, rfl, rfl, fun h => h⟩, rfl, rfl, trivial⟩⟩
    have e := rowB_set (row := partF k N) (y := fz zR) eM
    rw [partF_set hlt] at e
    exact congrArg Blk.rows e
  have hke : k = N := by omega
  subst hke
  conv => whnf
  (repeat' (first | ((refine DecB.mk (fun h => ?_) (fun h => ?_)) <;> first | (exfalso; omega) | (conv => whnf)) | ((refine BoolB.mk (fun h => ?_) (fun h => ?_)) <;> first | (exact absurd h (by decide)) | (conv => whnf)) | (refine ⟨_, wrap_ok (by omega) (by omega), ?_⟩; conv => whnf) | (refine and_idx (by omega) (by omega) ?_; conv => whnf) | (refine reg_ok (by decide +kernel) ?_; conv => whnf) | (refine bar_ok (by decide +kernel) (by decide +kernel) ?_; conv => whnf) | (refine late_ok rfl rfl ?_; conv => whnf) | (refine src_ok rfl ?_; conv => whnf) | (refine .inl ⟨_, _, qcall_pure (kn) rfl rfl, ?_⟩; conv => whnf) | (refine LitB.data ?_; conv => whnf) | (refine BoxB.own ?_; conv => whnf)))
  all_goals try (exfalso; omega)
  clear hlt hk
  refine awp_for tab_ok (fun j => ([S.junk, S.junk, fracsS (Z.map fz), S.junk, S.junk, S.junk, S.junk, S.c (C.ptr 0 0 0), S.junk, S.junk, S.c (C.own 1 0 k true), S.junk, S.junk, S.junk, S.junk, S.junk, S.junk, S.junk, S.junk, S.junk, S.junk, S.junk, S.junk, S.junk, S.junk, S.junk, S.junk, S.junk, S.junk, S.junk, S.junk, S.junk, S.junk, S.junk, S.junk, S.junk, S.junk, S.junk, S.junk, S.junk, S.junk, S.junk, S.junk, S.junk, S.junk, S.junk, S.junk, S.junk, S.junk, S.junk, S.junk, S.junk, S.junk, S.junk, S.junk, S.junk, S.junk, S.junk, S.junk, S.junk, S.junk, S.junk, S.c (C.t (knownT t kind)), intS .i64 t.ev.moves.length, intS .i64 j, S.junk, S.junk, S.junk, S.junk, S.junk, S.junk, S.junk, S.junk, S.junk, S.junk, S.junk, S.junk, S.junk, S.junk, S.junk, S.junk, S.junk, S.junk, S.junk, S.junk, S.junk, S.junk, S.junk, S.junk, S.junk, S.junk, S.junk, S.junk, S.junk, S.junk, S.junk, S.junk, S.junk, S.junk, S.junk, S.junk, S.junk, S.junk, S.junk, S.junk, S.junk, S.junk, S.junk, S.junk, S.junk, S.junk, S.junk, S.junk, S.junk, S.junk, S.junk, S.junk, S.junk, S.junk, S.junk, S.junk, S.junk, S.junk, S.junk, S.junk, S.junk, S.junk, S.junk, S.junk, S.junk, S.junk, S.junk, S.junk, S.junk, S.junk, S.junk, S.junk, S.junk, S.junk, S.junk, S.junk, S.junk, S.junk, S.junk, S.junk, S.junk, S.junk, S.junk, S.junk, S.junk, S.junk], [evB t.ev, rowB (rowF k (tstk t.ev Z j))])) t.ev.moves.length (fun j => tmovesE t kind Z j (t.ev.moves.drop j) = tmovesE t kind Z 0 t.ev.moves) [some 0, some 1] rfl ?_ ?_
  · refine ⟨rfl, rfl, ⟨⟨rfl, rfl, rfl, .inl ⟨rfl, rowsT_ev _⟩⟩, entB_rows rfl rfl rfl ?_ rfl, trivial⟩, ⟨rfl, ⟨rfl, rfl, rfl⟩, ⟨rfl, rfl, rfl, fun h => h⟩, rfl, ent_i (by simp), rfl, trivial⟩⟩
    rw [partF_all]
    rfl
  intro j hj hI
  by_cases hlt : j < t.ev.moves.length
  · obtain ⟨x, hx⟩ : ∃ x, t.ev.moves[j]? = some x := ⟨_, List.getElem?_eq_getElem hlt⟩
    have hmo := check_move q1 (List.mem_of_getElem? hx)
    have ms := moveOk_src hmo
    have md := moveOk_dst hmo
    have hne : x.src ≠ x.dst := by unfold moveOk at hmo; simp only [Bool.and_eq_true, decide_eq_true_eq] at hmo; exact hmo.1.1.1.1.1.2
    obtain ⟨s, hsn⟩ : ∃ s : Nat, x.src = s := ⟨x.src.toNat, by omega⟩
    obtain ⟨d, hdn⟩ : ∃ d : Nat, x.dst = d := ⟨x.dst.toNat, by omega⟩
    have hsk : s < k := by omega
    have hdk : d < k := by omega
    have hsd : s ≠ d := by omega
    obtain ⟨v, hv⟩ : ∃ v, Z[j]? = some v := ⟨_, List.getElem?_eq_getElem (by omega)⟩
    have hvd : Z.getD j 0 = v := by rw [List.getD_eq_getElem?_getD, hv]; rfl
    have bv := hZ v (List.mem_of_getElem? hv)
    have bs := rl_tstk (e := t.ev) hZ b4 (k := j) (by omega) s
    have bd := rl_tstk (e := t.ev) hZ b4 (k := j) (by omega) d
    have cm := z_fCompare v (tstk t.ev Z j s) (by omega) (by omega)
    have sg := z_fSign v (by omega)
    have sb := z_fSub (tstk t.ev Z j s) v (by omega) (by omega)
    have ad := z_fAdd (tstk t.ev Z j d) v (by omega) (by omega)
    have bn := a_bin t.ev q1 hx
    have al := a_allows (kind := kind) hx q4 hs.f v bv
    have gk : (List.range t.ev.moves.length)[j]? = some j := List.getElem?_range hlt
    have zk := zero_get Z hv
    have eS : 0 + x.src.toNat = s := by omega
    have eD : 0 + x.dst.toNat = d := by omega
    have xs : (rowF k (tstk t.ev Z j))[0 + x.src.toNat]? = some (fz (tstk t.ev Z j s)) := by rw [eS]; exact rowF_get hsk
    have xd : (rowF k (tstk t.ev Z j))[0 + x.dst.toNat]? = some (fz (tstk t.ev Z j d)) := by rw [eD]; exact rowF_get hdk
    have cg := cmpR_lt' (x := v) (y := tstk t.ev Z j s)
    have cz := cmpR_zero (x := v) (y := tstk t.ev Z j s)
    have sn := sgR_neg (x := v)
    rw [drop_get hx] at hI
    have hI : (if tAt t kind Z j x ≠ 0 then tAt t kind Z j x else tmovesE t kind Z (j + 1) (t.ev.moves.drop (j + 1))) = tmovesE t kind Z 0 t.ev.moves := hI
    have hta : tAt t kind Z j x = tstepE t kind j x v (tstk t.ev Z j s) := by unfold tAt; rw [hvd, show x.src.toNat = s by omega]
    rw [hta] at hI
    have fin3 : ∀ (c : Int) (H1 : Hp), tstepE t kind j x v (tstk t.ev Z j s) = c → c ≠ 0 → Fin 0 (intS .i64 c) H1 (intS .i64 (tmovesE t kind Z 0 t.ev.moves)) [] := fun c H1 h hc => fin_int (by rw [← hI, h, if_pos hc])
    generalize cmpR v (tstk t.ev Z j s) = U at cm cg cz
    generalize sgR v = W at sg sn
    have hse : 0 + x.src.toNat ≠ 0 + x.dst.toNat := by omega
    have e0 : tookE t.ev x v (tstk t.ev Z j s) = if v < 0 then 3 else if kindAt t.ev x.src ≠ 0 ∧ tstk t.ev Z j s < v then 4 else if x.all = true ∧ v ≠ tstk t.ev Z j s then 7 else 0 := rfl
    by_cases c1 : v < 0
    · have e3 : tstepE t kind j x v (tstk t.ev Z j s) = 3 := by unfold tstepE; rw [e0, if_pos c1]; rfl
      have w1 : W < 0 := sn.2 c1
      conv => whnf
      (repeat' (first | ((refine DecB.mk (fun h => ?_) (fun h => ?_)) <;> first | (exfalso; omega) | (conv => whnf)) | ((refine BoolB.mk (fun h => ?_) (fun h => ?_)) <;> first | (exact absurd h (by decide)) | (conv => whnf)) | (refine ⟨_, wrap_ok (by omega) (by omega), ?_⟩; conv => whnf) | (refine and_idx (by omega) (by omega) ?_; conv => whnf) | (refine reg_ok (by decide +kernel) ?_; conv => whnf) | (refine bar_ok (by decide +kernel) (by decide +kernel) ?_; conv => whnf) | (refine late_ok rfl rfl ?_; conv => whnf) | (refine src_ok rfl ?_; conv => whnf) | (refine .inl ⟨_, _, qcall_pure (cm) rfl rfl, ?_⟩; conv => whnf) | (refine .inl ⟨_, _, qcall_pure (sg) rfl rfl, ?_⟩; conv => whnf) | (refine .inl ⟨_, _, qcall_pure (bn) rfl rfl, ?_⟩; conv => whnf) | (refine .inl ⟨_, _, qcall_pure (al) rfl rfl, ?_⟩; conv => whnf) | (refine .inl ⟨_, _, qcall_pure (sb) rfl rfl, ?_⟩; conv => whnf) | (refine .inl ⟨_, _, qcall_pure (ad) rfl rfl, ?_⟩; conv => whnf) | (refine .inl ⟨_, _, qcall_pure (15) rfl rfl, ?_⟩; conv => whnf) | (refine ex_row hx ?_; conv => whnf) | (refine ex_row gk ?_; conv => whnf) | (refine ex_row zk ?_; conv => whnf) | (refine ex_own xs ?_; conv => whnf) | (refine ex_setne hse xd ?_; conv => whnf) | (refine bar_late [15] (by decide +kernel) (by decide +kernel) ?_; conv => whnf) | (refine LitB.data ?_; conv => whnf) | (refine BoxB.own ?_; conv => whnf)))
      all_goals first
        | (exfalso; omega)
        | exact fin3 3 _ e3 (by decide)
    have w1 : ¬ W < 0 := fun h => c1 (sn.1 h)
    rw [if_neg c1] at e0
    by_cases c2 : kindAt t.ev x.src ≠ 0 ∧ tstk t.ev Z j s < v
    · have e3 : tstepE t kind j x v (tstk t.ev Z j s) = 4 := by unfold tstepE; rw [e0, if_pos c2]; rfl
      have w2 : U > 0 := cg.2 c2.2
      rw [decide_eq_false c2.1] at bn
      conv => whnf
      (repeat' (first | ((refine DecB.mk (fun h => ?_) (fun h => ?_)) <;> first | (exfalso; omega) | (conv => whnf)) | ((refine BoolB.mk (fun h => ?_) (fun h => ?_)) <;> first | (exact absurd h (by decide)) | (conv => whnf)) | (refine ⟨_, wrap_ok (by omega) (by omega), ?_⟩; conv => whnf) | (refine and_idx (by omega) (by omega) ?_; conv => whnf) | (refine reg_ok (by decide +kernel) ?_; conv => whnf) | (refine bar_ok (by decide +kernel) (by decide +kernel) ?_; conv => whnf) | (refine late_ok rfl rfl ?_; conv => whnf) | (refine src_ok rfl ?_; conv => whnf) | (refine .inl ⟨_, _, qcall_pure (cm) rfl rfl, ?_⟩; conv => whnf) | (refine .inl ⟨_, _, qcall_pure (sg) rfl rfl, ?_⟩; conv => whnf) | (refine .inl ⟨_, _, qcall_pure (bn) rfl rfl, ?_⟩; conv => whnf) | (refine .inl ⟨_, _, qcall_pure (al) rfl rfl, ?_⟩; conv => whnf) | (refine .inl ⟨_, _, qcall_pure (sb) rfl rfl, ?_⟩; conv => whnf) | (refine .inl ⟨_, _, qcall_pure (ad) rfl rfl, ?_⟩; conv => whnf) | (refine .inl ⟨_, _, qcall_pure (15) rfl rfl, ?_⟩; conv => whnf) | (refine ex_row hx ?_; conv => whnf) | (refine ex_row gk ?_; conv => whnf) | (refine ex_row zk ?_; conv => whnf) | (refine ex_own xs ?_; conv => whnf) | (refine ex_setne hse xd ?_; conv => whnf) | (refine bar_late [15] (by decide +kernel) (by decide +kernel) ?_; conv => whnf) | (refine LitB.data ?_; conv => whnf) | (refine BoxB.own ?_; conv => whnf)))
      all_goals first
        | (exfalso; omega)
        | exact fin3 4 _ e3 (by decide)
    rw [if_neg c2] at e0
    have w2 : kindAt t.ev x.src = 0 ∨ ¬ U > 0 := by
      by_cases h : kindAt t.ev x.src = 0
      · exact .inl h
      · exact .inr fun h' => c2 ⟨h, cg.1 h'⟩
    by_cases c3 : x.all = true ∧ v ≠ tstk t.ev Z j s
    · have e3 : tstepE t kind j x v (tstk t.ev Z j s) = 7 := by unfold tstepE; rw [e0, if_pos c3]; rfl
      have w3 : U ≠ 0 := fun h => c3.2 (cz.1 h)
      have w4 := c3.1
      by_cases hb : kindAt t.ev x.src = 0
      · rw [decide_eq_true hb] at bn
        conv => whnf
        (repeat' (first | ((refine DecB.mk (fun h => ?_) (fun h => ?_)) <;> first | (exfalso; omega) | (conv => whnf)) | ((refine BoolB.mk (fun h => ?_) (fun h => ?_)) <;> first | (exact absurd h (by decide)) | (conv => whnf)) | (refine ⟨_, wrap_ok (by omega) (by omega), ?_⟩; conv => whnf) | (refine and_idx (by omega) (by omega) ?_; conv => whnf) | (refine reg_ok (by decide +kernel) ?_; conv => whnf) | (refine bar_ok (by decide +kernel) (by decide +kernel) ?_; conv => whnf) | (refine late_ok rfl rfl ?_; conv => whnf) | (refine src_ok rfl ?_; conv => whnf) | (refine .inl ⟨_, _, qcall_pure (cm) rfl rfl, ?_⟩; conv => whnf) | (refine .inl ⟨_, _, qcall_pure (sg) rfl rfl, ?_⟩; conv => whnf) | (refine .inl ⟨_, _, qcall_pure (bn) rfl rfl, ?_⟩; conv => whnf) | (refine .inl ⟨_, _, qcall_pure (al) rfl rfl, ?_⟩; conv => whnf) | (refine .inl ⟨_, _, qcall_pure (sb) rfl rfl, ?_⟩; conv => whnf) | (refine .inl ⟨_, _, qcall_pure (ad) rfl rfl, ?_⟩; conv => whnf) | (refine .inl ⟨_, _, qcall_pure (15) rfl rfl, ?_⟩; conv => whnf) | (refine ex_row hx ?_; conv => whnf) | (refine ex_row gk ?_; conv => whnf) | (refine ex_row zk ?_; conv => whnf) | (refine ex_own xs ?_; conv => whnf) | (refine ex_setne hse xd ?_; conv => whnf) | (refine bar_late [15] (by decide +kernel) (by decide +kernel) ?_; conv => whnf) | (refine LitB.data ?_; conv => whnf) | (refine BoxB.own ?_; conv => whnf)))
        all_goals first
          | (exfalso; omega)
          | exact fin3 7 _ e3 (by decide)
          | (exfalso; simp_all; done)
      · rw [decide_eq_false hb] at bn
        conv => whnf
        (repeat' (first | ((refine DecB.mk (fun h => ?_) (fun h => ?_)) <;> first | (exfalso; omega) | (conv => whnf)) | ((refine BoolB.mk (fun h => ?_) (fun h => ?_)) <;> first | (exact absurd h (by decide)) | (conv => whnf)) | (refine ⟨_, wrap_ok (by omega) (by omega), ?_⟩; conv => whnf) | (refine and_idx (by omega) (by omega) ?_; conv => whnf) | (refine reg_ok (by decide +kernel) ?_; conv => whnf) | (refine bar_ok (by decide +kernel) (by decide +kernel) ?_; conv => whnf) | (refine late_ok rfl rfl ?_; conv => whnf) | (refine src_ok rfl ?_; conv => whnf) | (refine .inl ⟨_, _, qcall_pure (cm) rfl rfl, ?_⟩; conv => whnf) | (refine .inl ⟨_, _, qcall_pure (sg) rfl rfl, ?_⟩; conv => whnf) | (refine .inl ⟨_, _, qcall_pure (bn) rfl rfl, ?_⟩; conv => whnf) | (refine .inl ⟨_, _, qcall_pure (al) rfl rfl, ?_⟩; conv => whnf) | (refine .inl ⟨_, _, qcall_pure (sb) rfl rfl, ?_⟩; conv => whnf) | (refine .inl ⟨_, _, qcall_pure (ad) rfl rfl, ?_⟩; conv => whnf) | (refine .inl ⟨_, _, qcall_pure (15) rfl rfl, ?_⟩; conv => whnf) | (refine ex_row hx ?_; conv => whnf) | (refine ex_row gk ?_; conv => whnf) | (refine ex_row zk ?_; conv => whnf) | (refine ex_own xs ?_; conv => whnf) | (refine ex_setne hse xd ?_; conv => whnf) | (refine bar_late [15] (by decide +kernel) (by decide +kernel) ?_; conv => whnf) | (refine LitB.data ?_; conv => whnf) | (refine BoxB.own ?_; conv => whnf)))
        all_goals first
          | (exfalso; omega)
          | exact fin3 7 _ e3 (by decide)
          | (exfalso; simp_all; done)
    rw [if_neg c3] at e0
    have w3 : x.all = false ∨ U = 0 := by
      cases h : x.all with
      | false => exact .inl rfl
      | true =>
        refine .inr (cz.2 ?_)
        by_cases h' : v = tstk t.ev Z j s
        · exact h'
        · exact absurd ⟨h, h'⟩ c3
    have e3 : tstepE t kind j x v (tstk t.ev Z j s) = allowsE t kind j x v := by unfold tstepE; rw [e0, if_neg (by simp)]
    have er := tstk_rows hx hvd hsn hdn hsk hdk hsd
    have bnx : ACall Try.prog 42 [evS t.ev, intS .i64 j] [] (boolS (decide (kindAt t.ev x.src = 0))) [] := bn
    by_cases ha : allowsE t kind j x v ≠ 0
    · have fa := fun H1 => fin3 _ H1 e3 ha
      generalize allowsE t kind j x v = Q at al ha fa
      rcases w3 with w3 | w3
      all_goals
        by_cases hb : kindAt t.ev x.src = 0
        case' pos => rw [decide_eq_true hb] at bn
        case' neg => rw [decide_eq_false hb] at bn
        all_goals
          conv => whnf
          (repeat' (first | ((refine DecB.mk (fun h => ?_) (fun h => ?_)) <;> first | (exfalso; omega) | (conv => whnf)) | ((refine BoolB.mk (fun h => ?_) (fun h => ?_)) <;> first | (exact absurd h (by decide)) | (conv => whnf)) | (refine ⟨_, wrap_ok (by omega) (by omega), ?_⟩; conv => whnf) | (refine and_idx (by omega) (by omega) ?_; conv => whnf) | (refine reg_ok (by decide +kernel) ?_; conv => whnf) | (refine bar_ok (by decide +kernel) (by decide +kernel) ?_; conv => whnf) | (refine late_ok rfl rfl ?_; conv => whnf) | (refine src_ok rfl ?_; conv => whnf) | (refine .inl ⟨_, _, qcall_pure (cm) rfl rfl, ?_⟩; conv => whnf) | (refine .inl ⟨_, _, qcall_pure (sg) rfl rfl, ?_⟩; conv => whnf) | (refine .inl ⟨_, _, qcall_pure (bn) rfl rfl, ?_⟩; conv => whnf) | (refine .inl ⟨_, _, qcall_pure (al) rfl rfl, ?_⟩; conv => whnf) | (refine .inl ⟨_, _, qcall_pure (sb) rfl rfl, ?_⟩; conv => whnf) | (refine .inl ⟨_, _, qcall_pure (ad) rfl rfl, ?_⟩; conv => whnf) | (refine .inl ⟨_, _, qcall_pure (15) rfl rfl, ?_⟩; conv => whnf) | (refine ex_row hx ?_; conv => whnf) | (refine ex_row gk ?_; conv => whnf) | (refine ex_row zk ?_; conv => whnf) | (refine ex_own xs ?_; conv => whnf) | (refine ex_setne hse xd ?_; conv => whnf) | (refine bar_late [15] (by decide +kernel) (by decide +kernel) ?_; conv => whnf) | (refine LitB.data ?_; conv => whnf) | (refine BoxB.own ?_; conv => whnf)))
          all_goals first
            | (exfalso; omega)
            | exact fa _
            | (exfalso; simp_all; done)
    · have ha : allowsE t kind j x v = 0 := by omega
      rw [e3, ha, if_neg (by simp)] at hI
      rw [ha] at al
      have nxt : ((toC ((rowF k (tstk t.ev Z j)).map frRow)).set (0 + x.src.toNat) (frC (fz (tstk t.ev Z j s - v)))).set (0 + x.dst.toNat) (frC (fz (tstk t.ev Z j d + v))) = toC ((rowF k (tstk t.ev Z (j + 1))).map frRow) := by
        rw [toC_fset, toC_fset, eS, eD, er]
      rcases w3 with w3 | w3
      all_goals
        by_cases hb : kindAt t.ev x.src = 0
        case' pos => rw [decide_eq_true hb] at bn
        case' neg => rw [decide_eq_false hb] at bn
        all_goals
          conv => whnf
          (repeat' (first | ((refine DecB.mk (fun h => ?_) (fun h => ?_)) <;> first | (exfalso; omega) | (conv => whnf)) | ((refine BoolB.mk (fun h => ?_) (fun h => ?_)) <;> first | (exact absurd h (by decide)) | (conv => whnf)) | (refine ⟨_, wrap_ok (by omega) (by omega), ?_⟩; conv => whnf) | (refine and_idx (by omega) (by omega) ?_; conv => whnf) | (refine reg_ok (by decide +kernel) ?_; conv => whnf) | (refine bar_ok (by decide +kernel) (by decide +kernel) ?_; conv => whnf) | (refine late_ok rfl rfl ?_; conv => whnf) | (refine src_ok rfl ?_; conv => whnf) | (refine .inl ⟨_, _, qcall_pure (cm) rfl rfl, ?_⟩; conv => whnf) | (refine .inl ⟨_, _, qcall_pure (sg) rfl rfl, ?_⟩; conv => whnf) | (refine .inl ⟨_, _, qcall_pure (bn) rfl rfl, ?_⟩; conv => whnf) | (refine .inl ⟨_, _, qcall_pure (al) rfl rfl, ?_⟩; conv => whnf) | (refine .inl ⟨_, _, qcall_pure (sb) rfl rfl, ?_⟩; conv => whnf) | (refine .inl ⟨_, _, qcall_pure (ad) rfl rfl, ?_⟩; conv => whnf) | (refine .inl ⟨_, _, qcall_pure (15) rfl rfl, ?_⟩; conv => whnf) | (refine ex_row hx ?_; conv => whnf) | (refine ex_row gk ?_; conv => whnf) | (refine ex_row zk ?_; conv => whnf) | (refine ex_own xs ?_; conv => whnf) | (refine ex_setne hse xd ?_; conv => whnf) | (refine bar_late [15] (by decide +kernel) (by decide +kernel) ?_; conv => whnf) | (refine LitB.data ?_; conv => whnf) | (refine BoxB.own ?_; conv => whnf)))
          all_goals first
            | (exfalso; omega)
            | exact ⟨hlt, hI, [some 0, some 1], rfl, rfl, ⟨⟨rfl, rfl, rfl, .inl ⟨rfl, rowsT_ev _⟩⟩, entB_rows rfl rfl rfl nxt rfl, trivial⟩, ⟨rfl, ⟨rfl, rfl, rfl⟩, ⟨rfl, rfl, rfl, fun h => h⟩, rfl, rfl, rfl, trivial⟩⟩
            | (exfalso; simp_all; done)
  · rw [List.drop_of_length_le (by omega)] at hI
    have hI : 0 = tmovesE t kind Z 0 t.ev.moves := hI
    conv => whnf
    (repeat' (first | ((refine DecB.mk (fun h => ?_) (fun h => ?_)) <;> first | (exfalso; omega) | (conv => whnf)) | ((refine BoolB.mk (fun h => ?_) (fun h => ?_)) <;> first | (exact absurd h (by decide)) | (conv => whnf)) | (refine ⟨_, wrap_ok (by omega) (by omega), ?_⟩; conv => whnf) | (refine and_idx (by omega) (by omega) ?_; conv => whnf) | (refine reg_ok (by decide +kernel) ?_; conv => whnf) | (refine bar_ok (by decide +kernel) (by decide +kernel) ?_; conv => whnf) | (refine late_ok rfl rfl ?_; conv => whnf) | (refine src_ok rfl ?_; conv => whnf) | (refine LitB.data ?_; conv => whnf) | (refine BoxB.own ?_; conv => whnf)))
    all_goals first
      | (exfalso; omega)
      | exact fin_int hI
end Go.Proofs.Ytomfnfbijgjfeaa
