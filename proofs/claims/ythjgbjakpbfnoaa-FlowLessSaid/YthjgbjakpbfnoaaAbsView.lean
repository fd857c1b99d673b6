/- Blocks of one's own that are written no more are data. -/
import Derived.Test.YthjgbjakpbfnoaaAbsTab
namespace Go.Proofs.Ythjgbjakpbfnoaa
open Go.RowKit
set_option linter.unusedVariables false
set_option linter.unusedSimpArgs false

/-- the capacity forgotten -/
def weakTo : T → T → T
  | .sl s .any _, .sl s0 k r => match k with
    | .nil => .sl s .any []
    | _ => .sl s0 .any r
  | _, x => x
theorem RT.weak {w : World} {M : Ms} {x y : T} {v : Value} (h : weakTo y x = y) (hr : RT w M x v) : RT w M y v := by
  unfold weakTo at h
  split at h
  · split at h
    · rw [← h]
      cases hr with
      | sl f hrow hcap hmax hk hn hA hc hr =>
        obtain ⟨rfl, rfl, rfl⟩ := hn rfl
        exact .sl (b := 0) (off := 0) (fun _ _ => undef) (by simp) hcap hmax (by intro h; cases h) (by intro h; cases h) (by simp) (by simp [at2]) (by simp [at2])
    · rw [← h]
      cases hr with
      | sl f hrow hcap hmax hk hn hA hc hr => exact .sl f hrow hcap hmax (by intro h; cases h) (by intro h; cases h) hA hc hr
  · rw [← h]; exact hr
theorem weak_refl (x : T) : weakTo x x = x := by
  cases x with
  | sl s k r => cases k <;> rfl
  | _ => rfl
theorem weak_eq {x y : T} (h : x = y) : weakTo y x = y := by subst h; exact weak_refl x

mutual
def VC (H : Hp) (p : Nat → Prop) : C → T → Prop
  | .t x, y => weakTo y x = y
  | .ptr id r o, y => match y with
    | .ptr cells => p id ∧ ∃ k row, H[id]? = some k ∧ k.mode ≠ .dead ∧ k.rows[r]? = some row ∧ row.drop o = cells.map C.t
    | _ => False
  | .own id lo len _, y => match y with
    | .sl size .any rows => p id ∧ ∃ k, H[id]? = some k ∧ k.mode ≠ .dead ∧ k.size = size ∧ lo + len ≤ k.rows.length ∧ (k.rows.drop lo).take len = toC rows
    | _ => False
  | .fn f caps, y => match y with
    | .fn f' caps' => f = f' ∧ VL H p caps caps'
    | _ => False
def VL (H : Hp) (p : Nat → Prop) : List C → List T → Prop
  | [], ys => ys = []
  | x :: r, ys => match ys with
    | [] => False
    | y :: r' => VC H p x y ∧ VL H p r r'
end

theorem toC_at {rows : List (List T)} {i j : Nat} {c : T} (h : at2 rows i j = some c) : at2 (toC rows) i j = some (.t c) := by
  obtain ⟨row, h1, h2⟩ := at2_inv h
  exact at2_some (row := row.map C.t) (by simp [toC, h1]) (by simp [h2])

mutual
theorem VC.rt {H : Hp} {p : Nat → Prop} {w : World} {ι : Io} {M M' : Ms} (hH : HeapRel w ι M H) (hM : ∀ b, M' b → M b) (hp : ∀ id k b cap size, p id → H[id]? = some k → k.mode ≠ .dead → ι id = some (.blk b cap size) → ¬ M' b) :
    ∀ (x : C) (y : T) (v : Value), VC H p x y → RC w ι M x v → RT w M' y v
  | .t x, y, v, h, hr => by
    have h : weakTo y x = y := by simpa only [VC] using h
    cases hr with
    | t hr => exact (hr.weak h).keep (fun _ _ _ => rfl) (fun b hb => .inl (hM b hb))
  | .ptr id r o, y, v, h, hr => by
    cases y with
    | ptr cells =>
      simp only [VC] at h
      obtain ⟨hpi, k, row, hk, hd, hrow, hc⟩ := h
      cases hr with
      | @ptr _ _ _ b cap size hi =>
        have hb := (hH.blk id k hk hd _ hi).row hrow
        have hnm := hp id k b cap size hpi hk hd hi
        have hat : ∀ (j : Nat) (c : T), cells[j]? = some c → row[o + j]? = some (.t c) := fun j c hj => by
          have : (row.drop o)[j]? = some (.t c) := by rw [hc, List.getElem?_map, hj]; rfl
          rwa [List.getElem?_drop] at this
        refine .ptr (fun j => (w.cell? ⟨b, r * size + o + j, none⟩).getD undef) (fun j c hj => ?_) (fun j c hj => ?_)
        · obtain ⟨u, h1, h2⟩ := hb _ _ (hat j c hj)
          rw [Nat.add_assoc, h1]
          exact ⟨rfl, hnm⟩
        · obtain ⟨u, h1, h2⟩ := hb _ _ (hat j c hj)
          rw [Nat.add_assoc, h1]
          cases h2 with
          | t h2 => exact h2.keep (fun _ _ _ => rfl) (fun b hb => .inl (hM b hb))
    | _ => simp only [VC] at h
  | .own id lo len app, y, v, h, hr => by
    cases y with
    | sl size sk rows =>
      cases sk with
      | any =>
        simp only [VC] at h
        obtain ⟨hpi, k, hk, hd, hsz, hl, hc⟩ := h
        have hlen : rows.length = len := by
          have := congrArg List.length hc
          simp [toC] at this
          omega
        cases hr with
        | @own _ _ _ _ b cap sz A cap' hi q1 q2 q3 q4 q5 =>
          have hbr := hH.blk id k hk hd _ hi
          obtain ⟨r1, r2, r3, r4, r5, cur, r6, r7, r8⟩ := hbr
          have hnm := hp id k b cap sz hpi hk hd hi
          have hse : sz = size := by rw [← hsz, r1]
          subst hse
          have hat : ∀ (i j : Nat) (c : T), at2 rows i j = some c → ∃ u, cur[(lo + i) * sz + j]? = some u ∧ RT w M' c u := fun i j c hij => by
            have h1 := toC_at hij
            rw [← hc] at h1
            obtain ⟨row, s1, s2⟩ := at2_inv h1
            rw [List.getElem?_take] at s1
            split at s1
            · rw [List.getElem?_drop] at s1
              obtain ⟨u, t1, t2⟩ := r8 _ _ _ (at2_some s1 s2)
              refine ⟨u, t1, ?_⟩
              cases t2 with
              | t t2 => exact t2.keep (fun _ _ _ => rfl) (fun b hb => .inl (hM b hb))
            · cases s1
          subst hlen
          refine .sl (b := b) (off := lo * sz) (fun i j => cur.getD ((lo + i) * sz + j) undef) ?_ q3 q4 (by intro h; cases h) (by intro h; cases h) (fun hne => q2 (List.length_pos_iff.2 hne)) ?_ ?_
          · intro r hr'
            have : r.map C.t ∈ toC rows := List.mem_map.2 ⟨r, hr', rfl⟩
            rw [← hc] at this
            have := r5 _ (List.mem_of_mem_drop (List.mem_of_mem_take this))
            simpa using this
          · intro i j c hij
            obtain ⟨u, t1, t2⟩ := hat i j c hij
            refine ⟨?_, hnm⟩
            rw [show lo * sz + (i * sz + j) = (lo + i) * sz + j by rw [Nat.add_mul]; omega]
            simp [World.cell?, r6, t1]
          · intro i j c hij
            obtain ⟨u, t1, t2⟩ := hat i j c hij
            have : cur.getD ((lo + i) * sz + j) undef = u := by simp [t1]
            show RT w M' c (cur.getD ((lo + i) * sz + j) undef)
            rw [this]; exact t2
        | nil hi =>
          have hr0 : rows = [] := List.eq_nil_of_length_eq_zero hlen
          subst hr0
          exact .sl (b := 0) (off := 0) (fun _ _ => undef) (by simp) (by simp) (by unfold maxLen; omega) (by simp) (by simp) (by simp) (by simp [at2]) (by simp [at2])
      | _ => simp only [VC] at h
    | _ => simp only [VC] at h
  | .fn f caps, y, v, h, hr => by
    cases y with
    | fn f' caps' =>
      simp only [VC] at h
      obtain ⟨rfl, h⟩ := h
      cases hr with
      | fn vs hl hr =>
        obtain ⟨h1, h2⟩ := VL.rt hH hM hp caps caps' h
        exact .fn vs (by omega) fun j c hj => by
          have hlt := (List.getElem?_eq_some_iff.1 hj).1
          exact h2 j _ c _ (List.getElem?_eq_getElem (by omega)) hj (hr j _ (List.getElem?_eq_getElem (by omega)))
    | _ => simp only [VC] at h
theorem VL.rt {H : Hp} {p : Nat → Prop} {w : World} {ι : Io} {M M' : Ms} (hH : HeapRel w ι M H) (hM : ∀ b, M' b → M b) (hp : ∀ id k b cap size, p id → H[id]? = some k → k.mode ≠ .dead → ι id = some (.blk b cap size) → ¬ M' b) :
    ∀ (xs : List C) (ys : List T), VL H p xs ys → xs.length = ys.length ∧ ∀ (j : Nat) (x : C) (y : T) (v : Value), xs[j]? = some x → ys[j]? = some y → RC w ι M x v → RT w M' y v
  | [], ys, h => by
    simp only [VL] at h
    subst h
    exact ⟨rfl, by simp⟩
  | x :: r, ys, h => by
    cases ys with
    | nil => simp only [VL] at h
    | cons y r' =>
      simp only [VL] at h
      obtain ⟨h1, h2⟩ := VL.rt hH hM hp r r' h.2
      refine ⟨by simp [h1], fun j x' y' v hx hy hr => ?_⟩
      cases j with
      | zero => simp at hx hy; subst hx hy; exact VC.rt hH hM hp x y v h.1 hr
      | succ j => exact h2 j x' y' v (by simpa using hx) (by simpa using hy) hr
end

theorem vc_t {H : Hp} {p : Nat → Prop} {x y : T} (h : weakTo y x = y) : VC H p (.t x) y := by simpa only [VC] using h
theorem vc_ptr {H : Hp} {p : Nat → Prop} {id r o : Nat} {k : Blk} {row : List C} {cells : List T} (hp : p id) (hk : H[id]? = some k) (hd : k.mode ≠ .dead) (hr : k.rows[r]? = some row) (hc : row.drop o = cells.map C.t) : VC H p (.ptr id r o) (.ptr cells) := by
  simp only [VC]; exact ⟨hp, k, row, hk, hd, hr, hc⟩
theorem vc_own {H : Hp} {p : Nat → Prop} {id lo len : Nat} {app : Bool} {size : Nat} {k : Blk} {rows : List (List T)} (hp : p id) (hk : H[id]? = some k) (hd : k.mode ≠ .dead) (hs : k.size = size) (hl : lo + len ≤ k.rows.length) (hc : (k.rows.drop lo).take len = toC rows) : VC H p (.own id lo len app) (.sl size .any rows) := by
  simp only [VC]; exact ⟨hp, k, hk, hd, hs, hl, hc⟩
theorem vc_all {H : Hp} {p : Nat → Prop} {id len : Nat} {app : Bool} {size : Nat} {k : Blk} {rows : List (List T)} (hp : p id) (hk : H[id]? = some k) (hd : k.mode ≠ .dead) (hs : k.size = size) (hc : k.rows = toC rows) (hl : len = rows.length) : VC H p (.own id 0 len app) (.sl size .any rows) :=
  vc_own hp hk hd hs (by rw [hc, hl]; simp [toC]) (by rw [hc, hl, List.drop_zero, List.take_of_length_le (by simp [toC])])
theorem vl_nil {H : Hp} {p : Nat → Prop} : VL H p [] [] := by simp only [VL]
theorem vl_cons {H : Hp} {p : Nat → Prop} {x : C} {y : T} {xs : List C} {ys : List T} (h : VC H p x y) (hs : VL H p xs ys) : VL H p (x :: xs) (y :: ys) := by simp only [VL]; exact ⟨h, hs⟩
theorem vc_fn {H : Hp} {p : Nat → Prop} {f : Fn} {xs : List C} {ys : List T} (h : VL H p xs ys) : VC H p (.fn f xs) (.fn f ys) := by simp only [VC, true_and]; exact h

/-- what a slot holds, taken for data -/
def VS (H : Hp) (p : Nat → Prop) : S → S → Prop
  | _, .junk => True
  | .c x, .c (.t y) => VC H p x y
  | .agg xs, .agg ys => ∃ ts, ys = ts.map C.t ∧ VL H p xs ts
  | _, _ => False
theorem vs_c {H : Hp} {p : Nat → Prop} {x : C} {y : T} (h : VC H p x y) : VS H p (.c x) (.c (.t y)) := h
theorem vs_agg {H : Hp} {p : Nat → Prop} {xs : List C} {ts : List T} (h : VL H p xs ts) : VS H p (.agg xs) (.agg (ts.map C.t)) := ⟨ts, rfl, h⟩
theorem VS.rs {H : Hp} {p : Nat → Prop} {w : World} {ι ι' : Io} {M M' : Ms} (hH : HeapRel w ι M H) (hM : ∀ b, M' b → M b) (hp : ∀ id k b cap size, p id → H[id]? = some k → k.mode ≠ .dead → ι id = some (.blk b cap size) → ¬ M' b)
    {x y : S} {v : Value} (h : VS H p x y) (hr : RS w ι M x v) : RS w ι' M' y v := by
  unfold VS at h
  split at h
  · exact .junk
  · cases hr with
    | c hr => exact .c (.t (VC.rt hH hM hp _ _ _ h hr))
  · obtain ⟨ts, rfl, h⟩ := h
    cases hr with
    | agg vs hl hr =>
      obtain ⟨h1, h2⟩ := VL.rt hH hM hp _ _ h
      refine .agg vs (by simp; omega) fun j c hj => ?_
      rw [List.getElem?_map] at hj
      cases hj' : ts[j]? with
      | none => rw [hj'] at hj; cases hj
      | some c' =>
        rw [hj'] at hj
        injection hj with hj
        subst hj
        have hlt := (List.getElem?_eq_some_iff.1 hj').1
        exact .t (h2 j _ c' _ (List.getElem?_eq_getElem (by omega)) hj' (hr j _ (List.getElem?_eq_getElem (by omega))))
  · exact h.elim
def VArgs (H : Hp) (p : Nat → Prop) : List S → List S → Prop
  | [], [] => True
  | x :: r, y :: r' => VS H p x y ∧ VArgs H p r r'
  | _, _ => False
theorem VArgs.get {H : Hp} {p : Nat → Prop} : ∀ {xs ys : List S}, VArgs H p xs ys → xs.length = ys.length ∧ ∀ (j : Nat) (y : S), ys[j]? = some y → ∃ x, xs[j]? = some x ∧ VS H p x y
  | [], [], _ => ⟨rfl, by simp⟩
  | x :: r, y :: r', h => by
    obtain ⟨h1, h2⟩ := VArgs.get h.2
    refine ⟨by simp [h1], fun j y' hj => ?_⟩
    cases j with
    | zero => simp at hj; subst hj; exact ⟨x, rfl, h.1⟩
    | succ j => simpa using h2 j y' (by simpa using hj)
  | [], _ :: _, h => h.elim
  | _ :: _, [], h => h.elim
end Go.Proofs.Ythjgbjakpbfnoaa
