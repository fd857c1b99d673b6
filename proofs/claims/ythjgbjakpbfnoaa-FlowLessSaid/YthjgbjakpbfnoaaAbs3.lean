/- The abstract machine is sound, operation by operation. -/
import Derived.Test.YthjgbjakpbfnoaaAbs2
namespace Go.Proofs.Ythjgbjakpbfnoaa
open Go.RowKit
set_option linter.unusedVariables false
set_option linter.unusedSimpArgs false

section
variable {α β : Type}
theorem takeK_iff {n : Nat} {l : List α} {k : List α → Prop} (h : takeK n l k) : n ≤ l.length ∧ k (l.take n) := by
  induction n generalizing l k with
  | zero => exact ⟨Nat.zero_le _, by simpa [takeK] using h⟩
  | succ n ih => cases l with
    | nil => exact h.elim
    | cons x l => obtain ⟨h1, h2⟩ := ih h; exact ⟨by simp; omega, by simpa using h2⟩
theorem dropK_iff {n : Nat} {l : List α} {k : List α → Prop} (h : dropK n l k) : n ≤ l.length ∧ k (l.drop n) := by
  induction n generalizing l with
  | zero => cases l <;> exact ⟨Nat.zero_le _, by simpa [dropK] using h⟩
  | succ n ih => cases l with
    | nil => exact h.elim
    | cons x l => obtain ⟨h1, h2⟩ := ih h; exact ⟨by simp; omega, by simpa using h2⟩
theorem getK_iff {n : Nat} {l : List α} {k : α → Prop} (h : getK n l k) : ∃ x, l[n]? = some x ∧ k x := by
  induction n generalizing l with
  | zero => cases l with
    | nil => exact h.elim
    | cons x l => exact ⟨x, rfl, h⟩
  | succ n ih => cases l with
    | nil => exact h.elim
    | cons x l => obtain ⟨y, h1, h2⟩ := ih h; exact ⟨y, by simpa using h1, h2⟩
theorem setK_iff {n : Nat} {v : α} {l : List α} {k : List α → Prop} : setK n v l k ↔ k (l.set n v) := by
  induction n generalizing l k with
  | zero => cases l <;> simp [setK]
  | succ n ih => cases l <;> simp [setK, ih]
theorem overK_iff {o : Nat} {xs l : List α} {k : List α → Prop} (h : overK o xs l k) : o + xs.length ≤ l.length ∨ xs = [] := by
  induction l generalizing o xs k with
  | nil => cases xs with
    | nil => exact .inr rfl
    | cons x xs => cases o <;> exact h.elim
  | cons y l ih => cases xs with
    | nil => exact .inr rfl
    | cons x xs =>
      refine .inl ?_
      cases o with
      | zero => rcases ih h with h | h <;> (try subst h) <;> simp at * ; omega
      | succ o => rcases ih h with h | h <;> simp at *; omega
theorem overK_k {o : Nat} {xs l : List α} {k : List α → Prop} (h : overK o xs l k) (h0 : xs ≠ []) : o + xs.length ≤ l.length ∧ k (l.take o ++ xs ++ l.drop (o + xs.length)) := by
  refine ⟨(overK_iff h).resolve_right h0, ?_⟩
  induction l generalizing o xs k with
  | nil => cases xs with
    | nil => exact absurd rfl h0
    | cons x xs => cases o <;> exact h.elim
  | cons y l ih => cases xs with
    | nil => exact absurd rfl h0
    | cons x xs =>
      cases o with
      | zero =>
        cases xs with
        | nil => cases l <;> simpa [overK] using h
        | cons x' xs => simpa using ih (o := 0) h (by simp)
      | succ o => simpa [show o + 1 + (xs.length + 1) = (o + (xs.length + 1)) + 1 by omega] using ih (o := o) h (by simp)
theorem overK_of {o : Nat} {xs l : List α} {k : List α → Prop} (hl : o + xs.length ≤ l.length) (h0 : xs ≠ []) (h : k (l.take o ++ xs ++ l.drop (o + xs.length))) : overK o xs l k := by
  induction l generalizing o xs k with
  | nil => cases xs with
    | nil => exact absurd rfl h0
    | cons x xs => simp at hl
  | cons y l ih => cases xs with
    | nil => exact absurd rfl h0
    | cons x xs =>
      cases o with
      | zero =>
        cases xs with
        | nil => cases l <;> simpa [overK] using h
        | cons x' xs => exact ih (o := 0) (by simp at hl ⊢; omega) (by simp) (by simpa using h)
      | succ o => exact ih (o := o) (by simp at hl ⊢; omega) (by simp) (by simpa [show o + 1 + (xs.length + 1) = (o + (xs.length + 1)) + 1 by omega] using h)
theorem mapK_iff {f : α → β} {l : List α} {k : List β → Prop} : mapK f l k ↔ k (l.map f) := by
  induction l generalizing k with
  | nil => simp [mapK]
  | cons x l ih => simp [mapK, ih]
theorem appK_iff {a l : List α} {k : List α → Prop} : appK a l k ↔ k (a ++ l) := by
  induction a generalizing k with
  | nil => simp [appK]
  | cons x a ih => simp [appK, ih]
theorem lenK_iff {l : List α} {n : Nat} {k : Nat → Prop} : lenK l n k ↔ k (n + l.length) := by
  induction l generalizing n with
  | nil => simp [lenK]
  | cons x l ih => simp [lenK, ih, Nat.add_assoc, Nat.add_comm 1]
end
theorem forceS_iff {s : S} {k : S → Prop} : forceS s k ↔ k s := by cases s <;> rfl
theorem BoolB.get {b : Bool} {k : S → Prop} (h : BoolB b k) : k (boolS b) := by cases b <;> first | exact h.yes rfl | exact h.no rfl
theorem DecB.get {p : Prop} [Decidable p] {k : S → Prop} (h : DecB p k) : k (boolS (decide p)) := by
  by_cases hp : p
  · rw [decide_eq_true hp]; exact h.yes hp
  · rw [decide_eq_false hp]; exact h.no hp
theorem boolF_get {s : S} {k : S → Prop} (h : boolF s k) : k s := by
  cases s with
  | c x => cases x with
    | t y => cases y with
      | atm v => cases v <;> first | exact BoolB.get h | exact h
      | _ => exact h
    | _ => exact h
  | _ => exact h
theorem cellsK_iff {s : S} {k : List C → Prop} (h : cellsK s k) : ∃ cs, k cs ∧ ((∃ c, s = .c c ∧ cs = [c]) ∨ s = .agg cs) := by
  cases s with
  | c x => exact ⟨_, h, .inl ⟨x, rfl, rfl⟩⟩
  | agg cs => exact ⟨_, h, .inr rfl⟩
  | _ => exact h.elim
theorem cond_iff {b : Bool} {x : Prop} (h : cond b x False) : b = true ∧ x := by cases b with | true => exact ⟨rfl, h⟩ | false => exact h.elim
theorem cond_iff' {b : Bool} {x : Prop} (h : cond b False x) : b = false ∧ x := by cases b with | false => exact ⟨rfl, h⟩ | true => exact h.elim

/-- the table tells of the program's types -/
structure TDok (P : Program) (t : TypeId) (d : TD) : Prop where
  info : ∃ i, P.info? t = some i ∧ i.size = d.size ∧ i.bytes = d.bytes ∧ ∃ z, i.zero = some z ∧ z.cells.toList = d.zero ∧ (∀ v ∈ d.zero, v.oneCell' = true) ∧ d.zero.length = d.size
  und : ∃ u, P.underlying t = some u ∧ match d.k with
    | .bas => d.agg = false ∧ (match u with | .struct _ | .array _ _ => False | _ => True)
    | .bool => d.agg = false ∧ u = .bool
    | .int k => d.agg = false ∧ u = .int k
    | .slice e => d.agg = false ∧ u = .slice e
    | .arr n e => d.agg = true ∧ u = .array n e
    | .struct fs => d.agg = true ∧ ∃ fields, u = .struct fields ∧ fs.map (fun x => (x.1, x.2.1)) = fields.toList.map (fun f => (f.offset, P.cellsOf f.type)) ∧ (∀ f ∈ fields.toList, (P.info? f.type).isSome = true) ∧
        fields.toList.mapM (fun f => (P.info? f.type).map fun i => (f.offset, i.size)) = some (fs.map (fun x => (x.1, x.2.1)))
structure TabOK (P : Program) (τ : Tab) : Prop where
  mixed : P.follows .mixedOrders = true
  td : ∀ t d, τ t = some d → TDok P t d

def Runs (P : Program) (o : Oper) (a : Act) (w : World) (R : Value → World → Prop) : Prop :=
  ∀ (K : Act → World → Prop) (Q : Exit → Act → World → Prop), (∀ v w', R v w' → K (a.put o.dst v) w') → o.wp P a w K Q

theorem runs_value {P : Program} {o : Oper} {a : Act} {w w' : World} {R : Value → World → Prop} {v : Value} (h : (execOp a.eval o).run P w = .ok (.value v) w') (hr : R v w') : Runs P o a w R := by
  intro K Q hK
  unfold Oper.wp
  rw [h]
  exact hK _ _ hr
theorem runs_skip {P : Program} {o : Oper} {a : Act} {w w' : World} {R : Value → World → Prop} (h : (execOp a.eval o).run P w = .ok .skip w') (hr : R undef w') : Runs P o a w R := by
  intro K Q hK
  unfold Oper.wp
  rw [h]
  exact hK _ _ hr
theorem runs_enter {P : Program} {o : Oper} {a : Act} {w w' : World} {R : Value → World → Prop} {f : FuncId} {args : Array Value} (h : (execOp a.eval o).run P w = .ok (.enter f args) w')
    (hr : Calls P f args w' fun e w'' => ∃ v, e = .returned v ∧ R v w'') : Runs P o a w R := by
  intro K Q hK
  unfold Oper.wp
  rw [h]
  refine Calls.mono hr ?_
  rintro e w'' ⟨v, rfl, hv⟩
  exact hK _ _ hv

abbrev EvRel (w : World) (ι : Io) (M : Ms) (ev : Operand → S) (a : Act) : Prop := ∀ x, RS w ι M (ev x) (a.eval x)
def QOp (P : Program) (o : Oper) (ev : Operand → S) (H : Hp) (s : S) (B : List Blk) : Prop :=
  ∀ (a : Act) (w : World) (ι : Io) (M : Ms), EvRel w ι M ev a → HeapRel w ι M H → MB w M → (∀ k, k < B.length → ι (H.length + k) = none) → Runs P o a w (QPost w ι M H.length s B)
def GOp (P : Program) (o : Oper) (ev : Operand → S) (H : Hp) (s : S) (H' : Hp) : Prop :=
  ∀ (a : Act) (w : World) (ι : Io) (M : Ms), EvRel w ι M ev a → HeapRel w ι M H → MB w M → Fresh ι H.length → Runs P o a w (GPost w ι M H s H')

theorem QPost.of_none {w w' : World} {ι : Io} {M : Ms} {n : Nat} {s : S} {v : Value} (h : RS w' ι M s v) (he : Ext w w') : QPost w ι M n s [] v w' := by
  refine ⟨fun _ => .nil, h.keep (fun _ _ _ => rfl) ?_ (fun id l hl => ?_), he, by simp, by simp, by simp⟩
  · rintro b (hb | ⟨k, hk, _⟩)
    · exact .inl hb
    · simp at hk
  · unfold addIo; rw [if_neg (by simp), hl]

/-- a result that leaves the world alone -/
theorem qop_same {P : Program} {o : Oper} {ev : Operand → S} {H : Hp} {s : S}
    (h : ∀ (a : Act) (w : World) (ι : Io) (M : Ms), EvRel w ι M ev a → HeapRel w ι M H → ∃ v, (execOp a.eval o).run P w = .ok (.value v) w ∧ RS w ι M s v) : QOp P o ev H s [] := by
  intro a w ι M he hh hm _
  obtain ⟨v, h1, h2⟩ := h a w ι M he hh
  exact runs_value h1 (QPost.of_none h2 (Ext.refl w))

theorem RS.inv_c {w : World} {ι : Io} {M : Ms} {x : C} {v : Value} (h : RS w ι M (.c x) v) : RC w ι M x v := by cases h; assumption
theorem RS.inv_t {w : World} {ι : Io} {M : Ms} {x : T} {v : Value} (h : RS w ι M (.c (.t x)) v) : RT w M x v := by cases h with | c h => cases h; assumption
theorem RS.inv_atm {w : World} {ι : Io} {M : Ms} {x v : Value} (h : RS w ι M (.c (.t (.atm x))) v) : v = x := by cases h.inv_t; rfl
theorem RS.mk_atm {w : World} {ι : Io} {M : Ms} {v : Value} (h : v.oneCell' = true) : RS w ι M (.c (.t (.atm v))) v := .c (.t (.atm h))
theorem RS.int {w : World} {ι : Io} {M : Ms} {k : IntKind} {n : Int} : RS w ι M (intS k n) (.int k n) := .mk_atm rfl
theorem RS.bool {w : World} {ι : Io} {M : Ms} {b : Bool} : RS w ι M (boolS b) (.bool b) := .mk_atm rfl

theorem RC.const {w : World} {ι : Io} {M : Ms} {v : Value} (h : v.oneCell' = true) : RC w ι M (constC v) v := by
  unfold constC
  split
  · exact .t (.sl (b := 0) (off := 0) (fun _ _ => undef) (by simp) (by simp) (by unfold maxLen; omega) (by simp) (by simp) (by simp) (by simp [at2]) (by simp [at2]))
  · exact .t (.atm h)
theorem RS.const {w : World} {ι : Io} {M : Ms} (v : Value) : RS w ι M (constS v) v := by
  unfold constS
  split
  · rename_i cs
    cases hb : cs.toList.all (·.oneCell') with
    | false => exact .junk
    | true =>
      have : RS w ι M (.agg (cs.toList.map constC)) (.agg cs.toList.toArray) := .agg cs.toList (by simp) fun j c hc => by
        rw [List.getElem?_map] at hc
        cases hj : cs.toList[j]? with
        | none => rw [hj] at hc; cases hc
        | some u =>
          rw [hj] at hc
          injection hc with hc
          subst hc
          rw [List.getD_eq_getElem?_getD, hj]
          exact RC.const (List.all_eq_true.1 hb u (List.mem_of_getElem? hj))
      simpa using this
  · exact .junk
  · exact .c (.t (.sl (b := 0) (off := 0) (fun _ _ => undef) (by simp) (by simp) (by unfold maxLen; omega) (by simp) (by simp) (by simp) (by simp [at2]) (by simp [at2])))
  · rename_i h1 h2 h3
    refine .c (.t (.atm ?_))
    cases v <;> first | rfl | (exact absurd rfl (h1 _)) | (exact absurd rfl (h2 _))
end Go.Proofs.Ythjgbjakpbfnoaa
