/- Regions that draw their order: any order that the edges allow does what the text's order does. -/
import Derived.Test.YthjgbjakpbfnoaaAbs13
import Derived.Orders
namespace Go.Proofs.Ythjgbjakpbfnoaa
open Go.RowKit
set_option linter.unusedVariables false
set_option linter.unusedSimpArgs false

/-- the temporaries that an operation looks at -/
def readsOf (ops : List Oper) (o : Oper) : List Nat :=
  (o.op.operands.toList.filterMap fun x => match x with | .tmp t => some t | _ => none) ++
  (match o.guard with
   | some (j, _) => match ops[j]? with
     | some oj => oj.dst.toList
     | none => []
   | none => [])
def backOK (ops : List Oper) : Bool := ops.zipIdx.all fun x => x.1.after.toList.all fun e => !(Region.binds .any e) || Nat.blt e.on x.2
def dstOK (ops : List Oper) : Bool := ops.zipIdx.all fun x => ops.zipIdx.all fun y => Nat.beq x.2 y.2 || (match x.1.dst, y.1.dst with | some a, some b => !(Nat.beq a b) | _, _ => true)
def depOK (ops : List Oper) : Bool :=
  ops.zipIdx.all fun x => (readsOf ops x.1).all fun t => ops.zipIdx.all fun y => match y.1.dst with
    | some d => !(Nat.beq d t) || Nat.beq x.2 y.2 || cond (Nat.blt y.2 x.2) (((masks ops).getD x.2 0).testBit y.2) (((masks ops).getD y.2 0).testBit x.2)
    | none => true
/-- what a region that draws must fulfil -/
def regOK (ops : List Oper) : Bool := backOK ops && dstOK ops && depOK ops

theorem masksGo_spec : ∀ (r : List Oper) (acc : List Nat), ∃ s, masksGo r acc = acc ++ s ∧ s.length = r.length ∧ ∀ i o, r[i]? = some o → s[i]? = some (stepMask ((masksGo r acc).take (acc.length + i)) o)
  | [], acc => ⟨[], by simp [masksGo], rfl, by simp⟩
  | o :: r, acc => by
    obtain ⟨s, h1, h2, h3⟩ := masksGo_spec r (acc ++ [stepMask acc o])
    refine ⟨stepMask acc o :: s, by rw [masksGo, h1]; simp, by simp [h2], fun i o' hi => ?_⟩
    cases i with
    | zero =>
      simp at hi
      subst hi
      rw [masksGo, h1]
      simp
    | succ i =>
      have := h3 i o' (by simpa using hi)
      rw [masksGo]
      simp only [List.length_append, List.length_singleton] at this
      rw [show acc.length + (i + 1) = acc.length + 1 + i by omega]
      simpa using this

theorem masks_get {ops : List Oper} {i : Nat} {o : Oper} (h : ops[i]? = some o) : (masks ops).getD i 0 = stepMask ((masks ops).take i) o := by
  obtain ⟨s, h1, h2, h3⟩ := masksGo_spec ops []
  have := h3 i o h
  simp only [List.nil_append] at h1
  have e : masks ops = s := h1
  rw [List.getD_eq_getElem?_getD, e, this]
  simp only [List.length_nil, Nat.zero_add, Option.getD_some]
  rw [← h1]

theorem foldl_testBit (acc : List Nat) (j : Nat) : ∀ (es : List Edge) (s0 : Nat),
    (es.foldl (fun s e => cond (Region.binds .any e) (s ||| (1 <<< e.on) ||| acc.getD e.on 0) s) s0).testBit j = true → s0.testBit j = true ∨ ∃ e ∈ es, Region.binds .any e = true ∧ (e.on = j ∨ (acc.getD e.on 0).testBit j = true)
  | [], s0, h => .inl h
  | e :: es, s0, h => by
    rw [List.foldl_cons] at h
    rcases foldl_testBit acc j es _ h with h | ⟨e', h1, h2⟩
    · cases hb : Region.binds .any e with
      | false => rw [hb] at h; exact .inl h
      | true =>
        rw [hb] at h
        simp only [cond_true, Nat.testBit_or, Bool.or_eq_true, Nat.testBit_shiftLeft] at h
        rcases h with (h | h) | h
        · exact .inl h
        · refine .inr ⟨e, by simp, hb, .inl ?_⟩
          simp only [Bool.and_eq_true, decide_eq_true_eq] at h
          obtain ⟨h1, h2⟩ := h
          have : j - e.on = 0 := by
            rcases Nat.eq_zero_or_pos (j - e.on) with h | h
            · exact h
            · rw [Nat.testBit_one_eq_true_iff_self_eq_zero] at h2; exact h2
          omega
        · exact .inr ⟨e, by simp, hb, .inr h⟩
    · exact .inr ⟨e', by simp [h1], h2⟩

theorem back_lt {ops : List Oper} (hb : backOK ops = true) {i : Nat} {o : Oper} (h : ops[i]? = some o) {e : Edge} (he : e ∈ o.after.toList) (hbi : Region.binds .any e = true) : e.on < i := by
  have := List.all_eq_true.1 hb (o, i) (by rw [List.mem_zipIdx_iff_getElem?]; exact h)
  have := List.all_eq_true.1 this e he
  simp only [hbi, Bool.not_true, Bool.false_or, Nat.blt_eq] at this
  exact this

/-- a set that is closed under the edges holds all that the masks say -/
theorem mask_mem {ops : List Oper} (hb : backOK ops = true) {S : Nat → Prop} (hS : ∀ i o, ops[i]? = some o → S i → ∀ e ∈ o.after.toList, Region.binds .any e = true → S e.on) :
    ∀ (i : Nat) (o : Oper) (j : Nat), ops[i]? = some o → ((masks ops).getD i 0).testBit j = true → S i → S j := by
  intro i
  induction i using Nat.strongRecOn with
  | _ i ih =>
    intro o j ho hj hi
    rw [masks_get ho] at hj
    rcases foldl_testBit _ j _ _ hj with h | ⟨e, he, hbi, h⟩
    · simp at h
    · have hlt := back_lt hb ho he hbi
      have hs := hS i o ho hi e he hbi
      rcases h with rfl | h
      · exact hs
      · have hio : i < ops.length := (List.getElem?_eq_some_iff.1 ho).1
        refine ih e.on hlt ops[e.on] j (List.getElem?_eq_getElem (by omega)) ?_ hs
        rw [List.getD_eq_getElem?_getD, List.getElem?_take_of_lt hlt] at h
        rw [List.getD_eq_getElem?_getD]
        exact h
/-- the same for an operation that is ready: its direct predecessors are in the set -/
theorem mask_ready {ops : List Oper} (hb : backOK ops = true) {S : Nat → Prop} (hS : ∀ i o, ops[i]? = some o → S i → ∀ e ∈ o.after.toList, Region.binds .any e = true → S e.on)
    {i : Nat} {o : Oper} {j : Nat} (ho : ops[i]? = some o) (hr : ∀ e ∈ o.after.toList, Region.binds .any e = true → S e.on) (hj : ((masks ops).getD i 0).testBit j = true) : S j := by
  rw [masks_get ho] at hj
  rcases foldl_testBit _ j _ _ hj with h | ⟨e, he, hbi, h⟩
  · simp at h
  · have hlt := back_lt hb ho he hbi
    have hs := hr e he hbi
    rcases h with rfl | h
    · exact hs
    · have hio : i < ops.length := (List.getElem?_eq_some_iff.1 ho).1
      refine mask_mem hb hS e.on ops[e.on] j (List.getElem?_eq_getElem (by omega)) ?_ hs
      rw [List.getD_eq_getElem?_getD, List.getElem?_take_of_lt hlt] at h
      rw [List.getD_eq_getElem?_getD]
      exact h
end Go.Proofs.Ythjgbjakpbfnoaa
