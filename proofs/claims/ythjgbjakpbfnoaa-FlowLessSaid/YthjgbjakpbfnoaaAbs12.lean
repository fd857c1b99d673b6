/- The abstract machine is sound: calls, and every operation. -/
import Derived.Test.YthjgbjakpbfnoaaAbs11
namespace Go.Proofs.Ythjgbjakpbfnoaa
open Go.RowKit
set_option linter.unusedVariables false
set_option linter.unusedSimpArgs false

section
variable {P : Program} {τ : Tab} {o : Oper} {ev : Operand → S} {H : Hp}

/-- the arguments of a call, with what a function value captured -/
theorem call_args {w : World} {ι : Io} {M : Ms} {a : Act} (he : EvRel w ι M ev a) {args : Array Operand} {caps : List S} {vs : List Value} (hl : vs.length = caps.length)
    (hr : ∀ j s, caps[j]? = some s → RS w ι M s (vs.getD j undef)) :
    (args.toList.map a.eval ++ vs).length = (args.toList.map ev ++ caps).length ∧ ∀ j s, (args.toList.map ev ++ caps)[j]? = some s → RS w ι M s ((args.toList.map a.eval ++ vs).getD j undef) := by
  refine ⟨by simp [hl], fun j s hj => ?_⟩
  by_cases h : j < args.toList.length
  · rw [List.getElem?_append_left (by simpa using h), List.getElem?_map, List.getElem?_eq_getElem h] at hj
    injection hj with hj
    subst hj
    rw [List.getD_eq_getElem?_getD, List.getElem?_append_left (by simpa using h), List.getElem?_map, List.getElem?_eq_getElem h]
    exact he _
  · rw [List.getElem?_append_right (by simpa using h)] at hj
    have := hr _ s hj
    rw [List.getD_eq_getElem?_getD] at this ⊢
    rw [List.getElem?_append_right (by simpa using h)]
    simpa using this

theorem acall_sound {c : Call} (ho : o.op = .call c) {f : Operand} (hc : c.callee = .value f) {g : FuncId} {caps : List S}
    (hf : ∀ (a : Act) (w : World) (ι : Io) (M : Ms), EvRel w ι M ev a → ∃ vs : List Value, a.eval f = .func (.func g) #[] vs.toArray ∧ vs.length = caps.length ∧ ∀ j s, caps[j]? = some s → RS w ι M s (vs.getD j undef))
    {Kq : S → List Blk → Prop} {Kg : S → Hp → Prop} (h : acall P g (c.args.toList.map ev ++ caps) H Kq Kg) :
    (∃ s B, Kq s B ∧ QOp P o ev H s B) ∨ (∃ s H', Kg s H' ∧ GOp P o ev H s H') := by
  obtain ⟨callee, args, argTypes⟩ := c
  simp only at hc h
  subst hc
  have hex : Enters P g → ∀ (a : Act) (w : World) (vs : List Value), a.eval f = .func (.func g) #[] vs.toArray → (execOp a.eval o).run P w = .ok (.enter g (args.toList.map a.eval ++ vs).toArray) w := by
    rintro ⟨fn, hfn, hb, hnm⟩ a w vs hv
    have hn : fn.body ≠ none := by intro e; rw [e] at hb; cases hb
    have e : (args.map a.eval ++ vs.toArray) = (args.toList.map a.eval ++ vs).toArray := by apply Array.ext'; simp
    simp [execOp, ho, resolve, hv, Deferred.ofValue, invoke, callFunc, hfn, hn, hnm, e]
  rcases h with ⟨r, B, hq, hk⟩ | ⟨r, H', hq, hk⟩
  · refine .inl ⟨r, B, boolF_get hk, fun a w ι M he hh hm hfr => ?_⟩
    obtain ⟨vs, h1, h2, h3⟩ := hf a w ι M he
    obtain ⟨q1, q2⟩ := call_args he (args := args) h2 h3
    exact runs_enter (hex hq.1 a w vs h1) (hq.2 w ι M _ q1 q2 hh hm hfr)
  · refine .inr ⟨r, H', boolF_get hk, fun a w ι M he hh hm hfr => ?_⟩
    obtain ⟨vs, h1, h2, h3⟩ := hf a w ι M he
    obtain ⟨q1, q2⟩ := call_args he (args := args) h2 h3
    exact runs_enter (hex hq.1 a w vs h1) (hq.2 w ι M _ q1 q2 hh hm hfr)

theorem aop_sound (hτ : TabOK P τ) {Kq : S → List Blk → Prop} {Kg : S → Hp → Prop} (h : aop P τ ev H o.op Kq Kg) : (∃ s B, Kq s B ∧ QOp P o ev H s B) ∨ (∃ s H', Kg s H' ∧ GOp P o ev H s H') := by
  have one : ∀ {K : S → Prop}, (∀ s, K s → Kq s []) → (∃ s, K s ∧ QOp P o ev H s []) → (∃ s B, Kq s B ∧ QOp P o ev H s B) ∨ (∃ s H', Kg s H' ∧ GOp P o ev H s H') := fun hK ⟨s, h1, h2⟩ => .inl ⟨s, [], hK s h1, h2⟩
  generalize hop : o.op = op at h
  unfold aop at h
  split at h
  case h_1 x => rw [forceS_iff] at h; exact .inl ⟨_, _, h, aop_move x (.inl hop)⟩
  case h_2 x => rw [forceS_iff] at h; exact .inl ⟨_, _, h, aop_move x (.inr hop)⟩
  case h_3 c x y =>
    split at h
    · rename_i t hc
      rw [forceS_iff, forceS_iff] at h
      have := aop_pick (P := P) (H := H) c x y t hop hc
      cases t <;> exact .inl ⟨_, _, h, this⟩
    · exact h.elim
  case h_4 t x => exact one (fun _ h => boolF_get h) (aload_sound hτ hop h)
  case h_5 t x v => obtain ⟨H', h1, h2⟩ := astore_sound hτ hop h; exact .inr ⟨_, _, h1, h2⟩
  case h_6 s x f => exact one (fun _ h => h) (afieldAddr_sound hτ hop h)
  case h_7 t x i => exact one (fun _ h => h) (aindexAddr_sound hτ hop h)
  case h_8 t x lo hi max => exact one (fun _ h => h) (aslice_sound hτ hop h)
  case h_9 op t x y yt => exact one (fun _ h => h) (abin_sound hτ hop h)
  case h_10 op t x => exact one (fun _ h => h) (aun_sound hop h)
  case h_11 src dst x => exact one (fun _ h => h) (aconv_sound hτ hop h)
  case h_12 t l c =>
    rw [lenK_iff, Nat.zero_add] at h
    exact .inl (amake_sound hτ hop h)
  case h_13 t parts => exact one (fun _ h => h) (abuild_sound hτ hop h)
  case h_14 t n parts =>
    rw [lenK_iff, Nat.zero_add] at h
    exact .inl (abuildSlice_sound hτ hop h)
  case h_15 t x =>
    rw [lenK_iff, Nat.zero_add] at h
    exact .inl (abox_sound hop h)
  case h_16 t =>
    rw [lenK_iff, Nat.zero_add] at h
    exact .inl (aalloc_sound hτ hop h)
  case h_17 x i =>
    split at h
    · rename_i ss hx
      obtain ⟨s, h1, h2⟩ := getK_iff h
      exact .inl ⟨_, _, boolF_get h2, aextract_sound hop hx h1⟩
    · exact h.elim
  case h_18 fn first caps =>
    split at h
    · rename_i cs hf hcs
      have hcs := allC_some hcs
      split at h
      · rename_i ts hts
        rw [allT_some hts] at hcs
        exact .inl ⟨_, _, h, amakeFuncT_sound hop hf hcs⟩
      · exact .inl ⟨_, _, h, amakeFunc_sound hop hf hcs⟩
    · exact h.elim
  case h_19 c =>
    split at h
    · rename_i hc
      split at h
      · rename_i t ts x xs ht hx
        exact one (fun _ h => h) (alen_sound hτ hop hc ht hx h)
      · exact h.elim
    · rename_i hc
      split at h
      · rename_i t t' s x ht hx
        obtain ⟨hb, h'⟩ := cond_iff h
        obtain rfl : t = t' := by simpa using hb
        rw [lenK_iff, Nat.zero_add] at h'
        exact aappend_sound hτ hop hc ht hx h'
      · exact h.elim
    · rename_i hc
      exact one (fun _ h => h) (amin_sound false hop hc h)
    · rename_i hc
      exact one (fun _ h => h) (amin_sound true hop hc h)
    · rename_i f hc
      split at h
      · rename_i g caps hf
        refine acall_sound hop hc (fun a w ι M he => ?_) h
        have hr := (he.to hf).inv_t
        generalize a.eval f = v at *
        cases hr with
        | fn vs hl hr =>
          refine ⟨vs, rfl, by simpa using hl, fun j s hj => ?_⟩
          rw [List.getElem?_map] at hj
          cases hj' : caps[j]? with
          | none => rw [hj'] at hj; cases hj
          | some c =>
            rw [hj'] at hj
            injection hj with hj
            subst hj
            exact .c (.t (hr j c hj'))
      · rename_i g caps hf
        refine acall_sound hop hc (fun a w ι M he => ?_) h
        have hr := (he.to hf).inv_c
        generalize a.eval f = v at *
        cases hr with
        | fn vs hl hr =>
          refine ⟨vs, rfl, by simpa using hl, fun j s hj => ?_⟩
          rw [List.getElem?_map] at hj
          cases hj' : caps[j]? with
          | none => rw [hj'] at hj; cases hj
          | some c =>
            rw [hj'] at hj
            injection hj with hj
            subst hj
            exact .c (hr j c hj')
      · exact h.elim
    · exact h.elim
  case h_20 => exact h.elim
end
end Go.Proofs.Ythjgbjakpbfnoaa
