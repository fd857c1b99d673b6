/- Codes and functions of the abstract machine. -/
import Derived.Test.YthjgbjakpbfnoaaAbs14d
namespace Go.Proofs.Ythjgbjakpbfnoaa
open Go.RowKit
set_option linter.unusedVariables false
set_option linter.unusedSimpArgs false

inductive AX where
  | normal
  | exit (id : Nat)
  | ret
def AX.real : AX → Exit
  | .normal => .normal
  | .exit id => .exit id
  | .ret => .ret

/-- from every real state that the abstract one stands for, the code ends in one that an abstract end stands for -/
structure Awp (P : Program) (n0 : Nat) (c : Code) (env : Env) (H : Hp) (Q : AX → Env → Hp → Prop) : Prop where
  out : ∀ (w0 : World) (ι0 : Io) (M0 : Ms) (H0 : Hp) (a : Act) (w : World), H0.length = n0 → MB w0 M0 → Sim w0 ι0 M0 H0 a w env H →
    c.wp P (fun e a' w' => ∃ x env' H', e = AX.real x ∧ Q x env' H' ∧ Sim w0 ι0 M0 H0 a' w' env' H') a w

abbrev AQ := AX → Env → Hp → Prop
abbrev AC := Env → Hp → AQ → Prop
def acSkip : AC := fun env H Q => Q .normal env H
noncomputable def acRegion (P : Program) (τ : Tab) (_ : Nat) (ops : Array Oper) (draw : Bool) : AC := fun env H Q => match draw with
    | true => regOK ops.toList = true ∧ aops P τ ops.toList true 0 ops.toList env H (Q .normal)
    | false => aops P τ ops.toList false 0 ops.toList env H (Q .normal)
def acThen (b : AC) (Q : AQ) : AQ := fun x env' H' => match x with
    | .normal => b env' H' Q
    | .exit j => Q (.exit j) env' H'
    | .ret => Q .ret env' H'
def acSeq (_ _ : Code) (a b : AC) : AC := fun env H Q => a env H (acThen b Q)
def acCond (c : Operand) (_ _ : Code) (t e : AC) : AC := fun env H Q => match evalS env c with
    | .c (.t (.atm (.bool b))) => cond b (t env H Q) (e env H Q)
    | _ => False
def acIn (id : Nat) (Q : AQ) : AQ := fun x env' H' => match x with
    | .exit j => cond (Nat.beq j id) (Q .normal env' H') (Q (.exit j) env' H')
    | .normal => Q .normal env' H'
    | .ret => Q .ret env' H'
def acBlock (id : Nat) (_ : Code) (b : AC) : AC := fun env H Q => b env H (acIn id Q)
def acLoop (P : Program) (n0 : Nat) (c : Code) (_ : AC) : AC := fun env H Q => Awp P n0 (.loop c) env H Q
def acExit (id : Nat) : AC := fun env H Q => Q (.exit id) env H
def acRet : AC := fun env H Q => Q .ret env H
def acNo : AC := fun _ _ _ => False
/-- what a code does to the abstract state; loops are left (by the recursor itself) -/
noncomputable def acode (P : Program) (τ : Tab) (n0 : Nat) (c : Code) : Env → Hp → (AX → Env → Hp → Prop) → Prop :=
  Code.rec (motive := fun _ => AC) acSkip (acRegion P τ) acSeq acCond acBlock (acLoop P n0) (fun _ _ _ _ _ _ => acNo) acExit (fun _ _ => acNo) (fun _ => acSkip) (fun _ => acNo) acRet (fun _ => acNo) c

theorem acode_sound {P : Program} {τ : Tab} {n0 : Nat} (hτ : TabOK P τ) (c : Code) : ∀ {env : Env} {H : Hp} {Q : AX → Env → Hp → Prop}, acode P τ n0 c env H Q → Awp P n0 c env H Q := by
  induction c with
  | skip => intro env H Q h; refine ⟨fun w0 ι0 M0 H0 a w hn hM hs => ?_⟩; exact wp_skip ⟨.normal, env, H, rfl, h, hs⟩
  | region id ops draw =>
    intro env H Q h
    refine ⟨fun w0 ι0 M0 H0 a w hn hM hs => ?_⟩
    cases draw with
    | false =>
      refine wp_region ?_
      have := aops_seq hτ hM (Q := fun e a' w' => ∃ x env' H', e = AX.real x ∧ Q x env' H' ∧ Sim w0 ι0 M0 H0 a' w' env' H') (K := Q .normal)
        (fun env H a w hk hs => ⟨.normal, env, H, rfl, hk, hs⟩) ops.toList 0 env H a w rfl h hs
      rw [List.range_eq_range']
      simpa using this
    | true =>
      obtain ⟨hr, h⟩ := h
      exact aops_drawn hτ hM (fun env H a w hk hs => ⟨.normal, env, H, rfl, hk, hs⟩) hr h hs
  | seq x y ihx ihy =>
    intro env H Q h
    refine ⟨fun w0 ι0 M0 H0 a w hn hM hs => ?_⟩
    refine wp_seq (wp_mono ((ihx h).out w0 ι0 M0 H0 a w hn hM hs) ?_)
    rintro e a' w' ⟨x, env', H', rfl, hq, hs'⟩
    cases x with
    | normal => exact (ihy hq).out w0 ι0 M0 H0 a' w' hn hM hs'
    | exit id => exact ⟨_, env', H', rfl, hq, hs'⟩
    | ret => exact ⟨_, env', H', rfl, hq, hs'⟩
  | cond c t e iht ihe =>
    intro env H Q h
    refine ⟨fun w0 ι0 M0 H0 a w hn hM hs => ?_⟩
    have h : (match evalS env c with
      | .c (.t (.atm (.bool b))) => cond b (acode P τ n0 t env H Q) (acode P τ n0 e env H Q)
      | _ => False) := h
    split at h
    · rename_i b hb
      obtain ⟨ι, M, hd, hsz, he, hH, hMB, hF, hst⟩ := hs
      have hv := (he.ev.to hb).inv_atm
      have hs : Sim w0 ι0 M0 H0 a w env H := ⟨ι, M, hd, hsz, he, hH, hMB, hF, hst⟩
      refine wp_cond hv ?_
      cases b with
      | true => exact (iht h).out w0 ι0 M0 H0 a w hn hM hs
      | false => exact (ihe h).out w0 ι0 M0 H0 a w hn hM hs
    · exact h.elim
  | block id c ih =>
    intro env H Q h
    refine ⟨fun w0 ι0 M0 H0 a w hn hM hs => ?_⟩
    refine wp_block (wp_mono ((ih h).out w0 ι0 M0 H0 a w hn hM hs) ?_)
    rintro e a' w' ⟨x, env', H', rfl, hq, hs'⟩
    cases x with
    | normal => exact ⟨_, env', H', rfl, hq, hs'⟩
    | exit j =>
      have hq : cond (Nat.beq j id) (Q .normal env' H') (Q (.exit j) env' H') := hq
      show if j = id then _ else _
      by_cases hj : j = id
      · subst hj
        rw [if_pos rfl]
        simp only [Nat.beq_refl, cond_true] at hq
        exact ⟨_, env', H', rfl, hq, hs'⟩
      · rw [if_neg hj]
        have : Nat.beq j id = false := by
          cases hb : Nat.beq j id with
          | false => rfl
          | true => exact absurd (Nat.eq_of_beq_eq_true hb) hj
        simp only [this, cond_false] at hq
        exact ⟨_, env', H', rfl, hq, hs'⟩
    | ret => exact ⟨_, env', H', rfl, hq, hs'⟩
  | loop c ih => intro env H Q h; exact h
  | exit id => intro env H Q h; refine ⟨fun w0 ι0 M0 H0 a w hn hM hs => ?_⟩; exact wp_exit ⟨.exit id, env, H, rfl, h, hs⟩
  | ret => intro env H Q h; refine ⟨fun w0 ι0 M0 H0 a w hn hM hs => ?_⟩; exact wp_ret ⟨.ret, env, H, rfl, h, hs⟩
  | label l => intro env H Q h; refine ⟨fun w0 ι0 M0 H0 a w hn hM hs => ?_⟩; exact wp_label ⟨.normal, env, H, rfl, h, hs⟩
  | _ => intros; rename_i h; exact False.elim h

/-- the results of a function -/
def ares (τ : Tab) (env : Env) (H : Hp) : List ResultVar → (List S → Prop) → Prop
  | [], k => k []
  | .tmp t :: r, k => forceS (evalS env (.tmp t)) fun s => ares τ env H r fun l => k (s :: l)
  | .cell x t :: r, k => aload τ (evalS env) H t (.tmp x) fun s => ares τ env H r fun l => k (s :: l)
def aresult (τ : Tab) (fn : Func) (env : Env) (H : Hp) (k : S → Prop) : Prop :=
  ares τ env H fn.results.toList fun l => match l with
    | [s] => k s
    | l => k (.tup l)

theorem Sim.init {w : World} {ι : Io} {M : Ms} {H : Hp} {vals : List Value} {args : List S} (hl : vals.length = args.length) (hr : ∀ j s, args[j]? = some s → RS w ι M s (vals.getD j undef))
    (hH : HeapRel w ι M H) (hM : MB w M) (hF : Fresh ι H.length) (n : Nat) :
    Sim w ι M H { tmps := vals.toArray ++ Array.replicate n undef, defers := [] } w (args ++ List.replicate n .junk) H := by
  refine ⟨ι, M, rfl, by simp [hl], fun t s ht => ?_, hH, hM, hF, Step.refl w ι M H⟩
  by_cases h : t < args.length
  · rw [List.getElem?_append_left h] at ht
    have := hr t s ht
    have hlt : t < vals.length := by omega
    rw [List.getD_eq_getElem?_getD, List.getElem?_eq_getElem hlt] at this
    rw [Array.getD_eq_getD_getElem?, Array.getElem?_append_left (by simpa using hlt)]
    simpa [hlt] using this
  · rw [List.getElem?_append_right (by omega), List.getElem?_replicate] at ht
    split at ht
    · injection ht with ht; subst ht; exact .junk
    · cases ht

theorem ares_run {P : Program} {τ : Tab} (hτ : TabOK P τ) {w : World} {ι : Io} {M : Ms} {env : Env} {H : Hp} {a : Act} (he : EnvRel w ι M env a) (hH : HeapRel w ι M H) : ∀ (rs : List ResultVar) {k : List S → Prop}, ares τ env H rs k →
    ∃ l, k l ∧ ∃ vs : List Value, (rs.mapM fun | .tmp t => pure (a.tmps.getD t undef) | .cell x t => do loadVar t (← asAddr (a.tmps.getD x undef)) : Sem (List Value)).run P w = .ok vs w ∧ vs.length = l.length ∧
      ∀ (j : Nat) (s : S), l[j]? = some s → RS w ι M s (vs.getD j undef)
  | [], k, h => ⟨[], h, [], by simp, rfl, by simp⟩
  | .tmp t :: r, k, h => by
    simp only [ares] at h
    rw [forceS_iff] at h
    obtain ⟨l, hk, vs, h1, h2, h3⟩ := ares_run hτ he hH r h
    refine ⟨_, hk, a.tmps.getD t undef :: vs, ?_, by simp [h2], fun j s hj => ?_⟩
    · simp only [List.mapM_cons, Sem.run_bind, Sem.run_pure, Result.andThen_ok, h1]
    · cases j with
      | zero => simp at hj; subst hj; exact he.ev (.tmp t)
      | succ j => simpa using h3 j s (by simpa using hj)
  | .cell x t :: r, k, h => by
    simp only [ares] at h
    obtain ⟨s, hs, hv⟩ := aload_val hτ h
    obtain ⟨v, ad, g0, g1, g2⟩ := hv a w ι M he.ev hH
    obtain ⟨l, hk, vs, h1, h2, h3⟩ := ares_run hτ he hH r hs
    have g0' : a.tmps.getD x undef = .pointer (some ad) := g0
    have e : (do loadVar t (← asAddr (a.tmps.getD x undef)) : Sem Value).run P w = .ok v w := by
      rw [g0] at g1
      rw [g0']
      simpa [asAddr, Instr.loadAt, Instr.sureAddr] using g1
    refine ⟨_, hk, v :: vs, ?_, by simp [h2], fun j s hj => ?_⟩
    · simp only [List.mapM_cons, Sem.run_bind, Sem.run_pure, Result.andThen_ok] at e ⊢
      rw [e]
      simp only [Result.andThen_ok, h1]
    · cases j with
      | zero => simp at hj; subst hj; exact g2
      | succ j => simpa using h3 j s (by simpa using hj)

end Go.Proofs.Ythjgbjakpbfnoaa
