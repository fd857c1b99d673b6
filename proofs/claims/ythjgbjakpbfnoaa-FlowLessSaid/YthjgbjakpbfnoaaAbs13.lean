/- Regions, codes and functions of the abstract machine. -/
import Derived.Test.YthjgbjakpbfnoaaAbs12
namespace Go.Proofs.Ythjgbjakpbfnoaa
open Go.RowKit
set_option linter.unusedVariables false
set_option linter.unusedSimpArgs false

def putS (dst : Option Tmp) (s : S) (env : Env) (k : Env → Prop) : Prop :=
  match dst with
  | none => k env
  | some d => setK d s env k
def putE (dst : Option Tmp) (s : S) (env : Env) : Env :=
  match dst with
  | none => env
  | some d => env.set d s
theorem putS_iff {dst : Option Tmp} {s : S} {env : Env} {k : Env → Prop} : putS dst s env k ↔ k (putE dst s env) := by
  cases dst with
  | none => rfl
  | some d => exact setK_iff

/-- what an operation that is not wanted leaves -/
abbrev skipS : S := .tup []
theorem RS.skip {w : World} {ι : Io} {M : Ms} : RS w ι M skipS undef := .tup [] rfl (by simp)
/-- a guarded operation: wanted, or not -/
def aguard (ops : List Oper) (o : Oper) (env : Env) (X Y : Prop) : Prop :=
  match o.guard with
  | none => X
  | some (j, want) => match ops[j]? with
    | none => False
    | some oj => match oj.dst with
      | none => False
      | some d => match evalS env (.tmp d) with
        | .c (.t (.atm (.bool b))) => match want with
          | true => cond b X Y
          | false => cond b Y X
        | .tup _ => Y
        | _ => False

/-- which operations come before an operation for sure, as the bits of a number -/
def stepMask (acc : List Nat) (o : Oper) : Nat := o.after.toList.foldl (fun s e => cond (Region.binds .any e) (s ||| (1 <<< e.on) ||| acc.getD e.on 0) s) 0
def masksGo : List Oper → List Nat → List Nat
  | [], acc => acc
  | o :: r, acc => masksGo r (acc ++ [stepMask acc o])
def masks (ops : List Oper) : List Nat := masksGo ops []
/-- everything before it must come before it, everything behind it behind it -/
def barrier (ops : List Oper) (i : Nat) : Bool :=
  (List.range ops.length).all fun j => cond (Nat.blt j i) (((masks ops).getD i 0).testBit j) (cond (Nat.blt i j) (((masks ops).getD j 0).testBit i) true)

/-- one operation of a region, before the rest of it -/
def aopsStep (P : Program) (τ : Tab) (ops : List Oper) (drawn : Bool) (o : Oper) (ih : Nat → Env → Hp → (Env → Hp → Prop) → Prop) (i : Nat) (env : Env) (H : Hp) (K : Env → Hp → Prop) : Prop :=
  aguard ops o env
      (aop P τ (evalS env) H o.op (fun s B => putS o.dst s env fun env' => appK H B fun H' => ih (i + 1) env' H' K)
        (fun s H' => match drawn with
          | true => barrier ops i = true ∧ putS o.dst s env fun env' => ih (i + 1) env' H' K
          | false => putS o.dst s env fun env' => ih (i + 1) env' H' K))
      (putS o.dst skipS env fun env' => ih (i + 1) env' H K)
def aopsNil (_ : Nat) (env : Env) (H : Hp) (K : Env → Hp → Prop) : Prop := K env H
/-- the operations of a region in the text's order (by the recursor itself, so that a walk's proof is cheap to check) -/
noncomputable def aopsR (P : Program) (τ : Tab) (ops : List Oper) (drawn : Bool) (rest : List Oper) : Nat → Env → Hp → (Env → Hp → Prop) → Prop :=
  List.rec (motive := fun _ => Nat → Env → Hp → (Env → Hp → Prop) → Prop) aopsNil (fun o _ ih => aopsStep P τ ops drawn o ih) rest
noncomputable def aops (P : Program) (τ : Tab) (ops : List Oper) (drawn : Bool) (i : Nat) (rest : List Oper) (env : Env) (H : Hp) (K : Env → Hp → Prop) : Prop := aopsR P τ ops drawn rest i env H K

abbrev EnvRel (w : World) (ι : Io) (M : Ms) (env : Env) (a : Act) : Prop := ∀ (t : Nat) (s : S), env[t]? = some s → RS w ι M s (a.tmps.getD t undef)

/-- the abstract state stands for the real one, which came from the first one -/
def Sim (w0 : World) (ι0 : Io) (M0 : Ms) (H0 : Hp) (a : Act) (w : World) (env : Env) (H : Hp) : Prop :=
  ∃ (ι : Io) (M : Ms), a.defers = [] ∧ a.tmps.size = env.length ∧ EnvRel w ι M env a ∧ HeapRel w ι M H ∧ MB w M ∧ Fresh ι H.length ∧ Step w0 ι0 M0 H0 w ι M H

theorem EnvRel.ev {w : World} {ι : Io} {M : Ms} {env : Env} {a : Act} (h : EnvRel w ι M env a) : EvRel w ι M (evalS env) a := by
  intro x
  cases x with
  | tmp t =>
    show RS w ι M (env.getD t .junk) (a.tmps.getD t undef)
    rw [List.getD_eq_getElem?_getD]
    cases ht : env[t]? with
    | none => exact .junk
    | some s => exact h t s ht
  | const v => exact RS.const v
  | global g => exact .junk
  | func f => exact .c (.t (.fn [] rfl (by simp)))

theorem EnvRel.put {w : World} {ι : Io} {M : Ms} {env : Env} {a : Act} (h : EnvRel w ι M env a) (hsz : a.tmps.size = env.length) {s : S} {v : Value} (hs : RS w ι M s v) (dst : Option Tmp) : EnvRel w ι M (putE dst s env) (a.put dst v) := by
  cases dst with
  | none => exact h
  | some d =>
    intro t s' ht
    simp only [putE] at ht
    by_cases htd : t = d
    · subst htd
      have hlt : t < env.length := by have := (List.getElem?_eq_some_iff.1 ht).1; simpa using this
      rw [List.getElem?_set_self hlt] at ht
      injection ht with ht
      subst ht
      show RS w ι M s ((a.tmps.setIfInBounds t v).getD t undef)
      simpa [show t < a.tmps.size by omega] using hs
    · rw [List.getElem?_set_ne (Ne.symm htd)] at ht
      show RS w ι M s' ((a.tmps.setIfInBounds d v).getD t undef)
      have := h t s' ht
      rw [Array.getD_eq_getD_getElem?] at this ⊢
      rwa [Array.getElem?_setIfInBounds_ne (Ne.symm htd)]
theorem putE_length (dst : Option Tmp) (s : S) (env : Env) : (putE dst s env).length = env.length := by cases dst <;> simp [putE]
theorem put_size (a : Act) (dst : Option Tmp) (v : Value) : (a.put dst v).tmps.size = a.tmps.size := by cases dst <;> simp [Act.put]
theorem put_defers' (a : Act) (dst : Option Tmp) (v : Value) : (a.put dst v).defers = a.defers := by cases dst <;> rfl

/-- is the operation wanted? -/
def Wants (ops : List Oper) (o : Oper) (env : Env) (y : Bool) : Prop :=
  match o.guard with
  | none => y = true
  | some (j, want) => ∃ oj d, ops[j]? = some oj ∧ oj.dst = some d ∧ ((∃ b, evalS env (.tmp d) = boolS b ∧ y = (b == want)) ∨ ∃ ss, evalS env (.tmp d) = .tup ss ∧ y = false)

theorem aguard_iff {ops : List Oper} {o : Oper} {env : Env} {X Y : Prop} (h : aguard ops o env X Y) : ∃ y, Wants ops o env y ∧ cond y X Y := by
  unfold aguard at h
  unfold Wants
  split at h
  · exact ⟨true, rfl, h⟩
  · rename_i j want _
    split at h
    · exact h.elim
    · rename_i oj hj
      split at h
      · exact h.elim
      · rename_i d hd
        split at h
        · rename_i b hb
          refine ⟨b == want, ⟨oj, d, hj, hd, .inl ⟨b, hb, rfl⟩⟩, ?_⟩
          cases want <;> cases b <;> exact h
        · rename_i ss hb
          exact ⟨false, ⟨oj, d, hj, hd, .inr ⟨ss, hb, rfl⟩⟩, h⟩
        · exact h.elim

theorem wants_real {w : World} {ι : Io} {M : Ms} {env : Env} {a : Act} {ops : Array Oper} {o : Oper} {y : Bool} (hsz : a.tmps.size = env.length) (h : Wants ops.toList o env y)
    (he : ∀ j want oj d, o.guard = some (j, want) → ops[j]? = some oj → oj.dst = some d → RS w ι M (evalS env (.tmp d)) (a.tmps.getD d undef)) :
    Region.wanted o (yielded ops a.tmps) = y := by
  unfold Wants at h
  unfold Region.wanted
  cases hg : o.guard with
  | none => rw [hg] at h; exact h.symm
  | some jw =>
    obtain ⟨j, want⟩ := jw
    rw [hg] at h
    obtain ⟨oj, d, h1, h2, h3⟩ := h
    have h1' : ops[j]? = some oj := by simpa using h1
    have hr := he j want oj d hg h1' h2
    have hne : evalS env (.tmp d) ≠ .junk := by
      rcases h3 with ⟨b, h3, -⟩ | ⟨ss, h3, -⟩ <;> rw [h3] <;> intro h <;> cases h
    have hlt : d < a.tmps.size := by
      rcases Nat.lt_or_ge d a.tmps.size with hlt | hge
      · exact hlt
      · have : evalS env (.tmp d) = .junk := by
          show env.getD d .junk = _
          rw [List.getD_eq_getElem?_getD, List.getElem?_eq_none (by omega)]; rfl
        exact absurd this hne
    have hy : yielded ops a.tmps j = match a.tmps.getD d undef with | .bool b => some b | _ => none := by
      unfold yielded
      rw [h1']
      simp only [Option.bind_some, h2]
      rw [Array.getD_eq_getD_getElem?, Array.getElem?_eq_getElem hlt]
      simp only [Option.getD_some]
      split <;> rename_i hv
      · injection hv with hv; rw [hv]
      · split <;> rename_i hv'
        · exact absurd (congrArg some hv') (hv _)
        · rfl
    simp only [hy]
    rcases h3 with ⟨b, h3, rfl⟩ | ⟨ss, h3, rfl⟩
    · rw [h3] at hr
      rw [hr.inv_atm]
      cases b <;> cases want <;> rfl
    · rw [h3] at hr
      generalize a.tmps.getD d undef = v at *
      cases hr with
      | tup vs hl hr => rfl

section
variable {P : Program} {τ : Tab}

theorem Sim.post {w0 : World} {ι0 : Io} {M0 : Ms} {H0 : Hp} (hM0 : MB w0 M0) {a : Act} {w w' : World} {ι : Io} {M : Ms} {env : Env} {H H' : Hp} {s : S} {v : Value} (hd : a.defers = []) (hsz : a.tmps.size = env.length)
    (he : EnvRel w ι M env a) (hH : HeapRel w ι M H) (hM : MB w M) (hF : Fresh ι H.length) (hst : Step w0 ι0 M0 H0 w ι M H) (hp : GPost w ι M H s H' v w') (dst : Option Tmp) :
    Sim w0 ι0 M0 H0 (a.put dst v) w' (putE dst s env) H' := by
  obtain ⟨ι', M', h1, h2, h3, h4, h5⟩ := hp
  have hk : ∀ b, b < w.heap.size → ¬ M b → w'.heap[b]? = w.heap[b]? := fun b hb hnm => h5.keep b hb fun hl => hnm (Live.inM hH hl)
  have hi : ∀ id l, ι id = some l → ι' id = some l := fun id l hl => by
    have hlt : id < H.length := by
      rcases Nat.lt_or_ge id H.length with h | h
      · exact h
      · rw [hF id h] at hl; cases hl
    rw [h5.same id hlt, hl]
  refine ⟨ι', M', by rw [put_defers', hd], by rw [put_size, putE_length, hsz], EnvRel.put (fun t s ht => (he t s ht).keep hk h5.mnew hi) hsz h1 dst, h2, h3, h4, hst.trans hM0 h5⟩

theorem aops_seq (hτ : TabOK P τ) {ops : Array Oper} {Q : Exit → Act → World → Prop} {K : Env → Hp → Prop} {w0 : World} {ι0 : Io} {M0 : Ms} {H0 : Hp} (hM0 : MB w0 M0)
    (hK : ∀ env H a w, K env H → Sim w0 ι0 M0 H0 a w env H → Q .normal a w) :
    ∀ (rest : List Oper) (i : Nat) (env : Env) (H : Hp) (a : Act) (w : World), ops.toList.drop i = rest → aops P τ ops.toList false i rest env H K → Sim w0 ι0 M0 H0 a w env H →
      wpOps P ops Q (List.range' i rest.length) a w := by
  intro rest
  induction rest with
  | nil => intro i env H a w _ h hs; exact hK env H a w h hs
  | cons o rest ih =>
    intro i env H a w hd h hs
    have hget : ops[i]? = some o := by
      have : (ops.toList.drop i)[0]? = some o := by rw [hd]; rfl
      rw [List.getElem?_drop] at this
      simpa using this
    have hd' : ops.toList.drop (i + 1) = rest := by
      rw [← List.drop_drop, hd]; rfl
    obtain ⟨ι, M, hdf, hsz, he, hH, hM, hF, hst⟩ := hs
    obtain ⟨y, hw, h⟩ := aguard_iff h
    have hwr := wants_real hsz hw (fun j want oj d _ _ _ => he.ev (.tmp d))
    simp only [List.length_cons, List.range'_succ, wpOps, hget]
    rw [hwr]
    cases y with
    | false =>
      simp only [Bool.false_eq_true, if_false]
      rw [cond_false, putS_iff] at h
      exact ih (i + 1) _ H _ w hd' h ⟨ι, M, by rw [put_defers', hdf], by rw [put_size, putE_length, hsz], he.put hsz .skip o.dst, hH, hM, hF, hst⟩
    | true =>
      simp only [if_true]
      refine .inl ?_
      rw [cond_true] at h
      rcases aop_sound hτ h with ⟨s, B, h, hq⟩ | ⟨s, H', h, hg⟩
      · rw [putS_iff, appK_iff] at h
        refine hq a w ι M he.ev hH hM (fun k _ => hF _ (by omega)) _ _ fun v w' hp => ?_
        exact ih (i + 1) _ _ _ w' hd' h (Sim.post hM0 hdf hsz he hH hM hF hst (hp.gpost hH hM hF) o.dst)
      · have h' : putS o.dst s env fun env' => aops P τ ops.toList false (i + 1) rest env' H' K := h
        rw [putS_iff] at h'
        refine hg a w ι M he.ev hH hM hF _ _ fun v w' hp => ?_
        exact ih (i + 1) _ _ _ w' hd' h' (Sim.post hM0 hdf hsz he hH hM hF hst hp o.dst)
end
end Go.Proofs.Ythjgbjakpbfnoaa
