/- Regions, codes and functions of the abstract machine. -/
import Derived.Orders
import Derived.Test.YtfieodjihaodiaaGreatChecked
import Derived.WalkKit
import Derived.WalkSpells
import Derived.WalkLawsBesides
import Derived.Lib.Hide
import Derived.Laws.OwnMore
import Derived.Deep.AppendLies
import Derived.Deep.Draws
import Derived.Test.YtfieodjihaodiaaGreatEc1
namespace Go.Proofs.YtfieodjihaodiaaGreat
open Go.RowKit
set_option linter.unusedVariables false
set_option linter.unusedSimpArgs false

def putS (dst : Option Tmp) (s : S) (env : Env) (k : Env → Prop) : Prop :=
  match dst with
  | none => k env
  | some d => setK d s env k
def putE (dst : Option Tmp) (s : S) (env : Env) : Env :=
  match dst with
  | none => env
  | some d => env.set d s
theorem putS_iff {dst : Option Tmp} {s : S} {env : Env} {k : Env → Prop} : putS dst s env k ↔ k (putE dst s env) := by
  cases dst with
  | none => rfl
  | some d => exact setK_iff

/-- what an operation that is not wanted leaves -/
abbrev skipS : S := .tup []
theorem RS.skip {w : World} {ι : Io} {M : Ms} : RS w ι M skipS undef := .tup [] rfl (by simp)
/-- a guarded operation: wanted, or not -/
def aguard (ops : List Oper) (o : Oper) (env : Env) (X Y : Prop) : Prop :=
  match o.guard with
  | none => X
  | some (j, want) => match ops[j]? with
    | none => False
    | some oj => match oj.dst with
      | none => False
      | some d => match evalS env (.tmp d) with
        | .c (.t (.atm (.bool b))) => match want with
          | true => cond b X Y
          | false => cond b Y X
        | .tup _ => Y
        | _ => False

/-- which operations come before an operation for sure, as the bits of a number -/
def stepMask (acc : List Nat) (o : Oper) : Nat := o.after.toList.foldl (fun s e => cond (Region.binds .any e) (s ||| (1 <<< e.on) ||| acc.getD e.on 0) s) 0
def masksGo : List Oper → List Nat → List Nat
  | [], acc => acc
  | o :: r, acc => masksGo r (acc ++ [stepMask acc o])
def masks (ops : List Oper) : List Nat := masksGo ops []
/-- the temporaries that an operation looks at -/
def readsOf (ops : List Oper) (o : Oper) : List Nat :=
  (o.op.operands.toList.filterMap fun x => match x with | .tmp t => some t | _ => none) ++
  (match o.guard with
   | some (j, _) => match ops[j]? with
     | some oj => oj.dst.toList
     | none => []
   | none => [])
/-- the operations before it that may come after it -/
def lateL (ops : List Oper) (i : Nat) : List Nat := (List.range i).filter fun j => !((masks ops).getD i 0).testBit j
/-- an operation that may come late, after the i-th: what it looks at is written before it, in the text's order too, or after the i-th -/
def lateFine (ops : List Oper) (i j : Nat) : Bool := match ops[j]? with
  | some o => o.guard.isNone && o.dst.isSome && (readsOf ops o).all fun t => ops.zipIdx.all fun y => match y.1.dst with
    | some d => !(Nat.beq d t) || Nat.blt y.2 j || Nat.blt i y.2
    | none => true
  | none => false
/-- everything behind it must come behind it -/
def barrier (ops : List Oper) (i : Nat) : Bool :=
  ((List.range ops.length).all fun j => cond (Nat.blt i j) (((masks ops).getD j 0).testBit i) true) && (lateL ops i).all (lateFine ops i)
/-- the late ones find in the new blocks what they found in the old ones -/
def lateK (P : Program) (τ : Tab) (ops : List Oper) (env : Env) (H' : Hp) (K : Prop) : List Nat → Prop
  | [] => K
  | j :: r => match ops[j]? with
    | some o => match o.dst with
      | some d => aop P τ (evalS env) H' o.op (fun s B => (B = [] ∧ s = evalS env (.tmp d)) ∧ lateK P τ ops env H' K r) (fun _ _ => False)
      | none => False
    | none => False

/-- one operation of a region, before the rest of it -/
def aopsStep (P : Program) (τ : Tab) (ops : List Oper) (drawn : Bool) (o : Oper) (ih : Nat → Env → Hp → (Env → Hp → Prop) → Prop) (i : Nat) (env : Env) (H : Hp) (K : Env → Hp → Prop) : Prop :=
  aguard ops o env
      (aop P τ (evalS env) H o.op (fun s B => putS o.dst s env fun env' => appK H B fun H' => ih (i + 1) env' H' K)
        (fun s H' => match drawn with
          | true => barrier ops i = true ∧ ∃ L, lateL ops i = L ∧ lateK P τ ops env H' (putS o.dst s env fun env' => ih (i + 1) env' H' K) L
          | false => putS o.dst s env fun env' => ih (i + 1) env' H' K))
      (putS o.dst skipS env fun env' => ih (i + 1) env' H K)
def aopsNil (_ : Nat) (env : Env) (H : Hp) (K : Env → Hp → Prop) : Prop := K env H
/-- the operations of a region in the text's order (by the recursor itself, so that a walk's proof is cheap to check) -/
noncomputable def aopsR (P : Program) (τ : Tab) (ops : List Oper) (drawn : Bool) (rest : List Oper) : Nat → Env → Hp → (Env → Hp → Prop) → Prop :=
  List.rec (motive := fun _ => Nat → Env → Hp → (Env → Hp → Prop) → Prop) aopsNil (fun o _ ih => aopsStep P τ ops drawn o ih) rest
noncomputable def aops (P : Program) (τ : Tab) (ops : List Oper) (drawn : Bool) (i : Nat) (rest : List Oper) (env : Env) (H : Hp) (K : Env → Hp → Prop) : Prop := aopsR P τ ops drawn rest i env H K

abbrev EnvRel (w : World) (ι : Io) (M : Ms) (env : Env) (a : Act) : Prop := ∀ (t : Nat) (s : S), env[t]? = some s → RS w ι M s (a.tmps.getD t undef)

/-- the abstract state stands for the real one, which came from the first one -/
def Sim (w0 : World) (ι0 : Io) (M0 : Ms) (H0 : Hp) (a : Act) (w : World) (env : Env) (H : Hp) : Prop :=
  ∃ (ι : Io) (M : Ms), a.defers = [] ∧ a.tmps.size = env.length ∧ EnvRel w ι M env a ∧ HeapRel w ι M H ∧ MB w M ∧ Fresh ι H.length ∧ Step w0 ι0 M0 H0 w ι M H

theorem EnvRel.ev {w : World} {ι : Io} {M : Ms} {env : Env} {a : Act} (h : EnvRel w ι M env a) : EvRel w ι M (evalS env) a := by
  intro x
  cases x with
  | tmp t =>
    show RS w ι M (env.getD t .junk) (a.tmps.getD t undef)
    rw [List.getD_eq_getElem?_getD]
    cases ht : env[t]? with
    | none => exact .junk
    | some s => exact h t s ht
  | const v => exact RS.const v
  | global g => exact .junk
  | func f => exact .c (.t (.fn [] rfl (by simp)))

theorem EnvRel.put {w : World} {ι : Io} {M : Ms} {env : Env} {a : Act} (h : EnvRel w ι M env a) (hsz : a.tmps.size = env.length) {s : S} {v : Value} (hs : RS w ι M s v) (dst : Option Tmp) : EnvRel w ι M (putE dst s env) (a.put dst v) := by
  cases dst with
  | none => exact h
  | some d =>
    intro t s' ht
    simp only [putE] at ht
    by_cases htd : t = d
    · subst htd
      have hlt : t < env.length := by have := (List.getElem?_eq_some_iff.1 ht).1; simpa using this
      rw [List.getElem?_set_self hlt] at ht
      injection ht with ht
      subst ht
      show RS w ι M s ((a.tmps.setIfInBounds t v).getD t undef)
      simpa [show t < a.tmps.size by omega] using hs
    · rw [List.getElem?_set_ne (Ne.symm htd)] at ht
      show RS w ι M s' ((a.tmps.setIfInBounds d v).getD t undef)
      have := h t s' ht
      rw [Array.getD_eq_getD_getElem?] at this ⊢
      rwa [Array.getElem?_setIfInBounds_ne (Ne.symm htd)]
theorem putE_length (dst : Option Tmp) (s : S) (env : Env) : (putE dst s env).length = env.length := by cases dst <;> simp [putE]
theorem put_size (a : Act) (dst : Option Tmp) (v : Value) : (a.put dst v).tmps.size = a.tmps.size := by cases dst <;> simp [Act.put]
theorem put_defers' (a : Act) (dst : Option Tmp) (v : Value) : (a.put dst v).defers = a.defers := by cases dst <;> rfl

/-- is the operation wanted? -/
def Wants (ops : List Oper) (o : Oper) (env : Env) (y : Bool) : Prop :=
  match o.guard with
  | none => y = true
  | some (j, want) => ∃ oj d, ops[j]? = some oj ∧ oj.dst = some d ∧ ((∃ b, evalS env (.tmp d) = boolS b ∧ y = (b == want)) ∨ ∃ ss, evalS env (.tmp d) = .tup ss ∧ y = false)

theorem aguard_iff {ops : List Oper} {o : Oper} {env : Env} {X Y : Prop} (h : aguard ops o env X Y) : ∃ y, Wants ops o env y ∧ cond y X Y := by
  unfold aguard at h
  unfold Wants
  split at h
  · exact ⟨true, rfl, h⟩
  · rename_i j want _
    split at h
    · exact h.elim
    · rename_i oj hj
      split at h
      · exact h.elim
      · rename_i d hd
        split at h
        · rename_i b hb
          refine ⟨b == want, ⟨oj, d, hj, hd, .inl ⟨b, hb, rfl⟩⟩, ?_⟩
          cases want <;> cases b <;> exact h
        · rename_i ss hb
          exact ⟨false, ⟨oj, d, hj, hd, .inr ⟨ss, hb, rfl⟩⟩, h⟩
        · exact h.elim

theorem wants_real {w : World} {ι : Io} {M : Ms} {env : Env} {a : Act} {ops : Array Oper} {o : Oper} {y : Bool} (hsz : a.tmps.size = env.length) (h : Wants ops.toList o env y)
    (he : ∀ j want oj d, o.guard = some (j, want) → ops[j]? = some oj → oj.dst = some d → RS w ι M (evalS env (.tmp d)) (a.tmps.getD d undef)) :
    Region.wanted o (yielded ops a.tmps) = y := by
  unfold Wants at h
  unfold Region.wanted
  cases hg : o.guard with
  | none => rw [hg] at h; exact h.symm
  | some jw =>
    obtain ⟨j, want⟩ := jw
    rw [hg] at h
    obtain ⟨oj, d, h1, h2, h3⟩ := h
    have h1' : ops[j]? = some oj := by simpa using h1
    have hr := he j want oj d hg h1' h2
    have hne : evalS env (.tmp d) ≠ .junk := by
      rcases h3 with ⟨b, h3, -⟩ | ⟨ss, h3, -⟩ <;> rw [h3] <;> intro h <;> cases h
    have hlt : d < a.tmps.size := by
      rcases Nat.lt_or_ge d a.tmps.size with hlt | hge
      · exact hlt
      · have : evalS env (.tmp d) = .junk := by
          show env.getD d .junk = _
          rw [List.getD_eq_getElem?_getD, List.getElem?_eq_none (by omega)]; rfl
        exact absurd this hne
    have hy : yielded ops a.tmps j = match a.tmps.getD d undef with | .bool b => some b | _ => none := by
      unfold yielded
      rw [h1']
      simp only [Option.bind_some, h2]
      rw [Array.getD_eq_getD_getElem?, Array.getElem?_eq_getElem hlt]
      simp only [Option.getD_some]
      split <;> rename_i hv
      · injection hv with hv; rw [hv]
      · split <;> rename_i hv'
        · exact absurd (congrArg some hv') (hv _)
        · rfl
    simp only [hy]
    rcases h3 with ⟨b, h3, rfl⟩ | ⟨ss, h3, rfl⟩
    · rw [h3] at hr
      rw [hr.inv_atm]
      cases b <;> cases want <;> rfl
    · rw [h3] at hr
      generalize a.tmps.getD d undef = v at *
      cases hr with
      | tup vs hl hr => rfl

section
variable {P : Program} {τ : Tab}

theorem Sim.post {w0 : World} {ι0 : Io} {M0 : Ms} {H0 : Hp} (hM0 : MB w0 M0) {a : Act} {w w' : World} {ι : Io} {M : Ms} {env : Env} {H H' : Hp} {s : S} {v : Value} (hd : a.defers = []) (hsz : a.tmps.size = env.length)
    (he : EnvRel w ι M env a) (hH : HeapRel w ι M H) (hM : MB w M) (hF : Fresh ι H.length) (hst : Step w0 ι0 M0 H0 w ι M H) (hp : GPost w ι M H s H' v w') (dst : Option Tmp) :
    Sim w0 ι0 M0 H0 (a.put dst v) w' (putE dst s env) H' := by
  obtain ⟨ι', M', h1, h2, h3, h4, h5⟩ := hp
  have hk : ∀ b, b < w.heap.size → ¬ M b → w'.heap[b]? = w.heap[b]? := fun b hb hnm => h5.keep b hb fun hl => hnm (Live.inM hH hl)
  have hi : ∀ id l, ι id = some l → ι' id = some l := fun id l hl => by
    have hlt : id < H.length := by
      rcases Nat.lt_or_ge id H.length with h | h
      · exact h
      · rw [hF id h] at hl; cases hl
    rw [h5.same id hlt, hl]
  refine ⟨ι', M', by rw [put_defers', hd], by rw [put_size, putE_length, hsz], EnvRel.put (fun t s ht => (he t s ht).keep hk h5.mnew hi) hsz h1 dst, h2, h3, h4, hst.trans hM0 h5⟩

theorem aops_seq (hτ : TabOK P τ) {ops : Array Oper} {Q : Exit → Act → World → Prop} {K : Env → Hp → Prop} {w0 : World} {ι0 : Io} {M0 : Ms} {H0 : Hp} (hM0 : MB w0 M0)
    (hK : ∀ env H a w, K env H → Sim w0 ι0 M0 H0 a w env H → Q .normal a w) :
    ∀ (rest : List Oper) (i : Nat) (env : Env) (H : Hp) (a : Act) (w : World), ops.toList.drop i = rest → aops P τ ops.toList false i rest env H K → Sim w0 ι0 M0 H0 a w env H →
      wpOps P ops Q (List.range' i rest.length) a w := by
  intro rest
  induction rest with
  | nil => intro i env H a w _ h hs; exact hK env H a w h hs
  | cons o rest ih =>
    intro i env H a w hd h hs
    have hget : ops[i]? = some o := by
      have : (ops.toList.drop i)[0]? = some o := by rw [hd]; rfl
      rw [List.getElem?_drop] at this
      simpa using this
    have hd' : ops.toList.drop (i + 1) = rest := by
      rw [← List.drop_drop, hd]; rfl
    obtain ⟨ι, M, hdf, hsz, he, hH, hM, hF, hst⟩ := hs
    obtain ⟨y, hw, h⟩ := aguard_iff h
    have hwr := wants_real hsz hw (fun j want oj d _ _ _ => he.ev (.tmp d))
    simp only [List.length_cons, List.range'_succ, wpOps, hget]
    rw [hwr]
    cases y with
    | false =>
      simp only [Bool.false_eq_true, if_false]
      rw [cond_false, putS_iff] at h
      exact ih (i + 1) _ H _ w hd' h ⟨ι, M, by rw [put_defers', hdf], by rw [put_size, putE_length, hsz], he.put hsz .skip o.dst, hH, hM, hF, hst⟩
    | true =>
      simp only [if_true]
      refine .inl ?_
      rw [cond_true] at h
      rcases aop_sound hτ h with ⟨s, B, h, hq⟩ | ⟨s, H', h, hg⟩
      · rw [putS_iff, appK_iff] at h
        refine hq a w ι M he.ev hH hM (fun k _ => hF _ (by omega)) _ _ fun v w' hp => ?_
        exact ih (i + 1) _ _ _ w' hd' h (Sim.post hM0 hdf hsz he hH hM hF hst (hp.gpost hH hM hF) o.dst)
      · have h' : putS o.dst s env fun env' => aops P τ ops.toList false (i + 1) rest env' H' K := h
        rw [putS_iff] at h'
        refine hg a w ι M he.ev hH hM hF _ _ fun v w' hp => ?_
        exact ih (i + 1) _ _ _ w' hd' h' (Sim.post hM0 hdf hsz he hH hM hF hst hp o.dst)
end
end Go.Proofs.YtfieodjihaodiaaGreat
/- Regions that draw their order: any order that the edges allow does what the text's order does. -/
namespace Go.Proofs.YtfieodjihaodiaaGreat
open Go.RowKit
set_option linter.unusedVariables false
set_option linter.unusedSimpArgs false

def backOK (ops : List Oper) : Bool := ops.zipIdx.all fun x => x.1.after.toList.all fun e => !(Region.binds .any e) || Nat.blt e.on x.2
def dstOK (ops : List Oper) : Bool := ops.zipIdx.all fun x => ops.zipIdx.all fun y => Nat.beq x.2 y.2 || (match x.1.dst, y.1.dst with | some a, some b => !(Nat.beq a b) | _, _ => true)
def depOK (ops : List Oper) : Bool :=
  ops.zipIdx.all fun x => (readsOf ops x.1).all fun t => ops.zipIdx.all fun y => match y.1.dst with
    | some d => !(Nat.beq d t) || Nat.beq x.2 y.2 || cond (Nat.blt y.2 x.2) (((masks ops).getD x.2 0).testBit y.2) (((masks ops).getD y.2 0).testBit x.2)
    | none => true
/-- what a region that draws must fulfil -/
def regOK (ops : List Oper) : Bool := backOK ops && dstOK ops && depOK ops

theorem masksGo_spec : ∀ (r : List Oper) (acc : List Nat), ∃ s, masksGo r acc = acc ++ s ∧ s.length = r.length ∧ ∀ i o, r[i]? = some o → s[i]? = some (stepMask ((masksGo r acc).take (acc.length + i)) o)
  | [], acc => ⟨[], by simp [masksGo], rfl, by simp⟩
  | o :: r, acc => by
    obtain ⟨s, h1, h2, h3⟩ := masksGo_spec r (acc ++ [stepMask acc o])
    refine ⟨stepMask acc o :: s, by rw [masksGo, h1]; simp, by simp [h2], fun i o' hi => ?_⟩
    cases i with
    | zero =>
      simp at hi
      subst hi
      rw [masksGo, h1]
      simp
    | succ i =>
      have := h3 i o' (by simpa using hi)
      rw [masksGo]
      simp only [List.length_append, List.length_singleton] at this
      rw [show acc.length + (i + 1) = acc.length + 1 + i by omega]
      simpa using this

theorem masks_get {ops : List Oper} {i : Nat} {o : Oper} (h : ops[i]? = some o) : (masks ops).getD i 0 = stepMask ((masks ops).take i) o := by
  obtain ⟨s, h1, h2, h3⟩ := masksGo_spec ops []
  have := h3 i o h
  simp only [List.nil_append] at h1
  have e : masks ops = s := h1
  rw [List.getD_eq_getElem?_getD, e, this]
  simp only [List.length_nil, Nat.zero_add, Option.getD_some]
  rw [← h1]

theorem foldl_testBit (acc : List Nat) (j : Nat) : ∀ (es : List Edge) (s0 : Nat),
    (es.foldl (fun s e => cond (Region.binds .any e) (s ||| (1 <<< e.on) ||| acc.getD e.on 0) s) s0).testBit j = true → s0.testBit j = true ∨ ∃ e ∈ es, Region.binds .any e = true ∧ (e.on = j ∨ (acc.getD e.on 0).testBit j = true)
  | [], s0, h => .inl h
  | e :: es, s0, h => by
    rw [List.foldl_cons] at h
    rcases foldl_testBit acc j es _ h with h | ⟨e', h1, h2⟩
    · cases hb : Region.binds .any e with
      | false => rw [hb] at h; exact .inl h
      | true =>
        rw [hb] at h
        simp only [cond_true, Nat.testBit_or, Bool.or_eq_true, Nat.testBit_shiftLeft] at h
        rcases h with (h | h) | h
        · exact .inl h
        · refine .inr ⟨e, by simp, hb, .inl ?_⟩
          simp only [Bool.and_eq_true, decide_eq_true_eq] at h
          obtain ⟨h1, h2⟩ := h
          have : j - e.on = 0 := by
            rcases Nat.eq_zero_or_pos (j - e.on) with h | h
            · exact h
            · rw [Nat.testBit_one_eq_true_iff_self_eq_zero] at h2; exact h2
          omega
        · exact .inr ⟨e, by simp, hb, .inr h⟩
    · exact .inr ⟨e', by simp [h1], h2⟩

theorem back_lt {ops : List Oper} (hb : backOK ops = true) {i : Nat} {o : Oper} (h : ops[i]? = some o) {e : Edge} (he : e ∈ o.after.toList) (hbi : Region.binds .any e = true) : e.on < i := by
  have := List.all_eq_true.1 hb (o, i) (by rw [List.mem_zipIdx_iff_getElem?]; exact h)
  have := List.all_eq_true.1 this e he
  simp only [hbi, Bool.not_true, Bool.false_or, Nat.blt_eq] at this
  exact this

/-- a set that is closed under the edges holds all that the masks say -/
theorem mask_mem {ops : List Oper} (hb : backOK ops = true) {S : Nat → Prop} (hS : ∀ i o, ops[i]? = some o → S i → ∀ e ∈ o.after.toList, Region.binds .any e = true → S e.on) :
    ∀ (i : Nat) (o : Oper) (j : Nat), ops[i]? = some o → ((masks ops).getD i 0).testBit j = true → S i → S j := by
  intro i
  induction i using Nat.strongRecOn with
  | _ i ih =>
    intro o j ho hj hi
    rw [masks_get ho] at hj
    rcases foldl_testBit _ j _ _ hj with h | ⟨e, he, hbi, h⟩
    · simp at h
    · have hlt := back_lt hb ho he hbi
      have hs := hS i o ho hi e he hbi
      rcases h with rfl | h
      · exact hs
      · have hio : i < ops.length := (List.getElem?_eq_some_iff.1 ho).1
        refine ih e.on hlt ops[e.on] j (List.getElem?_eq_getElem (by omega)) ?_ hs
        rw [List.getD_eq_getElem?_getD, List.getElem?_take_of_lt hlt] at h
        rw [List.getD_eq_getElem?_getD]
        exact h
/-- the same for an operation that is ready: its direct predecessors are in the set -/
theorem mask_ready {ops : List Oper} (hb : backOK ops = true) {S : Nat → Prop} (hS : ∀ i o, ops[i]? = some o → S i → ∀ e ∈ o.after.toList, Region.binds .any e = true → S e.on)
    {i : Nat} {o : Oper} {j : Nat} (ho : ops[i]? = some o) (hr : ∀ e ∈ o.after.toList, Region.binds .any e = true → S e.on) (hj : ((masks ops).getD i 0).testBit j = true) : S j := by
  rw [masks_get ho] at hj
  rcases foldl_testBit _ j _ _ hj with h | ⟨e, he, hbi, h⟩
  · simp at h
  · have hlt := back_lt hb ho he hbi
    have hs := hr e he hbi
    rcases h with rfl | h
    · exact hs
    · have hio : i < ops.length := (List.getElem?_eq_some_iff.1 ho).1
      refine mask_mem hb hS e.on ops[e.on] j (List.getElem?_eq_getElem (by omega)) ?_ hs
      rw [List.getD_eq_getElem?_getD, List.getElem?_take_of_lt hlt] at h
      rw [List.getD_eq_getElem?_getD]
      exact h
end Go.Proofs.YtfieodjihaodiaaGreat
/- Regions that draw their order, continued: an operation looks at its operands alone; the text's order as a list of states. -/
namespace Go.Proofs.YtfieodjihaodiaaGreat
open Go.RowKit
set_option linter.unusedVariables false
set_option linter.unusedSimpArgs false

theorem optInt_congr {ev ev' : Operand → S} {x : Option Operand} {d : Int} {k : Int → Prop} (h : ∀ y, x = some y → ev y = ev' y) : optInt ev x d k = optInt ev' x d k := by
  cases x with
  | none => rfl
  | some y => simp only [optInt, h y rfl]

theorem aop_congr {P : Program} {τ : Tab} {ev ev' : Operand → S} {H : Hp} {op : Op} {Kq : S → List Blk → Prop} {Kg : S → Hp → Prop} (h : ∀ x ∈ op.operands.toList, ev x = ev' x) :
    aop P τ ev H op Kq Kg = aop P τ ev' H op Kq Kg := by
  cases op with
  | move x => simp only [aop, h x (by simp [Op.operands])]
  | assign x => simp only [aop, h x (by simp [Op.operands])]
  | pick c a b => simp only [aop, h c (by simp [Op.operands]), h a (by simp [Op.operands]), h b (by simp [Op.operands])]
  | load t x => simp only [aop, aload, h x (by simp [Op.operands])]
  | store t x v => simp only [aop, astore, h x (by simp [Op.operands]), h v (by simp [Op.operands])]
  | fieldAddr s x f => simp only [aop, afieldAddr, h x (by simp [Op.operands])]
  | indexAddr t x i => simp only [aop, aindexAddr, h x (by simp [Op.operands]), h i (by simp [Op.operands])]
  | slice t x lo hi mx =>
    have e1 : ∀ d k, optInt ev lo d k = optInt ev' lo d k := fun d k => optInt_congr fun y hy => h y (by subst hy; simp [Op.operands])
    have e2 : ∀ d k, optInt ev hi d k = optInt ev' hi d k := fun d k => optInt_congr fun y hy => h y (by subst hy; simp [Op.operands])
    cases mx with
    | none => simp only [aop, aslice, h x (by simp [Op.operands]), e1, e2]
    | some y => simp only [aop, aslice, h x (by simp [Op.operands]), h y (by simp [Op.operands]), e1, e2]
  | binOp op t x y yt => simp only [aop, h x (by simp [Op.operands]), h y (by simp [Op.operands])]
  | unOp op t x => simp only [aop, h x (by simp [Op.operands])]
  | convert s d x => simp only [aop, h x (by simp [Op.operands])]
  | makeSlice t l c => simp only [aop, amake, h l (by simp [Op.operands]), h c (by simp [Op.operands])]
  | build t parts =>
    have e : (parts.toList.map fun p => (p.1, ev p.2)) = parts.toList.map fun p => (p.1, ev' p.2) := List.map_congr_left fun p hp => by rw [h p.2 (by simp only [Op.operands]; exact List.mem_map.2 ⟨p, hp, rfl⟩)]
    simp only [aop, abuild, e]
  | buildSlice t n parts =>
    have e : (parts.toList.map fun p => (p.1, ev p.2)) = parts.toList.map fun p => (p.1, ev' p.2) := List.map_congr_left fun p hp => by rw [h p.2 (by simp only [Op.operands]; exact List.mem_map.2 ⟨p, hp, rfl⟩)]
    simp only [aop, abuildSlice, e]
  | box t x => simp only [aop, abox, h x (by simp [Op.operands])]
  | alloc t => rfl
  | extract x i => simp only [aop, h x (by simp [Op.operands])]
  | nilCheck x => simp only [aop, h x (by simp [Op.operands])]
  | makeFunc fn first caps =>
    have e : caps.toList.map ev = caps.toList.map ev' := List.map_congr_left fun x hx => h x (by simp [Op.operands]; exact .inr (by simpa using hx))
    simp only [aop, e]
  | call c =>
    obtain ⟨callee, args, ats⟩ := c
    have ea : ∀ x ∈ args.toList, ev x = ev' x := fun x hx => h x (by simp [Op.operands, Call.operands]; exact .inr (by simpa using hx))
    have em : args.toList.map ev = args.toList.map ev' := List.map_congr_left ea
    cases callee with
    | value f =>
      have ef := h f (by simp [Op.operands, Call.operands])
      simp only [aop, ef, em]
    | invoke r m => rfl
    | builtin b =>
      cases b with
      | len =>
        simp only [aop]
        split
        · rename_i t ts x xs h1 h2
          rw [ea x (by rw [h2]; simp)]
        · rfl
      | append =>
        simp only [aop]
        split
        · rename_i t t' s x h1 h2
          simp only [aappend, amore, ea s (by rw [h2]; simp), ea x (by rw [h2]; simp)]
        · rfl
      | cap =>
        simp only [aop]
        split
        · rename_i t x h1 h2
          rw [ea x (by rw [h2]; simp)]
        · rfl
      | copy =>
        simp only [aop]
        split
        · rename_i t t' x s h1 h2
          simp only [acopy, ea x (by rw [h2]; simp), ea s (by rw [h2]; simp)]
        · rfl
      | min => simp only [aop, em]
      | max => simp only [aop, em]
      | _ => rfl
  | _ => rfl

def evR (o : Oper) (env : Env) : Operand → S := fun x =>
  match x with
  | .tmp t => cond ((o.op.operands.toList.filterMap fun x => match x with | .tmp t => some t | _ => none).contains t) (evalS env (.tmp t)) .junk
  | x => evalS env x

theorem evR_eq {o : Oper} {env : Env} {x : Operand} (h : x ∈ o.op.operands.toList) : evalS env x = evR o env x := by
  cases x with
  | tmp t =>
    have : (o.op.operands.toList.filterMap fun x => match x with | .tmp t => some t | _ => none).contains t = true := by
      rw [List.contains_iff_mem, List.mem_filterMap]
      exact ⟨.tmp t, h, rfl⟩
    simp only [evR, this, cond_true]
  | _ => rfl

inductive Kd where
  | skip
  | quiet (B : List Blk)
  | gen

/-- what happens at one place of the text's order -/
def TrOK (P : Program) (ops : List Oper) (envs : Nat → Env) (hs : Nat → Hp) (rs : Nat → S) (kd : Nat → Kd) (i : Nat) : Prop :=
  ∃ o, ops[i]? = some o ∧ envs (i + 1) = putE o.dst (rs i) (envs i) ∧ match kd i with
    | .skip => Wants ops o (envs i) false ∧ rs i = skipS ∧ hs (i + 1) = hs i
    | .quiet B => Wants ops o (envs i) true ∧ QOp P o (evR o (envs i)) (hs i) (rs i) B ∧ hs (i + 1) = hs i ++ B
    | .gen => Wants ops o (envs i) true ∧ GOp P o (evR o (envs i)) (hs i) (rs i) (hs (i + 1)) ∧ barrier ops i = true ∧ ∀ j ∈ lateL ops i, ∃ oj d, ops[j]? = some oj ∧ oj.dst = some d ∧ QOp P oj (evR oj (envs i)) (hs (i + 1)) (evalS (envs i) (.tmp d)) []

theorem lateK_get {P : Program} {τ : Tab} (hτ : TabOK P τ) {ops : List Oper} {env : Env} {H' : Hp} {K : Prop} : ∀ {L : List Nat}, lateK P τ ops env H' K L → K ∧ ∀ j ∈ L, ∃ oj d, ops[j]? = some oj ∧ oj.dst = some d ∧ QOp P oj (evR oj env) H' (evalS env (.tmp d)) []
  | [], h => ⟨h, by simp⟩
  | j :: r, h => by
    unfold lateK at h
    split at h
    · rename_i o ho
      split at h
      · rename_i d hd
        have hcong := aop_congr (P := P) (τ := τ) (H := H') (op := o.op) (ev := evalS env) (ev' := evR o env) (fun x hx => evR_eq hx)
          (Kq := fun s B => (B = [] ∧ s = evalS env (.tmp d)) ∧ lateK P τ ops env H' K r) (Kg := fun _ _ => False)
        rw [hcong] at h
        rcases aop_sound hτ h with ⟨s, B, ⟨⟨rfl, rfl⟩, h⟩, hq⟩ | ⟨s, H2, h, hg⟩
        · obtain ⟨h1, h2⟩ := lateK_get hτ h
          refine ⟨h1, fun i hi => ?_⟩
          rcases List.mem_cons.1 hi with rfl | hi
          · exact ⟨o, d, ho, hd, hq⟩
          · exact h2 i hi
        · exact h.elim
      · exact h.elim
    · exact h.elim

theorem aops_trace {P : Program} {τ : Tab} (hτ : TabOK P τ) {ops : List Oper} {K : Env → Hp → Prop} : ∀ (rest : List Oper) (i : Nat) (env : Env) (H : Hp), ops.drop i = rest → aops P τ ops true i rest env H K →
    ∃ (envs : Nat → Env) (hs : Nat → Hp) (rs : Nat → S) (kd : Nat → Kd), envs i = env ∧ hs i = H ∧ K (envs ops.length) (hs ops.length) ∧ ∀ j, i ≤ j → j < ops.length → TrOK P ops envs hs rs kd j
  | [], i, env, H, hd, h => ⟨fun _ => env, fun _ => H, fun _ => .junk, fun _ => .skip, rfl, rfl, h, fun j h1 h2 => by
      have := congrArg List.length hd
      simp at this
      omega⟩
  | o :: rest, i, env, H, hd, h => by
    have hget : ops[i]? = some o := by
      have : (ops.drop i)[0]? = some o := by rw [hd]; rfl
      rw [List.getElem?_drop] at this
      simpa using this
    have hil : i < ops.length := (List.getElem?_eq_some_iff.1 hget).1
    have hd' : ops.drop (i + 1) = rest := by rw [← List.drop_drop, hd]; rfl
    have build : ∀ (r : S) (k : Kd) (env' : Env) (H' : Hp), aops P τ ops true (i + 1) rest env' H' K → env' = putE o.dst r env →
        (match k with
          | .skip => Wants ops o env false ∧ r = skipS ∧ H' = H
          | .quiet B => Wants ops o env true ∧ QOp P o (evR o env) H r B ∧ H' = H ++ B
          | .gen => Wants ops o env true ∧ GOp P o (evR o env) H r H' ∧ barrier ops i = true ∧ ∀ j ∈ lateL ops i, ∃ oj d, ops[j]? = some oj ∧ oj.dst = some d ∧ QOp P oj (evR oj env) H' (evalS env (.tmp d)) []) →
        ∃ (envs : Nat → Env) (hs : Nat → Hp) (rs : Nat → S) (kd : Nat → Kd), envs i = env ∧ hs i = H ∧ K (envs ops.length) (hs ops.length) ∧ ∀ j, i ≤ j → j < ops.length → TrOK P ops envs hs rs kd j := by
      intro r k env' H' hrest henv hk
      obtain ⟨envs, hs, rs, kd, h1, h2, h3, h4⟩ := aops_trace hτ rest (i + 1) env' H' hd' hrest
      refine ⟨fun j => if j = i then env else envs j, fun j => if j = i then H else hs j, fun j => if j = i then r else rs j, fun j => if j = i then k else kd j, by simp, by simp, ?_, fun j hj hjl => ?_⟩
      · simp only [show ¬ ops.length = i by omega, if_false]; exact h3
      · by_cases hji : j = i
        · subst hji
          refine ⟨o, hget, ?_, ?_⟩
          · simp only [show ¬ j + 1 = j by omega, if_false, if_true, h1, henv]
          · simp only [if_true, show ¬ j + 1 = j by omega, if_false, h2]
            exact hk
        · obtain ⟨o', q1, q2, q3⟩ := h4 j (by omega) hjl
          refine ⟨o', q1, ?_, ?_⟩
          · simp only [hji, show ¬ j + 1 = i by omega, if_false]; exact q2
          · simp only [hji, show ¬ j + 1 = i by omega, if_false]; exact q3
    obtain ⟨y, hw, h⟩ := aguard_iff h
    cases y with
    | false =>
      rw [cond_false, putS_iff] at h
      exact build skipS .skip _ H h rfl ⟨hw, rfl, rfl⟩
    | true =>
      rw [cond_true] at h
      have hcong := aop_congr (P := P) (τ := τ) (H := H) (op := o.op) (ev := evalS env) (ev' := evR o env) (fun x hx => evR_eq hx)
        (Kq := fun s B => putS o.dst s env fun env' => appK H B fun H' => aops P τ ops true (i + 1) rest env' H' K)
        (Kg := fun s H' => barrier ops i = true ∧ ∃ L, lateL ops i = L ∧ lateK P τ ops env H' (putS o.dst s env fun env' => aops P τ ops true (i + 1) rest env' H' K) L)
      have h0 : aop P τ (evalS env) H o.op (fun s B => putS o.dst s env fun env' => appK H B fun H' => aops P τ ops true (i + 1) rest env' H' K)
        (fun s H' => barrier ops i = true ∧ ∃ L, lateL ops i = L ∧ lateK P τ ops env H' (putS o.dst s env fun env' => aops P τ ops true (i + 1) rest env' H' K) L) := h
      rw [hcong] at h0
      rcases aop_sound hτ h0 with ⟨s, B, h, hq⟩ | ⟨s, H', ⟨hb, L, hL, h⟩, hg⟩
      · rw [putS_iff, appK_iff] at h
        exact build s (.quiet B) _ _ h rfl ⟨hw, hq, rfl⟩
      · obtain ⟨h, hl⟩ := lateK_get hτ h
        rw [putS_iff] at h
        exact build s .gen _ H' h rfl ⟨hw, hg, hb, by rw [hL]; exact hl⟩
end Go.Proofs.YtfieodjihaodiaaGreat
/- Regions that draw their order, concluded. -/
namespace Go.Proofs.YtfieodjihaodiaaGreat
open Go.RowKit
set_option linter.unusedVariables false
set_option linter.unusedSimpArgs false

theorem HeapRel.pre1 {w : World} {ι : Io} {M : Ms} {H X : Hp} (h : HeapRel w ι M (H ++ X)) : HeapRel w ι M H := by
  have e : ∀ (id : Nat) (k : Blk), H[id]? = some k → (H ++ X)[id]? = some k := fun id k hk => by
    rw [List.getElem?_append_left (List.getElem?_eq_some_iff.1 hk).1]; exact hk
  exact ⟨fun id k hk => h.blk id k (e id k hk), fun id k hk => h.liv id k (e id k hk), fun id k hk => h.fro id k (e id k hk), fun id id' k k' hk hk' => h.inj id id' k k' (e id k hk) (e id' k' hk'), fun id id' k k' hk hk' => h.old id id' k k' (e id k hk) (e id' k' hk')⟩
theorem HeapRel.extend {w : World} {ι : Io} {M : Ms} {H X : Hp} (h : HeapRel w ι M H) (hF : Fresh ι H.length) : HeapRel w ι M (H ++ X) := by
  have e : ∀ (id : Nat) (k : Blk), (H ++ X)[id]? = some k → ∀ l, ι id = some l → H[id]? = some k := fun id k hk l hl => by
    by_cases hid : id < H.length
    · rw [List.getElem?_append_left hid] at hk; exact hk
    · rw [hF id (by omega)] at hl; cases hl
  exact ⟨fun id k hk hd l hl => h.blk id k (e id k hk l hl) hd l hl, fun id k hk hm b c s hl => h.liv id k (e id k hk _ hl) hm b c s hl, fun id k hk hm b c s hl => h.fro id k (e id k hk _ hl) hm b c s hl,
    fun id id' k k' hk hk' hm hm' b c s c' s' hl hl' => h.inj id id' k k' (e id k hk _ hl) (e id' k' hk' _ hl') hm hm' b c s c' s' hl hl',
    fun id id' k k' hk hk' hm hm' b c s c' s' hl hl' => h.old id id' k k' (e id k hk _ hl) (e id' k' hk' _ hl') hm hm' b c s c' s' hl hl'⟩

/-- a quiet operation, while blocks of operations behind it may be there already -/
theorem QPost.insert {w : World} {ι : Io} {M : Ms} {H : Hp} {n : Nat} {s : S} {B : List Blk} {v : Value} {w' : World} (hH : HeapRel w ι M H) (hM : MB w M) (hB : ∀ k, k < B.length → H[n + k]? = B[k]?)
    (hf : ∀ k, k < B.length → ι (n + k) = none) (h : QPost w ι M n s B v w') :
    ∃ new : Nat → Loc, RS w' (addIo ι n B.length new) (addMs M B.length new) s v ∧ Ext w w' ∧ HeapRel w' (addIo ι n B.length new) (addMs M B.length new) H ∧ MB w' (addMs M B.length new) ∧
      (∀ b, addMs M B.length new b → M b ∨ w.heap.size ≤ b) ∧ (∀ b, Live (addIo ι n B.length new) H b → Live ι H b ∨ w.heap.size ≤ b) := by
  obtain ⟨new, h1, h2, h3, h4, h5⟩ := h
  have hM' : ∀ b, addMs M B.length new b → M b ∨ w.heap.size ≤ b := by
    rintro b (hb | ⟨k, hk, cap, size, he⟩)
    · exact .inl hb
    · exact .inr (h4 k b cap size hk he).1
  have hcase : ∀ id l, addIo ι n B.length new id = some l → (ι id = some l ∧ ¬ (n ≤ id ∧ id < n + B.length)) ∨ ∃ k, k < B.length ∧ id = n + k ∧ l = new k := by
    intro id l hl
    unfold addIo at hl
    split at hl
    · injection hl with hl
      exact .inr ⟨id - n, by omega, by omega, hl.symm⟩
    · rename_i hc; exact .inl ⟨hl, hc⟩
  have hext : ∀ id l, ι id = some l → addIo ι n B.length new id = some l := fun id l hl => addIo_ext hf hl
  have hlt : ∀ id b cap size, ι id = some (.blk b cap size) → ∀ k, H[id]? = some k → k.mode ≠ .dead → b < w.heap.size := fun id b cap size hi k hk hd => by
    obtain ⟨_, _, _, _, _, cur, hc, _⟩ := hH.blk id k hk hd _ hi
    exact block_lt hc
  refine ⟨new, h1, h2, ⟨?_, ?_, ?_, ?_, ?_⟩, ?_, hM', ?_⟩
  · intro id k hk hd l hl
    rcases hcase id l hl with ⟨hl, _⟩ | ⟨j, hj, rfl, rfl⟩
    · have hb := hH.blk id k hk hd l hl
      cases l with
      | nil => exact hb
      | blk b cap size =>
        obtain ⟨q1, q2, q3, q4, q5, cur, q6, q7, q8⟩ := hb
        refine ⟨q1, q2, q3, q4, q5, cur, (h2.keep b (block_lt q6)).trans q6, q7, fun i j c hc => ?_⟩
        obtain ⟨u, hu, hr⟩ := q8 i j c hc
        exact ⟨u, hu, hr.keep (fun b hb _ => h2.keep b hb) hM' hext⟩
    · rw [hB j hj] at hk
      exact (h3 j k hk).2
  · intro id k hk hm b cap size hl
    rcases hcase id _ hl with ⟨hl, _⟩ | ⟨j, hj, rfl, he⟩
    · exact .inl (hH.liv id k hk hm b cap size hl)
    · exact .inr ⟨j, hj, cap, size, he.symm⟩
  · intro id k hk hm b cap size hl
    rcases hcase id _ hl with ⟨hl, _⟩ | ⟨j, hj, rfl, he⟩
    · have hb := hlt id b cap size hl k hk (by rw [hm]; intro h; cases h)
      rintro (h | ⟨k', hk', cap', size', he⟩)
      · exact hH.fro id k hk hm b cap size hl h
      · have := (h4 _ _ _ _ hk' he).1; omega
    · rw [hB j hj] at hk
      have := (h3 j k hk).1
      rw [hm] at this; cases this
  · intro id id' k k' hk hk' hm hm' b cap size cap' size' hl hl'
    rcases hcase id _ hl with ⟨hl, _⟩ | ⟨j, hj, rfl, he⟩ <;> rcases hcase id' _ hl' with ⟨hl', _⟩ | ⟨j', hj', rfl, he'⟩
    · exact hH.inj id id' k k' hk hk' hm hm' b cap size cap' size' hl hl'
    · have := hlt id b cap size hl k hk (by rw [hm]; intro h; cases h)
      have := (h4 _ _ _ _ hj' he'.symm).1
      omega
    · have := hlt id' b cap' size' hl' k' hk' (by rw [hm']; intro h; cases h)
      have := (h4 _ _ _ _ hj he.symm).1
      omega
    · have := h5 _ _ _ _ _ _ _ hj hj' he.symm he'.symm
      omega
  · intro id id' k k' hk hk' hm hm' b cap size cap' size' hl hl'
    rcases hcase id _ hl with ⟨hl, _⟩ | ⟨j, hj, rfl, he⟩
    · rcases hcase id' _ hl' with ⟨hl', _⟩ | ⟨j', hj', rfl, he'⟩
      · exact hH.old id id' k k' hk hk' hm hm' b cap size cap' size' hl hl'
      · have := hlt id b cap size hl k hk (by rw [hm]; intro h; cases h)
        have := (h4 _ _ _ _ hj' he'.symm).1
        omega
    · rw [hB j hj] at hk
      have := (h3 j k hk).1
      rw [hm] at this; cases this
  · rintro b (hb | ⟨k, hk, cap, size, he⟩)
    · exact Nat.lt_of_lt_of_le (hM b hb) h2.size
    · exact (h4 k b cap size hk he).2
  · rintro b ⟨id, k, cap, size, hk, hm, hl⟩
    rcases hcase id _ hl with ⟨hl, _⟩ | ⟨j, hj, rfl, he⟩
    · exact .inl ⟨id, k, cap, size, hk, hm, hl⟩
    · exact .inr (h4 _ _ _ _ hj he.symm).1

section
variable {P : Program} {ops : Array Oper} {envs : Nat → Env} {hs : Nat → Hp} {rs : Nat → S} {kd : Nat → Kd}

def dstAt (ops : Array Oper) (i : Nat) : Option Nat := (ops[i]?).bind (·.dst)

theorem dst_uniq (hd : dstOK ops.toList = true) {i j t : Nat} (hi : dstAt ops i = some t) (hj : dstAt ops j = some t) : i = j := by
  unfold dstAt at hi hj
  cases hoi : ops[i]? with
  | none => rw [hoi] at hi; cases hi
  | some oi =>
    cases hoj : ops[j]? with
    | none => rw [hoj] at hj; cases hj
    | some oj =>
      rw [hoi] at hi
      rw [hoj] at hj
      have hi : oi.dst = some t := hi
      have hj : oj.dst = some t := hj
      have := List.all_eq_true.1 hd (oi, i) (by rw [List.mem_zipIdx_iff_getElem?]; simpa using hoi)
      have := List.all_eq_true.1 this (oj, j) (by rw [List.mem_zipIdx_iff_getElem?]; simpa using hoj)
      simp only [hi, hj, Nat.beq_refl, Bool.not_true, Bool.or_false] at this
      exact Nat.eq_of_beq_eq_true this

theorem dep_mask (hd : depOK ops.toList = true) {i j t : Nat} {oi : Oper} (hi : ops[i]? = some oi) (hr : t ∈ readsOf ops.toList oi) (hj : dstAt ops j = some t) (hne : i ≠ j) :
    (j < i → ((masks ops.toList).getD i 0).testBit j = true) ∧ (i < j → ((masks ops.toList).getD j 0).testBit i = true) := by
  unfold dstAt at hj
  cases hoj : ops[j]? with
  | none => rw [hoj] at hj; cases hj
  | some oj =>
    rw [hoj] at hj
    have hj : oj.dst = some t := hj
    have := List.all_eq_true.1 hd (oi, i) (by rw [List.mem_zipIdx_iff_getElem?]; simpa using hi)
    have := List.all_eq_true.1 this t hr
    have := List.all_eq_true.1 this (oj, j) (by rw [List.mem_zipIdx_iff_getElem?]; simpa using hoj)
    simp only [hj, Nat.beq_refl, Bool.not_true, Bool.false_or, Bool.or_eq_true] at this
    have this := this.resolve_left (fun h => hne (Nat.eq_of_beq_eq_true h))
    refine ⟨fun hlt => ?_, fun hlt => ?_⟩
    · rw [show Nat.blt j i = true by rw [Nat.blt_eq]; exact hlt] at this
      simpa using this
    · rw [show Nat.blt j i = false by rw [← Bool.not_eq_true, Nat.blt_eq]; omega] at this
      simpa using this

theorem barrier_after {i j : Nat} (hb : barrier ops.toList i = true) (hj : j < ops.size) (hlt : i < j) : ((masks ops.toList).getD j 0).testBit i = true := by
  unfold barrier at hb
  rw [Bool.and_eq_true] at hb
  have := List.all_eq_true.1 hb.1 j (by simpa using hj)
  rw [show Nat.blt i j = true by rw [Nat.blt_eq]; exact hlt] at this
  simpa using this
theorem barrier_before {i j : Nat} (hlt : j < i) (hno : j ∉ lateL ops.toList i) : ((masks ops.toList).getD i 0).testBit j = true := by
  unfold lateL at hno
  rw [List.mem_filter] at hno
  cases h : ((masks ops.toList).getD i 0).testBit j with
  | true => rfl
  | false => exact absurd ⟨List.mem_range.2 hlt, by rw [h]; rfl⟩ hno
theorem barrier_late {i j : Nat} (hb : barrier ops.toList i = true) (hj : j ∈ lateL ops.toList i) : lateFine ops.toList i j = true := by
  unfold barrier at hb
  rw [Bool.and_eq_true] at hb
  exact List.all_eq_true.1 hb.2 j hj
theorem late_writer {i j y t d : Nat} {oj : Oper} (hf : lateFine ops.toList i j = true) (hoj : ops[j]? = some oj) (ht : t ∈ readsOf ops.toList oj) (hy : dstAt ops y = some t) : y < j ∨ i < y := by
  unfold lateFine at hf
  have hoj' : ops.toList[j]? = some oj := by simpa using hoj
  rw [hoj'] at hf
  simp only [Bool.and_eq_true] at hf
  have := List.all_eq_true.1 hf.2 t ht
  unfold dstAt at hy
  cases hoy : ops[y]? with
  | none => rw [hoy] at hy; cases hy
  | some oy =>
    rw [hoy] at hy
    have hy : oy.dst = some t := hy
    have := List.all_eq_true.1 this (oy, y) (by rw [List.mem_zipIdx_iff_getElem?]; simpa using hoy)
    simp only [hy, Nat.beq_refl, Bool.not_true, Bool.false_or, Bool.or_eq_true, Nat.blt_eq] at this
    exact this
theorem late_guard {i j : Nat} {oj : Oper} (hf : lateFine ops.toList i j = true) (hoj : ops[j]? = some oj) : oj.guard = none := by
  unfold lateFine at hf
  have hoj' : ops.toList[j]? = some oj := by simpa using hoj
  rw [hoj'] at hf
  simp only [Bool.and_eq_true] at hf
  simpa using hf.1.1

variable (hT : ∀ j, j < ops.size → TrOK P ops.toList envs hs rs kd j)
include hT

theorem tr_len {p j : Nat} (hpj : p ≤ j) (hj : j ≤ ops.size) : (envs j).length = (envs p).length := by
  induction j with
  | zero => obtain rfl : p = 0 := by omega
            rfl
  | succ j ih =>
    by_cases h : p = j + 1
    · subst h; rfl
    · obtain ⟨o, _, h1, _⟩ := hT j (by omega)
      rw [h1, putE_length, ih (by omega) (by omega)]

theorem tr_other {p j t : Nat} (hpj : p ≤ j) (hj : j ≤ ops.size) (hno : ∀ i, p ≤ i → i < j → dstAt ops i ≠ some t) : (envs j)[t]? = (envs p)[t]? := by
  induction j with
  | zero => obtain rfl : p = 0 := by omega
            rfl
  | succ j ih =>
    by_cases h : p = j + 1
    · subst h; rfl
    · obtain ⟨o, ho, h1, _⟩ := hT j (by omega)
      have hn := hno j (by omega) (by omega)
      have ho' : ops[j]? = some o := by simpa using ho
      unfold dstAt at hn
      rw [ho'] at hn
      rw [h1, ← ih (by omega) (by omega) (fun i h1 h2 => hno i h1 (by omega))]
      cases hd : o.dst with
      | none => rfl
      | some d =>
        have : d ≠ t := fun e => hn (by show o.dst = some t; rw [hd, e])
        show ((envs j).set d (rs j))[t]? = _
        rw [List.getElem?_set_ne this]

theorem tr_dst (hdo : dstOK ops.toList = true) {p i j t : Nat} (hpi : p ≤ i) (hij : i < j) (hj : j ≤ ops.size) (hd : dstAt ops i = some t) (ht : t < (envs p).length) : (envs j)[t]? = some (rs i) := by
  have h0 : (envs j)[t]? = (envs (i + 1))[t]? := tr_other hT (by omega) hj fun i' h1 h2 he => by
    have := dst_uniq hdo hd he
    omega
  obtain ⟨o, ho, h1, _⟩ := hT i (by omega)
  have ho' : ops[i]? = some o := by simpa using ho
  unfold dstAt at hd
  rw [ho'] at hd
  have hd : o.dst = some t := hd
  rw [h0, h1, hd]
  show ((envs i).set t (rs i))[t]? = _
  rw [List.getElem?_set_self (by rw [tr_len hT hpi (by omega)]; exact ht)]

theorem tr_prefix {i j : Nat} (hij : i ≤ j) (hj : j ≤ ops.size) (hno : ∀ k, i ≤ k → k < j → kd k ≠ .gen) : ∃ X, hs j = hs i ++ X := by
  induction j with
  | zero => obtain rfl : i = 0 := by omega
            exact ⟨[], by simp⟩
  | succ j ih =>
    by_cases h : i = j + 1
    · subst h; exact ⟨[], by simp⟩
    · obtain ⟨X, hX⟩ := ih (by omega) (by omega) (fun k h1 h2 => hno k h1 (by omega))
      obtain ⟨o, _, _, h2⟩ := hT j (by omega)
      have hg := hno j (by omega) (by omega)
      cases hk : kd j with
      | skip => rw [hk] at h2; exact ⟨X, by rw [h2.2.2, hX]⟩
      | quiet B => rw [hk] at h2; exact ⟨X ++ B, by rw [h2.2.2, hX, List.append_assoc]⟩
      | gen => exact absurd hk hg
end

/-- an operation that came late: it still does what it did -/
def Pend (P : Program) (ops : Array Oper) (envs : Nat → Env) (hs : Nat → Hp) (j p : Nat) : Prop :=
  (∃ q, p = q + 1 ∧ lateFine ops.toList q j = true) ∧ ∃ oj d, ops[j]? = some oj ∧ oj.dst = some d ∧ QOp P oj (evR oj (envs p)) (hs p) (evalS (envs p) (.tmp d)) []

structure DInv (P : Program) (ops : Array Oper) (envs : Nat → Env) (hs : Nat → Hp) (rs : Nat → S) (kd : Nat → Kd) (w0 : World) (ι0 : Io) (M0 : Ms) (H0 : Hp) (listed : Array Bool) (a : Act) (w : World) (p q : Nat) : Prop where
  hpq : p ≤ q
  hqn : q ≤ ops.size
  seg : ∀ j, p ≤ j → j < q → kd j ≠ .gen
  fin : q = ops.size ∨ kd q = .gen
  h0 : H0.length ≤ (hs p).length
  lsz : listed.size = ops.size
  low : ∀ j, j < p → listed.getD j false = true ∨ Pend P ops envs hs j p
  high : ∀ j, q ≤ j → listed.getD j false = false
  closed : ∀ i o, ops[i]? = some o → listed.getD i false = true → ∀ e ∈ o.after.toList, Region.binds .any e = true → listed.getD e.on false = true
  rel : ∃ (ι : Io) (M : Ms), a.defers = [] ∧ a.tmps.size = (envs p).length ∧
    (∀ i t, p ≤ i → listed.getD i false = true → dstAt ops i = some t → t < (envs p).length → RS w ι M (rs i) (a.tmps.getD t undef)) ∧
    (∀ t s, (∀ i, p ≤ i → listed.getD i false = true → dstAt ops i ≠ some t) → (∀ i, i < p → listed.getD i false = false → dstAt ops i ≠ some t) → (envs p)[t]? = some s → RS w ι M s (a.tmps.getD t undef)) ∧
    HeapRel w ι M (hs q) ∧ MB w M ∧ (∀ i B, p ≤ i → i < q → listed.getD i false = false → kd i = .quiet B → ∀ k, k < B.length → ι ((hs i).length + k) = none) ∧
    Fresh ι (hs q).length ∧ Step w0 ι0 M0 H0 w ι M (hs q)
end Go.Proofs.YtfieodjihaodiaaGreat
/- Regions that draw their order: the theorem. -/
namespace Go.Proofs.YtfieodjihaodiaaGreat
open Go.RowKit
set_option linter.unusedVariables false
set_option linter.unusedSimpArgs false

section
variable {P : Program} {ops : Array Oper} {envs : Nat → Env} {hs : Nat → Hp} {rs : Nat → S} {kd : Nat → Kd}
variable {w0 : World} {ι0 : Io} {M0 : Ms} {H0 : Hp} {listed : Array Bool} {a : Act} {w : World} {p q : Nat}

/-- a segment is done: the slots are those of the text's order -/
theorem DInv.full (hT : ∀ j, j < ops.size → TrOK P ops.toList envs hs rs kd j) (hdo : dstOK ops.toList = true) (hI : DInv P ops envs hs rs kd w0 ι0 M0 H0 listed a w p q) (hall : ∀ j, j < q → listed.getD j false = true) :
    Sim w0 ι0 M0 H0 a w (envs q) (hs q) := by
  obtain ⟨ι, M, hd, hsz, h1, h2, hH, hM, hf, hF, hst⟩ := hI.rel
  refine ⟨ι, M, hd, by rw [hsz, tr_len hT hI.hpq hI.hqn], fun t s ht => ?_, hH, hM, hF, hst⟩
  have htl : t < (envs p).length := by rw [← tr_len hT hI.hpq hI.hqn]; exact (List.getElem?_eq_some_iff.1 ht).1
  by_cases hex : ∃ i, p ≤ i ∧ i < q ∧ dstAt ops i = some t
  · obtain ⟨i, h3, h4, h5⟩ := hex
    rw [tr_dst hT hdo h3 h4 hI.hqn h5 htl] at ht
    injection ht with ht
    subst ht
    exact h1 i t h3 (hall i h4) h5 htl
  · have hno : ∀ i, p ≤ i → i < q → dstAt ops i ≠ some t := fun i h3 h4 h5 => hex ⟨i, h3, h4, h5⟩
    rw [tr_other hT hI.hpq hI.hqn hno] at ht
    refine h2 t s (fun i h3 h4 => hno i h3 ?_) (fun i h3 h4 => ?_) ht
    · rcases Nat.lt_or_ge i q with h | h
      · exact h
      · rw [hI.high i h] at h4; cases h4
    · have := hI.hpq
      rw [hall i (by omega)] at h4; cases h4

/-- an operation that is ready finds its operands as in the text's order -/
theorem DInv.reads (hT : ∀ j, j < ops.size → TrOK P ops.toList envs hs rs kd j) (hb : backOK ops.toList = true) (hdo : dstOK ops.toList = true) (hdep : depOK ops.toList = true)
    (hI : DInv P ops envs hs rs kd w0 ι0 M0 H0 listed a w p q) {ι : Io} {M : Ms}
    (h1 : ∀ i t, p ≤ i → listed.getD i false = true → dstAt ops i = some t → t < (envs p).length → RS w ι M (rs i) (a.tmps.getD t undef))
    (h2 : ∀ t s, (∀ i, p ≤ i → listed.getD i false = true → dstAt ops i ≠ some t) → (∀ i, i < p → listed.getD i false = false → dstAt ops i ≠ some t) → (envs p)[t]? = some s → RS w ι M s (a.tmps.getD t undef))
    {i : Nat} {o : Oper} (ho : ops[i]? = some o) (hpi : p ≤ i) (hiN : i ≤ ops.size) (hun : listed.getD i false = false) (hready : ∀ e ∈ o.after.toList, Region.binds .any e = true → listed.getD e.on false = true)
    {t : Nat} (ht : t ∈ readsOf ops.toList o) : RS w ι M (evalS (envs i) (.tmp t)) (a.tmps.getD t undef) := by
  show RS w ι M ((envs i).getD t .junk) _
  rw [List.getD_eq_getElem?_getD]
  have ho' : ops.toList[i]? = some o := by simpa using ho
  have hS : ∀ i o, ops.toList[i]? = some o → (listed.getD i false = true) → ∀ e ∈ o.after.toList, Region.binds .any e = true → listed.getD e.on false = true := fun i o h => hI.closed i o (by simpa using h)
  have hlow : ∀ j, j < p → listed.getD j false = false → dstAt ops j ≠ some t := fun j hj hl hd => by
    obtain ⟨m1, m2⟩ := dep_mask hdep ho ht hd (by omega)
    have := mask_ready hb hS ho' hready (m1 (by omega))
    rw [hl] at this; cases this
  cases hg : (envs i)[t]? with
  | none => exact .junk
  | some s =>
    have htl : t < (envs p).length := by rw [← tr_len hT hpi hiN]; exact (List.getElem?_eq_some_iff.1 hg).1
    show RS w ι M s _
    by_cases hex : ∃ j, p ≤ j ∧ j ≠ i ∧ dstAt ops j = some t
    · obtain ⟨j, hpj, hne, hj⟩ := hex
      obtain ⟨m1, m2⟩ := dep_mask hdep ho ht hj (Ne.symm hne)
      rcases Nat.lt_or_gt_of_ne hne with hlt | hgt
      · have hl := mask_ready hb hS ho' hready (m1 hlt)
        rw [tr_dst hT hdo hpj hlt hiN hj htl] at hg
        injection hg with hg
        subst hg
        exact h1 j t hpj hl hj htl
      · have hjl : listed.getD j false ≠ true := fun hjl => by
          have hoj : ∃ oj, ops.toList[j]? = some oj := by
            unfold dstAt at hj
            cases h : ops[j]? with
            | none => rw [h] at hj; cases hj
            | some oj => exact ⟨oj, by simpa using h⟩
          obtain ⟨oj, hoj⟩ := hoj
          have := mask_mem hb hS j oj i hoj (m2 hgt) hjl
          rw [hun] at this; cases this
        rw [tr_other hT hpi hiN (fun i' h3 h4 h5 => by have := dst_uniq hdo hj h5; omega)] at hg
        refine h2 t s (fun i' h3 h4 h5 => ?_) hlow hg
        have := dst_uniq hdo hj h5
        subst this
        exact hjl h4
    · have hno : ∀ i', p ≤ i' → i' ≠ i → dstAt ops i' ≠ some t := fun i' h3 h4 h5 => hex ⟨i', h3, h4, h5⟩
      rw [tr_other hT hpi hiN (fun i' h3 h4 => hno i' h3 (by omega))] at hg
      refine h2 t s (fun i' h3 h4 => hno i' h3 ?_) hlow hg
      rintro rfl
      rw [hun] at h4; cases h4

/-- an operation that came late finds its operands, too -/
theorem DInv.reads_late (hb : backOK ops.toList = true) (hdo : dstOK ops.toList = true) (hdep : depOK ops.toList = true)
    (hI : DInv P ops envs hs rs kd w0 ι0 M0 H0 listed a w p q) {ι : Io} {M : Ms}
    (h2 : ∀ t s, (∀ i, p ≤ i → listed.getD i false = true → dstAt ops i ≠ some t) → (∀ i, i < p → listed.getD i false = false → dstAt ops i ≠ some t) → (envs p)[t]? = some s → RS w ι M s (a.tmps.getD t undef))
    {i r : Nat} {o : Oper} (ho : ops[i]? = some o) (hip : i < p) (hr : p = r + 1) (hf : lateFine ops.toList r i = true) (hun : listed.getD i false = false) (hready : ∀ e ∈ o.after.toList, Region.binds .any e = true → listed.getD e.on false = true)
    {t : Nat} (ht : t ∈ readsOf ops.toList o) : RS w ι M (evalS (envs p) (.tmp t)) (a.tmps.getD t undef) := by
  show RS w ι M ((envs p).getD t .junk) _
  rw [List.getD_eq_getElem?_getD]
  have ho' : ops.toList[i]? = some o := by simpa using ho
  have hS : ∀ i o, ops.toList[i]? = some o → (listed.getD i false = true) → ∀ e ∈ o.after.toList, Region.binds .any e = true → listed.getD e.on false = true := fun i o h => hI.closed i o (by simpa using h)
  cases hg : (envs p)[t]? with
  | none => exact .junk
  | some s =>
    refine h2 t s (fun j h3 h4 h5 => ?_) (fun j h3 h4 h5 => ?_) hg
    · have hoj : ∃ oj, ops.toList[j]? = some oj := by
        unfold dstAt at h5
        cases h : ops[j]? with
        | none => rw [h] at h5; cases h5
        | some oj => exact ⟨oj, by simpa using h⟩
      obtain ⟨oj, hoj⟩ := hoj
      have := mask_mem hb hS j oj i hoj ((dep_mask hdep ho ht h5 (by omega)).2 (by omega)) h4
      rw [hun] at this; cases this
    · by_cases hji : j = i
      · subst hji
        rcases late_writer (d := 0) hf ho ht h5 with h | h <;> omega
      have hlt : j < i := by
        rcases late_writer (d := 0) hf ho ht h5 with h | h
        · exact h
        · omega
      have := mask_ready hb hS ho' hready ((dep_mask hdep ho ht h5 (by omega)).1 hlt)
      rw [h4] at this; cases this

theorem getD_set_self {listed : Array Bool} {i : Nat} (h : i < listed.size) : (listed.setIfInBounds i true).getD i false = true := by simp [h]
theorem getD_set_of {listed : Array Bool} {i j : Nat} (h : (listed.setIfInBounds i true).getD j false = true) : j = i ∨ listed.getD j false = true := by
  by_cases hij : i = j
  · exact .inl hij.symm
  · rw [getD_set_ne false hij] at h; exact .inr h

/-- one more operation of a segment is done -/
theorem DInv.step (hT : ∀ j, j < ops.size → TrOK P ops.toList envs hs rs kd j) (hI : DInv P ops envs hs rs kd w0 ι0 M0 H0 listed a w p q) (hd : a.defers = []) (hsz : a.tmps.size = (envs p).length)
    {i : Nat} {o : Oper} (ho : ops[i]? = some o) (hpi : p ≤ i) (hiq : i < q) (hun : listed.getD i false = false) (hready : ∀ e ∈ o.after.toList, Region.binds .any e = true → listed.getD e.on false = true)
    (hdo : dstOK ops.toList = true) {v : Value} {w' : World} {ι' : Io} {M' : Ms}
    (h1 : ∀ i t, p ≤ i → listed.getD i false = true → dstAt ops i = some t → t < (envs p).length → RS w' ι' M' (rs i) (a.tmps.getD t undef))
    (h2 : ∀ t s, (∀ i, p ≤ i → listed.getD i false = true → dstAt ops i ≠ some t) → (∀ i, i < p → listed.getD i false = false → dstAt ops i ≠ some t) → (envs p)[t]? = some s → RS w' ι' M' s (a.tmps.getD t undef))
    (hr : RS w' ι' M' (rs i) v) (hH : HeapRel w' ι' M' (hs q)) (hM : MB w' M')
    (hf : ∀ j B, p ≤ j → j < q → j ≠ i → listed.getD j false = false → kd j = .quiet B → ∀ k, k < B.length → ι' ((hs j).length + k) = none) (hF : Fresh ι' (hs q).length) (hst : Step w0 ι0 M0 H0 w' ι' M' (hs q)) :
    DInv P ops envs hs rs kd w0 ι0 M0 H0 (listed.setIfInBounds i true) (a.put o.dst v) w' p q := by
  have hil : i < listed.size := by rw [hI.lsz]; exact (Array.getElem?_eq_some_iff.1 ho).1
  have hdi : dstAt ops i = o.dst := by unfold dstAt; rw [ho]; rfl
  refine ⟨hI.hpq, hI.hqn, hI.seg, hI.fin, hI.h0, by simpa using hI.lsz, fun j hj => ?_, fun j hj => ?_, ?_, ι', M', by rw [put_defers', hd], by rw [put_size, hsz], ?_, ?_, hH, hM, ?_, hF, hst⟩
  · exact (hI.low j hj).imp (fun h => getD_set_true h) id
  · rw [getD_set_ne false (by omega)]; exact hI.high j hj
  · intro j oj hoj hl e he hb
    rcases getD_set_of hl with rfl | hl
    · rw [ho] at hoj
      injection hoj with hoj
      subst hoj
      exact getD_set_true (hready e he hb)
    · exact getD_set_true (hI.closed j oj hoj hl e he hb)
  · intro j t hpj hl hdj htl
    by_cases hji : j = i
    · subst hji
      rw [hdi] at hdj
      rw [hdj]
      show RS w' ι' M' (rs j) ((a.tmps.setIfInBounds t v).getD t undef)
      simpa [show t < a.tmps.size by omega] using hr
    · have hl' := (getD_set_of hl).resolve_left hji
      have hne : o.dst ≠ some t := fun h => by rw [← hdi] at h; exact hji (dst_uniq hdo hdj h)
      have := h1 j t hpj hl' hdj htl
      cases hdd : o.dst with
      | none => exact this
      | some d =>
        have : d ≠ t := fun e => hne (by rw [hdd, e])
        show RS w' ι' M' (rs j) ((a.tmps.setIfInBounds d v).getD t undef)
        rw [Array.getD_eq_getD_getElem?, Array.getElem?_setIfInBounds_ne this]
        rw [Array.getD_eq_getD_getElem?] at *
        assumption
  · intro t s hno hno2 hs'
    have hne : o.dst ≠ some t := fun h => hno i hpi (getD_set_self hil) (by rw [hdi, h])
    have := h2 t s (fun j h3 h4 => hno j h3 (getD_set_true h4)) (fun j h3 h4 => hno2 j h3 (by rw [getD_set_ne false (by omega)]; exact h4)) hs'
    cases hdd : o.dst with
    | none => exact this
    | some d =>
      have hdt : d ≠ t := fun e => hne (by rw [hdd, e])
      show RS w' ι' M' s ((a.tmps.setIfInBounds d v).getD t undef)
      rw [Array.getD_eq_getD_getElem?, Array.getElem?_setIfInBounds_ne hdt]
      rw [Array.getD_eq_getD_getElem?] at this
      exact this
  · intro j B hpj hjq hl hk
    have hji : j ≠ i := by rintro rfl; rw [getD_set_self hil] at hl; cases hl
    rw [getD_set_ne false (Ne.symm hji)] at hl
    exact hf j B hpj hjq hji hl hk

/-- an operation that came late is done -/
theorem DInv.late (hI : DInv P ops envs hs rs kd w0 ι0 M0 H0 listed a w p q) (hd : a.defers = []) (hsz : a.tmps.size = (envs p).length)
    {i : Nat} {o : Oper} {d : Nat} (ho : ops[i]? = some o) (hod : o.dst = some d) (hip : i < p) (hready : ∀ e ∈ o.after.toList, Region.binds .any e = true → listed.getD e.on false = true)
    (hdo : dstOK ops.toList = true) {v : Value} {w' : World} {ι' : Io} {M' : Ms}
    (h1 : ∀ i t, p ≤ i → listed.getD i false = true → dstAt ops i = some t → t < (envs p).length → RS w' ι' M' (rs i) (a.tmps.getD t undef))
    (h2 : ∀ t s, (∀ i, p ≤ i → listed.getD i false = true → dstAt ops i ≠ some t) → (∀ i, i < p → listed.getD i false = false → dstAt ops i ≠ some t) → (envs p)[t]? = some s → RS w' ι' M' s (a.tmps.getD t undef))
    (hr : RS w' ι' M' (evalS (envs p) (.tmp d)) v) (hH : HeapRel w' ι' M' (hs q)) (hM : MB w' M')
    (hf : ∀ j B, p ≤ j → j < q → listed.getD j false = false → kd j = .quiet B → ∀ k, k < B.length → ι' ((hs j).length + k) = none) (hF : Fresh ι' (hs q).length) (hst : Step w0 ι0 M0 H0 w' ι' M' (hs q)) :
    DInv P ops envs hs rs kd w0 ι0 M0 H0 (listed.setIfInBounds i true) (a.put o.dst v) w' p q := by
  have hil : i < listed.size := by rw [hI.lsz]; exact (Array.getElem?_eq_some_iff.1 ho).1
  have hdi : dstAt ops i = some d := by unfold dstAt; rw [ho]; exact hod
  have hpq := hI.hpq
  refine ⟨hI.hpq, hI.hqn, hI.seg, hI.fin, hI.h0, by simpa using hI.lsz, fun j hj => ?_, fun j hj => ?_, ?_, ι', M', by rw [put_defers', hd], by rw [put_size, hsz], ?_, ?_, hH, hM, ?_, hF, hst⟩
  · exact (hI.low j hj).imp (fun h => getD_set_true h) id
  · rw [getD_set_ne false (by omega)]; exact hI.high j hj
  · intro j oj hoj hl e he hb
    rcases getD_set_of hl with rfl | hl
    · rw [ho] at hoj
      injection hoj with hoj
      subst hoj
      exact getD_set_true (hready e he hb)
    · exact getD_set_true (hI.closed j oj hoj hl e he hb)
  · intro j t hpj hl hdj htl
    have hji : j ≠ i := by omega
    have hl' := (getD_set_of hl).resolve_left hji
    have := h1 j t hpj hl' hdj htl
    have hdt : d ≠ t := fun e => hji (dst_uniq hdo hdj (by rw [← e]; exact hdi))
    rw [hod]
    show RS w' ι' M' (rs j) ((a.tmps.setIfInBounds d v).getD t undef)
    rw [Array.getD_eq_getD_getElem?, Array.getElem?_setIfInBounds_ne hdt]
    rw [Array.getD_eq_getD_getElem?] at this
    exact this
  · intro t s hno hno2 hs'
    rw [hod]
    show RS w' ι' M' s ((a.tmps.setIfInBounds d v).getD t undef)
    by_cases hdt : d = t
    · subst hdt
      have htl := (List.getElem?_eq_some_iff.1 hs').1
      have he : evalS (envs p) (.tmp d) = s := by
        show (envs p).getD d .junk = s
        rw [List.getD_eq_getElem?_getD, hs']; rfl
      rw [he] at hr
      simpa [show d < a.tmps.size by omega] using hr
    · have := h2 t s (fun j h3 h4 => hno j h3 (getD_set_true h4)) (fun j h3 h4 h5 => by
        by_cases hji : j = i
        · subst hji; rw [hdi] at h5; injection h5 with h5; exact hdt h5
        · exact hno2 j h3 (by rw [getD_set_ne false (Ne.symm hji)]; exact h4) h5) hs'
      rw [Array.getD_eq_getD_getElem?, Array.getElem?_setIfInBounds_ne hdt]
      rw [Array.getD_eq_getD_getElem?] at this
      exact this
  · intro j B hpj hjq hl hk
    rw [getD_set_ne false (by omega)] at hl
    exact hf j B hpj hjq hl hk

/-- where the next general operation stands -/
theorem next_gen (kd : Nat → Kd) (p n : Nat) (h : p ≤ n) : ∃ q, p ≤ q ∧ q ≤ n ∧ (∀ j, p ≤ j → j < q → kd j ≠ .gen) ∧ (q = n ∨ kd q = .gen) := by
  obtain ⟨m, hm⟩ : ∃ m, m = n - p := ⟨_, rfl⟩
  induction m generalizing p with
  | zero => exact ⟨p, Nat.le_refl _, h, fun j _ _ => by omega, .inl (by omega)⟩
  | succ m ih =>
    cases hk : kd p with
    | gen => exact ⟨p, Nat.le_refl _, h, fun j _ _ => by omega, .inr hk⟩
    | skip =>
      obtain ⟨q, h1, h2, h3, h4⟩ := ih (p + 1) (by omega) (by omega)
      refine ⟨q, by omega, h2, fun j h5 h6 => ?_, h4⟩
      by_cases hj : j = p
      · subst hj; rw [hk]; intro h; cases h
      · exact h3 j (by omega) h6
    | quiet B =>
      obtain ⟨q, h1, h2, h3, h4⟩ := ih (p + 1) (by omega) (by omega)
      refine ⟨q, by omega, h2, fun j h5 h6 => ?_, h4⟩
      by_cases hj : j = p
      · subst hj; rw [hk]; intro h; cases h
      · exact h3 j (by omega) h6

def unl (n : Nat) (listed : Array Bool) : Nat := ((List.range n).filter fun j => !listed.getD j false).length
theorem unl_set {n : Nat} {listed : Array Bool} {i : Nat} (hi : i < n) (hs : listed.size = n) (hu : listed.getD i false = false) : unl n (listed.setIfInBounds i true) < unl n listed := by
  unfold unl
  have h1 : ((List.range n).filter fun j => !(listed.setIfInBounds i true).getD j false) = ((List.range n).filter fun j => !listed.getD j false).filter fun j => j ≠ i := by
    rw [List.filter_filter]
    apply List.filter_congr
    intro j hj
    by_cases hji : j = i
    · subst hji; simp [hs, hi]
    · rw [getD_set_ne false (Ne.symm hji)]; simp [hji]
  rw [h1]
  have hmem : i ∈ (List.range n).filter fun j => !listed.getD j false := by simp [hi]; simpa using hu
  have : ∀ (l : List Nat), i ∈ l → (l.filter fun j => j ≠ i).length < l.length := by
    intro l
    induction l with
    | nil => intro h; cases h
    | cons x l ih =>
      intro h
      by_cases hx : x = i
      · subst hx
        simp only [List.filter_cons, ne_eq, not_true_eq_false, decide_false, Bool.false_eq_true, if_false, List.length_cons]
        have := List.length_filter_le (fun j => decide ¬j = x) l
        exact Nat.lt_succ_of_le this
      · rcases List.mem_cons.1 h with h | h
        · exact absurd h.symm hx
        · simp [List.filter_cons, hx]
          simpa using ih h
  exact this _ hmem

theorem all_of_ready_nil (hb : backOK ops.toList = true) (hsz : listed.size = ops.size) (h : Region.ready .any ops listed = []) : ∀ i, i < ops.size → listed.getD i false = true := by
  intro i
  induction i using Nat.strongRecOn with
  | _ i ih =>
    intro hi
    cases hl : listed.getD i false with
    | true => rfl
    | false =>
      have : i ∈ Region.ready .any ops listed := by
        rw [mem_ready]
        refine ⟨by simp [hsz, hi] at hl ⊢; exact hl, ops[i], by simp, fun e he hbi => ?_⟩
        have hlt := back_lt hb (i := i) (o := ops[i]) (by simp) (by simpa using he) hbi
        exact ih e.on hlt (by omega)
      rw [h] at this; cases this
theorem all_of_unl {n : Nat} (h : unl n listed = 0) : ∀ i, i < n → listed.getD i false = true := by
  intro i hi
  unfold unl at h
  have := List.eq_nil_of_length_eq_zero h
  rw [List.filter_eq_nil_iff] at this
  have := this i (by simpa using hi)
  simpa using this

theorem dinv_all (hI : DInv P ops envs hs rs kd w0 ι0 M0 H0 listed a w p q) (hall : ∀ i, i < ops.size → listed.getD i false = true) : q = ops.size := by
  rcases Nat.lt_or_ge q ops.size with h | h
  · have := hI.high q (Nat.le_refl _)
    rw [hall q h] at this; cases this
  · have := hI.hqn; omega

theorem wpAny_of (hM0 : MB w0 M0) (hT : ∀ j, j < ops.size → TrOK P ops.toList envs hs rs kd j) (hb : backOK ops.toList = true) (hdo : dstOK ops.toList = true) (hdep : depOK ops.toList = true) {Q : Exit → Act → World → Prop}
    (hK : ∀ a w, Sim w0 ι0 M0 H0 a w (envs ops.size) (hs ops.size) → Q .normal a w) : ∀ (fuel : Nat) (listed : Array Bool) (a : Act) (w : World) (p q : Nat), DInv P ops envs hs rs kd w0 ι0 M0 H0 listed a w p q → unl ops.size listed ≤ fuel →
      wpAny P .any ops Q fuel listed a w := by
  have hend : ∀ (listed : Array Bool) (a : Act) (w : World) (p q : Nat), DInv P ops envs hs rs kd w0 ι0 M0 H0 listed a w p q → (∀ i, i < ops.size → listed.getD i false = true) → Q .normal a w := fun listed a w p q hI hall => by
    obtain rfl := dinv_all hI hall
    exact hK a w (hI.full hT hdo hall)
  intro fuel
  induction fuel with
  | zero =>
    intro listed a w p q hI hu
    have hall := all_of_unl (listed := listed) (n := ops.size) (by omega)
    refine ⟨?_, hend listed a w p q hI hall⟩
    cases hr : Region.ready .any ops listed with
    | nil => rfl
    | cons i l =>
      have hi : i ∈ Region.ready .any ops listed := by rw [hr]; simp
      rw [mem_ready] at hi
      obtain ⟨h1, o, ho, _⟩ := hi
      have hlt := (Array.getElem?_eq_some_iff.1 ho).1
      have h2 := hall i hlt
      have hsz := hI.lsz
      simp [hsz, hlt] at h1 h2
      rw [h1] at h2; cases h2
  | succ fuel ih =>
    intro listed a w p q hI hu
    refine ⟨fun hr => hend listed a w p q hI (all_of_ready_nil hb hI.lsz hr), fun i hi => ?_⟩
    rw [mem_ready] at hi
    obtain ⟨hl, o, ho, hready⟩ := hi
    have hiN := (Array.getElem?_eq_some_iff.1 ho).1
    have hsz0 := hI.lsz
    have hun : listed.getD i false = false := by simp [hsz0, hiN] at hl ⊢; exact hl
    have hready' : ∀ e ∈ o.after.toList, Region.binds .any e = true → listed.getD e.on false = true := fun e he => hready e (by simpa using he)
    have hu' : unl ops.size (listed.setIfInBounds i true) ≤ fuel := by
      have := unl_set hiN hsz0 hun; omega
    have hS : ∀ i o, ops.toList[i]? = some o → (listed.getD i false = true) → ∀ e ∈ o.after.toList, Region.binds .any e = true → listed.getD e.on false = true := fun i o h => hI.closed i o (by simpa using h)
    unfold wpOp
    rw [ho]
    simp only
    obtain ⟨ι, M, hd, hsz, h1, h2, hH, hM, hf, hF, hst⟩ := hI.rel
    by_cases hip : i < p
    · -- one that came late
      rcases hI.low i hip with h | ⟨⟨r, hpr, hfine⟩, oj, d, hoj, hod, hq⟩
      · rw [h] at hun; cases hun
      rw [ho] at hoj
      injection hoj with hoj
      subst hoj
      have hgd := late_guard hfine ho
      have hreads := fun t ht => hI.reads_late hb hdo hdep h2 ho hip hpr hfine hun hready' (t := t) ht
      rw [show Region.wanted o (yielded ops a.tmps) = true by unfold Region.wanted; rw [hgd]]
      simp only [if_true]
      refine .inl ?_
      obtain ⟨X, hX⟩ := tr_prefix hT hI.hpq hI.hqn hI.seg
      have hHp : HeapRel w ι M (hs p) := by rw [hX] at hH; exact hH.pre1
      have hev : EvRel w ι M (evR o (envs p)) a := by
        intro x
        cases x with
        | tmp t =>
          show RS w ι M (cond _ _ _) _
          cases hc : (o.op.operands.toList.filterMap fun x => match x with | .tmp t => some t | _ => none).contains t with
          | true =>
            refine hreads t ?_
            unfold readsOf
            rw [List.mem_append]
            exact .inl (List.contains_iff_mem.1 hc)
          | false => exact .junk
        | const v => exact RS.const v
        | global g => exact .junk
        | func f => exact .c (.t (.fn [] rfl (by simp)))
      refine hq a w ι M hev hHp hM (by simp) _ _ fun v w' hp => ?_
      obtain ⟨new, q1, q2, q3, q4, q5, q6⟩ := hp.insert hH hM (by simp) (by simp)
      have hsame : ∀ id, addIo ι (hs p).length ([] : List Blk).length new id = ι id := fun id => by unfold addIo; rw [if_neg (by simp)]
      have keep : ∀ {s v}, RS w ι M s v → RS w' (addIo ι (hs p).length ([] : List Blk).length new) (addMs M ([] : List Blk).length new) s v := fun h => h.keep (fun b hb _ => q2.keep b hb) q5 (fun id l hl => by rw [hsame]; exact hl)
      refine ih _ _ _ p q (hI.late hd hsz ho hod hip hready' hdo (fun j t h3 h4 h5 h6 => keep (h1 j t h3 h4 h5 h6)) (fun t s h3 h4 h5 => keep (h2 t s h3 h4 h5)) q1 q3 q4 ?_ ?_ ?_) hu'
      · intro j B' h3 h4 h6 h7 k hk
        rw [hsame]
        exact hf j B' h3 h4 h6 h7 k hk
      · intro id hid
        rw [hsame]
        exact hF id hid
      · refine ⟨q2.os.trans hst.os, q2.tape.trans hst.tape, q2.output.trans hst.output, Nat.le_trans hst.size q2.size, fun b hb' hl' => (q2.keep b (Nat.lt_of_lt_of_le hb' hst.size)).trans (hst.keep b hb' hl'), ?_, ?_, ?_, ?_, hst.len⟩
        · intro id hid
          rw [hsame]
          exact hst.same id hid
        · intro b hb'
          rcases q5 b hb' with h | h
          · exact hst.mnew b h
          · exact .inr (Nat.le_trans hst.size h)
        · intro b hb'
          rcases hst.mold b hb' with h | h
          · exact .inl (.inl h)
          · exact .inr h
        · intro b hb'
          rcases q6 b hb' with h | h
          · exact hst.live b h
          · exact .inr (Nat.le_trans hst.size h)
    have hpi : p ≤ i := by omega
    have hiq : i ≤ q := by
      rcases Nat.lt_or_ge q i with h | h
      · have hkq : kd q = .gen := hI.fin.resolve_left (by omega)
        obtain ⟨oq, hoq, _, h3⟩ := hT q (by omega)
        rw [hkq] at h3
        have := mask_ready hb hS (by simpa using ho) hready' (barrier_after h3.2.2.1 hiN h)
        rw [hI.high q (Nat.le_refl _)] at this; cases this
      · exact h
    obtain ⟨o', ho', henv, hk⟩ := hT i hiN
    have : o' = o := by
      have : ops[i]? = some o' := by simpa using ho'
      rw [ho] at this; injection this with this; exact this.symm
    subst this
    have hreads := fun t ht => hI.reads hT hb hdo hdep h1 h2 ho hpi (Nat.le_of_lt hiN) hun hready' (t := t) ht
    have hlenI : a.tmps.size = (envs i).length := by rw [hsz, tr_len hT hpi (by omega)]
    have hguard : ∀ j want oj d, o'.guard = some (j, want) → ops[j]? = some oj → oj.dst = some d → RS w ι M (evalS (envs i) (.tmp d)) (a.tmps.getD d undef) := fun j want oj d hg hoj hdj => by
      refine hreads d ?_
      unfold readsOf
      rw [List.mem_append]
      refine .inr ?_
      have hoj' : ops.toList[j]? = some oj := by simpa using hoj
      rw [hg]
      simp [hoj', hdj]
    have hev : EvRel w ι M (evR o' (envs i)) a := by
      intro x
      cases x with
      | tmp t =>
        show RS w ι M (cond _ _ _) _
        cases hc : (o'.op.operands.toList.filterMap fun x => match x with | .tmp t => some t | _ => none).contains t with
        | true =>
          refine hreads t ?_
          unfold readsOf
          rw [List.mem_append]
          exact .inl (List.contains_iff_mem.1 hc)
        | false => exact .junk
      | const v => exact RS.const v
      | global g => exact .junk
      | func f => exact .c (.t (.fn [] rfl (by simp)))
    by_cases hlt : i < q
    · obtain ⟨X, hX⟩ := tr_prefix hT (Nat.le_of_lt hlt) hI.hqn (fun k h3 h4 => hI.seg k (by omega) h4)
      cases hkd : kd i with
      | skip =>
        rw [hkd] at hk
        obtain ⟨hw, hr, _⟩ := hk
        rw [wants_real hlenI hw hguard]
        simp only [Bool.false_eq_true, if_false]
        refine ih _ _ _ p q (hI.step hT hd hsz ho hpi hlt hun hready' hdo h1 h2 (by rw [hr]; exact .skip) hH hM (fun j B h3 h4 _ h5 h6 => hf j B h3 h4 h5 h6) hF hst) hu'
      | quiet B =>
        rw [hkd] at hk
        obtain ⟨hw, hqop, hB⟩ := hk
        rw [wants_real hlenI hw hguard]
        simp only [if_true]
        refine .inl ?_
        have hfi := hf i B hpi hlt hun hkd
        have hHi : HeapRel w ι M (hs i) := by rw [hX] at hH; exact hH.pre1
        refine hqop a w ι M hev hHi hM hfi _ _ fun v w' hp => ?_
        obtain ⟨X1, hX1⟩ := tr_prefix hT (show i + 1 ≤ q by omega) hI.hqn (fun k h3 h4 => hI.seg k (by omega) h4)
        have hBq : ∀ k, k < B.length → (hs q)[(hs i).length + k]? = B[k]? := fun k hk => by
          rw [hX1, hB, List.append_assoc, List.getElem?_append_right (by omega), List.getElem?_append_left (by omega)]
          congr 1; omega
        obtain ⟨new, q1, q2, q3, q4, q5, q6⟩ := hp.insert hH hM hBq hfi
        have hext : ∀ id l, ι id = some l → addIo ι (hs i).length B.length new id = some l := fun id l hl => addIo_ext hfi hl
        have keep : ∀ {s v}, RS w ι M s v → RS w' (addIo ι (hs i).length B.length new) (addMs M B.length new) s v := fun h => h.keep (fun b hb _ => q2.keep b hb) q5 hext
        have hqlen : (hs i).length + B.length ≤ (hs q).length := by rw [hX1, hB]; simp
        have hH0 : H0.length ≤ (hs i).length := by
          obtain ⟨Z, hZ⟩ := tr_prefix hT hpi (by omega) (fun k h3 h4 => hI.seg k h3 (by omega))
          have := hI.h0
          rw [hZ]; simp; omega
        refine ih _ _ _ p q (hI.step hT hd hsz ho hpi hlt hun hready' hdo (fun j t h3 h4 h5 h6 => keep (h1 j t h3 h4 h5 h6)) (fun t s h3 h4 h5 => keep (h2 t s h3 h4 h5)) q1 q3 q4 ?_ ?_ ?_) hu'
        · intro j B' h3 h4 h5 h6 h7 k hk
          have hfj := hf j B' h3 h4 h6 h7 k hk
          unfold addIo
          rw [if_neg ?_, hfj]
          -- the new ids of two places are apart
          rintro ⟨r1, r2⟩
          rcases Nat.lt_or_gt_of_ne h5 with hji | hji
          · obtain ⟨Y, hY⟩ := tr_prefix hT (show j + 1 ≤ i by omega) (by omega) (fun k h3' h4' => hI.seg k (by omega) (by omega))
            obtain ⟨oj, _, _, hkj⟩ := hT j (by omega)
            rw [h7] at hkj
            rw [hY, hkj.2.2] at r1
            simp at r1
            omega
          · obtain ⟨Y, hY⟩ := tr_prefix hT (show i + 1 ≤ j by omega) (by have := hI.hqn; omega) (fun k h3' h4' => hI.seg k (by omega) (by omega))
            rw [hY, hB] at r2
            simp at r2
            omega
        · intro id hid
          unfold addIo
          rw [if_neg (by omega)]
          exact hF id hid
        · refine ⟨q2.os.trans hst.os, q2.tape.trans hst.tape, q2.output.trans hst.output, Nat.le_trans hst.size q2.size, fun b hb' hl' => (q2.keep b (Nat.lt_of_lt_of_le hb' hst.size)).trans (hst.keep b hb' hl'), ?_, ?_, ?_, ?_, hst.len⟩
          · intro id hid
            unfold addIo
            rw [if_neg (by omega)]
            exact hst.same id hid
          · intro b hb'
            rcases q5 b hb' with h | h
            · exact hst.mnew b h
            · exact .inr (Nat.le_trans hst.size h)
          · intro b hb'
            rcases hst.mold b hb' with h | h
            · exact .inl (.inl h)
            · exact .inr h
          · intro b hb'
            rcases q6 b hb' with h | h
            · exact hst.live b h
            · exact .inr (Nat.le_trans hst.size h)
      | gen => exact absurd hkd (hI.seg i hpi hlt)
    · -- a general operation: the segment before it is done
      obtain rfl : i = q := by omega
      have hkq : kd i = .gen := hI.fin.resolve_left (by omega)
      rw [hkq] at hk
      obtain ⟨hw, hg, hbar, hlate⟩ := hk
      rw [wants_real hlenI hw hguard]
      simp only [if_true]
      refine .inl ?_
      refine hg a w ι M hev hH hM hF _ _ fun v w' hp => ?_
      obtain ⟨ι1, M1, g1, hH1, hM1, hF1, g5⟩ := hp
      have hkb : ∀ b, b < w.heap.size → ¬ M b → w'.heap[b]? = w.heap[b]? := fun b hb hnm => g5.keep b hb fun hl => hnm (Live.inM hH hl)
      have hki : ∀ id l, ι id = some l → ι1 id = some l := fun id l hl => by
        have hlt : id < (hs i).length := by
          rcases Nat.lt_or_ge id (hs i).length with h | h
          · exact h
          · rw [hF id h] at hl; cases hl
        rw [g5.same id hlt, hl]
      have keep : ∀ {s v}, RS w ι M s v → RS w' ι1 M1 s v := fun h => h.keep hkb g5.mnew hki
      have hst1 := hst.trans hM0 g5
      have hlen1 : (envs (i + 1)).length = (envs i).length := by rw [henv, putE_length]
      obtain ⟨q', r1, r2, r3, r4⟩ := next_gen kd (i + 1) ops.size (by omega)
      obtain ⟨X, hX⟩ := tr_prefix hT r1 r2 r3
      have hdi : dstAt ops i = o'.dst := by unfold dstAt; rw [ho]; rfl
      have henvne : ∀ t, o'.dst ≠ some t → (envs (i + 1))[t]? = (envs i)[t]? := fun t hne => by
        rw [henv]
        cases hdd : o'.dst with
        | none => rfl
        | some d =>
          have hdt : d ≠ t := fun e => hne (by rw [hdd, e])
          show ((envs i).set d (rs i))[t]? = _
          rw [List.getElem?_set_ne hdt]
      refine ih _ _ _ (i + 1) q' ⟨r1, r2, r3, r4, hst1.len, by simpa using hsz0, fun j hj => ?_, fun j hj => ?_, ?_, ι1, M1, by rw [put_defers', hd], by rw [put_size, hlenI, hlen1], ?_, ?_, ?_, hM1, ?_, ?_, ?_⟩ hu'
      · by_cases hji : j = i
        · subst hji; exact .inl (getD_set_self (by omega))
        · cases hl : listed.getD j false with
          | true => exact .inl (getD_set_true hl)
          | false =>
            by_cases hjl : j ∈ lateL ops.toList i
            · have hfine := barrier_late hbar hjl
              obtain ⟨oj, d, hoj, hod, hq⟩ := hlate j hjl
              have hoj' : ops[j]? = some oj := by simpa using hoj
              refine .inr ⟨⟨i, rfl, hfine⟩, oj, d, hoj', hod, ?_⟩
              have hev1 : evR oj (envs (i + 1)) = evR oj (envs i) := by
                funext x
                cases x with
                | tmp t =>
                  show cond _ _ _ = cond _ _ _
                  cases hc : (oj.op.operands.toList.filterMap fun x => match x with | .tmp t => some t | _ => none).contains t with
                  | false => rfl
                  | true =>
                    have ht : t ∈ readsOf ops.toList oj := by
                      unfold readsOf
                      rw [List.mem_append]
                      exact .inl (List.contains_iff_mem.1 hc)
                    have hne : o'.dst ≠ some t := fun he => by
                      have := late_writer (d := 0) hfine hoj' ht (hdi.trans he)
                      omega
                    show (envs (i + 1)).getD t .junk = (envs i).getD t .junk
                    rw [List.getD_eq_getElem?_getD, List.getD_eq_getElem?_getD, henvne t hne]
                | const v => rfl
                | global g => rfl
                | func f => rfl
              have hne : o'.dst ≠ some d := fun he => hji (dst_uniq hdo (show dstAt ops j = some d by unfold dstAt; rw [hoj']; exact hod) (hdi.trans he))
              have hd1 : evalS (envs (i + 1)) (.tmp d) = evalS (envs i) (.tmp d) := by
                show (envs (i + 1)).getD d .junk = (envs i).getD d .junk
                rw [List.getD_eq_getElem?_getD, List.getD_eq_getElem?_getD, henvne d hne]
              rw [hev1, hd1]
              exact hq
            · have := mask_ready hb hS (by simpa using ho) hready' (barrier_before (by omega) hjl)
              rw [hl] at this; cases this
      · rw [getD_set_ne false (by omega)]; exact hI.high j (by omega)
      · intro j oj hoj hl' e he' hb'
        rcases getD_set_of hl' with rfl | hl'
        · rw [ho] at hoj
          injection hoj with hoj
          subst hoj
          exact getD_set_true (hready' e he' hb')
        · exact getD_set_true (hI.closed j oj hoj hl' e he' hb')
      · intro j t hj hl' _ _
        rcases getD_set_of hl' with rfl | hl'
        · omega
        · rw [hI.high j (by omega)] at hl'; cases hl'
      · intro t s _ hno2 hs'
        have htl : t < (envs i).length := by rw [← hlen1]; exact (List.getElem?_eq_some_iff.1 hs').1
        by_cases hdt : o'.dst = some t
        · have : (envs (i + 1))[t]? = some (rs i) := by
            rw [henv, hdt]
            show ((envs i).set t (rs i))[t]? = _
            rw [List.getElem?_set_self htl]
          rw [this] at hs'
          injection hs' with hs'
          subst hs'
          rw [hdt]
          show RS w' ι1 M1 (rs i) ((a.tmps.setIfInBounds t v).getD t undef)
          simpa [show t < a.tmps.size by omega] using g1
        · rw [henvne t hdt] at hs'
          have hold : RS w ι M s (a.tmps.getD t undef) := by
            by_cases hex : ∃ j, p ≤ j ∧ j < i ∧ dstAt ops j = some t
            · obtain ⟨j, h3, h4, h5⟩ := hex
              have htp : t < (envs p).length := by rw [← tr_len hT hpi (by omega)]; exact htl
              rw [tr_dst hT hdo h3 h4 (by omega) h5 htp] at hs'
              injection hs' with hs'
              subst hs'
              refine h1 j t h3 ?_ h5 htp
              cases hl : listed.getD j false with
              | true => rfl
              | false => exact absurd h5 (hno2 j (by omega) (by rw [getD_set_ne false (by omega)]; exact hl))
            · rw [tr_other hT hpi (by omega) (fun j h3 h4 h5 => hex ⟨j, h3, h4, h5⟩)] at hs'
              refine h2 t s (fun j h3 h4 h5 => ?_) (fun j h3 h4 h5 => ?_) hs'
              · rcases Nat.lt_or_ge j i with h | h
                · exact hex ⟨j, h3, h, h5⟩
                · rw [hI.high j h] at h4; cases h4
              · exact hno2 j (by omega) (by rw [getD_set_ne false (by omega)]; exact h4) h5
          cases hdd : o'.dst with
          | none => exact keep hold
          | some d =>
            have hdt' : d ≠ t := fun e => hdt (by rw [hdd, e])
            show RS w' ι1 M1 s ((a.tmps.setIfInBounds d v).getD t undef)
            have := keep hold
            rw [Array.getD_eq_getD_getElem?, Array.getElem?_setIfInBounds_ne hdt']
            rw [Array.getD_eq_getD_getElem?] at this
            exact this
      · rw [hX]; exact hH1.extend hF1
      · intro j B h3 h4 _ _ k hk
        obtain ⟨Y, hY⟩ := tr_prefix hT h3 (by omega) (fun k h3' h4' => r3 k h3' (by omega))
        exact hF1 _ (by rw [hY]; simp; omega)
      · intro id hid
        exact hF1 id (by rw [hX] at hid; simp at hid; omega)
      · refine ⟨hst1.os, hst1.tape, hst1.output, hst1.size, hst1.keep, hst1.same, hst1.mnew, hst1.mold, ?_, by rw [hX]; have := hst1.len; simp; omega⟩
        rintro b ⟨id, k, cap, size, hk, hm, hi'⟩
        have hid : id < (hs (i + 1)).length := by
          rcases Nat.lt_or_ge id (hs (i + 1)).length with h | h
          · exact h
          · rw [hF1 id h] at hi'; cases hi'
        rw [hX, List.getElem?_append_left hid] at hk
        exact hst1.live b ⟨id, k, cap, size, hk, hm, hi'⟩
end

theorem aops_drawn {P : Program} {τ : Tab} (hτ : TabOK P τ) {ops : Array Oper} {Q : Exit → Act → World → Prop} {K : Env → Hp → Prop} {w0 : World} {ι0 : Io} {M0 : Ms} {H0 : Hp} (hM0 : MB w0 M0)
    (hK : ∀ env H a w, K env H → Sim w0 ι0 M0 H0 a w env H → Q .normal a w) {env : Env} {H : Hp} {a : Act} {w : World} {id : Nat}
    (hr : regOK ops.toList = true) (h : aops P τ ops.toList true 0 ops.toList env H K) (hs : Sim w0 ι0 M0 H0 a w env H) : (Code.region id ops true).wp P Q a w := by
  simp only [regOK, Bool.and_eq_true] at hr
  obtain ⟨⟨hb, hdo⟩, hdep⟩ := hr
  obtain ⟨envs, hps, rs, kd, h1, h2, h3, h4⟩ := aops_trace hτ ops.toList 0 env H rfl h
  have hT : ∀ j, j < ops.size → TrOK P ops.toList envs hps rs kd j := fun j hj => h4 j (Nat.zero_le _) (by simpa using hj)
  obtain ⟨q, q1, q2, q3, q4⟩ := next_gen kd 0 ops.size (Nat.zero_le _)
  obtain ⟨X, hX⟩ := tr_prefix hT q1 q2 q3
  obtain ⟨ι, M, hd, hsz, he, hH, hM, hF, hst⟩ := hs
  have hnone : ∀ j, (Array.replicate ops.size false).getD j false = false := fun j => by
    by_cases hj : j < ops.size
    · simp [hj]
    · simp [hj]
  refine wp_region_any hτ.mixed (wpAny_of hM0 hT hb hdo hdep (fun a w hs => hK _ _ a w (by simpa using h3) hs) ops.size _ a _ 0 q ?_ ?_)
  · refine ⟨q1, q2, q3, q4, by rw [h2]; exact hst.len, by simp, fun j hj => by omega, fun j _ => hnone j, (fun i o _ hl => absurd hl (by rw [hnone i]; simp)), ⟨ι, M, hd, by rw [h1]; exact hsz, (fun i t _ hl => absurd hl (by rw [hnone i]; simp)), ?_, ?_, hM, ?_, ?_, ?_⟩⟩
    · intro t s _ _ ht
      rw [h1] at ht
      exact (he t s ht).keep (w := w) (w' := { w with drawn := w.drawn + 1 }) (fun _ _ _ => rfl) (fun b h => .inl h) (fun _ _ h => h)
    · rw [hX, h2]
      have := HeapRel.extend (X := X) hH hF
      exact ⟨fun id k hk hd l hl => by
          have hb := this.blk id k hk hd l hl
          cases l with
          | nil => exact hb
          | blk b cap size =>
            obtain ⟨r1, r2, r3, r4, r5, cur, r6, r7, r8⟩ := hb
            exact ⟨r1, r2, r3, r4, r5, cur, r6, r7, fun i j c hc => by
              obtain ⟨u, s1, s2⟩ := r8 i j c hc
              exact ⟨u, s1, s2.keep (w := w) (w' := { w with drawn := w.drawn + 1 }) (fun _ _ _ => rfl) (fun b h => .inl h) (fun _ _ h => h)⟩⟩, this.liv, this.fro, this.inj, this.old⟩
    · intro i B _ hi _ hk k hkB
      obtain ⟨Y, hY⟩ := tr_prefix hT (Nat.zero_le i) (by omega) (fun k h1 h2 => q3 k h1 (by omega))
      exact hF _ (by rw [hY, h2]; simp; omega)
    · intro id hid
      exact hF id (by rw [hX, h2] at hid; simp at hid; omega)
    · rw [hX, h2]
      refine ⟨hst.os, hst.tape, hst.output, hst.size, hst.keep, hst.same, hst.mnew, hst.mold, ?_, by have := hst.len; simp; omega⟩
      rintro b ⟨id, k, cap, size, hk, hm, hi⟩
      have hid : id < H.length := by
        rcases Nat.lt_or_ge id H.length with h | h
        · exact h
        · rw [hF id h] at hi; cases hi
      rw [List.getElem?_append_left hid] at hk
      exact hst.live b ⟨id, k, cap, size, hk, hm, hi⟩
  · unfold unl
    have := List.length_filter_le (fun j => !(Array.replicate ops.size false).getD j false) (List.range ops.size)
    simpa using this
end Go.Proofs.YtfieodjihaodiaaGreat
/- Codes and functions of the abstract machine. -/
namespace Go.Proofs.YtfieodjihaodiaaGreat
open Go.RowKit
set_option linter.unusedVariables false
set_option linter.unusedSimpArgs false

inductive AX where
  | normal
  | exit (id : Nat)
  | ret
def AX.real : AX → Exit
  | .normal => .normal
  | .exit id => .exit id
  | .ret => .ret

/-- from every real state that the abstract one stands for, the code ends in one that an abstract end stands for -/
structure Awp (P : Program) (n0 : Nat) (c : Code) (env : Env) (H : Hp) (Q : AX → Env → Hp → Prop) : Prop where
  out : ∀ (w0 : World) (ι0 : Io) (M0 : Ms) (H0 : Hp) (a : Act) (w : World), H0.length = n0 → MB w0 M0 → Sim w0 ι0 M0 H0 a w env H →
    c.wp P (fun e a' w' => ∃ x env' H', e = AX.real x ∧ Q x env' H' ∧ Sim w0 ι0 M0 H0 a' w' env' H') a w

abbrev AQ := AX → Env → Hp → Prop
abbrev AC := Env → Hp → AQ → Prop
def acSkip : AC := fun env H Q => Q .normal env H
noncomputable def acRegion (P : Program) (τ : Tab) (_ : Nat) (ops : Array Oper) (draw : Bool) : AC := fun env H Q => match draw with
    | true => regOK ops.toList = true ∧ aops P τ ops.toList true 0 ops.toList env H (Q .normal)
    | false => aops P τ ops.toList false 0 ops.toList env H (Q .normal)
def acThen (b : AC) (Q : AQ) : AQ := fun x env' H' => match x with
    | .normal => b env' H' Q
    | .exit j => Q (.exit j) env' H'
    | .ret => Q .ret env' H'
def acSeq (_ _ : Code) (a b : AC) : AC := fun env H Q => a env H (acThen b Q)
def acCond (c : Operand) (_ _ : Code) (t e : AC) : AC := fun env H Q => match evalS env c with
    | .c (.t (.atm (.bool b))) => cond b (t env H Q) (e env H Q)
    | _ => False
def acIn (id : Nat) (Q : AQ) : AQ := fun x env' H' => match x with
    | .exit j => cond (Nat.beq j id) (Q .normal env' H') (Q (.exit j) env' H')
    | .normal => Q .normal env' H'
    | .ret => Q .ret env' H'
def acBlock (id : Nat) (_ : Code) (b : AC) : AC := fun env H Q => b env H (acIn id Q)
def acLoop (P : Program) (n0 : Nat) (c : Code) (_ : AC) : AC := fun env H Q => Awp P n0 (.loop c) env H Q
def acExit (id : Nat) : AC := fun env H Q => Q (.exit id) env H
def acRet : AC := fun env H Q => Q .ret env H
def acNo : AC := fun _ _ _ => False
/-- what a code does to the abstract state; loops are left (by the recursor itself) -/
noncomputable def acode (P : Program) (τ : Tab) (n0 : Nat) (c : Code) : Env → Hp → (AX → Env → Hp → Prop) → Prop :=
  Code.rec (motive := fun _ => AC) acSkip (acRegion P τ) acSeq acCond acBlock (acLoop P n0) (fun _ _ _ _ _ _ => acNo) acExit (fun _ _ => acNo) (fun _ => acSkip) (fun _ => acNo) acRet (fun _ => acNo) c

theorem acode_sound {P : Program} {τ : Tab} {n0 : Nat} (hτ : TabOK P τ) (c : Code) : ∀ {env : Env} {H : Hp} {Q : AX → Env → Hp → Prop}, acode P τ n0 c env H Q → Awp P n0 c env H Q := by
  induction c with
  | skip => intro env H Q h; refine ⟨fun w0 ι0 M0 H0 a w hn hM hs => ?_⟩; exact wp_skip ⟨.normal, env, H, rfl, h, hs⟩
  | region id ops draw =>
    intro env H Q h
    refine ⟨fun w0 ι0 M0 H0 a w hn hM hs => ?_⟩
    cases draw with
    | false =>
      refine wp_region ?_
      have := aops_seq hτ hM (Q := fun e a' w' => ∃ x env' H', e = AX.real x ∧ Q x env' H' ∧ Sim w0 ι0 M0 H0 a' w' env' H') (K := Q .normal)
        (fun env H a w hk hs => ⟨.normal, env, H, rfl, hk, hs⟩) ops.toList 0 env H a w rfl h hs
      rw [List.range_eq_range']
      simpa using this
    | true =>
      obtain ⟨hr, h⟩ := h
      exact aops_drawn hτ hM (fun env H a w hk hs => ⟨.normal, env, H, rfl, hk, hs⟩) hr h hs
  | seq x y ihx ihy =>
    intro env H Q h
    refine ⟨fun w0 ι0 M0 H0 a w hn hM hs => ?_⟩
    refine wp_seq (wp_mono ((ihx h).out w0 ι0 M0 H0 a w hn hM hs) ?_)
    rintro e a' w' ⟨x, env', H', rfl, hq, hs'⟩
    cases x with
    | normal => exact (ihy hq).out w0 ι0 M0 H0 a' w' hn hM hs'
    | exit id => exact ⟨_, env', H', rfl, hq, hs'⟩
    | ret => exact ⟨_, env', H', rfl, hq, hs'⟩
  | cond c t e iht ihe =>
    intro env H Q h
    refine ⟨fun w0 ι0 M0 H0 a w hn hM hs => ?_⟩
    have h : (match evalS env c with
      | .c (.t (.atm (.bool b))) => cond b (acode P τ n0 t env H Q) (acode P τ n0 e env H Q)
      | _ => False) := h
    split at h
    · rename_i b hb
      obtain ⟨ι, M, hd, hsz, he, hH, hMB, hF, hst⟩ := hs
      have hv := (he.ev.to hb).inv_atm
      have hs : Sim w0 ι0 M0 H0 a w env H := ⟨ι, M, hd, hsz, he, hH, hMB, hF, hst⟩
      refine wp_cond hv ?_
      cases b with
      | true => exact (iht h).out w0 ι0 M0 H0 a w hn hM hs
      | false => exact (ihe h).out w0 ι0 M0 H0 a w hn hM hs
    · exact h.elim
  | block id c ih =>
    intro env H Q h
    refine ⟨fun w0 ι0 M0 H0 a w hn hM hs => ?_⟩
    refine wp_block (wp_mono ((ih h).out w0 ι0 M0 H0 a w hn hM hs) ?_)
    rintro e a' w' ⟨x, env', H', rfl, hq, hs'⟩
    cases x with
    | normal => exact ⟨_, env', H', rfl, hq, hs'⟩
    | exit j =>
      have hq : cond (Nat.beq j id) (Q .normal env' H') (Q (.exit j) env' H') := hq
      show if j = id then _ else _
      by_cases hj : j = id
      · subst hj
        rw [if_pos rfl]
        simp only [Nat.beq_refl, cond_true] at hq
        exact ⟨_, env', H', rfl, hq, hs'⟩
      · rw [if_neg hj]
        have : Nat.beq j id = false := by
          cases hb : Nat.beq j id with
          | false => rfl
          | true => exact absurd (Nat.eq_of_beq_eq_true hb) hj
        simp only [this, cond_false] at hq
        exact ⟨_, env', H', rfl, hq, hs'⟩
    | ret => exact ⟨_, env', H', rfl, hq, hs'⟩
  | loop c ih => intro env H Q h; exact h
  | exit id => intro env H Q h; refine ⟨fun w0 ι0 M0 H0 a w hn hM hs => ?_⟩; exact wp_exit ⟨.exit id, env, H, rfl, h, hs⟩
  | ret => intro env H Q h; refine ⟨fun w0 ι0 M0 H0 a w hn hM hs => ?_⟩; exact wp_ret ⟨.ret, env, H, rfl, h, hs⟩
  | label l => intro env H Q h; refine ⟨fun w0 ι0 M0 H0 a w hn hM hs => ?_⟩; exact wp_label ⟨.normal, env, H, rfl, h, hs⟩
  | _ => intros; rename_i h; exact False.elim h

/-- the results of a function -/
def ares (τ : Tab) (env : Env) (H : Hp) : List ResultVar → (List S → Prop) → Prop
  | [], k => k []
  | .tmp t :: r, k => forceS (evalS env (.tmp t)) fun s => ares τ env H r fun l => k (s :: l)
  | .cell x t :: r, k => aload τ (evalS env) H t (.tmp x) fun s => ares τ env H r fun l => k (s :: l)
def aresult (τ : Tab) (fn : Func) (env : Env) (H : Hp) (k : S → Prop) : Prop :=
  ares τ env H fn.results.toList fun l => match l with
    | [s] => k s
    | l => k (.tup l)

theorem Sim.init {w : World} {ι : Io} {M : Ms} {H : Hp} {vals : List Value} {args : List S} (hl : vals.length = args.length) (hr : ∀ j s, args[j]? = some s → RS w ι M s (vals.getD j undef))
    (hH : HeapRel w ι M H) (hM : MB w M) (hF : Fresh ι H.length) (n : Nat) :
    Sim w ι M H { tmps := vals.toArray ++ Array.replicate n undef, defers := [] } w (args ++ List.replicate n .junk) H := by
  refine ⟨ι, M, rfl, by simp [hl], fun t s ht => ?_, hH, hM, hF, Step.refl w ι M H⟩
  by_cases h : t < args.length
  · rw [List.getElem?_append_left h] at ht
    have := hr t s ht
    have hlt : t < vals.length := by omega
    rw [List.getD_eq_getElem?_getD, List.getElem?_eq_getElem hlt] at this
    rw [Array.getD_eq_getD_getElem?, Array.getElem?_append_left (by simpa using hlt)]
    simpa [hlt] using this
  · rw [List.getElem?_append_right (by omega), List.getElem?_replicate] at ht
    split at ht
    · injection ht with ht; subst ht; exact .junk
    · cases ht

theorem ares_run {P : Program} {τ : Tab} (hτ : TabOK P τ) {w : World} {ι : Io} {M : Ms} {env : Env} {H : Hp} {a : Act} (he : EnvRel w ι M env a) (hH : HeapRel w ι M H) : ∀ (rs : List ResultVar) {k : List S → Prop}, ares τ env H rs k →
    ∃ l, k l ∧ ∃ vs : List Value, (rs.mapM fun | .tmp t => pure (a.tmps.getD t undef) | .cell x t => do loadVar t (← asAddr (a.tmps.getD x undef)) : Sem (List Value)).run P w = .ok vs w ∧ vs.length = l.length ∧
      ∀ (j : Nat) (s : S), l[j]? = some s → RS w ι M s (vs.getD j undef)
  | [], k, h => ⟨[], h, [], by simp, rfl, by simp⟩
  | .tmp t :: r, k, h => by
    simp only [ares] at h
    rw [forceS_iff] at h
    obtain ⟨l, hk, vs, h1, h2, h3⟩ := ares_run hτ he hH r h
    refine ⟨_, hk, a.tmps.getD t undef :: vs, ?_, by simp [h2], fun j s hj => ?_⟩
    · simp only [List.mapM_cons, Sem.run_bind, Sem.run_pure, Result.andThen_ok, h1]
    · cases j with
      | zero => simp at hj; subst hj; exact he.ev (.tmp t)
      | succ j => simpa using h3 j s (by simpa using hj)
  | .cell x t :: r, k, h => by
    simp only [ares] at h
    obtain ⟨s, hs, hv⟩ := aload_val hτ h
    obtain ⟨v, ad, g0, g1, g2⟩ := hv a w ι M he.ev hH
    obtain ⟨l, hk, vs, h1, h2, h3⟩ := ares_run hτ he hH r hs
    have g0' : a.tmps.getD x undef = .pointer (some ad) := g0
    have e : (do loadVar t (← asAddr (a.tmps.getD x undef)) : Sem Value).run P w = .ok v w := by
      rw [g0] at g1
      rw [g0']
      simpa [asAddr, Instr.loadAt, Instr.sureAddr] using g1
    refine ⟨_, hk, v :: vs, ?_, by simp [h2], fun j s hj => ?_⟩
    · simp only [List.mapM_cons, Sem.run_bind, Sem.run_pure, Result.andThen_ok] at e ⊢
      rw [e]
      simp only [Result.andThen_ok, h1]
    · cases j with
      | zero => simp at hj; subst hj; exact g2
      | succ j => simpa using h3 j s (by simpa using hj)

end Go.Proofs.YtfieodjihaodiaaGreat
/- A table of types out of a program, checked by computation. -/
namespace Go.Proofs.YtfieodjihaodiaaGreat
open Go.RowKit
set_option linter.unusedVariables false

def undK (P : Program) (t : TypeId) : Option TK :=
  match P.underlying t with
  | some .bool => some .bool
  | some (.int k) => some (.int k)
  | some (.slice e) => some (.slice e)
  | some (.array n e) => some (.arr n e)
  | some (.struct fs) => cond (fs.toList.all fun f => (P.info? f.type).isSome) (some (.struct (fs.toList.map fun f => (f.offset, P.cellsOf f.type, false)))) none
  | some _ => some .bas
  | none => none
def aggK : TK → Bool
  | .arr _ _ => true
  | .struct _ => true
  | _ => false

theorem places_of {P : Program} : ∀ (fs : List Field), (fs.all fun f => (P.info? f.type).isSome) = true →
    fs.mapM (fun f => (P.info? f.type).map fun i => (f.offset, i.size)) = some ((fs.map fun f => (f.offset, P.cellsOf f.type, false)).map (fun x => (x.1, x.2.1)))
  | [], _ => rfl
  | f :: fs, h => by
    simp only [List.all_cons, Bool.and_eq_true] at h
    obtain ⟨i, hi⟩ := Option.isSome_iff_exists.1 h.1
    have ih := places_of fs h.2
    have hc : P.cellsOf f.type = i.size := by simp [Program.cellsOf, hi]
    simp only [List.mapM_cons, hi, ih, List.map_cons, hc, Option.map_some]
    rfl

theorem td_of {P : Program} {t : TypeId} {d : TD} (h1 : undK P t = some d.k) (h2 : d.agg = aggK d.k)
    (h3 : (P.info? t).map (fun i => (i.zero.map (·.cells.toList), i.size, i.bytes)) = some (some d.zero, d.size, d.bytes)) (h4 : d.zero.all (·.oneCell') = true) (h5 : d.zero.length = d.size) : TDok P t d := by
  constructor
  · cases hi : P.info? t with
    | none => rw [hi] at h3; cases h3
    | some i =>
      rw [hi] at h3
      simp only [Option.map_some, Option.some.injEq, Prod.mk.injEq] at h3
      cases hz : i.zero with
      | none => rw [hz] at h3; cases h3.1
      | some z =>
        rw [hz] at h3
        simp only [Option.map_some, Option.some.injEq] at h3
        exact ⟨i, rfl, h3.2.1, h3.2.2, z, hz, h3.1, fun v hv => List.all_eq_true.1 h4 v hv, h5⟩
  · unfold undK at h1
    cases hu : P.underlying t with
    | none => rw [hu] at h1; cases h1
    | some u =>
      rw [hu] at h1
      refine ⟨u, rfl, ?_⟩
      rw [h2]
      cases u with
      | struct fs =>
        simp only at h1
        cases hb : (fs.toList.all fun f => (P.info? f.type).isSome) with
        | false => rw [hb] at h1; cases h1
        | true =>
          rw [hb] at h1
          simp only [cond_true, Option.some.injEq] at h1
          rw [← h1]
          refine ⟨rfl, fs, rfl, ?_, fun f hf => List.all_eq_true.1 hb f hf, places_of _ hb⟩
          simp
      | _ => simp only [Option.some.injEq] at h1 <;> rw [← h1] <;> exact ⟨rfl, by first | trivial | rfl⟩

def TRows (P : Program) : Nat → List (Option TD) → Prop
  | _, [] => True
  | t, none :: r => TRows P (t + 1) r
  | t, some d :: r => TDok P t d ∧ TRows P (t + 1) r
theorem trows_get {P : Program} : ∀ (l : List (Option TD)) (t0 : Nat), TRows P t0 l → ∀ i d, l.getD i none = some d → TDok P (t0 + i) d
  | [], _, _, i, d, h => by simp at h
  | none :: r, t0, hr, i, d, h => by
    cases i with
    | zero => simp at h
    | succ i => have := trows_get r (t0 + 1) hr i d (by simpa using h); rwa [show t0 + 1 + i = t0 + (i + 1) by omega] at this
  | some e :: r, t0, hr, i, d, h => by
    cases i with
    | zero => simp at h; subst h; exact hr.1
    | succ i => have := trows_get r (t0 + 1) hr.2 i d (by simpa using h); rwa [show t0 + 1 + i = t0 + (i + 1) by omega] at this
theorem tabok_of {P : Program} {l : List (Option TD)} (hm : P.follows .mixedOrders = true) (h : TRows P 0 l) : TabOK P (fun t => l.getD t none) := ⟨hm, fun t d hd => by
  have := trows_get l 0 h t d hd
  rwa [Nat.zero_add] at this⟩
end Go.Proofs.YtfieodjihaodiaaGreat
/- Blocks of one's own that are written no more are data. -/
namespace Go.Proofs.YtfieodjihaodiaaGreat
open Go.RowKit
set_option linter.unusedVariables false
set_option linter.unusedSimpArgs false

/-- the capacity forgotten -/
def weakTo : T → T → T
  | .sl s .any _, .sl s0 k r => match k with
    | .nil => .sl s .any []
    | _ => .sl s0 .any r
  | _, x => x
theorem RT.weak {w : World} {M : Ms} {x y : T} {v : Value} (h : weakTo y x = y) (hr : RT w M x v) : RT w M y v := by
  unfold weakTo at h
  split at h
  · split at h
    · rw [← h]
      cases hr with
      | sl f hrow hcap hmax hk hn hA hc hr =>
        obtain ⟨rfl, rfl, rfl⟩ := hn rfl
        exact .sl (b := 0) (off := 0) (fun _ _ => undef) (by simp) hcap hmax (by intro h; cases h) (by intro h; cases h) (by simp) (by simp [at2]) (by simp [at2])
    · rw [← h]
      cases hr with
      | sl f hrow hcap hmax hk hn hA hc hr => exact .sl f hrow hcap hmax (by intro h; cases h) (by intro h; cases h) hA hc hr
  · rw [← h]; exact hr
theorem weak_refl (x : T) : weakTo x x = x := by
  cases x with
  | sl s k r => cases k <;> rfl
  | _ => rfl
theorem weak_eq {x y : T} (h : x = y) : weakTo y x = y := by subst h; exact weak_refl x

mutual
def VC (H : Hp) (p : Nat → Prop) : C → T → Prop
  | .t x, y => weakTo y x = y
  | .ptr id r o, y => match y with
    | .ptr cells => p id ∧ ∃ k row, H[id]? = some k ∧ ¬ k.mode.gone ∧ k.rows[r]? = some row ∧ row.drop o = cells.map C.t
    | _ => False
  | .own id lo len _, y => match y with
    | .sl size .any rows => p id ∧ ∃ k, H[id]? = some k ∧ ¬ k.mode.gone ∧ k.size = size ∧ lo + len ≤ k.rows.length ∧ (k.rows.drop lo).take len = toC rows
    | _ => False
  | .fn f caps, y => match y with
    | .fn f' caps' => f = f' ∧ VL H p caps caps'
    | _ => False
def VL (H : Hp) (p : Nat → Prop) : List C → List T → Prop
  | [], ys => ys = []
  | x :: r, ys => match ys with
    | [] => False
    | y :: r' => VC H p x y ∧ VL H p r r'
end

theorem toC_at {rows : List (List T)} {i j : Nat} {c : T} (h : at2 rows i j = some c) : at2 (toC rows) i j = some (.t c) := by
  obtain ⟨row, h1, h2⟩ := at2_inv h
  exact at2_some (row := row.map C.t) (by simp [toC, h1]) (by simp [h2])

mutual
theorem VC.rt {H : Hp} {p : Nat → Prop} {w : World} {ι : Io} {M M' : Ms} (hH : HeapRel w ι M H) (hM : ∀ b, M' b → M b) (hp : ∀ id k b cap size, p id → H[id]? = some k → ¬ k.mode.gone → ι id = some (.blk b cap size) → ¬ M' b) :
    ∀ (x : C) (y : T) (v : Value), VC H p x y → RC w ι M x v → RT w M' y v
  | .t x, y, v, h, hr => by
    have h : weakTo y x = y := by simpa only [VC] using h
    cases hr with
    | t hr => exact (hr.weak h).keep (fun _ _ _ => rfl) (fun b hb => .inl (hM b hb))
  | .ptr id r o, y, v, h, hr => by
    cases y with
    | ptr cells =>
      simp only [VC] at h
      obtain ⟨hpi, k, row, hk, hd, hrow, hc⟩ := h
      cases hr with
      | @ptr _ _ _ b cap size hi =>
        have hb := (hH.blk id k hk (fun e => hd (by rw [e]; trivial)) _ hi).row hrow
        have hnm := hp id k b cap size hpi hk hd hi
        have hat : ∀ (j : Nat) (c : T), cells[j]? = some c → row[o + j]? = some (.t c) := fun j c hj => by
          have : (row.drop o)[j]? = some (.t c) := by rw [hc, List.getElem?_map, hj]; rfl
          rwa [List.getElem?_drop] at this
        refine .ptr (fun j => (w.cell? ⟨b, r * size + o + j, none⟩).getD undef) (fun j c hj => ?_) (fun j c hj => ?_)
        · obtain ⟨u, h1, h2⟩ := hb _ _ (hat j c hj)
          rw [Nat.add_assoc, h1]
          exact ⟨rfl, hnm⟩
        · obtain ⟨u, h1, h2⟩ := hb _ _ (hat j c hj)
          rw [Nat.add_assoc, h1]
          cases h2 with
          | t h2 => exact h2.keep (fun _ _ _ => rfl) (fun b hb => .inl (hM b hb))
    | _ => simp only [VC] at h
  | .own id lo len app, y, v, h, hr => by
    cases y with
    | sl size sk rows =>
      cases sk with
      | any =>
        simp only [VC] at h
        obtain ⟨hpi, k, hk, hd, hsz, hl, hc⟩ := h
        have hlen : rows.length = len := by
          have := congrArg List.length hc
          simp [toC] at this
          omega
        cases hr with
        | @own _ _ _ _ b cap sz A cap' hi q1 q2 q3 q4 q5 =>
          have hbr := hH.blk id k hk (fun e => hd (by rw [e]; trivial)) _ hi
          obtain ⟨r1, r2, r3, r4, r5, cur, r6, r7, r8⟩ := hbr
          have hnm := hp id k b cap sz hpi hk hd hi
          have hse : sz = size := by rw [← hsz, r1]
          subst hse
          have hat : ∀ (i j : Nat) (c : T), at2 rows i j = some c → ∃ u, cur[(lo + i) * sz + j]? = some u ∧ RT w M' c u := fun i j c hij => by
            have h1 := toC_at hij
            rw [← hc] at h1
            obtain ⟨row, s1, s2⟩ := at2_inv h1
            rw [List.getElem?_take] at s1
            split at s1
            · rw [List.getElem?_drop] at s1
              obtain ⟨u, t1, t2⟩ := r8 _ _ _ (at2_some s1 s2)
              refine ⟨u, t1, ?_⟩
              cases t2 with
              | t t2 => exact t2.keep (fun _ _ _ => rfl) (fun b hb => .inl (hM b hb))
            · cases s1
          subst hlen
          refine .sl (b := b) (off := lo * sz) (fun i j => cur.getD ((lo + i) * sz + j) undef) ?_ q3 q4 (by intro h; cases h) (by intro h; cases h) (fun hne => q2 (List.length_pos_iff.2 hne)) ?_ ?_
          · intro r hr'
            have : r.map C.t ∈ toC rows := List.mem_map.2 ⟨r, hr', rfl⟩
            rw [← hc] at this
            have := r5 _ (List.mem_of_mem_drop (List.mem_of_mem_take this))
            simpa using this
          · intro i j c hij
            obtain ⟨u, t1, t2⟩ := hat i j c hij
            refine ⟨?_, hnm⟩
            rw [show lo * sz + (i * sz + j) = (lo + i) * sz + j by rw [Nat.add_mul]; omega]
            simp [World.cell?, r6, t1]
          · intro i j c hij
            obtain ⟨u, t1, t2⟩ := hat i j c hij
            have : cur.getD ((lo + i) * sz + j) undef = u := by simp [t1]
            show RT w M' c (cur.getD ((lo + i) * sz + j) undef)
            rw [this]; exact t2
        | nil hi =>
          have hr0 : rows = [] := List.eq_nil_of_length_eq_zero hlen
          subst hr0
          exact .sl (b := 0) (off := 0) (fun _ _ => undef) (by simp) (by simp) (by unfold maxLen; omega) (by simp) (by simp) (by simp) (by simp [at2]) (by simp [at2])
      | _ => simp only [VC] at h
    | _ => simp only [VC] at h
  | .fn f caps, y, v, h, hr => by
    cases y with
    | fn f' caps' =>
      simp only [VC] at h
      obtain ⟨rfl, h⟩ := h
      cases hr with
      | fn vs hl hr =>
        obtain ⟨h1, h2⟩ := VL.rt hH hM hp caps caps' h
        exact .fn vs (by omega) fun j c hj => by
          have hlt := (List.getElem?_eq_some_iff.1 hj).1
          exact h2 j _ c _ (List.getElem?_eq_getElem (by omega)) hj (hr j _ (List.getElem?_eq_getElem (by omega)))
    | _ => simp only [VC] at h
theorem VL.rt {H : Hp} {p : Nat → Prop} {w : World} {ι : Io} {M M' : Ms} (hH : HeapRel w ι M H) (hM : ∀ b, M' b → M b) (hp : ∀ id k b cap size, p id → H[id]? = some k → ¬ k.mode.gone → ι id = some (.blk b cap size) → ¬ M' b) :
    ∀ (xs : List C) (ys : List T), VL H p xs ys → xs.length = ys.length ∧ ∀ (j : Nat) (x : C) (y : T) (v : Value), xs[j]? = some x → ys[j]? = some y → RC w ι M x v → RT w M' y v
  | [], ys, h => by
    simp only [VL] at h
    subst h
    exact ⟨rfl, by simp⟩
  | x :: r, ys, h => by
    cases ys with
    | nil => simp only [VL] at h
    | cons y r' =>
      simp only [VL] at h
      obtain ⟨h1, h2⟩ := VL.rt hH hM hp r r' h.2
      refine ⟨by simp [h1], fun j x' y' v hx hy hr => ?_⟩
      cases j with
      | zero => simp at hx hy; subst hx hy; exact VC.rt hH hM hp x y v h.1 hr
      | succ j => exact h2 j x' y' v (by simpa using hx) (by simpa using hy) hr
end

theorem vc_t {H : Hp} {p : Nat → Prop} {x y : T} (h : weakTo y x = y) : VC H p (.t x) y := by simpa only [VC] using h
theorem vc_own {H : Hp} {p : Nat → Prop} {id lo len : Nat} {app : Bool} {size : Nat} {k : Blk} {rows : List (List T)} (hp : p id) (hk : H[id]? = some k) (hd : ¬ k.mode.gone) (hs : k.size = size) (hl : lo + len ≤ k.rows.length) (hc : (k.rows.drop lo).take len = toC rows) : VC H p (.own id lo len app) (.sl size .any rows) := by
  simp only [VC]; exact ⟨hp, k, hk, hd, hs, hl, hc⟩
theorem vc_all {H : Hp} {p : Nat → Prop} {id len : Nat} {app : Bool} {size : Nat} {k : Blk} {rows : List (List T)} (hp : p id) (hk : H[id]? = some k) (hd : ¬ k.mode.gone) (hs : k.size = size) (hc : k.rows = toC rows) (hl : len = rows.length) : VC H p (.own id 0 len app) (.sl size .any rows) :=
  vc_own hp hk hd hs (by rw [hc, hl]; simp [toC]) (by rw [hc, hl, List.drop_zero, List.take_of_length_le (by simp [toC])])
theorem vl_nil {H : Hp} {p : Nat → Prop} : VL H p [] [] := by simp only [VL]
theorem vl_cons {H : Hp} {p : Nat → Prop} {x : C} {y : T} {xs : List C} {ys : List T} (h : VC H p x y) (hs : VL H p xs ys) : VL H p (x :: xs) (y :: ys) := by simp only [VL]; exact ⟨h, hs⟩
/-- what a slot holds, taken for data -/
def VS (H : Hp) (p : Nat → Prop) : S → S → Prop
  | _, .junk => True
  | .c x, .c (.t y) => VC H p x y
  | .agg xs, .agg ys => ∃ ts, ys = ts.map C.t ∧ VL H p xs ts
  | _, _ => False
theorem vs_c {H : Hp} {p : Nat → Prop} {x : C} {y : T} (h : VC H p x y) : VS H p (.c x) (.c (.t y)) := h
theorem vs_agg {H : Hp} {p : Nat → Prop} {xs : List C} {ts : List T} (h : VL H p xs ts) : VS H p (.agg xs) (.agg (ts.map C.t)) := ⟨ts, rfl, h⟩
theorem VS.rs {H : Hp} {p : Nat → Prop} {w : World} {ι ι' : Io} {M M' : Ms} (hH : HeapRel w ι M H) (hM : ∀ b, M' b → M b) (hp : ∀ id k b cap size, p id → H[id]? = some k → ¬ k.mode.gone → ι id = some (.blk b cap size) → ¬ M' b)
    {x y : S} {v : Value} (h : VS H p x y) (hr : RS w ι M x v) : RS w ι' M' y v := by
  unfold VS at h
  split at h
  · exact .junk
  · cases hr with
    | c hr => exact .c (.t (VC.rt hH hM hp _ _ _ h hr))
  · obtain ⟨ts, rfl, h⟩ := h
    cases hr with
    | agg vs hl hr =>
      obtain ⟨h1, h2⟩ := VL.rt hH hM hp _ _ h
      refine .agg vs (by simp; omega) fun j c hj => ?_
      rw [List.getElem?_map] at hj
      cases hj' : ts[j]? with
      | none => rw [hj'] at hj; cases hj
      | some c' =>
        rw [hj'] at hj
        injection hj with hj
        subst hj
        have hlt := (List.getElem?_eq_some_iff.1 hj').1
        exact .t (h2 j _ c' _ (List.getElem?_eq_getElem (by omega)) hj' (hr j _ (List.getElem?_eq_getElem (by omega))))
  · exact h.elim
def VArgs (H : Hp) (p : Nat → Prop) : List S → List S → Prop
  | [], [] => True
  | x :: r, y :: r' => VS H p x y ∧ VArgs H p r r'
  | _, _ => False
theorem VArgs.get {H : Hp} {p : Nat → Prop} : ∀ {xs ys : List S}, VArgs H p xs ys → xs.length = ys.length ∧ ∀ (j : Nat) (y : S), ys[j]? = some y → ∃ x, xs[j]? = some x ∧ VS H p x y
  | [], [], _ => ⟨rfl, by simp⟩
  | x :: r, y :: r', h => by
    obtain ⟨h1, h2⟩ := VArgs.get h.2
    refine ⟨by simp [h1], fun j y' hj => ?_⟩
    cases j with
    | zero => simp at hj; subst hj; exact ⟨x, rfl, h.1⟩
    | succ j => simpa using h2 j y' (by simpa using hj)
  | [], _ :: _, h => h.elim
  | _ :: _, [], h => h.elim
end Go.Proofs.YtfieodjihaodiaaGreat
/- Rules for the abstract machine: calls, loops, weakening, numbers. -/
namespace Go.Proofs.YtfieodjihaodiaaGreat
open Go.RowKit
set_option linter.unusedVariables false
set_option linter.unusedSimpArgs false

def C.isT : C → Bool
  | .t _ => true
  | _ => false
def S.isT : S → Bool
  | .junk => true
  | .c x => x.isT
  | .agg cs => cs.all C.isT
  | .tup ss => ss.all fun s => match s with
    | .c x => x.isT
    | .agg cs => cs.all C.isT
    | .junk => true
    | .tup _ => false

theorem RC.tree {w : World} {ι ι' : Io} {M : Ms} {x : C} {v : Value} (h : x.isT = true) (hr : RC w ι M x v) : RC w ι' M x v := by
  cases hr <;> first | exact .t ‹_› | cases h
theorem RS.tree1 {w : World} {ι ι' : Io} {M : Ms} {s : S} {v : Value} (h : (match s with | .c x => x.isT | .agg cs => cs.all C.isT | .junk => true | .tup _ => false) = true) (hr : RS w ι M s v) : RS w ι' M s v := by
  cases hr with
  | junk => exact .junk
  | c hr => exact .c (hr.tree h)
  | agg vs hl hr => exact .agg vs hl fun j c hj => (hr j c hj).tree (List.all_eq_true.1 h c (List.mem_of_getElem? hj))
  | tup vs hl hr => cases h
theorem RS.tree {w : World} {ι ι' : Io} {M : Ms} {s : S} {v : Value} (h : s.isT = true) (hr : RS w ι M s v) : RS w ι' M s v := by
  cases hr with
  | junk => exact .junk
  | c hr => exact .c (hr.tree h)
  | agg vs hl hr => exact .agg vs hl fun j c hj => (hr j c hj).tree (List.all_eq_true.1 h c (List.mem_of_getElem? hj))
  | tup vs hl hr => exact .tup vs hl fun j s hj => (hr j s hj).tree1 (List.all_eq_true.1 h s (List.mem_of_getElem? hj))

/-- a call of a function at data alone -/
theorem qcall_pure {P : Program} {g : FuncId} {args : List S} {H : Hp} {r : S} (h : ACall P g args [] r []) (ha : args.all S.isT = true) (hr : r.isT = true) : QCall P g args H r [] := by
  refine ⟨h.1, fun w ι M vals hl hv hH hM hf => ?_⟩
  have := h.2 w (fun _ => none) M vals hl (fun j s hj => (hv j s hj).tree (List.all_eq_true.1 ha s (List.mem_of_getElem? hj)))
    ⟨by simp, by simp, by simp, by simp, by simp⟩ hM (fun _ _ => rfl)
  refine Calls.mono this ?_
  rintro e w' ⟨v, rfl, ι', M', h1, h2, h3, h4, h5⟩
  refine ⟨v, rfl, QPost.of_none ?_ ?_⟩
  · refine RS.keep (ι := ι) (M := M') (fun _ _ _ => rfl) (fun b hb => ?_) (fun _ _ h => h) (h1.tree hr)
    rcases h5.mold b hb with h | ⟨id, k, _, _, hk, _⟩
    · exact .inl h
    · simp at hk
  · exact ⟨h5.os, h5.tape, h5.output, h5.size, fun b hb => h5.keep b hb (by rintro ⟨id, k, _, _, hk, _⟩; simp at hk)⟩

theorem BoolB.mono {b : Bool} {k k' : S → Prop} (h : BoolB b k) (hk : ∀ s, k s → k' s) : BoolB b k' := ⟨fun e => hk _ (h.yes e), fun e => hk _ (h.no e)⟩
theorem Awp.mono {P : Program} {n0 : Nat} {c : Code} {env : Env} {H : Hp} {Q Q' : AX → Env → Hp → Prop} (h : Awp P n0 c env H Q) (hq : ∀ a env H, Q a env H → Q' a env H) : Awp P n0 c env H Q' :=
  ⟨fun w0 ι0 M0 H0 a w hn hM hs => wp_mono (h.out w0 ι0 M0 H0 a w hn hM hs) (by rintro e a' w' ⟨x, env', H', h1, h2, h3⟩; exact ⟨x, env', H', h1, hq _ _ _ h2, h3⟩)⟩

theorem wrap_ok {x : Int} (h1 : -9223372036854775808 ≤ x) (h2 : x ≤ 9223372036854775807) : IsWrap .i64 x x := by
  unfold IsWrap
  exact (IntWalk.i64_in x ⟨h1, by omega⟩).symm

/-- weakening: slots forgotten, blocks renamed or dropped, a nil slice taken for an empty one of one's own, and what lies in dropped blocks taken for data -/
def notIn : List (Option Nat) → Nat → Bool
  | [], _ => true
  | some m :: r, n => !(Nat.beq m n) && notIn r n
  | none :: r, n => notIn r n
/-- what a closure captured -/
def EntP (ρ : List (Option Nat)) (x y : C) : Prop :=
  match y with
  | .t y => match x with
    | .t x => x = y
    | _ => False
  | .ptr id' r' o' => match x with
    | .ptr id r o => ρ[id']? = some (some id) ∧ r = r' ∧ o = o'
    | _ => False
  | _ => False
def EntPs (ρ : List (Option Nat)) : List C → List C → Prop
  | [], [] => True
  | x :: r, y :: r' => EntP ρ x y ∧ EntPs ρ r r'
  | _, _ => False
def EntC (ρ : List (Option Nat)) (H : Hp) (x y : C) : Prop :=
  match y with
  | .t y => match x with
    | .t x => weakTo y x = y
    | x => VC H (fun id => notIn ρ id = true) x y
  | .own id' lo' len' app' => match x with
    | .t (.sl _ .nil _) => ρ[id']? = some none ∧ lo' = 0 ∧ len' = 0
    | .t (.sl _ .full []) => ρ[id']? = some none ∧ lo' = 0 ∧ len' = 0
    | .own id lo len app => ρ[id']? = some (some id) ∧ lo = lo' ∧ len = len' ∧ (app' = true → app = true)
    | _ => False
  | .ptr id' r' o' => match x with
    | .ptr id r o => ρ[id']? = some (some id) ∧ r = r' ∧ o = o'
    | _ => False
  | .fn f' caps' => match x with
    | .fn f caps => f = f' ∧ EntPs ρ caps caps'
    | _ => False
def EntL (ρ : List (Option Nat)) (H : Hp) : List C → List C → Prop
  | [], [] => True
  | x :: r, y :: r' => EntC ρ H x y ∧ EntL ρ H r r'
  | _, _ => False
def EntS (ρ : List (Option Nat)) (H : Hp) (s : S) (s' : S) : Prop :=
  match s' with
  | .junk => True
  | .c y => match s with
    | .c x => EntC ρ H x y
    | _ => False
  | .agg cs' => match s with
    | .agg cs => EntL ρ H cs cs'
    | _ => False
  | .tup _ => False
def EntE (ρ : List (Option Nat)) (H : Hp) : Env → Env → Prop
  | [], [] => True
  | s :: r, s' :: r' => match s' with
    | .junk => EntE ρ H r r'
    | s' => EntS ρ H s s' ∧ EntE ρ H r r'
  | _, _ => False
def rowsT (rows : List (List C)) : Prop := ∀ r ∈ rows, ∀ c ∈ r, c.isT = true
def EntR (ρ : List (Option Nat)) (H : Hp) : List (List C) → List (List C) → Prop
  | [], [] => True
  | x :: r, y :: r' => EntL ρ H x y ∧ EntR ρ H r r'
  | _, _ => False
/-- the same mode; a block may be taken for one that only grows, and the first part of one that only grows for itself -/
def leMode (k k' : Blk) : Bool := match k.mode, k'.mode with
  | .live, .live => cond k.app k'.app true
  | .live, .old => k.app
  | .froz, .froz => true
  | .old, .old => true
  | .dead, .dead => true
  | _, _ => false
theorem leMode_iff {k k' : Blk} (h : leMode k k' = true) : (k'.mode ≠ .dead → k.mode ≠ .dead) ∧ (k'.mode = .live → k.mode = .live ∧ (k.app = true → k'.app = true)) ∧ (k'.mode = .froz → k.mode = .froz) ∧
    (k'.mode = .old → k.mode = .old ∨ (k.mode = .live ∧ k.app = true)) := by
  unfold leMode at h
  cases h1 : k.mode <;> cases h2 : k'.mode <;> rw [h1, h2] at h <;> simp at h ⊢
  · intro ha; rw [ha] at h; simpa using h
  · exact h
def EntB (ρ : List (Option Nat)) (H : Hp) (k k' : Blk) : Prop :=
  leMode k k' = true ∧ k.elem = k'.elem ∧ k.size = k'.size ∧ ((k.rows = k'.rows ∧ rowsT k.rows) ∨ EntR ρ H k.rows k'.rows)
def EntH (ρ : List (Option Nat)) (H : Hp) : List (Option Nat) → Hp → Prop
  | [], [] => True
  | x :: r, k' :: r' => (match x with
    | none => k'.rows = [] ∧ k'.mode = .live
    | some id => match H[id]? with
      | some k => EntB ρ H k k'
      | none => False) ∧ EntH ρ H r r'
  | _, _ => False
def sameL : Nat → List (Option Nat) → Hp → Bool
  | n, x :: r, k :: H => (match x, k.mode with
    | _, .old => false
    | some m, _ => Nat.beq m n
    | none, _ => false) || sameL n r H
  | _, _, _ => false
/-- no two that may be written stem from one -/
def nodupH : List (Option Nat) → Hp → Bool
  | none :: r, _ :: H => nodupH r H
  | some n :: r, k :: H => (match k.mode with
    | .old => true
    | _ => !(sameL n r H)) && nodupH r H
  | _, _ => true
def keepsB (ρ : List (Option Nat)) : Nat → Bool
  | 0 => true
  | n + 1 => (match ρ[n]? with | some (some m) => Nat.beq m n | _ => false) && keepsB ρ n
def Ent (n0 : Nat) (ρ : List (Option Nat)) (env : Env) (H : Hp) (env' : Env) (H' : Hp) : Prop :=
  keepsB ρ n0 = true ∧ nodupH ρ H' = true ∧ EntH ρ H ρ H' ∧ EntE ρ H env env'

/-- the places under a renaming -/
def renIo (ρ : List (Option Nat)) (ι : Io) : Io := fun id => match ρ[id]? with
  | some (some j) => ι j
  | some none => some .nil
  | none => none
/-- what may still be written when blocks are dropped -/
def renMs (ρ : List (Option Nat)) (H : Hp) (ι : Io) (M : Ms) : Ms := fun b => M b ∧ ¬ ∃ id k cap size, notIn ρ id = true ∧ H[id]? = some k ∧ ¬ k.mode.gone ∧ ι id = some (.blk b cap size)

theorem notIn_get : ∀ {ρ : List (Option Nat)} {i n : Nat}, ρ[i]? = some (some n) → notIn ρ n = true → False
  | [], i, n, h, _ => by simp at h
  | x :: r, i, n, h, hn => by
    have hr : notIn r n = true := by cases x <;> simp [notIn] at hn <;> first | exact hn | exact hn.2
    cases i with
    | zero =>
      simp at h
      subst h
      simp [notIn] at hn
    | succ i => exact notIn_get (by simpa using h) hr

theorem RC.sub {w : World} {ι : Io} {M M' : Ms} (hM : ∀ b, M' b → M b) {x : C} {v : Value} (h : RC w ι M x v) : RC w ι M' x v := h.keep (fun _ _ _ => rfl) (fun b hb => .inl (hM b hb)) (fun _ _ h => h)

theorem EntP.rc {w : World} {ι : Io} {M : Ms} {ρ : List (Option Nat)} {H : Hp} {x y : C} {v : Value} (h : EntP ρ x y) (hr : RC w ι M x v) : RC w (renIo ρ ι) (renMs ρ H ι M) y v := by
  cases y with
  | t y =>
    cases x with
    | t x =>
      have h : x = y := h
      subst h
      cases hr with
      | t hr => exact .t (hr.keep (fun _ _ _ => rfl) fun b hb => .inl hb.1)
    | _ => exact False.elim h
  | ptr id' r' o' =>
    cases x with
    | ptr id r o =>
      obtain ⟨h1, rfl, rfl⟩ := h
      cases hr with
      | ptr hi => exact .ptr (by unfold renIo; rw [h1]; exact hi)
    | _ => exact False.elim h
  | own _ _ _ _ => exact False.elim h
  | fn _ _ => exact False.elim h
theorem EntPs.get {ρ : List (Option Nat)} : ∀ {xs ys : List C}, EntPs ρ xs ys → xs.length = ys.length ∧ ∀ (j : Nat) (x y : C), xs[j]? = some x → ys[j]? = some y → EntP ρ x y
  | [], [], _ => ⟨rfl, by simp⟩
  | x :: xs, y :: ys, h => by
    obtain ⟨h1, h2⟩ := EntPs.get h.2
    refine ⟨by simp [h1], fun j x' y' hx hy => ?_⟩
    cases j with
    | zero => simp at hx hy; subst hx hy; exact h.1
    | succ j => exact h2 j x' y' (by simpa using hx) (by simpa using hy)
  | [], _ :: _, h => h.elim
  | _ :: _, [], h => h.elim
theorem EntC.rc {w : World} {ι : Io} {M : Ms} {ρ : List (Option Nat)} {H : Hp} (hH : HeapRel w ι M H) {x y : C} {v : Value} (h : EntC ρ H x y) (hr : RC w ι M x v) : RC w (renIo ρ ι) (renMs ρ H ι M) y v := by
  cases y with
  | t y =>
    have h : VC H (fun id => notIn ρ id = true) x y := by cases x <;> first | exact h | (simp only [VC]; exact h)
    refine .t (VC.rt hH (fun b hb => hb.1) ?_ x y v h hr)
    intro id k b cap size hp hk hd hi hb
    exact hb.2 ⟨id, k, cap, size, hp, hk, hd, hi⟩
  | own id' lo' len' app' =>
    cases x with
    | t x =>
      cases x with
      | sl size k rows =>
        cases k with
        | nil =>
          obtain ⟨h1, rfl, rfl⟩ := h
          cases hr with
          | t hr => cases hr with
            | sl f hrow hcap hmax hk hn hA hc hr =>
              obtain ⟨rfl, rfl, rfl⟩ := hn rfl
              exact .nil (by unfold renIo; rw [h1])
        | full =>
          cases rows with
          | nil =>
            obtain ⟨h1, rfl, rfl⟩ := h
            cases hr with
            | t hr => cases hr with
              | sl f hrow hcap hmax hk hn hA hc hr =>
                obtain rfl := hk rfl
                exact .nil (by unfold renIo; rw [h1])
          | cons _ _ => exact False.elim h
        | any => exact False.elim h
        | nul => exact False.elim h
        | non => exact False.elim h
      | _ => exact False.elim h
    | own id lo len app =>
      obtain ⟨h1, rfl, rfl, happ⟩ := h
      cases hr with
      | own hi q1 q2 q3 q4 q5 => exact .own (by unfold renIo; rw [h1]; exact hi) q1 q2 q3 q4 (fun h => q5 (happ h))
      | nil hi => exact .nil (by unfold renIo; rw [h1]; exact hi)
    | _ => exact False.elim h
  | ptr id' r' o' =>
    cases x with
    | ptr id r o =>
      obtain ⟨h1, rfl, rfl⟩ := h
      cases hr with
      | ptr hi => exact .ptr (by unfold renIo; rw [h1]; exact hi)
    | _ => exact False.elim h
  | fn f' caps' =>
    cases x with
    | fn f caps =>
      obtain ⟨rfl, h⟩ := h
      obtain ⟨h1, h2⟩ := EntPs.get h
      cases hr with
      | fn vs hl hr =>
        refine .fn vs (by omega) fun j c hj => ?_
        have hlt := (List.getElem?_eq_some_iff.1 hj).1
        exact (h2 j _ c (List.getElem?_eq_getElem (by omega)) hj).rc (hr j _ (List.getElem?_eq_getElem (by omega)))
    | _ => exact False.elim h

section
variable {w : World} {ι : Io} {M : Ms} {ρ : List (Option Nat)} {H : Hp} (hH : HeapRel w ι M H)
include hH
theorem EntL.rc : ∀ {xs ys : List C}, EntL ρ H xs ys → xs.length = ys.length ∧ ∀ (j : Nat) (x y : C) (v : Value), xs[j]? = some x → ys[j]? = some y → RC w ι M x v → RC w (renIo ρ ι) (renMs ρ H ι M) y v
  | [], [], _ => ⟨rfl, by simp⟩
  | x :: xs, y :: ys, h => by
    obtain ⟨h1, h2⟩ := EntL.rc h.2
    refine ⟨by simp [h1], fun j x' y' v hx hy hr => ?_⟩
    cases j with
    | zero => simp at hx hy; subst hx hy; exact h.1.rc hH hr
    | succ j => exact h2 j x' y' v (by simpa using hx) (by simpa using hy) hr
  | [], _ :: _, h => h.elim
  | _ :: _, [], h => h.elim

theorem EntS.rs {s s' : S} {v : Value} (h : EntS ρ H s s') (hr : RS w ι M s v) : RS w (renIo ρ ι) (renMs ρ H ι M) s' v := by
  unfold EntS at h
  split at h
  · exact .junk
  · split at h
    · exact .c (EntC.rc hH h hr.inv_c)
    · exact h.elim
  · split at h
    · cases hr with
      | agg vs hl hr =>
        obtain ⟨h1, h2⟩ := EntL.rc hH h
        refine .agg vs (by omega) fun j c hj => ?_
        have hlt := (List.getElem?_eq_some_iff.1 hj).1
        exact h2 j _ c _ (List.getElem?_eq_getElem (by omega)) hj (hr j _ (List.getElem?_eq_getElem (by omega)))
    · exact h.elim
  · exact h.elim

omit hH in
theorem EntE.rel : ∀ {env env' : Env}, EntE ρ H env env' → env.length = env'.length ∧ ∀ (t : Nat) (s' : S), env'[t]? = some s' → ∃ s, env[t]? = some s ∧ EntS ρ H s s'
  | [], [], _ => ⟨rfl, by simp⟩
  | s :: r, s' :: r', h => by
    have h' : EntS ρ H s s' ∧ EntE ρ H r r' := by
      cases s' with
      | junk => exact ⟨trivial, h⟩
      | _ => exact h
    obtain ⟨h1, h2⟩ := EntE.rel h'.2
    refine ⟨by simp [h1], fun t s'' ht => ?_⟩
    cases t with
    | zero => simp at ht; subst ht; exact ⟨s, rfl, h'.1⟩
    | succ t => simpa using h2 t s'' (by simpa using ht)
  | [], _ :: _, h => h.elim
  | _ :: _, [], h => h.elim

theorem EntR.rc : ∀ {xs ys : List (List C)}, EntR ρ H xs ys → xs.length = ys.length ∧ (∀ n, (∀ r ∈ xs, r.length = n) → ∀ r ∈ ys, r.length = n) ∧
    ∀ (i j : Nat) (y : C), at2 ys i j = some y → ∃ x, at2 xs i j = some x ∧ ∀ v, RC w ι M x v → RC w (renIo ρ ι) (renMs ρ H ι M) y v
  | [], [], _ => ⟨rfl, by simp, by simp [at2]⟩
  | x :: xs, y :: ys, h => by
    obtain ⟨h1, h2, h3⟩ := EntR.rc h.2
    obtain ⟨q1, q2⟩ := EntL.rc hH h.1
    refine ⟨by simp [h1], fun n hn r hr => ?_, fun i j y' hy => ?_⟩
    · rcases List.mem_cons.1 hr with rfl | hr
      · rw [← q1]; exact hn x (by simp)
      · exact h2 n (fun r hr => hn r (by simp [hr])) r hr
    · obtain ⟨row, r1, r2⟩ := at2_inv hy
      cases i with
      | zero =>
        simp at r1
        subst r1
        have hlt := (List.getElem?_eq_some_iff.1 r2).1
        exact ⟨_, at2_some rfl (List.getElem?_eq_getElem (by omega)), fun v hv => q2 j _ _ v (List.getElem?_eq_getElem (by omega)) r2 hv⟩
      | succ i =>
        obtain ⟨x', s1, s2⟩ := h3 i j y' (at2_some (by simpa using r1) r2)
        obtain ⟨row', t1, t2⟩ := at2_inv s1
        exact ⟨x', at2_some (by simpa using t1) t2, s2⟩
  | [], _ :: _, h => h.elim
  | _ :: _, [], h => h.elim
end

theorem EntH.get {ρ : List (Option Nat)} {H : Hp} : ∀ {r : List (Option Nat)} {H' : Hp}, EntH ρ H r H' → r.length = H'.length ∧ ∀ (id : Nat) (k' : Blk), H'[id]? = some k' →
    (r[id]? = some none ∧ k'.rows = [] ∧ k'.mode = .live) ∨ ∃ j k, r[id]? = some (some j) ∧ H[j]? = some k ∧ EntB ρ H k k'
  | [], [], _ => ⟨rfl, by simp⟩
  | x :: r, k :: H', h => by
    obtain ⟨h1, h2⟩ := EntH.get h.2
    refine ⟨by simp [h1], fun id k' hk => ?_⟩
    cases id with
    | zero =>
      simp at hk
      subst hk
      have hx := h.1
      cases x with
      | none => exact .inl ⟨rfl, hx⟩
      | some j =>
        refine .inr ⟨j, ?_⟩
        simp only at hx
        split at hx
        · rename_i k0 hk0
          exact ⟨k0, rfl, hk0, hx⟩
        · exact hx.elim
    | succ id => simpa using h2 id k' (by simpa using hk)
  | [], _ :: _, h => h.elim
  | _ :: _, [], h => h.elim

theorem sameL_get : ∀ {r : List (Option Nat)} {H : Hp} {n j : Nat} {k : Blk}, sameL n r H = false → r[j]? = some (some n) → H[j]? = some k → k.mode = .old
  | [], _, n, j, k, _, h, _ => by simp at h
  | x :: r, [], n, j, k, _, _, h => by simp at h
  | x :: r, k0 :: H, n, 0, k, hs, h, hk => by
    simp at h hk
    subst h hk
    simp only [sameL, Bool.or_eq_false_iff] at hs
    cases hm : k0.mode with
    | old => rfl
    | _ => rw [hm] at hs; simp at hs
  | x :: r, k0 :: H, n, j + 1, k, hs, h, hk => by
    simp only [sameL, Bool.or_eq_false_iff] at hs
    exact sameL_get hs.2 (by simpa using h) (by simpa using hk)
theorem nodup_get : ∀ {l : List (Option Nat)} {H : Hp}, nodupH l H = true → ∀ (i j n : Nat) (k k' : Blk), l[i]? = some (some n) → l[j]? = some (some n) → H[i]? = some k → H[j]? = some k' → k.mode ≠ .old → k'.mode ≠ .old → i = j
  | [], _, _, i, j, n, k, k', h, _, _, _, _, _ => by simp at h
  | x :: r, [], _, i, j, n, k, k', _, _, h, _, _, _ => by simp at h
  | x :: r, k0 :: H, hn, i, j, n, k, k', hi, hj, hk, hk', ho, ho' => by
    have hr : nodupH r H = true := by
      cases x with
      | none => exact hn
      | some m => simp only [nodupH, Bool.and_eq_true] at hn; exact hn.2
    have hx : ∀ (q : Nat) (kq : Blk), x = some n → k0.mode ≠ .old → r[q]? = some (some n) → H[q]? = some kq → kq.mode = .old := fun q kq hxn h0 hq hkq => by
      subst hxn
      simp only [nodupH, Bool.and_eq_true] at hn
      have h1 := hn.1
      have : sameL n r H = false := by
        cases hm : k0.mode with
        | old => exact absurd hm h0
        | _ => simpa using h1
      exact sameL_get this hq hkq
    cases i with
    | zero => cases j with
      | zero => rfl
      | succ j =>
        simp at hi hj hk hk'
        subst hk
        exact absurd (hx j k' hi ho hj hk') ho'
    | succ i => cases j with
      | zero =>
        simp at hi hj hk hk'
        subst hk'
        exact absurd (hx i k hj ho' hi hk) ho
      | succ j =>
        simp at hi hj hk hk'
        rw [nodup_get hr i j n k k' hi hj hk hk' ho ho']

theorem keeps_get {ρ : List (Option Nat)} : ∀ {n : Nat}, keepsB ρ n = true → ∀ i, i < n → ρ[i]? = some (some i)
  | 0, _, i, h => by omega
  | n + 1, hk, i, h => by
    simp only [keepsB, Bool.and_eq_true] at hk
    by_cases hi : i = n
    · subst hi
      have := hk.1
      split at this
      · rename_i m hm
        rw [hm, Nat.eq_of_beq_eq_true this]
      · cases this
    · exact keeps_get hk.2 i (by omega)

theorem rowsT_rc {w : World} {ι ι' : Io} {M M' : Ms} (hM : ∀ b, M' b → M b) {rows : List (List C)} (h : rowsT rows) {i j : Nat} {c : C} (hc : at2 rows i j = some c) {u : Value} (hr : RC w ι M c u) : RC w ι' M' c u := by
  obtain ⟨row, h1, h2⟩ := at2_inv hc
  exact (hr.tree (h row (List.mem_of_getElem? h1) c (List.mem_of_getElem? h2))).sub hM

theorem EntH.all {n0 : Nat} {ρ : List (Option Nat)} {H H' : Hp} (h1 : keepsB ρ n0 = true) (h2 : nodupH ρ H' = true) (h3 : EntH ρ H ρ H') {w0 : World} {ι0 : Io} {M0 : Ms} {H0 : Hp} {w : World} {ι : Io} {M : Ms} (hn : H0.length = n0) (hM0 : MB w0 M0)
    (hH : HeapRel w ι M H) (hst : Step w0 ι0 M0 H0 w ι M H) : HeapRel w (renIo ρ ι) (renMs ρ H ι M) H' ∧ Fresh (renIo ρ ι) H'.length ∧ Step w0 ι0 M0 H0 w (renIo ρ ι) (renMs ρ H ι M) H' := by
  obtain ⟨hl, hg0⟩ := EntH.get h3
  have hg : ∀ (id : Nat) (k' : Blk), H'[id]? = some k' → (ρ[id]? = some none ∧ k'.rows = [] ∧ k'.mode = .live) ∨ ∃ j k, ρ[id]? = some (some j) ∧ H[j]? = some k ∧ leMode k k' = true ∧ k.elem = k'.elem ∧ k.size = k'.size ∧
      ((k.rows = k'.rows ∧ rowsT k.rows) ∨ EntR ρ H k.rows k'.rows) := fun id k' hk => by
    rcases hg0 id k' hk with h | ⟨j, k, q1, q2, q3, q4, q5, q6⟩
    · exact .inl h
    · exact .inr ⟨j, k, q1, q2, q3, q4, q5, q6⟩
  have hlen : ∀ {k k' : Blk}, ((k.rows = k'.rows ∧ rowsT k.rows) ∨ EntR ρ H k.rows k'.rows) → k.rows.length = k'.rows.length := fun h => by
    rcases h with h | h
    · rw [h.1]
    · exact (EntR.rc hH h).1
  have hsub : ∀ b, renMs ρ H ι M b → M b := fun b hb => hb.1
  have hren : ∀ id j, ρ[id]? = some (some j) → renIo ρ ι id = ι j := fun id j hj => by unfold renIo; rw [hj]
  have hnil : ∀ id, ρ[id]? = some none → renIo ρ ι id = some .nil := fun id hj => by unfold renIo; rw [hj]
  have hle : H0.length ≤ H'.length := by
    rw [← hl, hn]
    rcases Nat.lt_or_ge ρ.length n0 with hlt | hge
    · have := keeps_get h1 ρ.length hlt
      simp at this
    · exact hge
  refine ⟨⟨?_, ?_, ?_, ?_, ?_⟩, ?_, ⟨hst.os, hst.tape, hst.output, hst.size, hst.keep, ?_, fun b hb => hst.mnew b hb.1, ?_, ?_, hle⟩⟩
  · intro id k' hk hd l hll
    rcases hg id k' hk with ⟨q1, q2, q3⟩ | ⟨j, k, q1, q2, q3, q4, q5, q6⟩
    · rw [hnil id q1] at hll
      injection hll with hll
      subst hll
      exact q2
    · rw [hren id j q1] at hll
      have hb := hH.blk j k q2 ((leMode_iff q3).1 hd) l hll
      cases l with
      | nil =>
        have hb' : k.rows = [] := hb
        show k'.rows = []
        rcases q6 with ⟨q6, _⟩ | q6
        · rw [← q6, hb']
        · rw [hb'] at q6
          cases hr : k'.rows with
          | nil => rfl
          | cons y ys => rw [hr] at q6; exact q6.elim
      | blk b cap size =>
        obtain ⟨r1, r2, r3, r4, r5, cur, r6, r7, r8⟩ := hb
        rcases q6 with ⟨q6, q7⟩ | q6
        · refine ⟨by rw [← q5]; exact r1, r2, by rw [← q6]; exact r3, r4, by rw [← q6]; exact r5, cur, by rw [← q4]; exact r6, r7, fun i j c hc => ?_⟩
          rw [← q6] at hc
          obtain ⟨u, s1, s2⟩ := r8 i j c hc
          exact ⟨u, s1, rowsT_rc hsub q7 hc s2⟩
        · obtain ⟨t1, t2, t3⟩ := EntR.rc hH q6
          refine ⟨by rw [← q5]; exact r1, r2, by rw [← t1]; exact r3, r4, t2 size r5, cur, by rw [← q4]; exact r6, r7, fun i j c hc => ?_⟩
          obtain ⟨x, u1, u2⟩ := t3 i j c hc
          obtain ⟨u, s1, s2⟩ := r8 i j x u1
          exact ⟨u, s1, u2 u s2⟩
  · intro id k' hk hm b cap size hi
    rcases hg id k' hk with ⟨q1, q2, q3⟩ | ⟨j, k, q1, q2, q3, q4, q5, q6⟩
    · rw [hnil id q1] at hi; cases hi
    · rw [hren id j q1] at hi
      have hkl : k.mode = .live := ((leMode_iff q3).2.1 hm).1
      have hMb := hH.liv j k q2 hkl b cap size hi
      refine ⟨hMb, ?_⟩
      rintro ⟨id2, k2, cap2, size2, n1, n2, n3, n4⟩
      cases hm2 : k2.mode with
      | live =>
        have := hH.inj j id2 k k2 q2 n2 hkl hm2 _ _ _ _ _ hi n4
        subst this
        exact notIn_get q1 n1
      | froz => exact hH.fro id2 k2 n2 hm2 _ _ _ n4 hMb
      | old => exact n3 (by rw [hm2]; trivial)
      | dead => exact n3 (by rw [hm2]; trivial)
  · intro id k' hk hm b cap size hi
    rcases hg id k' hk with ⟨q1, q2, q3⟩ | ⟨j, k, q1, q2, q3, q4, q5, q6⟩
    · rw [hnil id q1] at hi; cases hi
    · rw [hren id j q1] at hi
      exact fun hb => hH.fro j k q2 ((leMode_iff q3).2.2.1 hm) b cap size hi hb.1
  · intro id id' k k' hk hk' hm hm' b cap size cap' size' hi hi'
    rcases hg id k hk with ⟨q1, q2, q3⟩ | ⟨j, k1, q1, q2, q3, q4, q5, q6⟩
    · rw [hnil id q1] at hi; cases hi
    · rcases hg id' k' hk' with ⟨q1', q2', q3'⟩ | ⟨j', k1', q1', q2', q3', q4', q5', q6'⟩
      · rw [hnil id' q1'] at hi'; cases hi'
      · rw [hren id j q1] at hi
        rw [hren id' j' q1'] at hi'
        have := hH.inj j j' k1 k1' q2 q2' ((leMode_iff q3).2.1 hm).1 ((leMode_iff q3').2.1 hm').1 _ _ _ _ _ hi hi'
        subst this
        exact nodup_get h2 id id' j k k' q1 q1' hk hk' (by rw [hm]; intro h; cases h) (by rw [hm']; intro h; cases h)
  · intro id id' k k' hk hk' hm hm' b cap size cap' size' hi hi'
    rcases hg id k hk with ⟨q1, q2, q3⟩ | ⟨j, k1, q1, q2, q3, q4, q5, q6⟩
    · rw [hnil id q1] at hi; cases hi
    · rcases hg0 id' k' hk' with ⟨q1', q2', q3'⟩ | ⟨j', k1', q1', q2', q3', q4', q5', q6'⟩
      · rw [hnil id' q1'] at hi'; cases hi'
      · rw [hren id j q1] at hi
        rw [hren id' j' q1'] at hi'
        obtain ⟨hl1, s2⟩ := (leMode_iff q3').2.1 hm'
        rcases (leMode_iff q3).2.2.2 hm with ho | ⟨ho, ha⟩
        · obtain ⟨t1, t2, t3⟩ := hH.old j j' k1 k1' q2 q2' ho hl1 _ _ _ _ _ hi hi'
          exact ⟨s2 t1, t2, by rw [← hlen q6, ← hlen q6']; exact t3⟩
        · have hjj := hH.inj j j' k1 k1' q2 q2' ho hl1 _ _ _ _ _ hi hi'
          subst hjj
          rw [q2] at q2'
          injection q2' with q2'
          subst q2'
          rw [hi] at hi'
          injection hi' with hi'
          injection hi' with _ _ hi'
          exact ⟨s2 ha, hi', by rw [← hlen q6, ← hlen q6']; exact Nat.le_refl _⟩
  · intro id hid
    unfold renIo
    rw [List.getElem?_eq_none (by omega)]
  · intro id hid
    rw [hren id id (keeps_get h1 id (by omega))]
    exact hst.same id hid
  · intro b hb
    rcases hst.mold b hb with h | h
    · by_cases hx : ∃ id k cap size, notIn ρ id = true ∧ H[id]? = some k ∧ ¬ k.mode.gone ∧ ι id = some (.blk b cap size)
      · obtain ⟨id, k, cap, size, n1, n2, n3, n4⟩ := hx
        refine .inr ?_
        have hlive : k.mode = .live := by
          cases hm : k.mode with
          | live => rfl
          | froz => exact absurd h (hH.fro id k n2 hm _ _ _ n4)
          | old => exact absurd (by rw [hm]; trivial) n3
          | dead => exact absurd (by rw [hm]; trivial) n3
        rcases hst.live b ⟨id, k, cap, size, n2, hlive, n4⟩ with h' | h'
        · exact h'
        · have := hM0 b hb; omega
      · exact .inl ⟨h, hx⟩
    · exact .inr h
  · rintro b ⟨id, k', cap, size, hk, hm, hi⟩
    rcases hg id k' hk with ⟨q1, q2, q3⟩ | ⟨j, k, q1, q2, q3, q4, q5, q6⟩
    · rw [hnil id q1] at hi; cases hi
    · rw [hren id j q1] at hi
      exact hst.live b ⟨j, k, cap, size, q2, ((leMode_iff q3).2.1 hm).1, hi⟩

theorem Ent.sim {n0 : Nat} {ρ : List (Option Nat)} {env env' : Env} {H H' : Hp} (h : Ent n0 ρ env H env' H') {w0 : World} {ι0 : Io} {M0 : Ms} {H0 : Hp} {a : Act} {w : World} (hn : H0.length = n0) (hM0 : MB w0 M0)
    (hs : Sim w0 ι0 M0 H0 a w env H) : Sim w0 ι0 M0 H0 a w env' H' := by
  obtain ⟨h1, h2, h3, h4⟩ := h
  obtain ⟨ι, M, hd, hsz, he, hH, hM, hF, hst⟩ := hs
  obtain ⟨hel, heg⟩ := EntE.rel h4
  obtain ⟨q1, q2, q3⟩ := EntH.all h1 h2 h3 hn hM0 hH hst
  refine ⟨renIo ρ ι, _, hd, by omega, fun t s' ht => ?_, q1, fun b hb => hM b hb.1, q2, q3⟩
  obtain ⟨s, q1, q2⟩ := heg t s' ht
  exact q2.rs hH (he t s q1)

/-- a function's end: its result and the blocks that it leaves, others forgotten -/
def EntT (ρ : List (Option Nat)) (H : Hp) (s s' : S) : Prop :=
  match s' with
  | .tup ss' => match s with
    | .tup ss => EntE ρ H ss ss'
    | _ => False
  | s' => EntS ρ H s s'
structure Fin (n0 : Nat) (r : S) (H1 : Hp) (s : S) (H' : Hp) : Prop where
  out : ∃ ρ, keepsB ρ n0 = true ∧ nodupH ρ H' = true ∧ EntH ρ H1 ρ H' ∧ EntT ρ H1 r s

theorem EntT.rs {w : World} {ι : Io} {M : Ms} {ρ : List (Option Nat)} {H : Hp} (hH : HeapRel w ι M H) {s s' : S} {v : Value} (h : EntT ρ H s s') (hr : RS w ι M s v) : RS w (renIo ρ ι) (renMs ρ H ι M) s' v := by
  cases s' with
  | tup ss' =>
    cases s with
    | tup ss =>
      cases hr with
      | tup vs hl hr =>
        obtain ⟨h1, h2⟩ := EntE.rel h
        refine .tup vs (by omega) fun j s hj => ?_
        obtain ⟨s0, q1, q2⟩ := h2 j s hj
        exact q2.rs hH (hr j s0 q1)
    | _ => exact False.elim h
  | _ => exact EntS.rs hH h hr

/-- data alone comes back -/
theorem fin_t {r s : S} {H1 : Hp} (h : EntT [] H1 r s) : Fin 0 r H1 s [] := ⟨[], rfl, rfl, trivial, h⟩

/-- a function's contract out of its text -/
theorem acall_of {P : Program} {τ : Tab} (hτ : TabOK P τ) {f : FuncId} {fn : Func} {c : Code} {args : List S} {H : Hp} {s : S} {H' : Hp} (hf : P.funcs[f]? = some fn) (hb : fn.body = some c) (hn : fn.name ≠ "runtime.NumGoroutine")
    (h : acode P τ H.length c (args ++ List.replicate (fn.ntmps - args.length) .junk) H fun x env' H1 => match x with
      | .exit _ => False
      | _ => aresult τ fn env' H1 fun r => Fin H.length r H1 s H') : ACall P f args H s H' := by
  refine ⟨⟨fn, hf, by rw [hb]; rfl, hn⟩, fun w ι M vals hl hr hH hM hF => ?_⟩
  refine calls_of_wp hf hb ?_
  have hi := Sim.init hl hr hH hM hF (fn.ntmps - args.length)
  have := (acode_sound hτ c h).out w ι M H _ w rfl hM hi
  have e : vals.toArray.size = args.length := by simpa using hl
  rw [e]
  refine wp_mono this ?_
  rintro e a' w' ⟨x, env', H1, rfl, hq, ι', M', hd, hsz, he, hH', hM', hF', hst⟩
  have key : (aresult τ fn env' H1 fun r => Fin H.length r H1 s H') → a'.defers = [] ∧ ∃ v, (results fn a'.tmps).run P w' = .ok v w' ∧ ∃ v', Ending.returned v = .returned v' ∧ GPost w ι M H s H' v' w' := by
    intro hq
    refine ⟨hd, ?_⟩
    obtain ⟨l, hk, vs, h1, h2, h3⟩ := ares_run hτ he hH' fn.results.toList hq
    have hrun : ∃ v, (results fn a'.tmps).run P w' = .ok v w' ∧ v = (if h : vs.length = 1 then vs[0] else .tuple vs.toArray) := by
      refine ⟨_, ?_, rfl⟩
      unfold results
      rw [Array.mapM_eq_mapM_toList, Sem.run_bind, Sem.run_map]
      refine (congrArg (fun r => Result.andThen (Result.andThen r _) _) h1).trans ?_
      simp
    obtain ⟨v, hv1, rfl⟩ := hrun
    refine ⟨_, hv1, _, rfl, ?_⟩
    have hsr : ∃ r, RS w' ι' M' r (if h : vs.length = 1 then vs[0] else .tuple vs.toArray) ∧ Fin H.length r H1 s H' := by
      match l, hk, h2, h3 with
      | [s1], hk, h2, h3 =>
        refine ⟨s1, ?_, hk⟩
        rw [dif_pos (by simpa using h2)]
        have := h3 0 s1 rfl
        rw [List.getD_eq_getElem?_getD, List.getElem?_eq_getElem (by simp at h2; omega)] at this
        exact this
      | [], hk, h2, h3 =>
        refine ⟨_, ?_, hk⟩
        rw [dif_neg (by simp at h2; simp [h2])]
        exact .tup vs h2 h3
      | s1 :: s2 :: r, hk, h2, h3 =>
        refine ⟨_, ?_, hk⟩
        rw [dif_neg (by simp at h2; omega)]
        exact .tup vs h2 h3
    obtain ⟨r, h4, ρ, f1, f2, f3, f4⟩ := hsr
    obtain ⟨g1, g2, g3⟩ := EntH.all f1 f2 f3 rfl hM hH' hst
    exact ⟨renIo ρ ι', _, f4.rs hH' h4, g1, fun b hb => hM' b hb.1, g2, g3⟩
  cases x with
  | normal => exact key hq
  | ret => exact key hq
  | exit id => exact hq.elim

theorem least_nat (p : Nat → Prop) (h : ∃ n, p n) : ∃ n, p n ∧ ∀ m, p m → n ≤ m := by
  obtain ⟨n, hn⟩ := h
  induction n using Nat.strongRecOn with
  | _ n ih =>
    by_cases hex : ∃ m, m < n ∧ p m
    · obtain ⟨m, hm, hp⟩ := hex
      exact ih m hm hp
    · exact ⟨n, hn, fun m hm => Nat.le_of_not_lt fun hlt => hex ⟨m, hlt, hm⟩⟩

/-- the rule of a loop: its states at the round's head, a measure, and one round -/
theorem awp_loopS {P : Program} {n0 : Nat} {c : Code} {env : Env} {H : Hp} {Q : AX → Env → Hp → Prop} {σ : Type} (E : σ → Env × Hp) (μ : σ → Nat) (x0 : σ) (ρ0 : List (Option Nat))
    (h0 : Ent n0 ρ0 env H (E x0).1 (E x0).2)
    (round : ∀ x, Awp P n0 c (E x).1 (E x).2 fun a env' H' => match a with
      | .normal => ∃ ρ x', Ent n0 ρ env' H' (E x').1 (E x').2 ∧ μ x' < μ x
      | a => Q a env' H') : Awp P n0 (.loop c) env H Q := by
  refine ⟨fun w0 ι0 M0 H0 a w hn hM hs => ?_⟩
  have hs0 := h0.sim hn hM hs
  let I : Act → World → Prop := fun a w => ∃ x, Sim w0 ι0 M0 H0 a w (E x).1 (E x).2
  let J : Act → World → Nat → Prop := fun a w n => ∃ x, μ x = n ∧ Sim w0 ι0 M0 H0 a w (E x).1 (E x).2
  have hJ : ∀ a w, I a w → ∃ n, J a w n := fun a w ⟨x, hx⟩ => ⟨μ x, x, rfl, hx⟩
  classical
  let m : Act → World → Nat := fun a w => if h : ∃ n, J a w n then Classical.choose (least_nat _ h) else 0
  have hmin : ∀ a w x, Sim w0 ι0 M0 H0 a w (E x).1 (E x).2 → m a w ≤ μ x := fun a w x hx => by
    have h : ∃ n, J a w n := ⟨μ x, x, rfl, hx⟩
    show (if h : ∃ n, J a w n then Classical.choose (least_nat _ h) else 0) ≤ μ x
    rw [dif_pos h]
    exact (Classical.choose_spec (least_nat _ h)).2 _ ⟨x, rfl, hx⟩
  refine wp_loop I m ⟨x0, hs0⟩ fun a w hI => ?_
  have hex := hJ a w hI
  have hm : m a w = Classical.choose (least_nat _ hex) := by
    show (if h : ∃ n, J a w n then Classical.choose (least_nat _ h) else 0) = _
    rw [dif_pos hex]
  obtain ⟨x, hx1, hx2⟩ := (Classical.choose_spec (least_nat _ hex)).1
  have hr := (round x).out w0 ι0 M0 H0 a w hn hM hx2
  refine wp_mono hr ?_
  rintro e a' w' ⟨ax, env', H', rfl, hq, hs'⟩
  cases ax with
  | normal =>
    obtain ⟨ρ, x', h1, h2⟩ := hq
    have hs2 := h1.sim hn hM hs'
    refine ⟨⟨x', hs2⟩, ?_⟩
    have := hmin a' w' x' hs2
    omega
  | exit id => exact ⟨_, env', H', rfl, hq, hs'⟩
  | ret => exact ⟨_, env', H', rfl, hq, hs'⟩

/-- a loop that counts -/
theorem awp_for {P : Program} {τ : Tab} (hτ : TabOK P τ) {n0 : Nat} {c : Code} {env : Env} {H : Hp} {Q : AX → Env → Hp → Prop} (E : Nat → Env × Hp) (n : Nat) (I : Nat → Prop) (ρ0 : List (Option Nat))
    (hI : I 0) (h0 : Ent n0 ρ0 env H (E 0).1 (E 0).2)
    (round : ∀ k, k ≤ n → I k → acode P τ n0 c (E k).1 (E k).2 fun a env' H' => match a with
      | .normal => k < n ∧ I (k + 1) ∧ ∃ ρ, Ent n0 ρ env' H' (E (k + 1)).1 (E (k + 1)).2
      | a => Q a env' H') : Awp P n0 (.loop c) env H Q := by
  refine awp_loopS (σ := { k : Nat // k ≤ n ∧ I k }) (fun k => E k.1) (fun k => n - k.1) ⟨0, Nat.zero_le _, hI⟩ ρ0 h0 ?_
  rintro ⟨k, hk, hi⟩
  refine (acode_sound hτ c (round k hk hi)).mono ?_
  intro a env' H' h
  cases a with
  | normal =>
    obtain ⟨h1, h2, ρ, h3⟩ := h
    exact ⟨ρ, ⟨k + 1, h1, h2⟩, h3, by show n - (k + 1) < n - k; omega⟩
  | exit id => exact h
  | ret => exact h

theorem and_idx {n m : Int} {K : Prop} (h0 : 0 ≤ n) (h1 : n < m) (k : K) : (0 ≤ n ∧ n < m) ∧ K := ⟨⟨h0, h1⟩, k⟩
theorem ex_row {α : Type} {xs : List α} {f : α → List T} {k : Nat} {x : α} {K : List T → Prop} (hx : xs[k]? = some x) (h : K (f x)) : ∃ row, 0 ≤ (k : Int) ∧ (xs.map f)[(k : Int).toNat]? = some row ∧ K row :=
  ⟨f x, by omega, by simp [hx], h⟩
theorem ex_rowI {α : Type} {xs : List α} {f : α → List T} {n : Int} {x : α} {K : List T → Prop} (h0 : 0 ≤ n) (hx : xs[n.toNat]? = some x) (h : K (f x)) : ∃ row, 0 ≤ n ∧ (xs.map f)[n.toNat]? = some row ∧ K row :=
  ⟨f x, h0, by simp [hx], h⟩
end Go.Proofs.YtfieodjihaodiaaGreat
/- Calls of functions at data, when what the caller passes lies in blocks of its own. -/
namespace Go.Proofs.YtfieodjihaodiaaGreat
open Go.RowKit
set_option linter.unusedVariables false
set_option linter.unusedSimpArgs false

def T.flat : T → Bool
  | .atm _ => true
  | _ => false
def C.flat : C → Bool
  | .t x => x.flat
  | _ => false
def S.flat : S → Bool
  | .junk => true
  | .c x => x.flat
  | .agg cs => cs.all C.flat
  | .tup ss => ss.all fun s => match s with
    | .c x => x.flat
    | .agg cs => cs.all C.flat
    | .junk => true
    | .tup _ => false
theorem RC.flat {w : World} {ι ι' : Io} {M M' : Ms} {x : C} {v : Value} (h : x.flat = true) (hr : RC w ι M x v) : RC w ι' M' x v := by
  cases hr with
  | t hr => cases hr with
    | atm hv => exact .t (.atm hv)
    | _ => cases h
  | _ => cases h
theorem RS.flat1 {w : World} {ι ι' : Io} {M M' : Ms} {s : S} {v : Value} (h : (match s with | .c x => x.flat | .agg cs => cs.all C.flat | .junk => true | .tup _ => false) = true) (hr : RS w ι M s v) : RS w ι' M' s v := by
  cases hr with
  | junk => exact .junk
  | c hr => exact .c (hr.flat h)
  | agg vs hl hr => exact .agg vs hl fun j c hj => (hr j c hj).flat (List.all_eq_true.1 h c (List.mem_of_getElem? hj))
  | tup vs hl hr => cases h
theorem RS.flat {w : World} {ι ι' : Io} {M M' : Ms} {s : S} {v : Value} (h : s.flat = true) (hr : RS w ι M s v) : RS w ι' M' s v := by
  cases hr with
  | junk => exact .junk
  | c hr => exact .c (hr.flat h)
  | agg vs hl hr => exact .agg vs hl fun j c hj => (hr j c hj).flat (List.all_eq_true.1 h c (List.mem_of_getElem? hj))
  | tup vs hl hr => exact .tup vs hl fun j s hj => (hr j s hj).flat1 (List.all_eq_true.1 h s (List.mem_of_getElem? hj))

theorem HeapRel.none {w : World} {M : Ms} : HeapRel w (fun _ => Option.none) M [] := ⟨by simp, by simp, by simp, by simp, by simp⟩

/-- a function at data, called at data that may be known better -/
theorem qcall_data {P : Program} {g : FuncId} {args args' : List S} {H : Hp} {r : S} (h : ACall P g args' [] r []) (ha : VArgs H (fun _ => False) args args') (hr : r.isT = true) : QCall P g args H r [] := by
  refine ⟨h.1, fun w ι M vals hl hv hH hM hf => ?_⟩
  obtain ⟨hlen, hget⟩ := VArgs.get ha
  have := h.2 w (fun _ => none) M vals (by omega) (fun j s hj => by
    obtain ⟨x, hx, hs⟩ := hget j s hj
    exact hs.rs hH (fun _ h => h) (fun _ _ _ _ _ h _ _ _ _ => h.elim) (hv j x hx))
    .none hM (fun _ _ => rfl)
  refine Calls.mono this ?_
  rintro e w' ⟨v, rfl, ι', M', h1, h2, h3, h4, h5⟩
  refine ⟨v, rfl, QPost.of_none ?_ ?_⟩
  · refine RS.keep (ι := ι) (M := M') (fun _ _ _ => rfl) (fun b hb => ?_) (fun _ _ h => h) (h1.tree hr)
    rcases h5.mold b hb with h | ⟨id, k, _, _, hk, _⟩
    · exact .inl h
    · simp at hk
  · exact ⟨h5.os, h5.tape, h5.output, h5.size, fun b hb => h5.keep b hb (by rintro ⟨id, k, _, _, hk, _⟩; simp at hk)⟩

def freeze1 (fr : List Nat) (n : Nat) (k : Blk) : Blk := match fr.any (Nat.beq n), k.mode with
  | true, .live => { k with mode := .froz }
  | _, _ => k
def freezeR (fr : List Nat) : Nat → Hp → Hp
  | _, [] => []
  | n, k :: r => freeze1 fr n k :: freezeR fr (n + 1) r
abbrev freeze (fr : List Nat) (H : Hp) : Hp := freezeR fr 0 H
theorem freezeR_get (fr : List Nat) : ∀ (H : Hp) (n i : Nat), (freezeR fr n H)[i]? = (H[i]?).map (freeze1 fr (n + i))
  | [], n, i => by simp [freezeR]
  | k :: r, n, 0 => by simp [freezeR]
  | k :: r, n, i + 1 => by simp [freezeR, freezeR_get fr r (n + 1) i, show n + 1 + i = n + (i + 1) by omega]
theorem freezeR_length (fr : List Nat) : ∀ (H : Hp) (n : Nat), (freezeR fr n H).length = H.length
  | [], n => rfl
  | k :: r, n => by simp [freezeR, freezeR_length fr r (n + 1)]
theorem freeze_inv {fr : List Nat} {H : Hp} {id : Nat} {k' : Blk} (h : (freeze fr H)[id]? = some k') : ∃ k, H[id]? = some k ∧ k'.elem = k.elem ∧ k'.size = k.size ∧ k'.rows = k.rows ∧
    ((k' = k ∧ (id ∉ fr ∨ k.mode ≠ .live)) ∨ (id ∈ fr ∧ k.mode = .live ∧ k'.mode = .froz)) := by
  rw [freezeR_get, Nat.zero_add] at h
  cases hk : H[id]? with
  | none => rw [hk] at h; cases h
  | some k =>
    rw [hk] at h
    injection h with h
    refine ⟨k, rfl, ?_⟩
    subst h
    unfold freeze1
    split
    · rename_i h1 h2
      obtain ⟨x, hx, hb⟩ := List.any_eq_true.1 h1
      have := Nat.eq_of_beq_eq_true hb
      subst this
      exact ⟨rfl, rfl, rfl, .inr ⟨hx, h2, rfl⟩⟩
    · rename_i h1
      refine ⟨rfl, rfl, rfl, .inl ⟨rfl, ?_⟩⟩
      by_cases hm : k.mode = .live
      · refine .inl fun hi => h1 ?_ hm
        exact List.any_eq_true.2 ⟨id, hi, by simp⟩
      · exact .inr hm

/-- a function at data, called at what may be viewed as such: the blocks that are seen are written no more -/
theorem acall_freeze {P : Program} {g : FuncId} {args args' : List S} {H : Hp} {r : S} (fr : List Nat) (h : ACall P g args' [] r []) (ha : VArgs H (· ∈ fr) args args') (hr : r.isT = true) : ACall P g args H r (freeze fr H) := by
  refine ⟨h.1, fun w ι M vals hl hv hH hM hf => ?_⟩
  obtain ⟨hlen, hget⟩ := VArgs.get ha
  let M0 : Ms := fun b => M b ∧ ¬ ∃ id k cap size, id ∈ fr ∧ H[id]? = some k ∧ k.mode = .live ∧ ι id = some (.blk b cap size)
  have hM0 : ∀ b, M0 b → M b := fun b hb => hb.1
  have := h.2 w (fun _ => none) M0 vals (by omega) (fun j s hj => by
    obtain ⟨x, hx, hs⟩ := hget j s hj
    refine hs.rs hH hM0 ?_ (hv j x hx)
    intro id k b cap size hp hk hd hi hb
    cases hm : k.mode with
    | live => exact hb.2 ⟨id, k, cap, size, hp, hk, hm, hi⟩
    | froz => exact hH.fro id k hk hm b cap size hi hb.1
    | old => exact hd (by rw [hm]; trivial)
    | dead => exact hd (by rw [hm]; trivial))
    .none (fun b hb => hM b hb.1) (fun _ _ => rfl)
  refine Calls.mono this ?_
  rintro e w' ⟨v, rfl, ι', M', h1, h2, h3, h4, h5⟩
  have hkeep : ∀ b, b < w.heap.size → w'.heap[b]? = w.heap[b]? := fun b hb => h5.keep b hb (by rintro ⟨id, k, _, _, hk, _⟩; simp at hk)
  have hold : ∀ b, M0 b → M' b := fun b hb => by
    rcases h5.mold b hb with h | ⟨id, k, _, _, hk, _⟩
    · exact h
    · simp at hk
  refine ⟨v, rfl, ι, M', ?_, ⟨?_, ?_, ?_, ?_, ?_⟩, h3, ?_, ?_⟩
  · exact h1.tree hr
  · intro id k' hk' hd l hll
    obtain ⟨k, hk, e1, e2, e3, hc⟩ := freeze_inv hk'
    have hd' : k.mode ≠ .dead := by
      rcases hc with ⟨rfl, _⟩ | ⟨_, h, _⟩
      · exact hd
      · rw [h]; intro h; cases h
    have hb := hH.blk id k hk hd' l hll
    cases l with
    | nil => show k'.rows = []; rw [e3]; exact hb
    | blk b cap size =>
      obtain ⟨q1, q2, q3, q4, q5, cur, q6, q7, q8⟩ := hb
      refine ⟨by rw [e2]; exact q1, q2, by rw [e3]; exact q3, q4, by rw [e3]; exact q5, cur, by rw [e1]; exact (hkeep b (block_lt q6)).trans q6, q7, fun i j c hc => ?_⟩
      rw [e3] at hc
      obtain ⟨u, hu, hr⟩ := q8 i j c hc
      refine ⟨u, hu, hr.keep (fun b hb _ => hkeep b hb) (fun b hb => ?_) (fun _ _ h => h)⟩
      rcases h5.mnew b hb with h | h
      · exact .inl h.1
      · exact .inr h
  · intro id k' hk' hl' b cap size hi
    obtain ⟨k, hk, e1, e2, e3, hc⟩ := freeze_inv hk'
    rcases hc with ⟨rfl, hc⟩ | ⟨_, _, h⟩
    · refine hold b ⟨hH.liv id k' hk hl' b cap size hi, ?_⟩
      rintro ⟨id2, k2, cap2, size2, n1, n2, n3, n4⟩
      have := hH.inj id id2 k' k2 hk n2 hl' n3 _ _ _ _ _ hi n4
      subst this
      rcases hc with hc | hc
      · exact hc n1
      · exact hc hl'
    · rw [h] at hl'; cases hl'
  · intro id k' hk' hl' b cap size hi hb
    obtain ⟨k, hk, e1, e2, e3, hc⟩ := freeze_inv hk'
    have hlt : b < w.heap.size := by
      have hd : k.mode ≠ .dead := by
        rcases hc with ⟨rfl, _⟩ | ⟨_, h, _⟩
        · rw [hl']; intro h; cases h
        · rw [h]; intro h; cases h
      obtain ⟨_, _, _, _, _, cur, q6, _⟩ := hH.blk id k hk hd _ hi
      exact block_lt q6
    rcases h5.mnew b hb with h | h
    · rcases hc with ⟨rfl, _⟩ | ⟨n1, n2, _⟩
      · exact hH.fro id k' hk hl' b cap size hi h.1
      · exact h.2 ⟨id, k, cap, size, n1, hk, n2, hi⟩
    · omega
  · intro id id' k1 k2 hk1 hk2 hm1 hm2
    obtain ⟨k, hk, e1, e2, e3, hc⟩ := freeze_inv hk1
    obtain ⟨k', hk', e1', e2', e3', hc'⟩ := freeze_inv hk2
    rcases hc with ⟨rfl, _⟩ | ⟨_, _, h⟩
    · rcases hc' with ⟨rfl, _⟩ | ⟨_, _, h⟩
      · exact hH.inj id id' _ _ hk hk' hm1 hm2
      · rw [h] at hm2; cases hm2
    · rw [h] at hm1; cases hm1
  · intro id id' k1 k2 hk1 hk2 hm1 hm2
    obtain ⟨k, hk, e1, e2, e3, hc⟩ := freeze_inv hk1
    obtain ⟨k', hk', e1', e2', e3', hc'⟩ := freeze_inv hk2
    rcases hc with ⟨rfl, _⟩ | ⟨_, _, h⟩
    · rcases hc' with ⟨rfl, _⟩ | ⟨_, _, h⟩
      · exact hH.old id id' _ _ hk hk' hm1 hm2
      · rw [h] at hm2; cases hm2
    · rw [h] at hm1; cases hm1
  · rw [freezeR_length]; exact hf
  · refine ⟨h5.os, h5.tape, h5.output, h5.size, fun b hb _ => hkeep b hb, fun _ _ => rfl, ?_, ?_, ?_, by rw [freezeR_length]; exact Nat.le_refl _⟩
    · intro b hb
      rcases h5.mnew b hb with h | h
      · exact .inl h.1
      · exact .inr h
    · intro b hb
      by_cases hx : ∃ id k cap size, id ∈ fr ∧ H[id]? = some k ∧ k.mode = .live ∧ ι id = some (.blk b cap size)
      · obtain ⟨id, k, cap, size, n1, n2, n3, n4⟩ := hx
        exact .inr ⟨id, k, cap, size, n2, n3, n4⟩
      · exact .inl (hold b ⟨hb, hx⟩)
    · rintro b ⟨id, k', cap, size, hk', hl', hi⟩
      obtain ⟨k, hk, e1, e2, e3, hc⟩ := freeze_inv hk'
      rcases hc with ⟨rfl, _⟩ | ⟨_, _, h⟩
      · exact .inl ⟨id, k', cap, size, hk, hl', hi⟩
      · rw [h] at hl'; cases hl'

theorem app_ok {len m n b : Nat} {K : Prop} (h1 : len ≤ m) (h2 : (len + n) * b ≤ 140737488355328) (k : K) : (len ≤ m ∧ (len + n) * b ≤ 140737488355328) ∧ K := ⟨⟨h1, h2⟩, k⟩
theorem src_ok {α : Type} {xs : List α} {a b : Nat} {K : Prop} (h : a = b) (k : K) : (xs.length = 0 ∨ a = b) ∧ K := ⟨.inr h, k⟩
theorem reg_ok {ops : List Oper} {K : Prop} (h : regOK ops = true) (k : K) : regOK ops = true ∧ K := ⟨h, k⟩
theorem bar_ok {P : Program} {τ : Tab} {env : Env} {H' : Hp} {ops : List Oper} {i : Nat} {K : Prop} (h : barrier ops i = true) (h2 : lateL ops i = []) (k : K) : barrier ops i = true ∧ ∃ L, lateL ops i = L ∧ lateK P τ ops env H' K L := ⟨h, [], h2, k⟩
theorem bar_late {P : Program} {τ : Tab} {env : Env} {H' : Hp} {ops : List Oper} {i : Nat} {K : Prop} (L : List Nat) (h : barrier ops i = true) (h2 : lateL ops i = L) (k : lateK P τ ops env H' K L) : barrier ops i = true ∧ ∃ L, lateL ops i = L ∧ lateK P τ ops env H' K L := ⟨h, L, h2, k⟩
theorem late_ok {s : S} {B : List Blk} {s' : S} {K : Prop} (h1 : B = []) (h2 : s = s') (k : K) : (B = [] ∧ s = s') ∧ K := ⟨⟨h1, h2⟩, k⟩
theorem app_nil {rl xl sz ds b : Nat} {K : Prop} (h1 : rl = 0) (h3 : (rl + xl) * b ≤ 140737488355328) (k : K) : ((rl = 0 ∨ (0 < xl ∧ sz = ds)) ∧ (rl + xl) * b ≤ 140737488355328) ∧ K := ⟨⟨.inl h1, h3⟩, k⟩
theorem ex_rowE {α : Type} {xs : List α} {f : α → List T} {n : Int} {k : Nat} {x : α} {K : List T → Prop} (e : n = k) (hx : xs[k]? = some x) (h : K (f x)) : ∃ row, 0 ≤ n ∧ (xs.map f)[n.toNat]? = some row ∧ K row := by
  subst e; exact ex_row hx h
theorem ne_ok {a b : Int} {K : Prop} (h : a ≠ b) (k : K) : a ≠ b ∧ K := ⟨h, k⟩
theorem sl_ok {l h m : Int} {K : Prop} (h1 : 0 ≤ l) (h2 : l ≤ h) (h3 : h ≤ m) (k : K) : (0 ≤ l ∧ l ≤ h ∧ h ≤ m) ∧ K := ⟨⟨h1, h2, h3⟩, k⟩
theorem zzW {x : Int} {K : Int → Prop} (k : K x) (h1 : -9223372036854775808 ≤ x := by omega) (h2 : x ≤ 9223372036854775807 := by omega) : ∃ n, IsWrap .i64 x n ∧ K n := ⟨_, wrap_ok h1 h2, k⟩
theorem zzI {n m : Int} {K : Prop} (k : K) (h0 : 0 ≤ n := by omega) (h1 : n < m := by omega) : (0 ≤ n ∧ n < m) ∧ K := and_idx h0 h1 k
theorem zzR {ops : List Oper} {K : Prop} (k : K) (h : regOK ops = true := by decide +kernel) : regOK ops = true ∧ K := ⟨h, k⟩
theorem zzB {P : Program} {τ : Tab} {env : Env} {H' : Hp} {ops : List Oper} {i : Nat} {K : Prop} (k : K) (h : barrier ops i = true := by decide +kernel) (h2 : lateL ops i = [] := by decide +kernel) : barrier ops i = true ∧ ∃ L, lateL ops i = L ∧ lateK P τ ops env H' K L := ⟨h, [], h2, k⟩
/-- at a loop's end, too, one may forget -/
theorem awp_weak {P : Program} {n0 : Nat} {c : Code} {env : Env} {H : Hp} {Q : AX → Env → Hp → Prop}
    (h : Awp P n0 c env H fun a env' H' => Q a env' H' ∨ ∃ ρ E2 H2, Ent n0 ρ env' H' E2 H2 ∧ Q a E2 H2) : Awp P n0 c env H Q := by
  refine ⟨fun w0 ι0 M0 H0 a w hn hM hs => wp_mono (h.out w0 ι0 M0 H0 a w hn hM hs) ?_⟩
  rintro e a' w' ⟨x, env', H', rfl, hq, hs'⟩
  rcases hq with hq | ⟨ρ, E2, H2, he, hq⟩
  · exact ⟨x, env', H', rfl, hq, hs'⟩
  · exact ⟨x, E2, H2, rfl, hq, he.sim hn hM hs'⟩
theorem fin_own {id len : Nat} {app : Bool} {H1 : Hp} {rows : List (List T)} {size : Nat} {k : Blk} (hk : H1[id]? = some k) (hd : ¬ k.mode.gone) (hs : k.size = size) (hc : k.rows = toC rows) (hl : len = rows.length) :
    Fin 0 (.c (.own id 0 len app)) H1 (.c (.t (.sl size .any rows))) [] := fin_t (show VC H1 _ _ _ from vc_all rfl hk hd hs hc hl)
theorem ent_own {ρ : List (Option Nat)} {H : Hp} {id id' len len' : Nat} (h : ρ[id']? = some (some id)) (hl : len = len') : EntS ρ H (.c (.own id 0 len true)) (.c (.own id' 0 len' true)) := ⟨h, rfl, hl, fun h => h⟩
theorem rowsT_toC (rows : List (List T)) : rowsT (toC rows) := by
  intro r hr c hc
  obtain ⟨r', _, rfl⟩ := List.mem_map.1 hr
  obtain ⟨c', _, rfl⟩ := List.mem_map.1 hc
  rfl
theorem entB_rows {ρ : List (Option Nat)} {H : Hp} {k k' : Blk} {rows : List (List T)} (h1 : leMode k k' = true) (h2 : k.elem = k'.elem) (h3 : k.size = k'.size) (h4 : k.rows = toC rows) (h5 : k'.rows = toC rows) : EntB ρ H k k' :=
  ⟨h1, h2, h3, .inl ⟨h4.trans h5.symm, h4 ▸ rowsT_toC rows⟩⟩
theorem vl_map {H : Hp} {p : Nat → Prop} : ∀ ts : List T, VL H p (ts.map C.t) ts
  | [] => vl_nil
  | t :: r => vl_cons (vc_t (weak_refl t)) (vl_map r)
theorem vs_ts {H : Hp} {p : Nat → Prop} (ts : List T) : VS H p (.agg (ts.map C.t)) (.agg (ts.map C.t)) := vs_agg (vl_map ts)
theorem vs_t {H : Hp} {p : Nat → Prop} {x : T} : VS H p (.c (.t x)) (.c (.t x)) := vs_c (vc_t (weak_refl x))
end Go.Proofs.YtfieodjihaodiaaGreat
/- The types of the program as a table (printed by tabgen.py). Conditions: none. -/
namespace Go.Proofs.YtfieodjihaodiaaGreat
def tabL : List (Option TD) := [none, some ⟨.bas, false, 1, 8, [.nilFunc]⟩, some ⟨.int .i64, false, 1, 8, [.int .i64 0]⟩, some ⟨.int .i64, false, 1, 8, [.int .i64 0]⟩, some ⟨.bool, false, 1, 1, [.bool false]⟩, some ⟨.int .u8, false, 1, 1, [.int .u8 0]⟩, some ⟨.int .u8, false, 1, 1, [.int .u8 0]⟩, some ⟨.struct [(0, 1, false), (1, 1, false), (2, 1, false), (3, 1, false)], true, 4, 24, [.int .i64 0, .int .i64 0, .bool false, .int .u8 0]⟩, some ⟨.struct [(0, 1, false), (1, 1, false), (2, 1, false), (3, 1, false)], true, 4, 24, [.int .i64 0, .int .i64 0, .bool false, .int .u8 0]⟩, none, none, none, some ⟨.int .u64, false, 1, 8, [.int .u64 0]⟩, none, none, some ⟨.bas, false, 1, 8, [.pointer none]⟩, some ⟨.bas, false, 1, 8, [.pointer none]⟩, some ⟨.bas, false, 1, 8, [.pointer none]⟩, some ⟨.struct [(0, 1, false)], true, 1, 8, [.pointer none]⟩, some ⟨.struct [(0, 1, false)], true, 1, 8, [.pointer none]⟩, none, some ⟨.int .i32, false, 1, 4, [.int .i32 0]⟩, some ⟨.slice 125, false, 1, 24, [.slice none 0 0]⟩, some ⟨.slice 74, false, 1, 24, [.slice none 0 0]⟩, some ⟨.slice 120, false, 1, 24, [.slice none 0 0]⟩, some ⟨.slice 72, false, 1, 24, [.slice none 0 0]⟩, some ⟨.slice 69, false, 1, 24, [.slice none 0 0]⟩, some ⟨.struct [(0, 1, false), (1, 1, false), (2, 1, false), (3, 1, false), (4, 1, false), (5, 1, false), (6, 1, false), (7, 1, false)], true, 8, 144, [.int .i64 0, .int .i64 0, .int .i64 0, .slice none 0 0, .slice none 0 0, .slice none 0 0, .slice none 0 0, .slice none 0 0]⟩, some ⟨.struct [(0, 1, false), (1, 1, false), (2, 1, false), (3, 1, false), (4, 1, false), (5, 1, false), (6, 1, false), (7, 1, false)], true, 8, 144, [.int .i64 0, .int .i64 0, .int .i64 0, .slice none 0 0, .slice none 0 0, .slice none 0 0, .slice none 0 0, .slice none 0 0]⟩, some ⟨.slice 30, false, 1, 24, [.slice none 0 0]⟩, some ⟨.slice 63, false, 1, 24, [.slice none 0 0]⟩, some ⟨.bas, false, 1, 8, [.nilFunc]⟩, some ⟨.bas, false, 1, 8, [.nilFunc]⟩, some ⟨.bas, false, 1, 8, [.nilFunc]⟩, some ⟨.bas, false, 1, 8, [.nilFunc]⟩, some ⟨.slice 65, false, 1, 24, [.slice none 0 0]⟩, some ⟨.struct [(0, 1, false), (1, 1, false)], true, 2, 32, [.int .i64 0, .slice none 0 0]⟩, some ⟨.struct [(0, 1, false), (1, 1, false)], true, 2, 32, [.int .i64 0, .slice none 0 0]⟩, some ⟨.int .i64, false, 1, 8, [.int .i64 0]⟩, none, some ⟨.bas, false, 1, 8, [.nilFunc]⟩, some ⟨.struct [(0, 1, false), (1, 1, false), (2, 1, false), (3, 1, false)], true, 4, 32, [.int .i64 0, .int .i64 0, .int .i64 0, .int .i64 0]⟩, some ⟨.struct [(0, 1, false), (1, 1, false), (2, 1, false), (3, 1, false)], true, 4, 32, [.int .i64 0, .int .i64 0, .int .i64 0, .int .i64 0]⟩, none, some ⟨.bas, false, 1, 8, [.nilFunc]⟩, some ⟨.bas, false, 1, 8, [.nilFunc]⟩, some ⟨.bas, false, 1, 8, [.nilFunc]⟩, some ⟨.bas, false, 1, 8, [.nilFunc]⟩, some ⟨.bas, false, 1, 8, [.nilFunc]⟩, some ⟨.bas, false, 1, 8, [.nilFunc]⟩, some ⟨.bas, false, 1, 8, [.nilFunc]⟩, some ⟨.bas, false, 1, 8, [.nilFunc]⟩, some ⟨.bas, false, 1, 8, [.nilFunc]⟩, some ⟨.bas, false, 1, 8, [.nilFunc]⟩, some ⟨.bas, false, 1, 8, [.nilFunc]⟩, some ⟨.bas, false, 1, 8, [.nilFunc]⟩, some ⟨.bas, false, 1, 8, [.nilFunc]⟩, some ⟨.bas, false, 1, 8, [.nilFunc]⟩, some ⟨.slice 67, false, 1, 24, [.slice none 0 0]⟩, some ⟨.slice 3, false, 1, 24, [.slice none 0 0]⟩, some ⟨.struct [(0, 1, false), (1, 1, false)], true, 2, 32, [.int .i64 0, .slice none 0 0]⟩, some ⟨.struct [(0, 1, false), (1, 1, false)], true, 2, 32, [.int .i64 0, .slice none 0 0]⟩, some ⟨.struct [(0, 2, false), (2, 2, false)], true, 4, 64, [.int .i64 0, .slice none 0 0, .int .i64 0, .slice none 0 0]⟩, some ⟨.struct [(0, 2, false), (2, 2, false)], true, 4, 64, [.int .i64 0, .slice none 0 0, .int .i64 0, .slice none 0 0]⟩, some ⟨.struct [(0, 1, false), (1, 1, false), (2, 4, false)], true, 6, 96, [.slice none 0 0, .int .i64 0, .int .i64 0, .slice none 0 0, .int .i64 0, .slice none 0 0]⟩, some ⟨.struct [(0, 1, false), (1, 1, false), (2, 4, false)], true, 6, 96, [.slice none 0 0, .int .i64 0, .int .i64 0, .slice none 0 0, .int .i64 0, .slice none 0 0]⟩, some ⟨.struct [(0, 1, false), (1, 4, false)], true, 5, 72, [.int .i64 0, .int .i64 0, .slice none 0 0, .int .i64 0, .slice none 0 0]⟩, some ⟨.struct [(0, 1, false), (1, 4, false)], true, 5, 72, [.int .i64 0, .int .i64 0, .slice none 0 0, .int .i64 0, .slice none 0 0]⟩, some ⟨.struct [(0, 1, false), (1, 1, false), (2, 1, false), (3, 1, false)], true, 4, 32, [.int .i64 0, .int .i64 0, .int .i64 0, .int .i64 0]⟩, some ⟨.struct [(0, 1, false), (1, 1, false), (2, 1, false), (3, 1, false)], true, 4, 32, [.int .i64 0, .int .i64 0, .int .i64 0, .int .i64 0]⟩, some ⟨.bas, false, 1, 8, [.nilFunc]⟩, some ⟨.struct [(0, 1, false), (1, 1, false)], true, 2, 16, [.int .i64 0, .int .i64 0]⟩, some ⟨.struct [(0, 1, false), (1, 1, false)], true, 2, 16, [.int .i64 0, .int .i64 0]⟩, some ⟨.struct [(0, 1, false), (1, 1, false), (2, 1, false), (3, 1, false), (4, 1, false), (5, 1, false)], true, 6, 48, [.int .i64 0, .int .i64 0, .int .i64 0, .int .i64 0, .int .i64 0, .bool false]⟩, some ⟨.struct [(0, 1, false), (1, 1, false), (2, 1, false), (3, 1, false), (4, 1, false), (5, 1, false)], true, 6, 48, [.int .i64 0, .int .i64 0, .int .i64 0, .int .i64 0, .int .i64 0, .bool false]⟩, some ⟨.bas, false, 1, 8, [.nilFunc]⟩, none, some ⟨.bas, false, 1, 8, [.nilFunc]⟩, some ⟨.bas, false, 1, 8, [.nilFunc]⟩, some ⟨.bas, false, 1, 8, [.nilFunc]⟩, some ⟨.bas, false, 1, 8, [.nilFunc]⟩, some ⟨.bas, false, 1, 8, [.nilFunc]⟩, some ⟨.bas, false, 1, 8, [.nilFunc]⟩, some ⟨.bas, false, 1, 8, [.nilFunc]⟩, some ⟨.slice 42, false, 1, 24, [.slice none 0 0]⟩, some ⟨.struct [(0, 8, false), (8, 1, false), (9, 1, false)], true, 10, 192, [.int .i64 0, .int .i64 0, .int .i64 0, .slice none 0 0, .slice none 0 0, .slice none 0 0, .slice none 0 0, .slice none 0 0, .slice none 0 0, .slice none 0 0]⟩, some ⟨.struct [(0, 8, false), (8, 1, false), (9, 1, false)], true, 10, 192, [.int .i64 0, .int .i64 0, .int .i64 0, .slice none 0 0, .slice none 0 0, .slice none 0 0, .slice none 0 0, .slice none 0 0, .slice none 0 0, .slice none 0 0]⟩, some ⟨.bas, false, 1, 8, [.pointer none]⟩, some ⟨.bas, false, 1, 8, [.nilFunc]⟩, some ⟨.bas, false, 1, 8, [.nilFunc]⟩, some ⟨.struct [(0, 1, false), (1, 1, false)], true, 2, 48, [.slice none 0 0, .slice none 0 0]⟩, some ⟨.struct [(0, 1, false), (1, 1, false)], true, 2, 48, [.slice none 0 0, .slice none 0 0]⟩, some ⟨.bas, false, 1, 8, [.pointer none]⟩, some ⟨.bas, false, 1, 8, [.nilFunc]⟩, some ⟨.bas, false, 1, 8, [.nilFunc]⟩, some ⟨.bas, false, 1, 8, [.nilFunc]⟩, some ⟨.bas, false, 1, 8, [.nilFunc]⟩, some ⟨.bas, false, 1, 8, [.nilFunc]⟩, some ⟨.bas, false, 1, 8, [.nilFunc]⟩, some ⟨.bas, false, 1, 8, [.nilFunc]⟩, some ⟨.bas, false, 1, 8, [.nilFunc]⟩, some ⟨.bas, false, 1, 8, [.nilFunc]⟩, some ⟨.bas, false, 1, 8, [.nilFunc]⟩, some ⟨.bas, false, 1, 8, [.nilFunc]⟩, some ⟨.bas, false, 1, 8, [.nilFunc]⟩, some ⟨.slice 30, false, 1, 24, [.slice none 0 0]⟩, some ⟨.bas, false, 1, 8, [.nilFunc]⟩, some ⟨.bas, false, 1, 8, [.nilFunc]⟩, some ⟨.bas, false, 1, 8, [.nilFunc]⟩, some ⟨.bas, false, 1, 8, [.nilFunc]⟩, some ⟨.bas, false, 1, 8, [.nilFunc]⟩, some ⟨.bas, false, 1, 8, [.nilFunc]⟩, some ⟨.bas, false, 1, 8, [.nilFunc]⟩, some ⟨.bas, false, 1, 8, [.nilFunc]⟩, none, some ⟨.bas, false, 1, 8, [.nilFunc]⟩, some ⟨.bas, false, 1, 8, [.nilFunc]⟩, none, some ⟨.bas, false, 1, 8, [.nilFunc]⟩, some ⟨.struct [(0, 1, false), (1, 1, false), (2, 1, false), (3, 1, false), (4, 1, false), (5, 1, false)], true, 6, 48, [.int .i64 0, .int .i64 0, .int .i64 0, .int .i64 0, .int .i64 0, .int .i64 0]⟩, some ⟨.struct [(0, 1, false), (1, 1, false), (2, 1, false), (3, 1, false), (4, 1, false), (5, 1, false)], true, 6, 48, [.int .i64 0, .int .i64 0, .int .i64 0, .int .i64 0, .int .i64 0, .int .i64 0]⟩, none, some ⟨.bas, false, 1, 8, [.nilFunc]⟩, some ⟨.bas, false, 1, 8, [.nilFunc]⟩, some ⟨.struct [(0, 1, false), (1, 1, false), (2, 1, false)], true, 3, 24, [.int .i64 0, .int .i64 0, .int .i64 0]⟩, some ⟨.struct [(0, 1, false), (1, 1, false), (2, 1, false)], true, 3, 24, [.int .i64 0, .int .i64 0, .int .i64 0]⟩, some ⟨.bas, false, 1, 8, [.nilFunc]⟩, some ⟨.bas, false, 1, 8, [.nilFunc]⟩, some ⟨.bas, false, 1, 8, [.nilFunc]⟩, some ⟨.bas, false, 1, 8, [.nilFunc]⟩, some ⟨.bas, false, 1, 8, [.nilFunc]⟩, some ⟨.bas, false, 1, 8, [.nilFunc]⟩, some ⟨.bas, false, 1, 8, [.nilFunc]⟩, some ⟨.arr 2 3, true, 2, 16, [.int .i64 0, .int .i64 0]⟩, some ⟨.slice 133, false, 1, 24, [.slice none 0 0]⟩, some ⟨.bas, false, 1, 8, [.nilFunc]⟩, some ⟨.bas, false, 1, 8, [.nilFunc]⟩, some ⟨.bas, false, 1, 8, [.nilFunc]⟩, some ⟨.bas, false, 1, 8, [.nilFunc]⟩, some ⟨.bas, false, 1, 8, [.nilFunc]⟩, some ⟨.bas, false, 1, 8, [.nilFunc]⟩, none, some ⟨.bas, false, 1, 8, [.nilFunc]⟩, some ⟨.bas, false, 1, 8, [.nilFunc]⟩, some ⟨.bas, false, 1, 8, [.nilFunc]⟩, some ⟨.bas, false, 1, 8, [.nilFunc]⟩, some ⟨.bas, false, 1, 8, [.nilFunc]⟩, some ⟨.bas, false, 1, 8, [.nilFunc]⟩, some ⟨.bas, false, 1, 8, [.nilFunc]⟩, some ⟨.bas, false, 1, 8, [.nilFunc]⟩, some ⟨.bas, false, 1, 8, [.nilFunc]⟩, some ⟨.bas, false, 1, 8, [.nilFunc]⟩, some ⟨.bas, false, 1, 8, [.nilFunc]⟩, some ⟨.bas, false, 1, 8, [.nilFunc]⟩, some ⟨.bas, false, 1, 8, [.nilFunc]⟩, some ⟨.bas, false, 1, 8, [.nilFunc]⟩, some ⟨.bas, false, 1, 8, [.nilFunc]⟩, some ⟨.bas, false, 1, 8, [.nilFunc]⟩, none, some ⟨.bas, false, 1, 8, [.nilFunc]⟩, some ⟨.bas, false, 1, 8, [.nilFunc]⟩, some ⟨.bas, false, 1, 8, [.nilFunc]⟩, some ⟨.bas, false, 1, 8, [.nilFunc]⟩, some ⟨.bas, false, 1, 8, [.nilFunc]⟩, some ⟨.bas, false, 1, 8, [.nilFunc]⟩, some ⟨.int .u64, false, 1, 8, [.int .u64 0]⟩, some ⟨.int .u64, false, 1, 8, [.int .u64 0]⟩, some ⟨.bas, false, 1, 8, [.nilFunc]⟩, some ⟨.bas, false, 1, 8, [.nilFunc]⟩, none, some ⟨.bas, false, 1, 8, [.nilFunc]⟩, some ⟨.bas, false, 1, 8, [.nilFunc]⟩, none, some ⟨.bas, false, 1, 8, [.nilFunc]⟩, some ⟨.bas, false, 1, 8, [.nilFunc]⟩, some ⟨.bas, false, 1, 8, [.nilFunc]⟩, some ⟨.bas, false, 1, 8, [.nilFunc]⟩, none, none, some ⟨.arr 0 16, true, 0, 0, []⟩, some ⟨.struct [(0, 0, false)], true, 0, 0, []⟩, some ⟨.struct [(0, 0, false)], true, 0, 0, []⟩, some ⟨.bas, false, 1, 8, [.nilFunc]⟩, some ⟨.int .u32, false, 1, 4, [.int .u32 0]⟩, some ⟨.int .u8, false, 1, 1, [.int .u8 0]⟩, some ⟨.int .u8, false, 1, 1, [.int .u8 0]⟩, some ⟨.bas, false, 1, 8, [.nilFunc]⟩, some ⟨.bas, false, 1, 8, [.pointer none]⟩, some ⟨.int .i32, false, 1, 4, [.int .i32 0]⟩, some ⟨.int .i32, false, 1, 4, [.int .i32 0]⟩, some ⟨.struct [(0, 1, false), (1, 1, false), (2, 1, false), (3, 1, false), (4, 1, false), (5, 1, false), (6, 1, false), (7, 1, false), (8, 1, false), (9, 1, false), (10, 1, false)], true, 11, 48, [.int .u64 0, .int .u64 0, .int .u32 0, .int .u8 0, .int .u8 0, .int .u8 0, .int .u8 0, .nilFunc, .pointer none, .int .i32 0, .int .i32 0]⟩, some ⟨.struct [(0, 1, false), (1, 1, false), (2, 1, false), (3, 1, false), (4, 1, false), (5, 1, false), (6, 1, false), (7, 1, false), (8, 1, false), (9, 1, false), (10, 1, false)], true, 11, 48, [.int .u64 0, .int .u64 0, .int .u32 0, .int .u8 0, .int .u8 0, .int .u8 0, .int .u8 0, .nilFunc, .pointer none, .int .i32 0, .int .i32 0]⟩, none]
def tab : Tab := fun t => tabL.getD t none
theorem td1 : TDok Go.Proofs.Tryz.prog 1 ⟨.bas, false, 1, 8, [.nilFunc]⟩ := td_of (by kernel_rfl) rfl (by kernel_rfl) rfl rfl
theorem td2 : TDok Go.Proofs.Tryz.prog 2 ⟨.int .i64, false, 1, 8, [.int .i64 0]⟩ := td_of (by kernel_rfl) rfl (by kernel_rfl) rfl rfl
theorem td3 : TDok Go.Proofs.Tryz.prog 3 ⟨.int .i64, false, 1, 8, [.int .i64 0]⟩ := td_of (by kernel_rfl) rfl (by kernel_rfl) rfl rfl
theorem td4 : TDok Go.Proofs.Tryz.prog 4 ⟨.bool, false, 1, 1, [.bool false]⟩ := td_of (by kernel_rfl) rfl (by kernel_rfl) rfl rfl
theorem td5 : TDok Go.Proofs.Tryz.prog 5 ⟨.int .u8, false, 1, 1, [.int .u8 0]⟩ := td_of (by kernel_rfl) rfl (by kernel_rfl) rfl rfl
theorem td6 : TDok Go.Proofs.Tryz.prog 6 ⟨.int .u8, false, 1, 1, [.int .u8 0]⟩ := td_of (by kernel_rfl) rfl (by kernel_rfl) rfl rfl
theorem td7 : TDok Go.Proofs.Tryz.prog 7 ⟨.struct [(0, 1, false), (1, 1, false), (2, 1, false), (3, 1, false)], true, 4, 24, [.int .i64 0, .int .i64 0, .bool false, .int .u8 0]⟩ := td_of (by kernel_rfl) rfl (by kernel_rfl) rfl rfl
theorem td8 : TDok Go.Proofs.Tryz.prog 8 ⟨.struct [(0, 1, false), (1, 1, false), (2, 1, false), (3, 1, false)], true, 4, 24, [.int .i64 0, .int .i64 0, .bool false, .int .u8 0]⟩ := td_of (by kernel_rfl) rfl (by kernel_rfl) rfl rfl
theorem td12 : TDok Go.Proofs.Tryz.prog 12 ⟨.int .u64, false, 1, 8, [.int .u64 0]⟩ := td_of (by kernel_rfl) rfl (by kernel_rfl) rfl rfl
theorem td15 : TDok Go.Proofs.Tryz.prog 15 ⟨.bas, false, 1, 8, [.pointer none]⟩ := td_of (by kernel_rfl) rfl (by kernel_rfl) rfl rfl
theorem td16 : TDok Go.Proofs.Tryz.prog 16 ⟨.bas, false, 1, 8, [.pointer none]⟩ := td_of (by kernel_rfl) rfl (by kernel_rfl) rfl rfl
theorem td17 : TDok Go.Proofs.Tryz.prog 17 ⟨.bas, false, 1, 8, [.pointer none]⟩ := td_of (by kernel_rfl) rfl (by kernel_rfl) rfl rfl
theorem td18 : TDok Go.Proofs.Tryz.prog 18 ⟨.struct [(0, 1, false)], true, 1, 8, [.pointer none]⟩ := td_of (by kernel_rfl) rfl (by kernel_rfl) rfl rfl
theorem td19 : TDok Go.Proofs.Tryz.prog 19 ⟨.struct [(0, 1, false)], true, 1, 8, [.pointer none]⟩ := td_of (by kernel_rfl) rfl (by kernel_rfl) rfl rfl
theorem td21 : TDok Go.Proofs.Tryz.prog 21 ⟨.int .i32, false, 1, 4, [.int .i32 0]⟩ := td_of (by kernel_rfl) rfl (by kernel_rfl) rfl rfl
theorem td22 : TDok Go.Proofs.Tryz.prog 22 ⟨.slice 125, false, 1, 24, [.slice none 0 0]⟩ := td_of (by kernel_rfl) rfl (by kernel_rfl) rfl rfl
theorem td23 : TDok Go.Proofs.Tryz.prog 23 ⟨.slice 74, false, 1, 24, [.slice none 0 0]⟩ := td_of (by kernel_rfl) rfl (by kernel_rfl) rfl rfl
theorem td24 : TDok Go.Proofs.Tryz.prog 24 ⟨.slice 120, false, 1, 24, [.slice none 0 0]⟩ := td_of (by kernel_rfl) rfl (by kernel_rfl) rfl rfl
theorem td25 : TDok Go.Proofs.Tryz.prog 25 ⟨.slice 72, false, 1, 24, [.slice none 0 0]⟩ := td_of (by kernel_rfl) rfl (by kernel_rfl) rfl rfl
theorem td26 : TDok Go.Proofs.Tryz.prog 26 ⟨.slice 69, false, 1, 24, [.slice none 0 0]⟩ := td_of (by kernel_rfl) rfl (by kernel_rfl) rfl rfl
theorem td27 : TDok Go.Proofs.Tryz.prog 27 ⟨.struct [(0, 1, false), (1, 1, false), (2, 1, false), (3, 1, false), (4, 1, false), (5, 1, false), (6, 1, false), (7, 1, false)], true, 8, 144, [.int .i64 0, .int .i64 0, .int .i64 0, .slice none 0 0, .slice none 0 0, .slice none 0 0, .slice none 0 0, .slice none 0 0]⟩ := td_of (by kernel_rfl) rfl (by kernel_rfl) rfl rfl
theorem td28 : TDok Go.Proofs.Tryz.prog 28 ⟨.struct [(0, 1, false), (1, 1, false), (2, 1, false), (3, 1, false), (4, 1, false), (5, 1, false), (6, 1, false), (7, 1, false)], true, 8, 144, [.int .i64 0, .int .i64 0, .int .i64 0, .slice none 0 0, .slice none 0 0, .slice none 0 0, .slice none 0 0, .slice none 0 0]⟩ := td_of (by kernel_rfl) rfl (by kernel_rfl) rfl rfl
theorem td29 : TDok Go.Proofs.Tryz.prog 29 ⟨.slice 30, false, 1, 24, [.slice none 0 0]⟩ := td_of (by kernel_rfl) rfl (by kernel_rfl) rfl rfl
theorem td30 : TDok Go.Proofs.Tryz.prog 30 ⟨.slice 63, false, 1, 24, [.slice none 0 0]⟩ := td_of (by kernel_rfl) rfl (by kernel_rfl) rfl rfl
theorem td31 : TDok Go.Proofs.Tryz.prog 31 ⟨.bas, false, 1, 8, [.nilFunc]⟩ := td_of (by kernel_rfl) rfl (by kernel_rfl) rfl rfl
theorem td32 : TDok Go.Proofs.Tryz.prog 32 ⟨.bas, false, 1, 8, [.nilFunc]⟩ := td_of (by kernel_rfl) rfl (by kernel_rfl) rfl rfl
theorem td33 : TDok Go.Proofs.Tryz.prog 33 ⟨.bas, false, 1, 8, [.nilFunc]⟩ := td_of (by kernel_rfl) rfl (by kernel_rfl) rfl rfl
theorem td34 : TDok Go.Proofs.Tryz.prog 34 ⟨.bas, false, 1, 8, [.nilFunc]⟩ := td_of (by kernel_rfl) rfl (by kernel_rfl) rfl rfl
theorem td35 : TDok Go.Proofs.Tryz.prog 35 ⟨.slice 65, false, 1, 24, [.slice none 0 0]⟩ := td_of (by kernel_rfl) rfl (by kernel_rfl) rfl rfl
theorem td36 : TDok Go.Proofs.Tryz.prog 36 ⟨.struct [(0, 1, false), (1, 1, false)], true, 2, 32, [.int .i64 0, .slice none 0 0]⟩ := td_of (by kernel_rfl) rfl (by kernel_rfl) rfl rfl
theorem td37 : TDok Go.Proofs.Tryz.prog 37 ⟨.struct [(0, 1, false), (1, 1, false)], true, 2, 32, [.int .i64 0, .slice none 0 0]⟩ := td_of (by kernel_rfl) rfl (by kernel_rfl) rfl rfl
theorem td38 : TDok Go.Proofs.Tryz.prog 38 ⟨.int .i64, false, 1, 8, [.int .i64 0]⟩ := td_of (by kernel_rfl) rfl (by kernel_rfl) rfl rfl
theorem td40 : TDok Go.Proofs.Tryz.prog 40 ⟨.bas, false, 1, 8, [.nilFunc]⟩ := td_of (by kernel_rfl) rfl (by kernel_rfl) rfl rfl
theorem td41 : TDok Go.Proofs.Tryz.prog 41 ⟨.struct [(0, 1, false), (1, 1, false), (2, 1, false), (3, 1, false)], true, 4, 32, [.int .i64 0, .int .i64 0, .int .i64 0, .int .i64 0]⟩ := td_of (by kernel_rfl) rfl (by kernel_rfl) rfl rfl
theorem td42 : TDok Go.Proofs.Tryz.prog 42 ⟨.struct [(0, 1, false), (1, 1, false), (2, 1, false), (3, 1, false)], true, 4, 32, [.int .i64 0, .int .i64 0, .int .i64 0, .int .i64 0]⟩ := td_of (by kernel_rfl) rfl (by kernel_rfl) rfl rfl
theorem td44 : TDok Go.Proofs.Tryz.prog 44 ⟨.bas, false, 1, 8, [.nilFunc]⟩ := td_of (by kernel_rfl) rfl (by kernel_rfl) rfl rfl
theorem td45 : TDok Go.Proofs.Tryz.prog 45 ⟨.bas, false, 1, 8, [.nilFunc]⟩ := td_of (by kernel_rfl) rfl (by kernel_rfl) rfl rfl
theorem td46 : TDok Go.Proofs.Tryz.prog 46 ⟨.bas, false, 1, 8, [.nilFunc]⟩ := td_of (by kernel_rfl) rfl (by kernel_rfl) rfl rfl
theorem td47 : TDok Go.Proofs.Tryz.prog 47 ⟨.bas, false, 1, 8, [.nilFunc]⟩ := td_of (by kernel_rfl) rfl (by kernel_rfl) rfl rfl
theorem td48 : TDok Go.Proofs.Tryz.prog 48 ⟨.bas, false, 1, 8, [.nilFunc]⟩ := td_of (by kernel_rfl) rfl (by kernel_rfl) rfl rfl
theorem td49 : TDok Go.Proofs.Tryz.prog 49 ⟨.bas, false, 1, 8, [.nilFunc]⟩ := td_of (by kernel_rfl) rfl (by kernel_rfl) rfl rfl
theorem td50 : TDok Go.Proofs.Tryz.prog 50 ⟨.bas, false, 1, 8, [.nilFunc]⟩ := td_of (by kernel_rfl) rfl (by kernel_rfl) rfl rfl
theorem td51 : TDok Go.Proofs.Tryz.prog 51 ⟨.bas, false, 1, 8, [.nilFunc]⟩ := td_of (by kernel_rfl) rfl (by kernel_rfl) rfl rfl
theorem td52 : TDok Go.Proofs.Tryz.prog 52 ⟨.bas, false, 1, 8, [.nilFunc]⟩ := td_of (by kernel_rfl) rfl (by kernel_rfl) rfl rfl
theorem td53 : TDok Go.Proofs.Tryz.prog 53 ⟨.bas, false, 1, 8, [.nilFunc]⟩ := td_of (by kernel_rfl) rfl (by kernel_rfl) rfl rfl
theorem td54 : TDok Go.Proofs.Tryz.prog 54 ⟨.bas, false, 1, 8, [.nilFunc]⟩ := td_of (by kernel_rfl) rfl (by kernel_rfl) rfl rfl
theorem td55 : TDok Go.Proofs.Tryz.prog 55 ⟨.bas, false, 1, 8, [.nilFunc]⟩ := td_of (by kernel_rfl) rfl (by kernel_rfl) rfl rfl
theorem td56 : TDok Go.Proofs.Tryz.prog 56 ⟨.bas, false, 1, 8, [.nilFunc]⟩ := td_of (by kernel_rfl) rfl (by kernel_rfl) rfl rfl
theorem td57 : TDok Go.Proofs.Tryz.prog 57 ⟨.bas, false, 1, 8, [.nilFunc]⟩ := td_of (by kernel_rfl) rfl (by kernel_rfl) rfl rfl
theorem td58 : TDok Go.Proofs.Tryz.prog 58 ⟨.slice 67, false, 1, 24, [.slice none 0 0]⟩ := td_of (by kernel_rfl) rfl (by kernel_rfl) rfl rfl
theorem td59 : TDok Go.Proofs.Tryz.prog 59 ⟨.slice 3, false, 1, 24, [.slice none 0 0]⟩ := td_of (by kernel_rfl) rfl (by kernel_rfl) rfl rfl
theorem td60 : TDok Go.Proofs.Tryz.prog 60 ⟨.struct [(0, 1, false), (1, 1, false)], true, 2, 32, [.int .i64 0, .slice none 0 0]⟩ := td_of (by kernel_rfl) rfl (by kernel_rfl) rfl rfl
theorem td61 : TDok Go.Proofs.Tryz.prog 61 ⟨.struct [(0, 1, false), (1, 1, false)], true, 2, 32, [.int .i64 0, .slice none 0 0]⟩ := td_of (by kernel_rfl) rfl (by kernel_rfl) rfl rfl
theorem td62 : TDok Go.Proofs.Tryz.prog 62 ⟨.struct [(0, 2, false), (2, 2, false)], true, 4, 64, [.int .i64 0, .slice none 0 0, .int .i64 0, .slice none 0 0]⟩ := td_of (by kernel_rfl) rfl (by kernel_rfl) rfl rfl
theorem td63 : TDok Go.Proofs.Tryz.prog 63 ⟨.struct [(0, 2, false), (2, 2, false)], true, 4, 64, [.int .i64 0, .slice none 0 0, .int .i64 0, .slice none 0 0]⟩ := td_of (by kernel_rfl) rfl (by kernel_rfl) rfl rfl
theorem td64 : TDok Go.Proofs.Tryz.prog 64 ⟨.struct [(0, 1, false), (1, 1, false), (2, 4, false)], true, 6, 96, [.slice none 0 0, .int .i64 0, .int .i64 0, .slice none 0 0, .int .i64 0, .slice none 0 0]⟩ := td_of (by kernel_rfl) rfl (by kernel_rfl) rfl rfl
theorem td65 : TDok Go.Proofs.Tryz.prog 65 ⟨.struct [(0, 1, false), (1, 1, false), (2, 4, false)], true, 6, 96, [.slice none 0 0, .int .i64 0, .int .i64 0, .slice none 0 0, .int .i64 0, .slice none 0 0]⟩ := td_of (by kernel_rfl) rfl (by kernel_rfl) rfl rfl
theorem td66 : TDok Go.Proofs.Tryz.prog 66 ⟨.struct [(0, 1, false), (1, 4, false)], true, 5, 72, [.int .i64 0, .int .i64 0, .slice none 0 0, .int .i64 0, .slice none 0 0]⟩ := td_of (by kernel_rfl) rfl (by kernel_rfl) rfl rfl
theorem td67 : TDok Go.Proofs.Tryz.prog 67 ⟨.struct [(0, 1, false), (1, 4, false)], true, 5, 72, [.int .i64 0, .int .i64 0, .slice none 0 0, .int .i64 0, .slice none 0 0]⟩ := td_of (by kernel_rfl) rfl (by kernel_rfl) rfl rfl
theorem td68 : TDok Go.Proofs.Tryz.prog 68 ⟨.struct [(0, 1, false), (1, 1, false), (2, 1, false), (3, 1, false)], true, 4, 32, [.int .i64 0, .int .i64 0, .int .i64 0, .int .i64 0]⟩ := td_of (by kernel_rfl) rfl (by kernel_rfl) rfl rfl
theorem td69 : TDok Go.Proofs.Tryz.prog 69 ⟨.struct [(0, 1, false), (1, 1, false), (2, 1, false), (3, 1, false)], true, 4, 32, [.int .i64 0, .int .i64 0, .int .i64 0, .int .i64 0]⟩ := td_of (by kernel_rfl) rfl (by kernel_rfl) rfl rfl
theorem td70 : TDok Go.Proofs.Tryz.prog 70 ⟨.bas, false, 1, 8, [.nilFunc]⟩ := td_of (by kernel_rfl) rfl (by kernel_rfl) rfl rfl
theorem td71 : TDok Go.Proofs.Tryz.prog 71 ⟨.struct [(0, 1, false), (1, 1, false)], true, 2, 16, [.int .i64 0, .int .i64 0]⟩ := td_of (by kernel_rfl) rfl (by kernel_rfl) rfl rfl
theorem td72 : TDok Go.Proofs.Tryz.prog 72 ⟨.struct [(0, 1, false), (1, 1, false)], true, 2, 16, [.int .i64 0, .int .i64 0]⟩ := td_of (by kernel_rfl) rfl (by kernel_rfl) rfl rfl
theorem td73 : TDok Go.Proofs.Tryz.prog 73 ⟨.struct [(0, 1, false), (1, 1, false), (2, 1, false), (3, 1, false), (4, 1, false), (5, 1, false)], true, 6, 48, [.int .i64 0, .int .i64 0, .int .i64 0, .int .i64 0, .int .i64 0, .bool false]⟩ := td_of (by kernel_rfl) rfl (by kernel_rfl) rfl rfl
theorem td74 : TDok Go.Proofs.Tryz.prog 74 ⟨.struct [(0, 1, false), (1, 1, false), (2, 1, false), (3, 1, false), (4, 1, false), (5, 1, false)], true, 6, 48, [.int .i64 0, .int .i64 0, .int .i64 0, .int .i64 0, .int .i64 0, .bool false]⟩ := td_of (by kernel_rfl) rfl (by kernel_rfl) rfl rfl
theorem td75 : TDok Go.Proofs.Tryz.prog 75 ⟨.bas, false, 1, 8, [.nilFunc]⟩ := td_of (by kernel_rfl) rfl (by kernel_rfl) rfl rfl
theorem td77 : TDok Go.Proofs.Tryz.prog 77 ⟨.bas, false, 1, 8, [.nilFunc]⟩ := td_of (by kernel_rfl) rfl (by kernel_rfl) rfl rfl
theorem td78 : TDok Go.Proofs.Tryz.prog 78 ⟨.bas, false, 1, 8, [.nilFunc]⟩ := td_of (by kernel_rfl) rfl (by kernel_rfl) rfl rfl
theorem td79 : TDok Go.Proofs.Tryz.prog 79 ⟨.bas, false, 1, 8, [.nilFunc]⟩ := td_of (by kernel_rfl) rfl (by kernel_rfl) rfl rfl
theorem td80 : TDok Go.Proofs.Tryz.prog 80 ⟨.bas, false, 1, 8, [.nilFunc]⟩ := td_of (by kernel_rfl) rfl (by kernel_rfl) rfl rfl
theorem td81 : TDok Go.Proofs.Tryz.prog 81 ⟨.bas, false, 1, 8, [.nilFunc]⟩ := td_of (by kernel_rfl) rfl (by kernel_rfl) rfl rfl
theorem td82 : TDok Go.Proofs.Tryz.prog 82 ⟨.bas, false, 1, 8, [.nilFunc]⟩ := td_of (by kernel_rfl) rfl (by kernel_rfl) rfl rfl
theorem td83 : TDok Go.Proofs.Tryz.prog 83 ⟨.bas, false, 1, 8, [.nilFunc]⟩ := td_of (by kernel_rfl) rfl (by kernel_rfl) rfl rfl
theorem td84 : TDok Go.Proofs.Tryz.prog 84 ⟨.slice 42, false, 1, 24, [.slice none 0 0]⟩ := td_of (by kernel_rfl) rfl (by kernel_rfl) rfl rfl
theorem td85 : TDok Go.Proofs.Tryz.prog 85 ⟨.struct [(0, 8, false), (8, 1, false), (9, 1, false)], true, 10, 192, [.int .i64 0, .int .i64 0, .int .i64 0, .slice none 0 0, .slice none 0 0, .slice none 0 0, .slice none 0 0, .slice none 0 0, .slice none 0 0, .slice none 0 0]⟩ := td_of (by kernel_rfl) rfl (by kernel_rfl) rfl rfl
theorem td86 : TDok Go.Proofs.Tryz.prog 86 ⟨.struct [(0, 8, false), (8, 1, false), (9, 1, false)], true, 10, 192, [.int .i64 0, .int .i64 0, .int .i64 0, .slice none 0 0, .slice none 0 0, .slice none 0 0, .slice none 0 0, .slice none 0 0, .slice none 0 0, .slice none 0 0]⟩ := td_of (by kernel_rfl) rfl (by kernel_rfl) rfl rfl
theorem td87 : TDok Go.Proofs.Tryz.prog 87 ⟨.bas, false, 1, 8, [.pointer none]⟩ := td_of (by kernel_rfl) rfl (by kernel_rfl) rfl rfl
theorem td88 : TDok Go.Proofs.Tryz.prog 88 ⟨.bas, false, 1, 8, [.nilFunc]⟩ := td_of (by kernel_rfl) rfl (by kernel_rfl) rfl rfl
theorem td89 : TDok Go.Proofs.Tryz.prog 89 ⟨.bas, false, 1, 8, [.nilFunc]⟩ := td_of (by kernel_rfl) rfl (by kernel_rfl) rfl rfl
theorem td90 : TDok Go.Proofs.Tryz.prog 90 ⟨.struct [(0, 1, false), (1, 1, false)], true, 2, 48, [.slice none 0 0, .slice none 0 0]⟩ := td_of (by kernel_rfl) rfl (by kernel_rfl) rfl rfl
theorem td91 : TDok Go.Proofs.Tryz.prog 91 ⟨.struct [(0, 1, false), (1, 1, false)], true, 2, 48, [.slice none 0 0, .slice none 0 0]⟩ := td_of (by kernel_rfl) rfl (by kernel_rfl) rfl rfl
theorem td92 : TDok Go.Proofs.Tryz.prog 92 ⟨.bas, false, 1, 8, [.pointer none]⟩ := td_of (by kernel_rfl) rfl (by kernel_rfl) rfl rfl
theorem td93 : TDok Go.Proofs.Tryz.prog 93 ⟨.bas, false, 1, 8, [.nilFunc]⟩ := td_of (by kernel_rfl) rfl (by kernel_rfl) rfl rfl
theorem td94 : TDok Go.Proofs.Tryz.prog 94 ⟨.bas, false, 1, 8, [.nilFunc]⟩ := td_of (by kernel_rfl) rfl (by kernel_rfl) rfl rfl
theorem td95 : TDok Go.Proofs.Tryz.prog 95 ⟨.bas, false, 1, 8, [.nilFunc]⟩ := td_of (by kernel_rfl) rfl (by kernel_rfl) rfl rfl
theorem td96 : TDok Go.Proofs.Tryz.prog 96 ⟨.bas, false, 1, 8, [.nilFunc]⟩ := td_of (by kernel_rfl) rfl (by kernel_rfl) rfl rfl
theorem td97 : TDok Go.Proofs.Tryz.prog 97 ⟨.bas, false, 1, 8, [.nilFunc]⟩ := td_of (by kernel_rfl) rfl (by kernel_rfl) rfl rfl
theorem td98 : TDok Go.Proofs.Tryz.prog 98 ⟨.bas, false, 1, 8, [.nilFunc]⟩ := td_of (by kernel_rfl) rfl (by kernel_rfl) rfl rfl
theorem td99 : TDok Go.Proofs.Tryz.prog 99 ⟨.bas, false, 1, 8, [.nilFunc]⟩ := td_of (by kernel_rfl) rfl (by kernel_rfl) rfl rfl
theorem td100 : TDok Go.Proofs.Tryz.prog 100 ⟨.bas, false, 1, 8, [.nilFunc]⟩ := td_of (by kernel_rfl) rfl (by kernel_rfl) rfl rfl
theorem td101 : TDok Go.Proofs.Tryz.prog 101 ⟨.bas, false, 1, 8, [.nilFunc]⟩ := td_of (by kernel_rfl) rfl (by kernel_rfl) rfl rfl
theorem td102 : TDok Go.Proofs.Tryz.prog 102 ⟨.bas, false, 1, 8, [.nilFunc]⟩ := td_of (by kernel_rfl) rfl (by kernel_rfl) rfl rfl
theorem td103 : TDok Go.Proofs.Tryz.prog 103 ⟨.bas, false, 1, 8, [.nilFunc]⟩ := td_of (by kernel_rfl) rfl (by kernel_rfl) rfl rfl
theorem td104 : TDok Go.Proofs.Tryz.prog 104 ⟨.bas, false, 1, 8, [.nilFunc]⟩ := td_of (by kernel_rfl) rfl (by kernel_rfl) rfl rfl
theorem td105 : TDok Go.Proofs.Tryz.prog 105 ⟨.slice 30, false, 1, 24, [.slice none 0 0]⟩ := td_of (by kernel_rfl) rfl (by kernel_rfl) rfl rfl
theorem td106 : TDok Go.Proofs.Tryz.prog 106 ⟨.bas, false, 1, 8, [.nilFunc]⟩ := td_of (by kernel_rfl) rfl (by kernel_rfl) rfl rfl
theorem td107 : TDok Go.Proofs.Tryz.prog 107 ⟨.bas, false, 1, 8, [.nilFunc]⟩ := td_of (by kernel_rfl) rfl (by kernel_rfl) rfl rfl
theorem td108 : TDok Go.Proofs.Tryz.prog 108 ⟨.bas, false, 1, 8, [.nilFunc]⟩ := td_of (by kernel_rfl) rfl (by kernel_rfl) rfl rfl
theorem td109 : TDok Go.Proofs.Tryz.prog 109 ⟨.bas, false, 1, 8, [.nilFunc]⟩ := td_of (by kernel_rfl) rfl (by kernel_rfl) rfl rfl
theorem td110 : TDok Go.Proofs.Tryz.prog 110 ⟨.bas, false, 1, 8, [.nilFunc]⟩ := td_of (by kernel_rfl) rfl (by kernel_rfl) rfl rfl
theorem td111 : TDok Go.Proofs.Tryz.prog 111 ⟨.bas, false, 1, 8, [.nilFunc]⟩ := td_of (by kernel_rfl) rfl (by kernel_rfl) rfl rfl
theorem td112 : TDok Go.Proofs.Tryz.prog 112 ⟨.bas, false, 1, 8, [.nilFunc]⟩ := td_of (by kernel_rfl) rfl (by kernel_rfl) rfl rfl
theorem td113 : TDok Go.Proofs.Tryz.prog 113 ⟨.bas, false, 1, 8, [.nilFunc]⟩ := td_of (by kernel_rfl) rfl (by kernel_rfl) rfl rfl
theorem td115 : TDok Go.Proofs.Tryz.prog 115 ⟨.bas, false, 1, 8, [.nilFunc]⟩ := td_of (by kernel_rfl) rfl (by kernel_rfl) rfl rfl
theorem td116 : TDok Go.Proofs.Tryz.prog 116 ⟨.bas, false, 1, 8, [.nilFunc]⟩ := td_of (by kernel_rfl) rfl (by kernel_rfl) rfl rfl
theorem td118 : TDok Go.Proofs.Tryz.prog 118 ⟨.bas, false, 1, 8, [.nilFunc]⟩ := td_of (by kernel_rfl) rfl (by kernel_rfl) rfl rfl
theorem td119 : TDok Go.Proofs.Tryz.prog 119 ⟨.struct [(0, 1, false), (1, 1, false), (2, 1, false), (3, 1, false), (4, 1, false), (5, 1, false)], true, 6, 48, [.int .i64 0, .int .i64 0, .int .i64 0, .int .i64 0, .int .i64 0, .int .i64 0]⟩ := td_of (by kernel_rfl) rfl (by kernel_rfl) rfl rfl
theorem td120 : TDok Go.Proofs.Tryz.prog 120 ⟨.struct [(0, 1, false), (1, 1, false), (2, 1, false), (3, 1, false), (4, 1, false), (5, 1, false)], true, 6, 48, [.int .i64 0, .int .i64 0, .int .i64 0, .int .i64 0, .int .i64 0, .int .i64 0]⟩ := td_of (by kernel_rfl) rfl (by kernel_rfl) rfl rfl
theorem td122 : TDok Go.Proofs.Tryz.prog 122 ⟨.bas, false, 1, 8, [.nilFunc]⟩ := td_of (by kernel_rfl) rfl (by kernel_rfl) rfl rfl
theorem td123 : TDok Go.Proofs.Tryz.prog 123 ⟨.bas, false, 1, 8, [.nilFunc]⟩ := td_of (by kernel_rfl) rfl (by kernel_rfl) rfl rfl
theorem td124 : TDok Go.Proofs.Tryz.prog 124 ⟨.struct [(0, 1, false), (1, 1, false), (2, 1, false)], true, 3, 24, [.int .i64 0, .int .i64 0, .int .i64 0]⟩ := td_of (by kernel_rfl) rfl (by kernel_rfl) rfl rfl
theorem td125 : TDok Go.Proofs.Tryz.prog 125 ⟨.struct [(0, 1, false), (1, 1, false), (2, 1, false)], true, 3, 24, [.int .i64 0, .int .i64 0, .int .i64 0]⟩ := td_of (by kernel_rfl) rfl (by kernel_rfl) rfl rfl
theorem td126 : TDok Go.Proofs.Tryz.prog 126 ⟨.bas, false, 1, 8, [.nilFunc]⟩ := td_of (by kernel_rfl) rfl (by kernel_rfl) rfl rfl
theorem td127 : TDok Go.Proofs.Tryz.prog 127 ⟨.bas, false, 1, 8, [.nilFunc]⟩ := td_of (by kernel_rfl) rfl (by kernel_rfl) rfl rfl
theorem td128 : TDok Go.Proofs.Tryz.prog 128 ⟨.bas, false, 1, 8, [.nilFunc]⟩ := td_of (by kernel_rfl) rfl (by kernel_rfl) rfl rfl
theorem td129 : TDok Go.Proofs.Tryz.prog 129 ⟨.bas, false, 1, 8, [.nilFunc]⟩ := td_of (by kernel_rfl) rfl (by kernel_rfl) rfl rfl
theorem td130 : TDok Go.Proofs.Tryz.prog 130 ⟨.bas, false, 1, 8, [.nilFunc]⟩ := td_of (by kernel_rfl) rfl (by kernel_rfl) rfl rfl
theorem td131 : TDok Go.Proofs.Tryz.prog 131 ⟨.bas, false, 1, 8, [.nilFunc]⟩ := td_of (by kernel_rfl) rfl (by kernel_rfl) rfl rfl
theorem td132 : TDok Go.Proofs.Tryz.prog 132 ⟨.bas, false, 1, 8, [.nilFunc]⟩ := td_of (by kernel_rfl) rfl (by kernel_rfl) rfl rfl
theorem td133 : TDok Go.Proofs.Tryz.prog 133 ⟨.arr 2 3, true, 2, 16, [.int .i64 0, .int .i64 0]⟩ := td_of (by kernel_rfl) rfl (by kernel_rfl) rfl rfl
theorem td134 : TDok Go.Proofs.Tryz.prog 134 ⟨.slice 133, false, 1, 24, [.slice none 0 0]⟩ := td_of (by kernel_rfl) rfl (by kernel_rfl) rfl rfl
theorem td135 : TDok Go.Proofs.Tryz.prog 135 ⟨.bas, false, 1, 8, [.nilFunc]⟩ := td_of (by kernel_rfl) rfl (by kernel_rfl) rfl rfl
theorem td136 : TDok Go.Proofs.Tryz.prog 136 ⟨.bas, false, 1, 8, [.nilFunc]⟩ := td_of (by kernel_rfl) rfl (by kernel_rfl) rfl rfl
theorem td137 : TDok Go.Proofs.Tryz.prog 137 ⟨.bas, false, 1, 8, [.nilFunc]⟩ := td_of (by kernel_rfl) rfl (by kernel_rfl) rfl rfl
theorem td138 : TDok Go.Proofs.Tryz.prog 138 ⟨.bas, false, 1, 8, [.nilFunc]⟩ := td_of (by kernel_rfl) rfl (by kernel_rfl) rfl rfl
theorem td139 : TDok Go.Proofs.Tryz.prog 139 ⟨.bas, false, 1, 8, [.nilFunc]⟩ := td_of (by kernel_rfl) rfl (by kernel_rfl) rfl rfl
theorem td140 : TDok Go.Proofs.Tryz.prog 140 ⟨.bas, false, 1, 8, [.nilFunc]⟩ := td_of (by kernel_rfl) rfl (by kernel_rfl) rfl rfl
theorem td142 : TDok Go.Proofs.Tryz.prog 142 ⟨.bas, false, 1, 8, [.nilFunc]⟩ := td_of (by kernel_rfl) rfl (by kernel_rfl) rfl rfl
theorem td143 : TDok Go.Proofs.Tryz.prog 143 ⟨.bas, false, 1, 8, [.nilFunc]⟩ := td_of (by kernel_rfl) rfl (by kernel_rfl) rfl rfl
theorem td144 : TDok Go.Proofs.Tryz.prog 144 ⟨.bas, false, 1, 8, [.nilFunc]⟩ := td_of (by kernel_rfl) rfl (by kernel_rfl) rfl rfl
theorem td145 : TDok Go.Proofs.Tryz.prog 145 ⟨.bas, false, 1, 8, [.nilFunc]⟩ := td_of (by kernel_rfl) rfl (by kernel_rfl) rfl rfl
theorem td146 : TDok Go.Proofs.Tryz.prog 146 ⟨.bas, false, 1, 8, [.nilFunc]⟩ := td_of (by kernel_rfl) rfl (by kernel_rfl) rfl rfl
theorem td147 : TDok Go.Proofs.Tryz.prog 147 ⟨.bas, false, 1, 8, [.nilFunc]⟩ := td_of (by kernel_rfl) rfl (by kernel_rfl) rfl rfl
theorem td148 : TDok Go.Proofs.Tryz.prog 148 ⟨.bas, false, 1, 8, [.nilFunc]⟩ := td_of (by kernel_rfl) rfl (by kernel_rfl) rfl rfl
theorem td149 : TDok Go.Proofs.Tryz.prog 149 ⟨.bas, false, 1, 8, [.nilFunc]⟩ := td_of (by kernel_rfl) rfl (by kernel_rfl) rfl rfl
theorem td150 : TDok Go.Proofs.Tryz.prog 150 ⟨.bas, false, 1, 8, [.nilFunc]⟩ := td_of (by kernel_rfl) rfl (by kernel_rfl) rfl rfl
theorem td151 : TDok Go.Proofs.Tryz.prog 151 ⟨.bas, false, 1, 8, [.nilFunc]⟩ := td_of (by kernel_rfl) rfl (by kernel_rfl) rfl rfl
theorem td152 : TDok Go.Proofs.Tryz.prog 152 ⟨.bas, false, 1, 8, [.nilFunc]⟩ := td_of (by kernel_rfl) rfl (by kernel_rfl) rfl rfl
theorem td153 : TDok Go.Proofs.Tryz.prog 153 ⟨.bas, false, 1, 8, [.nilFunc]⟩ := td_of (by kernel_rfl) rfl (by kernel_rfl) rfl rfl
theorem td154 : TDok Go.Proofs.Tryz.prog 154 ⟨.bas, false, 1, 8, [.nilFunc]⟩ := td_of (by kernel_rfl) rfl (by kernel_rfl) rfl rfl
theorem td155 : TDok Go.Proofs.Tryz.prog 155 ⟨.bas, false, 1, 8, [.nilFunc]⟩ := td_of (by kernel_rfl) rfl (by kernel_rfl) rfl rfl
theorem td156 : TDok Go.Proofs.Tryz.prog 156 ⟨.bas, false, 1, 8, [.nilFunc]⟩ := td_of (by kernel_rfl) rfl (by kernel_rfl) rfl rfl
theorem td157 : TDok Go.Proofs.Tryz.prog 157 ⟨.bas, false, 1, 8, [.nilFunc]⟩ := td_of (by kernel_rfl) rfl (by kernel_rfl) rfl rfl
theorem td159 : TDok Go.Proofs.Tryz.prog 159 ⟨.bas, false, 1, 8, [.nilFunc]⟩ := td_of (by kernel_rfl) rfl (by kernel_rfl) rfl rfl
theorem td160 : TDok Go.Proofs.Tryz.prog 160 ⟨.bas, false, 1, 8, [.nilFunc]⟩ := td_of (by kernel_rfl) rfl (by kernel_rfl) rfl rfl
theorem td161 : TDok Go.Proofs.Tryz.prog 161 ⟨.bas, false, 1, 8, [.nilFunc]⟩ := td_of (by kernel_rfl) rfl (by kernel_rfl) rfl rfl
theorem td162 : TDok Go.Proofs.Tryz.prog 162 ⟨.bas, false, 1, 8, [.nilFunc]⟩ := td_of (by kernel_rfl) rfl (by kernel_rfl) rfl rfl
theorem td163 : TDok Go.Proofs.Tryz.prog 163 ⟨.bas, false, 1, 8, [.nilFunc]⟩ := td_of (by kernel_rfl) rfl (by kernel_rfl) rfl rfl
theorem td164 : TDok Go.Proofs.Tryz.prog 164 ⟨.bas, false, 1, 8, [.nilFunc]⟩ := td_of (by kernel_rfl) rfl (by kernel_rfl) rfl rfl
theorem td165 : TDok Go.Proofs.Tryz.prog 165 ⟨.int .u64, false, 1, 8, [.int .u64 0]⟩ := td_of (by kernel_rfl) rfl (by kernel_rfl) rfl rfl
theorem td166 : TDok Go.Proofs.Tryz.prog 166 ⟨.int .u64, false, 1, 8, [.int .u64 0]⟩ := td_of (by kernel_rfl) rfl (by kernel_rfl) rfl rfl
theorem td167 : TDok Go.Proofs.Tryz.prog 167 ⟨.bas, false, 1, 8, [.nilFunc]⟩ := td_of (by kernel_rfl) rfl (by kernel_rfl) rfl rfl
theorem td168 : TDok Go.Proofs.Tryz.prog 168 ⟨.bas, false, 1, 8, [.nilFunc]⟩ := td_of (by kernel_rfl) rfl (by kernel_rfl) rfl rfl
theorem td170 : TDok Go.Proofs.Tryz.prog 170 ⟨.bas, false, 1, 8, [.nilFunc]⟩ := td_of (by kernel_rfl) rfl (by kernel_rfl) rfl rfl
theorem td171 : TDok Go.Proofs.Tryz.prog 171 ⟨.bas, false, 1, 8, [.nilFunc]⟩ := td_of (by kernel_rfl) rfl (by kernel_rfl) rfl rfl
theorem td173 : TDok Go.Proofs.Tryz.prog 173 ⟨.bas, false, 1, 8, [.nilFunc]⟩ := td_of (by kernel_rfl) rfl (by kernel_rfl) rfl rfl
theorem td174 : TDok Go.Proofs.Tryz.prog 174 ⟨.bas, false, 1, 8, [.nilFunc]⟩ := td_of (by kernel_rfl) rfl (by kernel_rfl) rfl rfl
theorem td175 : TDok Go.Proofs.Tryz.prog 175 ⟨.bas, false, 1, 8, [.nilFunc]⟩ := td_of (by kernel_rfl) rfl (by kernel_rfl) rfl rfl
theorem td176 : TDok Go.Proofs.Tryz.prog 176 ⟨.bas, false, 1, 8, [.nilFunc]⟩ := td_of (by kernel_rfl) rfl (by kernel_rfl) rfl rfl
theorem td179 : TDok Go.Proofs.Tryz.prog 179 ⟨.arr 0 16, true, 0, 0, []⟩ := td_of (by kernel_rfl) rfl (by kernel_rfl) rfl rfl
theorem td180 : TDok Go.Proofs.Tryz.prog 180 ⟨.struct [(0, 0, false)], true, 0, 0, []⟩ := td_of (by kernel_rfl) rfl (by kernel_rfl) rfl rfl
theorem td181 : TDok Go.Proofs.Tryz.prog 181 ⟨.struct [(0, 0, false)], true, 0, 0, []⟩ := td_of (by kernel_rfl) rfl (by kernel_rfl) rfl rfl
theorem td182 : TDok Go.Proofs.Tryz.prog 182 ⟨.bas, false, 1, 8, [.nilFunc]⟩ := td_of (by kernel_rfl) rfl (by kernel_rfl) rfl rfl
theorem td183 : TDok Go.Proofs.Tryz.prog 183 ⟨.int .u32, false, 1, 4, [.int .u32 0]⟩ := td_of (by kernel_rfl) rfl (by kernel_rfl) rfl rfl
theorem td184 : TDok Go.Proofs.Tryz.prog 184 ⟨.int .u8, false, 1, 1, [.int .u8 0]⟩ := td_of (by kernel_rfl) rfl (by kernel_rfl) rfl rfl
theorem td185 : TDok Go.Proofs.Tryz.prog 185 ⟨.int .u8, false, 1, 1, [.int .u8 0]⟩ := td_of (by kernel_rfl) rfl (by kernel_rfl) rfl rfl
theorem td186 : TDok Go.Proofs.Tryz.prog 186 ⟨.bas, false, 1, 8, [.nilFunc]⟩ := td_of (by kernel_rfl) rfl (by kernel_rfl) rfl rfl
theorem td187 : TDok Go.Proofs.Tryz.prog 187 ⟨.bas, false, 1, 8, [.pointer none]⟩ := td_of (by kernel_rfl) rfl (by kernel_rfl) rfl rfl
theorem td188 : TDok Go.Proofs.Tryz.prog 188 ⟨.int .i32, false, 1, 4, [.int .i32 0]⟩ := td_of (by kernel_rfl) rfl (by kernel_rfl) rfl rfl
theorem td189 : TDok Go.Proofs.Tryz.prog 189 ⟨.int .i32, false, 1, 4, [.int .i32 0]⟩ := td_of (by kernel_rfl) rfl (by kernel_rfl) rfl rfl
theorem td190 : TDok Go.Proofs.Tryz.prog 190 ⟨.struct [(0, 1, false), (1, 1, false), (2, 1, false), (3, 1, false), (4, 1, false), (5, 1, false), (6, 1, false), (7, 1, false), (8, 1, false), (9, 1, false), (10, 1, false)], true, 11, 48, [.int .u64 0, .int .u64 0, .int .u32 0, .int .u8 0, .int .u8 0, .int .u8 0, .int .u8 0, .nilFunc, .pointer none, .int .i32 0, .int .i32 0]⟩ := td_of (by kernel_rfl) rfl (by kernel_rfl) rfl rfl
theorem td191 : TDok Go.Proofs.Tryz.prog 191 ⟨.struct [(0, 1, false), (1, 1, false), (2, 1, false), (3, 1, false), (4, 1, false), (5, 1, false), (6, 1, false), (7, 1, false), (8, 1, false), (9, 1, false), (10, 1, false)], true, 11, 48, [.int .u64 0, .int .u64 0, .int .u32 0, .int .u8 0, .int .u8 0, .int .u8 0, .int .u8 0, .nilFunc, .pointer none, .int .i32 0, .int .i32 0]⟩ := td_of (by kernel_rfl) rfl (by kernel_rfl) rfl rfl
theorem tab_ok : TabOK Go.Proofs.Tryz.prog tab := tabok_of (l := tabL) (by kernel_rfl) ⟨td1, td2, td3, td4, td5, td6, td7, td8, td12, td15, td16, td17, td18, td19, td21, td22, td23, td24, td25, td26, td27, td28, td29, td30, td31, td32, td33, td34, td35, td36, td37, td38, td40, td41, td42, td44, td45, td46, td47, td48, td49, td50, td51, td52, td53, td54, td55, td56, td57, td58, td59, td60, td61, td62, td63, td64, td65, td66, td67, td68, td69, td70, td71, td72, td73, td74, td75, td77, td78, td79, td80, td81, td82, td83, td84, td85, td86, td87, td88, td89, td90, td91, td92, td93, td94, td95, td96, td97, td98, td99, td100, td101, td102, td103, td104, td105, td106, td107, td108, td109, td110, td111, td112, td113, td115, td116, td118, td119, td120, td122, td123, td124, td125, td126, td127, td128, td129, td130, td131, td132, td133, td134, td135, td136, td137, td138, td139, td140, td142, td143, td144, td145, td146, td147, td148, td149, td150, td151, td152, td153, td154, td155, td156, td157, td159, td160, td161, td162, td163, td164, td165, td166, td167, td168, td170, td171, td173, td174, td175, td176, td179, td180, td181, td182, td183, td184, td185, td186, td187, td188, td189, td190, td191, trivial⟩
end Go.Proofs.YtfieodjihaodiaaGreat
/- Plain data of the program (package api) as Lean structures, and what it means that a value reads as one in a world. No function of the program occurs here. -/
namespace Go.Proofs.YtfieodjihaodiaaGreat
open Go.RowKit

structure Place where
  kind : Int
  hh : Int
  mat : Int
structure Move where
  day : Int
  src : Int
  dst : Int
  scale : Int
  reading : Int
  all : Bool
structure Cert where
  scale : Int
  since : Int
  till : Int
  grams : Int
  permille : Int
  drift : Int
structure Recall where
  scale : Int
  since : Int
structure Purity where
  move : Int
  mat : Int
  least : Int
  most : Int
structure Ev where
  mats : Int
  hhs : Int
  scs : Int
  places : List Place
  moves : List Move
  certs : List Cert
  recalls : List Recall
  purities : List Purity

abbrev vi (n : Int) : Value := .int .i64 n
def Place.cells (p : Place) : List Value := [vi p.kind, vi p.hh, vi p.mat]
def Move.cells (m : Move) : List Value := [vi m.day, vi m.src, vi m.dst, vi m.scale, vi m.reading, .bool m.all]
def Cert.cells (c : Cert) : List Value := [vi c.scale, vi c.since, vi c.till, vi c.grams, vi c.permille, vi c.drift]
def Recall.cells (r : Recall) : List Value := [vi r.scale, vi r.since]
def Purity.cells (p : Purity) : List Value := [vi p.move, vi p.mat, vi p.least, vi p.most]

/-- The slice value of address A and length n reads as the list xs, whose elements have k cells each (f). -/
def Rd {α : Type} (k : Nat) (f : α → List Value) (w : World) (A : Option Addr) (n : Nat) (xs : List α) : Prop :=
  n = xs.length ∧ (0 < n → ∃ b off, A = some ⟨b, off, none⟩ ∧ ∀ i x, xs[i]? = some x → ∀ j u, (f x)[j]? = some u → w.cell? ⟨b, off + (i * k + j), none⟩ = some u)

theorem lt_of_cell {w : World} {b o : Nat} {u : Value} (h : w.cell? ⟨b, o, none⟩ = some u) : b < w.heap.size := World.block_lt_of_cell? w _ h

section
variable {α : Type} {k : Nat} {f : α → List Value} {w w' : World} {A : Option Addr} {n : Nat} {xs : List α}
theorem Rd.nil (A : Option Addr) : Rd k f w A 0 ([] : List α) := ⟨rfl, fun h => absurd h (by omega)⟩
theorem Rd.len (h : Rd k f w A n xs) : n = xs.length := h.1
theorem Rd.keep (h : Rd k f w A n xs) (hb : Below w.heap.size w w') : Rd k f w' A n xs :=
  ⟨h.1, fun hn => by
    obtain ⟨b, off, e, hc⟩ := h.2 hn
    refine ⟨b, off, e, fun i x hx j u hu => ?_⟩
    have hcc := hc i x hx j u hu
    exact (hb.cell (p := ⟨b, _, none⟩) (lt_of_cell hcc)).trans hcc⟩
/-- the cells of element i, behind the world's growth -/
theorem Rd.at_ (h : Rd k f w A xs.length xs) (hf : ∀ x, ∃ u, (f x)[0]? = some u) {i : Nat} (hi : i < xs.length) (hb : Below w.heap.size w w') :
    ∃ b off x, A = some ⟨b, off, none⟩ ∧ b < w.heap.size ∧ xs[i]? = some x ∧ ∀ j u, (f x)[j]? = some u → w'.cell? ⟨b, off + (i * k + j), none⟩ = some u := by
  obtain ⟨b, off, e, hc0⟩ := h.2 (by omega)
  obtain ⟨u0, hu0⟩ := hf xs[i]
  have hl : b < w.heap.size := lt_of_cell (hc0 i _ (List.getElem?_eq_getElem hi) 0 u0 hu0)
  obtain ⟨b', off', e', hc⟩ := (h.keep hb).2 (by omega)
  obtain ⟨rfl, rfl⟩ : b' = b ∧ off' = off := by
    rw [e] at e'
    simp at e'
    omega
  exact ⟨b', off', xs[i], e, hl, List.getElem?_eq_getElem hi, hc i _ (List.getElem?_eq_getElem hi)⟩
end

theorem Rd.place {w w' : World} {A : Option Addr} {xs : List Place} (h : Rd 3 Place.cells w A xs.length xs) {i : Nat} (hi : i < xs.length) (hb : Below w.heap.size w w') :
    ∃ b off x, A = some ⟨b, off, none⟩ ∧ b < w.heap.size ∧ xs[i]? = some x ∧ w'.cell? ⟨b, off + i * 3, none⟩ = some (vi x.kind) ∧ w'.cell? ⟨b, off + i * 3 + 1, none⟩ = some (vi x.hh) ∧ w'.cell? ⟨b, off + i * 3 + 2, none⟩ = some (vi x.mat) := by
  obtain ⟨b, off, x, e, hl, hx, hc⟩ := h.at_ (fun _ => ⟨_, rfl⟩) hi hb
  exact ⟨b, off, x, e, hl, hx, hc 0 _ rfl, hc 1 _ rfl, hc 2 _ rfl⟩
theorem Rd.move {w w' : World} {A : Option Addr} {xs : List Move} (h : Rd 6 Move.cells w A xs.length xs) {i : Nat} (hi : i < xs.length) (hb : Below w.heap.size w w') :
    ∃ b off x, A = some ⟨b, off, none⟩ ∧ b < w.heap.size ∧ xs[i]? = some x ∧ w'.cell? ⟨b, off + i * 6, none⟩ = some (vi x.day) ∧ w'.cell? ⟨b, off + i * 6 + 1, none⟩ = some (vi x.src) ∧ w'.cell? ⟨b, off + i * 6 + 2, none⟩ = some (vi x.dst) ∧
      w'.cell? ⟨b, off + i * 6 + 3, none⟩ = some (vi x.scale) ∧ w'.cell? ⟨b, off + i * 6 + 4, none⟩ = some (vi x.reading) ∧ w'.cell? ⟨b, off + i * 6 + 5, none⟩ = some (.bool x.all) := by
  obtain ⟨b, off, x, e, hl, hx, hc⟩ := h.at_ (fun _ => ⟨_, rfl⟩) hi hb
  exact ⟨b, off, x, e, hl, hx, hc 0 _ rfl, hc 1 _ rfl, hc 2 _ rfl, hc 3 _ rfl, hc 4 _ rfl, hc 5 _ rfl⟩
/-- ints: one cell each -/
abbrev Ri (w : World) (A : Option Addr) (n : Nat) (xs : List Int) : Prop := Rd 1 (fun x : Int => [vi x]) w A n xs
theorem Rd.int {w w' : World} {A : Option Addr} {xs : List Int} (h : Ri w A xs.length xs) {i : Nat} (hi : i < xs.length) (hb : Below w.heap.size w w') :
    ∃ b off, ∃ x : Int, A = some ⟨b, off, none⟩ ∧ b < w.heap.size ∧ xs[i]? = some x ∧ w'.cell? ⟨b, off + i, none⟩ = some (vi x) := by
  obtain ⟨b, off, x, e, hl, hx, hc⟩ := h.at_ (fun _ => ⟨_, rfl⟩) hi hb
  exact ⟨b, off, x, e, hl, hx, by have := hc 0 _ rfl; simpa using this⟩
abbrev Rb (w : World) (A : Option Addr) (n : Nat) (xs : List Bool) : Prop := Rd 1 (fun x : Bool => [.bool x]) w A n xs
theorem Rd.bool {w w' : World} {A : Option Addr} {xs : List Bool} (h : Rb w A xs.length xs) {i : Nat} (hi : i < xs.length) (hb : Below w.heap.size w w') :
    ∃ b off, ∃ x : Bool, A = some ⟨b, off, none⟩ ∧ b < w.heap.size ∧ xs[i]? = some x ∧ w'.cell? ⟨b, off + i, none⟩ = some (.bool x) := by
  obtain ⟨b, off, x, e, hl, hx, hc⟩ := h.at_ (fun _ => ⟨_, rfl⟩) hi hb
  exact ⟨b, off, x, e, hl, hx, by have := hc 0 _ rfl; simpa using this⟩

/-- The parts of a value of evidence read as e. -/
structure EvR (w : World) (m h s : Int) (A1 : Option Addr) (n1 : Nat) (A2 : Option Addr) (n2 : Nat) (A3 : Option Addr) (n3 : Nat) (A4 : Option Addr) (n4 : Nat) (A5 : Option Addr) (n5 : Nat) (e : Ev) : Prop where
  em : m = e.mats
  eh : h = e.hhs
  es : s = e.scs
  r1 : Rd 3 Place.cells w A1 n1 e.places
  r2 : Rd 6 Move.cells w A2 n2 e.moves
  r3 : Rd 6 Cert.cells w A3 n3 e.certs
  r4 : Rd 2 Recall.cells w A4 n4 e.recalls
  r5 : Rd 4 Purity.cells w A5 n5 e.purities
section
variable {w w' : World} {m h s : Int} {A1 A2 A3 A4 A5 : Option Addr} {n1 n2 n3 n4 n5 : Nat} {e : Ev}
theorem EvR.keep (hr : EvR w m h s A1 n1 A2 n2 A3 n3 A4 n4 A5 n5 e) (hb : Below w.heap.size w w') : EvR w' m h s A1 n1 A2 n2 A3 n3 A4 n4 A5 n5 e :=
  ⟨hr.em, hr.eh, hr.es, hr.r1.keep hb, hr.r2.keep hb, hr.r3.keep hb, hr.r4.keep hb, hr.r5.keep hb⟩
end

/-- the call returns a slice that reads as these numbers; old memory is as it was -/
def RetInts (w : World) (xs : List Int) (r : Ending) (w' : World) : Prop := ∃ A n c, r = .returned (.slice A n c) ∧ Ri w' A n xs ∧ (∀ ad, A = some ad → w.heap.size ≤ ad.block) ∧ Below w.heap.size w w'
theorem RetInts.nil {w w' : World} {c : Nat} (hb : Below w.heap.size w w') : RetInts w [] (.returned (.slice none 0 c)) w' := ⟨none, 0, c, rfl, Rd.nil none, (fun _ e => by cases e), hb⟩
theorem RetInts.mono {w w1 w' : World} {xs : List Int} {r : Ending} (h : RetInts w1 xs r w') (hb : Below w.heap.size w w1) : RetInts w xs r w' := by
  obtain ⟨A, n, c, e, hr, hf, hb1⟩ := h
  exact ⟨A, n, c, e, hr, fun ad ha => Nat.le_trans hb.size (hf ad ha), hb.trans (hb1.mono hb.size)⟩

theorem all_of_lt {α : Type} {xs : List α} {p : α → Bool} (h : ∀ j x, j < xs.length → xs[j]? = some x → p x = true) : xs.all p = true := by
  rw [List.all_eq_true]
  intro x hx
  obtain ⟨j, hj, e⟩ := List.getElem_of_mem hx
  exact h j x hj (by rw [List.getElem?_eq_getElem hj, e])
/-- what held before k, and at k, holds before k + 1 -/
def Upto {α : Type} (xs : List α) (p : α → Bool) (k : Nat) : Prop := ∀ j x, j < k → xs[j]? = some x → p x = true
theorem Upto.zero {α : Type} (xs : List α) (p : α → Bool) : Upto xs p 0 := fun _ _ h => absurd h (by omega)
theorem Upto.next {α : Type} {xs : List α} {p : α → Bool} {k : Nat} {x : α} (h : Upto xs p k) (hx : xs[k]? = some x) (hp : p x = true) : Upto xs p (k + 1) := by
  intro j y hj hy
  by_cases e : j = k
  · subst e
    rw [hx] at hy
    injection hy with hy
    exact hy ▸ hp
  · exact h j y (by omega) hy
theorem Upto.all {α : Type} {xs : List α} {p : α → Bool} {k : Nat} (h : Upto xs p k) (hk : xs.length ≤ k) : xs.all p = true :=
  all_of_lt fun j x hj hx => h j x (by omega) hx
end Go.Proofs.YtfieodjihaodiaaGreat
/- Chapter 14 in plain Lean: what flow.Check and its kin compute. No program in sight. -/
namespace Go.Proofs.YtfieodjihaodiaaGreat

def idx (a b : Int) : Bool := decide (0 ≤ a) && decide (a < b)
def btw (n lo hi : Int) : Bool := decide (lo ≤ n) && decide (n ≤ hi)
theorem btw_idx (a b : Int) : btw a 0 (b - 1) = idx a b := by
  unfold btw idx
  have : decide (a ≤ b - 1) = decide (a < b) := by simp; omega
  rw [this]
theorem idx_iff {a b : Int} : idx a b = true ↔ 0 ≤ a ∧ a < b := by simp [idx]
theorem btw_iff {a b c : Int} : btw a b c = true ↔ b ≤ a ∧ a ≤ c := by simp [btw]
def fullB (e : Ev) : Bool :=
  decide (6 < e.mats) || decide (100 < e.hhs) || decide (30 < e.scs) || decide (100 < e.places.length) || decide (200 < e.moves.length) ||
    decide (100 < e.certs.length) || decide (30 < e.recalls.length) || decide (200 < e.purities.length)
def placeOk (e : Ev) (p : Place) : Bool :=
  idx p.kind 7 && (if p.kind = 0 then idx p.hh e.hhs && idx p.mat e.mats else decide (p.hh = -1) && decide (p.mat = -1))
/-- the kind of a place (of none: -1) -/
def kindAt (e : Ev) (i : Int) : Int := ((e.places[i.toNat]?).map (·.kind)).getD (-1)
def moveOk (e : Ev) (m : Move) : Bool :=
  idx m.src e.places.length && idx m.dst e.places.length && decide (m.src ≠ m.dst) && decide (kindAt e m.src ≠ 5) && decide (kindAt e m.src ≠ 6) &&
    !(decide (kindAt e m.src = 0) && m.all) && decide (kindAt e m.dst ≠ 0) && (if m.scale = -1 then decide (m.reading = 0) else idx m.scale e.scs && btw m.reading 0 1099511627776)
def certOk (e : Ev) (c : Cert) : Bool :=
  decide (0 ≤ c.since) && decide (c.since ≤ c.till) && decide (c.till ≤ 100000) && idx c.scale e.scs && btw c.grams 0 1099511627776 && btw c.permille 0 1000 && btw c.drift 0 10000000
def recallOk (e : Ev) (r : Recall) : Bool := idx r.scale e.scs && btw r.since 0 100000
def purityOk (e : Ev) (p : Purity) : Bool :=
  idx p.move e.moves.length && idx p.mat e.mats && decide (0 ≤ p.least) && decide (p.least ≤ p.most) && decide (p.most ≤ 1000)
def saidOk (e : Ev) : Bool := e.certs.all (certOk e) && e.recalls.all (recallOk e) && e.purities.all (purityOk e)
/-- the error of the moves, the day of the one before being 'last' -/
def movesErr (e : Ev) : Int → List Move → Int
  | _, [] => 0
  | last, m :: r => if m.day < last ∨ 100000 < m.day then 17 else if moveOk e m then movesErr e m.day r else 1
def check (e : Ev) : Int :=
  if fullB e then 6 else if e.mats < 1 ∨ e.hhs < 0 ∨ e.scs < 0 ∨ e.places.all (placeOk e) = false then 1
  else if movesErr e 0 e.moves ≠ 0 then movesErr e 0 e.moves else if saidOk e then 0 else 1

theorem kindAt_of {e : Ev} {i : Nat} {p : Place} (h : e.places[i]? = some p) : kindAt e (i : Int) = p.kind := by
  simp [kindAt, h]
theorem movesErr_zero {e : Ev} {l : List Move} : ∀ {last : Int}, movesErr e last l = 0 → ∀ m ∈ l, moveOk e m = true := by
  induction l with
  | nil => intro last _ m hm; cases hm
  | cons m r ih =>
    intro last h x hx
    unfold movesErr at h
    split at h
    · simp at h
    · split at h
      · rename_i hmk
        rcases List.mem_cons.1 hx with rfl | hx
        · exact hmk
        · exact ih h x hx
      · simp at h
theorem check_zero {e : Ev} (h : check e = 0) : fullB e = false ∧ 1 ≤ e.mats ∧ 0 ≤ e.hhs ∧ 0 ≤ e.scs ∧ e.places.all (placeOk e) = true ∧ movesErr e 0 e.moves = 0 ∧ saidOk e = true := by
  unfold check at h
  by_cases h1 : fullB e = true
  · rw [if_pos h1] at h; simp at h
  rw [if_neg h1] at h
  by_cases h2 : e.mats < 1 ∨ e.hhs < 0 ∨ e.scs < 0 ∨ e.places.all (placeOk e) = false
  · rw [if_pos h2] at h; simp at h
  rw [if_neg h2] at h
  by_cases h3 : movesErr e 0 e.moves ≠ 0
  · rw [if_pos h3] at h; exact absurd h h3
  rw [if_neg h3] at h
  by_cases h4 : saidOk e = true
  · refine ⟨by simpa using h1, by omega, by omega, by omega, ?_, by simpa using h3, h4⟩
    rw [← Bool.not_eq_false]
    exact fun hq => h2 (.inr (.inr (.inr hq)))
  · rw [if_neg h4] at h; simp at h
theorem check_move {e : Ev} (h : check e = 0) {m : Move} (hm : m ∈ e.moves) : moveOk e m = true := movesErr_zero (check_zero h).2.2.2.2.2.1 m hm
theorem moveOk_src {e : Ev} {m : Move} (h : moveOk e m = true) : 0 ≤ m.src ∧ m.src < e.places.length := by
  simp [moveOk] at h
  exact idx_iff.1 h.1.1.1.1.1.1.1
theorem moveOk_dst {e : Ev} {m : Move} (h : moveOk e m = true) : 0 ≤ m.dst ∧ m.dst < e.places.length := by
  simp [moveOk] at h
  exact idx_iff.1 h.1.1.1.1.1.1.2

/-- the numbers (from k on) of those elements of a list that are of some sort -/
def pickFrom {α : Type} (p : Nat → α → Bool) : Nat → List α → List Int
  | _, [] => []
  | k, m :: r => if p k m then (k : Int) :: pickFrom p (k + 1) r else pickFrom p (k + 1) r
def into (e : Ev) (place upto : Int) : List Int := if check e = 0 then pickFrom (fun k m => decide ((k : Int) < upto) && decide (m.dst = place)) 0 e.moves else []
end Go.Proofs.YtfieodjihaodiaaGreat
/- The bound on sizes under which the walks over evidence are made. -/
namespace Go.Proofs.YtfieodjihaodiaaGreat
/-- what the walks ask of sizes (kerbsideref14.Few gives more) -/
structure Ev.Sized (e : Ev) : Prop where
  s1 : e.places.length ≤ 1000000
  s2 : e.moves.length ≤ 1000000
  s3 : e.certs.length ≤ 1000000
  s4 : e.recalls.length ≤ 1000000
  s5 : e.purities.length ≤ 1000000
end Go.Proofs.YtfieodjihaodiaaGreat
/- The program's data as trees, and small rules of the abstract machine. -/
namespace Go.Proofs.YtfieodjihaodiaaGreat
open Go.RowKit
set_option linter.unusedVariables false

abbrev ti (n : Int) : T := .atm (.int .i64 n)
abbrev tb (b : Bool) : T := .atm (.bool b)
def Place.row (p : Place) : List T := [ti p.kind, ti p.hh, ti p.mat]
def Move.row (m : Move) : List T := [ti m.day, ti m.src, ti m.dst, ti m.scale, ti m.reading, tb m.all]
def Cert.row (c : Cert) : List T := [ti c.scale, ti c.since, ti c.till, ti c.grams, ti c.permille, ti c.drift]
def Recall.row (r : Recall) : List T := [ti r.scale, ti r.since]
def Purity.row (p : Purity) : List T := [ti p.move, ti p.mat, ti p.least, ti p.most]
def intRow (n : Int) : List T := [ti n]
abbrev placesT (l : List Place) : T := .sl 3 .any (l.map Place.row)
abbrev movesT (l : List Move) : T := .sl 6 .any (l.map Move.row)
abbrev certsT (l : List Cert) : T := .sl 6 .any (l.map Cert.row)
abbrev recallsT (l : List Recall) : T := .sl 2 .any (l.map Recall.row)
abbrev puritiesT (l : List Purity) : T := .sl 4 .any (l.map Purity.row)
abbrev intsT (l : List Int) : T := .sl 1 .any (l.map intRow)
def evC (e : Ev) : List C := [.t (ti e.mats), .t (ti e.hhs), .t (ti e.scs), .t (placesT e.places), .t (movesT e.moves), .t (certsT e.certs), .t (recallsT e.recalls), .t (puritiesT e.purities)]
def evT (e : Ev) : List T := [ti e.mats, ti e.hhs, ti e.scs, placesT e.places, movesT e.moves, certsT e.certs, recallsT e.recalls, puritiesT e.purities]
abbrev evS (e : Ev) : S := .agg (evC e)
abbrev intsS (l : List Int) : S := .c (.t (intsT l))
def Place.cs (p : Place) : List C := p.row.map .t
def Move.cs (m : Move) : List C := m.row.map .t
abbrev moveS (m : Move) : S := .agg m.cs
abbrev evB (e : Ev) : Blk := newBlk 28 8 [evC e] true

theorem fin_bool {a b : Bool} {H1 : Hp} (h : a = b) : Fin 0 (boolS a) H1 (boolS b) [] := fin_t (by subst h; exact rfl)
theorem fin_int {a b : Int} {k : IntKind} {H1 : Hp} (h : a = b) : Fin 0 (intS k a) H1 (intS k b) [] := fin_t (by subst h; exact rfl)
theorem ent_t {x y : T} {ρ : List (Option Nat)} {H : Hp} (h : x = y) : EntS ρ H (.c (.t x)) (.c (.t y)) := weak_eq h
theorem ent_i {a b : Int} {k : IntKind} {ρ : List (Option Nat)} {H : Hp} (h : a = b) : EntS ρ H (intS k a) (intS k b) := by subst h; exact rfl
theorem rowsT_ev (e : Ev) : rowsT [evC e] := by simp [rowsT, evC, C.isT]
theorem vs_ev {H : Hp} {p : Nat → Prop} (e : Ev) : VS H p (evS e) (evS e) := vs_ts (evT e)
end Go.Proofs.YtfieodjihaodiaaGreat
/- More on picked numbers, in plain Lean. -/
namespace Go.Proofs.YtfieodjihaodiaaGreat

/-- equal so far -/
def SameTo (xs ys : List Int) (k : Nat) : Prop := xs.take k = ys.take k
theorem SameTo.zero (xs ys : List Int) : SameTo xs ys 0 := by simp [SameTo]
theorem SameTo.next {xs ys : List Int} {k : Nat} {x : Int} (h : SameTo xs ys k) (hx : xs[k]? = some x) (hy : ys[k]? = some x) : SameTo xs ys (k + 1) := by
  unfold SameTo at *
  rw [List.take_add_one, List.take_add_one, h, hx, hy]
theorem SameTo.all {xs ys : List Int} {k : Nat} (h : SameTo xs ys k) (h1 : xs.length ≤ k) (h2 : ys.length ≤ k) : xs = ys := by
  unfold SameTo at h
  rwa [List.take_of_length_le h1, List.take_of_length_le h2] at h
end Go.Proofs.YtfieodjihaodiaaGreat
