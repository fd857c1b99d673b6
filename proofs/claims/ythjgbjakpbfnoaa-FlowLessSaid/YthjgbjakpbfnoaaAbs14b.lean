/- Regions that draw their order, continued: an operation looks at its operands alone; the text's order as a list of states. -/
import Derived.Test.YthjgbjakpbfnoaaAbs14
namespace Go.Proofs.Ythjgbjakpbfnoaa
open Go.RowKit
set_option linter.unusedVariables false
set_option linter.unusedSimpArgs false

theorem optInt_congr {ev ev' : Operand → S} {x : Option Operand} {d : Int} {k : Int → Prop} (h : ∀ y, x = some y → ev y = ev' y) : optInt ev x d k = optInt ev' x d k := by
  cases x with
  | none => rfl
  | some y => simp only [optInt, h y rfl]

theorem aop_congr {P : Program} {τ : Tab} {ev ev' : Operand → S} {H : Hp} {op : Op} {Kq : S → List Blk → Prop} {Kg : S → Hp → Prop} (h : ∀ x ∈ op.operands.toList, ev x = ev' x) :
    aop P τ ev H op Kq Kg = aop P τ ev' H op Kq Kg := by
  cases op with
  | move x => simp only [aop, h x (by simp [Op.operands])]
  | assign x => simp only [aop, h x (by simp [Op.operands])]
  | pick c a b => simp only [aop, h c (by simp [Op.operands]), h a (by simp [Op.operands]), h b (by simp [Op.operands])]
  | load t x => simp only [aop, aload, h x (by simp [Op.operands])]
  | store t x v => simp only [aop, astore, h x (by simp [Op.operands]), h v (by simp [Op.operands])]
  | fieldAddr s x f => simp only [aop, afieldAddr, h x (by simp [Op.operands])]
  | indexAddr t x i => simp only [aop, aindexAddr, h x (by simp [Op.operands]), h i (by simp [Op.operands])]
  | slice t x lo hi mx =>
    have e1 : ∀ d k, optInt ev lo d k = optInt ev' lo d k := fun d k => optInt_congr fun y hy => h y (by subst hy; simp [Op.operands])
    have e2 : ∀ d k, optInt ev hi d k = optInt ev' hi d k := fun d k => optInt_congr fun y hy => h y (by subst hy; simp [Op.operands])
    simp only [aop, aslice, h x (by simp [Op.operands]), e1, e2]
  | binOp op t x y yt => simp only [aop, h x (by simp [Op.operands]), h y (by simp [Op.operands])]
  | unOp op t x => simp only [aop, h x (by simp [Op.operands])]
  | convert s d x => simp only [aop, h x (by simp [Op.operands])]
  | makeSlice t l c => simp only [aop, amake, h l (by simp [Op.operands]), h c (by simp [Op.operands])]
  | build t parts =>
    have e : (parts.toList.map fun p => (p.1, ev p.2)) = parts.toList.map fun p => (p.1, ev' p.2) := List.map_congr_left fun p hp => by rw [h p.2 (by simp only [Op.operands]; exact List.mem_map.2 ⟨p, hp, rfl⟩)]
    simp only [aop, abuild, e]
  | buildSlice t n parts =>
    have e : (parts.toList.map fun p => (p.1, ev p.2)) = parts.toList.map fun p => (p.1, ev' p.2) := List.map_congr_left fun p hp => by rw [h p.2 (by simp only [Op.operands]; exact List.mem_map.2 ⟨p, hp, rfl⟩)]
    simp only [aop, abuildSlice, e]
  | box t x => simp only [aop, abox, h x (by simp [Op.operands])]
  | alloc t => rfl
  | extract x i => simp only [aop, h x (by simp [Op.operands])]
  | makeFunc fn first caps =>
    have e : caps.toList.map ev = caps.toList.map ev' := List.map_congr_left fun x hx => h x (by simp [Op.operands]; exact .inr (by simpa using hx))
    simp only [aop, e]
  | call c =>
    obtain ⟨callee, args, ats⟩ := c
    have ea : ∀ x ∈ args.toList, ev x = ev' x := fun x hx => h x (by simp [Op.operands, Call.operands]; exact .inr (by simpa using hx))
    have em : args.toList.map ev = args.toList.map ev' := List.map_congr_left ea
    cases callee with
    | value f =>
      have ef := h f (by simp [Op.operands, Call.operands])
      simp only [aop, ef, em]
    | invoke r m => rfl
    | builtin b =>
      cases b with
      | len =>
        simp only [aop]
        split
        · rename_i t ts x xs h1 h2
          rw [ea x (by rw [h2]; simp)]
        · rfl
      | append =>
        simp only [aop]
        split
        · rename_i t t' s x h1 h2
          simp only [aappend, ea s (by rw [h2]; simp), ea x (by rw [h2]; simp)]
        · rfl
      | min => simp only [aop, em]
      | max => simp only [aop, em]
      | _ => rfl
  | _ => rfl

def evR (o : Oper) (env : Env) : Operand → S := fun x =>
  match x with
  | .tmp t => cond ((o.op.operands.toList.filterMap fun x => match x with | .tmp t => some t | _ => none).contains t) (evalS env (.tmp t)) .junk
  | x => evalS env x

theorem evR_eq {o : Oper} {env : Env} {x : Operand} (h : x ∈ o.op.operands.toList) : evalS env x = evR o env x := by
  cases x with
  | tmp t =>
    have : (o.op.operands.toList.filterMap fun x => match x with | .tmp t => some t | _ => none).contains t = true := by
      rw [List.contains_iff_mem, List.mem_filterMap]
      exact ⟨.tmp t, h, rfl⟩
    simp only [evR, this, cond_true]
  | _ => rfl

inductive Kd where
  | skip
  | quiet (B : List Blk)
  | gen

/-- what happens at one place of the text's order -/
def TrOK (P : Program) (ops : List Oper) (envs : Nat → Env) (hs : Nat → Hp) (rs : Nat → S) (kd : Nat → Kd) (i : Nat) : Prop :=
  ∃ o, ops[i]? = some o ∧ envs (i + 1) = putE o.dst (rs i) (envs i) ∧ match kd i with
    | .skip => Wants ops o (envs i) false ∧ rs i = skipS ∧ hs (i + 1) = hs i
    | .quiet B => Wants ops o (envs i) true ∧ QOp P o (evR o (envs i)) (hs i) (rs i) B ∧ hs (i + 1) = hs i ++ B
    | .gen => Wants ops o (envs i) true ∧ GOp P o (evalS (envs i)) (hs i) (rs i) (hs (i + 1)) ∧ barrier ops i = true

theorem aops_trace {P : Program} {τ : Tab} (hτ : TabOK P τ) {ops : List Oper} {K : Env → Hp → Prop} : ∀ (rest : List Oper) (i : Nat) (env : Env) (H : Hp), ops.drop i = rest → aops P τ ops true i rest env H K →
    ∃ (envs : Nat → Env) (hs : Nat → Hp) (rs : Nat → S) (kd : Nat → Kd), envs i = env ∧ hs i = H ∧ K (envs ops.length) (hs ops.length) ∧ ∀ j, i ≤ j → j < ops.length → TrOK P ops envs hs rs kd j
  | [], i, env, H, hd, h => ⟨fun _ => env, fun _ => H, fun _ => .junk, fun _ => .skip, rfl, rfl, h, fun j h1 h2 => by
      have := congrArg List.length hd
      simp at this
      omega⟩
  | o :: rest, i, env, H, hd, h => by
    have hget : ops[i]? = some o := by
      have : (ops.drop i)[0]? = some o := by rw [hd]; rfl
      rw [List.getElem?_drop] at this
      simpa using this
    have hil : i < ops.length := (List.getElem?_eq_some_iff.1 hget).1
    have hd' : ops.drop (i + 1) = rest := by rw [← List.drop_drop, hd]; rfl
    have build : ∀ (r : S) (k : Kd) (env' : Env) (H' : Hp), aops P τ ops true (i + 1) rest env' H' K → env' = putE o.dst r env →
        (match k with
          | .skip => Wants ops o env false ∧ r = skipS ∧ H' = H
          | .quiet B => Wants ops o env true ∧ QOp P o (evR o env) H r B ∧ H' = H ++ B
          | .gen => Wants ops o env true ∧ GOp P o (evalS env) H r H' ∧ barrier ops i = true) →
        ∃ (envs : Nat → Env) (hs : Nat → Hp) (rs : Nat → S) (kd : Nat → Kd), envs i = env ∧ hs i = H ∧ K (envs ops.length) (hs ops.length) ∧ ∀ j, i ≤ j → j < ops.length → TrOK P ops envs hs rs kd j := by
      intro r k env' H' hrest henv hk
      obtain ⟨envs, hs, rs, kd, h1, h2, h3, h4⟩ := aops_trace hτ rest (i + 1) env' H' hd' hrest
      refine ⟨fun j => if j = i then env else envs j, fun j => if j = i then H else hs j, fun j => if j = i then r else rs j, fun j => if j = i then k else kd j, by simp, by simp, ?_, fun j hj hjl => ?_⟩
      · simp only [show ¬ ops.length = i by omega, if_false]; exact h3
      · by_cases hji : j = i
        · subst hji
          refine ⟨o, hget, ?_, ?_⟩
          · simp only [show ¬ j + 1 = j by omega, if_false, if_true, h1, henv]
          · simp only [if_true, show ¬ j + 1 = j by omega, if_false, h2]
            exact hk
        · obtain ⟨o', q1, q2, q3⟩ := h4 j (by omega) hjl
          refine ⟨o', q1, ?_, ?_⟩
          · simp only [hji, show ¬ j + 1 = i by omega, if_false]; exact q2
          · simp only [hji, show ¬ j + 1 = i by omega, if_false]; exact q3
    obtain ⟨y, hw, h⟩ := aguard_iff h
    cases y with
    | false =>
      rw [cond_false, putS_iff] at h
      exact build skipS .skip _ H h rfl ⟨hw, rfl, rfl⟩
    | true =>
      rw [cond_true] at h
      have hcong := aop_congr (P := P) (τ := τ) (H := H) (op := o.op) (ev := evalS env) (ev' := evR o env) (fun x hx => evR_eq hx)
        (Kq := fun s B => putS o.dst s env fun env' => appK H B fun H' => aops P τ ops true (i + 1) rest env' H' K)
        (Kg := fun s H' => barrier ops i = true ∧ putS o.dst s env fun env' => aops P τ ops true (i + 1) rest env' H' K)
      have h0 : aop P τ (evalS env) H o.op (fun s B => putS o.dst s env fun env' => appK H B fun H' => aops P τ ops true (i + 1) rest env' H' K)
        (fun s H' => barrier ops i = true ∧ putS o.dst s env fun env' => aops P τ ops true (i + 1) rest env' H' K) := h
      rw [hcong] at h0
      rcases aop_sound hτ h0 with ⟨s, B, h, hq⟩ | ⟨s, H', ⟨hb, h⟩, hg⟩
      · rw [putS_iff, appK_iff] at h
        exact build s (.quiet B) _ _ h rfl ⟨hw, hq, rfl⟩
      · rw [putS_iff] at h
        refine build s .gen _ H' h rfl ⟨hw, ?_, hb⟩
        -- the general operation, at all operands
        intro a w ι M he hH hM hF
        refine hg a w ι M (fun x => ?_) hH hM hF
        cases x with
        | tmp t =>
          show RS w ι M (cond _ _ _) _
          cases (o.op.operands.toList.filterMap fun x => match x with | .tmp t => some t | _ => none).contains t with
          | true => exact he (.tmp t)
          | false => exact .junk
        | const v => exact he (.const v)
        | global g => exact he (.global g)
        | func f => exact he (.func f)
end Go.Proofs.Ythjgbjakpbfnoaa
