/- Regions that draw their order: the theorem. -/
import Derived.Test.YthjgbjakpbfnoaaAbs14c
namespace Go.Proofs.Ythjgbjakpbfnoaa
open Go.RowKit
set_option linter.unusedVariables false
set_option linter.unusedSimpArgs false

section
variable {P : Program} {ops : Array Oper} {envs : Nat → Env} {hs : Nat → Hp} {rs : Nat → S} {kd : Nat → Kd}
variable {w0 : World} {ι0 : Io} {M0 : Ms} {H0 : Hp} {listed : Array Bool} {a : Act} {w : World} {p q : Nat}

/-- a segment is done: the slots are those of the text's order -/
theorem DInv.full (hT : ∀ j, j < ops.size → TrOK P ops.toList envs hs rs kd j) (hdo : dstOK ops.toList = true) (hI : DInv ops envs hs rs kd w0 ι0 M0 H0 listed a w p q) (hall : ∀ j, j < q → listed.getD j false = true) :
    Sim w0 ι0 M0 H0 a w (envs q) (hs q) := by
  obtain ⟨ι, M, hd, hsz, h1, h2, hH, hM, hf, hF, hst⟩ := hI.rel
  refine ⟨ι, M, hd, by rw [hsz, tr_len hT hI.hpq hI.hqn], fun t s ht => ?_, hH, hM, hF, hst⟩
  have htl : t < (envs p).length := by rw [← tr_len hT hI.hpq hI.hqn]; exact (List.getElem?_eq_some_iff.1 ht).1
  by_cases hex : ∃ i, p ≤ i ∧ i < q ∧ dstAt ops i = some t
  · obtain ⟨i, h3, h4, h5⟩ := hex
    rw [tr_dst hT hdo h3 h4 hI.hqn h5 htl] at ht
    injection ht with ht
    subst ht
    exact h1 i t h3 (hall i h4) h5 htl
  · have hno : ∀ i, p ≤ i → i < q → dstAt ops i ≠ some t := fun i h3 h4 h5 => hex ⟨i, h3, h4, h5⟩
    rw [tr_other hT hI.hpq hI.hqn hno] at ht
    refine h2 t s (fun i h3 h4 => hno i h3 ?_) ht
    rcases Nat.lt_or_ge i q with h | h
    · exact h
    · rw [hI.high i h] at h4; cases h4

/-- an operation that is ready finds its operands as in the text's order -/
theorem DInv.reads (hT : ∀ j, j < ops.size → TrOK P ops.toList envs hs rs kd j) (hb : backOK ops.toList = true) (hdo : dstOK ops.toList = true) (hdep : depOK ops.toList = true)
    (hI : DInv ops envs hs rs kd w0 ι0 M0 H0 listed a w p q) {ι : Io} {M : Ms}
    (h1 : ∀ i t, p ≤ i → listed.getD i false = true → dstAt ops i = some t → t < (envs p).length → RS w ι M (rs i) (a.tmps.getD t undef))
    (h2 : ∀ t s, (∀ i, p ≤ i → listed.getD i false = true → dstAt ops i ≠ some t) → (envs p)[t]? = some s → RS w ι M s (a.tmps.getD t undef))
    {i : Nat} {o : Oper} (ho : ops[i]? = some o) (hpi : p ≤ i) (hiq : i < q) (hun : listed.getD i false = false) (hready : ∀ e ∈ o.after.toList, Region.binds .any e = true → listed.getD e.on false = true)
    {t : Nat} (ht : t ∈ readsOf ops.toList o) : RS w ι M (evalS (envs i) (.tmp t)) (a.tmps.getD t undef) := by
  show RS w ι M ((envs i).getD t .junk) _
  rw [List.getD_eq_getElem?_getD]
  have ho' : ops.toList[i]? = some o := by simpa using ho
  have hiN : i ≤ ops.size := by have := hI.hqn; omega
  have hS : ∀ i o, ops.toList[i]? = some o → (listed.getD i false = true) → ∀ e ∈ o.after.toList, Region.binds .any e = true → listed.getD e.on false = true := fun i o h => hI.closed i o (by simpa using h)
  cases hg : (envs i)[t]? with
  | none => exact .junk
  | some s =>
    have htl : t < (envs p).length := by rw [← tr_len hT hpi hiN]; exact (List.getElem?_eq_some_iff.1 hg).1
    show RS w ι M s _
    by_cases hex : ∃ j, p ≤ j ∧ j ≠ i ∧ dstAt ops j = some t
    · obtain ⟨j, hpj, hne, hj⟩ := hex
      obtain ⟨m1, m2⟩ := dep_mask hdep ho ht hj (Ne.symm hne)
      rcases Nat.lt_or_gt_of_ne hne with hlt | hgt
      · have hl := mask_ready hb hS ho' hready (m1 hlt)
        rw [tr_dst hT hdo hpj hlt hiN hj htl] at hg
        injection hg with hg
        subst hg
        exact h1 j t hpj hl hj htl
      · have hjl : listed.getD j false ≠ true := fun hjl => by
          have hoj : ∃ oj, ops.toList[j]? = some oj := by
            unfold dstAt at hj
            cases h : ops[j]? with
            | none => rw [h] at hj; cases hj
            | some oj => exact ⟨oj, by simpa using h⟩
          obtain ⟨oj, hoj⟩ := hoj
          have := mask_mem hb hS j oj i hoj (m2 hgt) hjl
          rw [hun] at this; cases this
        rw [tr_other hT hpi hiN (fun i' h3 h4 h5 => by have := dst_uniq hdo hj h5; omega)] at hg
        refine h2 t s (fun i' h3 h4 h5 => ?_) hg
        have := dst_uniq hdo hj h5
        subst this
        exact hjl h4
    · have hno : ∀ i', p ≤ i' → i' ≠ i → dstAt ops i' ≠ some t := fun i' h3 h4 h5 => hex ⟨i', h3, h4, h5⟩
      rw [tr_other hT hpi hiN (fun i' h3 h4 => hno i' h3 (by omega))] at hg
      refine h2 t s (fun i' h3 h4 => hno i' h3 ?_) hg
      rintro rfl
      rw [hun] at h4; cases h4

theorem getD_set_self {listed : Array Bool} {i : Nat} (h : i < listed.size) : (listed.setIfInBounds i true).getD i false = true := by simp [h]
theorem getD_set_of {listed : Array Bool} {i j : Nat} (h : (listed.setIfInBounds i true).getD j false = true) : j = i ∨ listed.getD j false = true := by
  by_cases hij : i = j
  · exact .inl hij.symm
  · rw [getD_set_ne false hij] at h; exact .inr h

/-- one more operation of a segment is done -/
theorem DInv.step (hT : ∀ j, j < ops.size → TrOK P ops.toList envs hs rs kd j) (hI : DInv ops envs hs rs kd w0 ι0 M0 H0 listed a w p q) (hd : a.defers = []) (hsz : a.tmps.size = (envs p).length)
    {i : Nat} {o : Oper} (ho : ops[i]? = some o) (hpi : p ≤ i) (hiq : i < q) (hun : listed.getD i false = false) (hready : ∀ e ∈ o.after.toList, Region.binds .any e = true → listed.getD e.on false = true)
    (hdo : dstOK ops.toList = true) {v : Value} {w' : World} {ι' : Io} {M' : Ms}
    (h1 : ∀ i t, p ≤ i → listed.getD i false = true → dstAt ops i = some t → t < (envs p).length → RS w' ι' M' (rs i) (a.tmps.getD t undef))
    (h2 : ∀ t s, (∀ i, p ≤ i → listed.getD i false = true → dstAt ops i ≠ some t) → (envs p)[t]? = some s → RS w' ι' M' s (a.tmps.getD t undef))
    (hr : RS w' ι' M' (rs i) v) (hH : HeapRel w' ι' M' (hs q)) (hM : MB w' M')
    (hf : ∀ j B, p ≤ j → j < q → j ≠ i → listed.getD j false = false → kd j = .quiet B → ∀ k, k < B.length → ι' ((hs j).length + k) = none) (hF : Fresh ι' (hs q).length) (hst : Step w0 ι0 M0 H0 w' ι' M' (hs q)) :
    DInv ops envs hs rs kd w0 ι0 M0 H0 (listed.setIfInBounds i true) (a.put o.dst v) w' p q := by
  have hil : i < listed.size := by rw [hI.lsz]; exact (Array.getElem?_eq_some_iff.1 ho).1
  have hdi : dstAt ops i = o.dst := by unfold dstAt; rw [ho]; rfl
  refine ⟨hI.hpq, hI.hqn, hI.seg, hI.fin, hI.h0, by simpa using hI.lsz, fun j hj => ?_, fun j hj => ?_, ?_, ι', M', by rw [put_defers', hd], by rw [put_size, hsz], ?_, ?_, hH, hM, ?_, hF, hst⟩
  · rw [getD_set_ne false (by omega)]; exact hI.low j hj
  · rw [getD_set_ne false (by omega)]; exact hI.high j hj
  · intro j oj hoj hl e he hb
    rcases getD_set_of hl with rfl | hl
    · rw [ho] at hoj
      injection hoj with hoj
      subst hoj
      exact getD_set_true (hready e he hb)
    · exact getD_set_true (hI.closed j oj hoj hl e he hb)
  · intro j t hpj hl hdj htl
    by_cases hji : j = i
    · subst hji
      rw [hdi] at hdj
      rw [hdj]
      show RS w' ι' M' (rs j) ((a.tmps.setIfInBounds t v).getD t undef)
      simpa [show t < a.tmps.size by omega] using hr
    · have hl' := (getD_set_of hl).resolve_left hji
      have hne : o.dst ≠ some t := fun h => by rw [← hdi] at h; exact hji (dst_uniq hdo hdj h)
      have := h1 j t hpj hl' hdj htl
      cases hdd : o.dst with
      | none => exact this
      | some d =>
        have : d ≠ t := fun e => hne (by rw [hdd, e])
        show RS w' ι' M' (rs j) ((a.tmps.setIfInBounds d v).getD t undef)
        rw [Array.getD_eq_getD_getElem?, Array.getElem?_setIfInBounds_ne this]
        rw [Array.getD_eq_getD_getElem?] at *
        assumption
  · intro t s hno hs'
    have hne : o.dst ≠ some t := fun h => hno i hpi (getD_set_self hil) (by rw [hdi, h])
    have := h2 t s (fun j h3 h4 => hno j h3 (getD_set_true h4)) hs'
    cases hdd : o.dst with
    | none => exact this
    | some d =>
      have hdt : d ≠ t := fun e => hne (by rw [hdd, e])
      show RS w' ι' M' s ((a.tmps.setIfInBounds d v).getD t undef)
      rw [Array.getD_eq_getD_getElem?, Array.getElem?_setIfInBounds_ne hdt]
      rw [Array.getD_eq_getD_getElem?] at this
      exact this
  · intro j B hpj hjq hl hk
    have hji : j ≠ i := by rintro rfl; rw [getD_set_self hil] at hl; cases hl
    rw [getD_set_ne false (Ne.symm hji)] at hl
    exact hf j B hpj hjq hji hl hk

/-- where the next general operation stands -/
theorem next_gen (kd : Nat → Kd) (p n : Nat) (h : p ≤ n) : ∃ q, p ≤ q ∧ q ≤ n ∧ (∀ j, p ≤ j → j < q → kd j ≠ .gen) ∧ (q = n ∨ kd q = .gen) := by
  obtain ⟨m, hm⟩ : ∃ m, m = n - p := ⟨_, rfl⟩
  induction m generalizing p with
  | zero => exact ⟨p, Nat.le_refl _, h, fun j _ _ => by omega, .inl (by omega)⟩
  | succ m ih =>
    cases hk : kd p with
    | gen => exact ⟨p, Nat.le_refl _, h, fun j _ _ => by omega, .inr hk⟩
    | skip =>
      obtain ⟨q, h1, h2, h3, h4⟩ := ih (p + 1) (by omega) (by omega)
      refine ⟨q, by omega, h2, fun j h5 h6 => ?_, h4⟩
      by_cases hj : j = p
      · subst hj; rw [hk]; intro h; cases h
      · exact h3 j (by omega) h6
    | quiet B =>
      obtain ⟨q, h1, h2, h3, h4⟩ := ih (p + 1) (by omega) (by omega)
      refine ⟨q, by omega, h2, fun j h5 h6 => ?_, h4⟩
      by_cases hj : j = p
      · subst hj; rw [hk]; intro h; cases h
      · exact h3 j (by omega) h6

def unl (n : Nat) (listed : Array Bool) : Nat := ((List.range n).filter fun j => !listed.getD j false).length
theorem unl_set {n : Nat} {listed : Array Bool} {i : Nat} (hi : i < n) (hs : listed.size = n) (hu : listed.getD i false = false) : unl n (listed.setIfInBounds i true) < unl n listed := by
  unfold unl
  have h1 : ((List.range n).filter fun j => !(listed.setIfInBounds i true).getD j false) = ((List.range n).filter fun j => !listed.getD j false).filter fun j => j ≠ i := by
    rw [List.filter_filter]
    apply List.filter_congr
    intro j hj
    by_cases hji : j = i
    · subst hji; simp [hs, hi]
    · rw [getD_set_ne false (Ne.symm hji)]; simp [hji]
  rw [h1]
  have hmem : i ∈ (List.range n).filter fun j => !listed.getD j false := by simp [hi]; simpa using hu
  have : ∀ (l : List Nat), i ∈ l → (l.filter fun j => j ≠ i).length < l.length := by
    intro l
    induction l with
    | nil => intro h; cases h
    | cons x l ih =>
      intro h
      by_cases hx : x = i
      · subst hx
        simp only [List.filter_cons, ne_eq, not_true_eq_false, decide_false, Bool.false_eq_true, if_false, List.length_cons]
        have := List.length_filter_le (fun j => decide ¬j = x) l
        exact Nat.lt_succ_of_le this
      · rcases List.mem_cons.1 h with h | h
        · exact absurd h.symm hx
        · simp [List.filter_cons, hx]
          simpa using ih h
  exact this _ hmem

theorem all_of_ready_nil (hb : backOK ops.toList = true) (hsz : listed.size = ops.size) (h : Region.ready .any ops listed = []) : ∀ i, i < ops.size → listed.getD i false = true := by
  intro i
  induction i using Nat.strongRecOn with
  | _ i ih =>
    intro hi
    cases hl : listed.getD i false with
    | true => rfl
    | false =>
      have : i ∈ Region.ready .any ops listed := by
        rw [mem_ready]
        refine ⟨by simp [hsz, hi] at hl ⊢; exact hl, ops[i], by simp, fun e he hbi => ?_⟩
        have hlt := back_lt hb (i := i) (o := ops[i]) (by simp) (by simpa using he) hbi
        exact ih e.on hlt (by omega)
      rw [h] at this; cases this
theorem all_of_unl {n : Nat} (h : unl n listed = 0) : ∀ i, i < n → listed.getD i false = true := by
  intro i hi
  unfold unl at h
  have := List.eq_nil_of_length_eq_zero h
  rw [List.filter_eq_nil_iff] at this
  have := this i (by simpa using hi)
  simpa using this

theorem dinv_all (hI : DInv ops envs hs rs kd w0 ι0 M0 H0 listed a w p q) (hall : ∀ i, i < ops.size → listed.getD i false = true) : q = ops.size := by
  rcases Nat.lt_or_ge q ops.size with h | h
  · have := hI.high q (Nat.le_refl _)
    rw [hall q h] at this; cases this
  · have := hI.hqn; omega

theorem wpAny_of (hM0 : MB w0 M0) (hT : ∀ j, j < ops.size → TrOK P ops.toList envs hs rs kd j) (hb : backOK ops.toList = true) (hdo : dstOK ops.toList = true) (hdep : depOK ops.toList = true) {Q : Exit → Act → World → Prop}
    (hK : ∀ a w, Sim w0 ι0 M0 H0 a w (envs ops.size) (hs ops.size) → Q .normal a w) : ∀ (fuel : Nat) (listed : Array Bool) (a : Act) (w : World) (p q : Nat), DInv ops envs hs rs kd w0 ι0 M0 H0 listed a w p q → unl ops.size listed ≤ fuel →
      wpAny P .any ops Q fuel listed a w := by
  have hend : ∀ (listed : Array Bool) (a : Act) (w : World) (p q : Nat), DInv ops envs hs rs kd w0 ι0 M0 H0 listed a w p q → (∀ i, i < ops.size → listed.getD i false = true) → Q .normal a w := fun listed a w p q hI hall => by
    obtain rfl := dinv_all hI hall
    exact hK a w (hI.full hT hdo hall)
  intro fuel
  induction fuel with
  | zero =>
    intro listed a w p q hI hu
    have hall := all_of_unl (listed := listed) (n := ops.size) (by omega)
    refine ⟨?_, hend listed a w p q hI hall⟩
    cases hr : Region.ready .any ops listed with
    | nil => rfl
    | cons i l =>
      have hi : i ∈ Region.ready .any ops listed := by rw [hr]; simp
      rw [mem_ready] at hi
      obtain ⟨h1, o, ho, _⟩ := hi
      have hlt := (Array.getElem?_eq_some_iff.1 ho).1
      have h2 := hall i hlt
      have hsz := hI.lsz
      simp [hsz, hlt] at h1 h2
      rw [h1] at h2; cases h2
  | succ fuel ih =>
    intro listed a w p q hI hu
    refine ⟨fun hr => hend listed a w p q hI (all_of_ready_nil hb hI.lsz hr), fun i hi => ?_⟩
    rw [mem_ready] at hi
    obtain ⟨hl, o, ho, hready⟩ := hi
    have hiN := (Array.getElem?_eq_some_iff.1 ho).1
    have hsz0 := hI.lsz
    have hun : listed.getD i false = false := by simp [hsz0, hiN] at hl ⊢; exact hl
    have hready' : ∀ e ∈ o.after.toList, Region.binds .any e = true → listed.getD e.on false = true := fun e he => hready e (by simpa using he)
    have hu' : unl ops.size (listed.setIfInBounds i true) ≤ fuel := by
      have := unl_set hiN hsz0 hun; omega
    have hpi : p ≤ i := by
      rcases Nat.lt_or_ge i p with h | h
      · rw [hI.low i h] at hun; cases hun
      · exact h
    have hS : ∀ i o, ops.toList[i]? = some o → (listed.getD i false = true) → ∀ e ∈ o.after.toList, Region.binds .any e = true → listed.getD e.on false = true := fun i o h => hI.closed i o (by simpa using h)
    have hiq : i ≤ q := by
      rcases Nat.lt_or_ge q i with h | h
      · have hkq : kd q = .gen := hI.fin.resolve_left (by omega)
        obtain ⟨oq, hoq, _, h3⟩ := hT q (by omega)
        rw [hkq] at h3
        have := mask_ready hb hS (by simpa using ho) hready' ((barrier_mask h3.2.2 hiN).2 h)
        rw [hI.high q (Nat.le_refl _)] at this; cases this
      · exact h
    unfold wpOp
    rw [ho]
    simp only
    obtain ⟨ι, M, hd, hsz, h1, h2, hH, hM, hf, hF, hst⟩ := hI.rel
    obtain ⟨o', ho', henv, hk⟩ := hT i hiN
    have : o' = o := by
      have : ops[i]? = some o' := by simpa using ho'
      rw [ho] at this; injection this with this; exact this.symm
    subst this
    by_cases hlt : i < q
    · have hreads := fun t ht => hI.reads hT hb hdo hdep h1 h2 ho hpi hlt hun hready' (t := t) ht
      have hlenI : a.tmps.size = (envs i).length := by rw [hsz, tr_len hT hpi (by omega)]
      have hguard : ∀ j want oj d, o'.guard = some (j, want) → ops[j]? = some oj → oj.dst = some d → RS w ι M (evalS (envs i) (.tmp d)) (a.tmps.getD d undef) := fun j want oj d hg hoj hdj => by
        refine hreads d ?_
        unfold readsOf
        rw [List.mem_append]
        refine .inr ?_
        have hoj' : ops.toList[j]? = some oj := by simpa using hoj
        rw [hg]
        simp [hoj', hdj]
      obtain ⟨X, hX⟩ := tr_prefix hT (Nat.le_of_lt hlt) hI.hqn (fun k h3 h4 => hI.seg k (by omega) h4)
      cases hkd : kd i with
      | skip =>
        rw [hkd] at hk
        obtain ⟨hw, hr, _⟩ := hk
        rw [wants_real hlenI hw hguard]
        simp only [Bool.false_eq_true, if_false]
        refine ih _ _ _ p q (hI.step hT hd hsz ho hpi hlt hun hready' hdo h1 h2 (by rw [hr]; exact .skip) hH hM (fun j B h3 h4 _ h5 h6 => hf j B h3 h4 h5 h6) hF hst) hu'
      | quiet B =>
        rw [hkd] at hk
        obtain ⟨hw, hqop, hB⟩ := hk
        rw [wants_real hlenI hw hguard]
        simp only [if_true]
        refine .inl ?_
        have hfi := hf i B hpi hlt hun hkd
        have hHi : HeapRel w ι M (hs i) := by rw [hX] at hH; exact hH.prefix
        have hev : EvRel w ι M (evR o' (envs i)) a := by
          intro x
          cases x with
          | tmp t =>
            show RS w ι M (cond _ _ _) _
            cases hc : (o'.op.operands.toList.filterMap fun x => match x with | .tmp t => some t | _ => none).contains t with
            | true =>
              refine hreads t ?_
              unfold readsOf
              rw [List.mem_append]
              exact .inl (List.contains_iff_mem.1 hc)
            | false => exact .junk
          | const v => exact RS.const v
          | global g => exact .junk
          | func f => exact .c (.t (.fn [] rfl (by simp)))
        refine hqop a w ι M hev hHi hM hfi _ _ fun v w' hp => ?_
        obtain ⟨X1, hX1⟩ := tr_prefix hT (show i + 1 ≤ q by omega) hI.hqn (fun k h3 h4 => hI.seg k (by omega) h4)
        have hBq : ∀ k, k < B.length → (hs q)[(hs i).length + k]? = B[k]? := fun k hk => by
          rw [hX1, hB, List.append_assoc, List.getElem?_append_right (by omega), List.getElem?_append_left (by omega)]
          congr 1; omega
        obtain ⟨new, q1, q2, q3, q4, q5, q6⟩ := hp.insert hH hM hBq hfi
        have hext : ∀ id l, ι id = some l → addIo ι (hs i).length B.length new id = some l := fun id l hl => addIo_ext hfi hl
        have keep : ∀ {s v}, RS w ι M s v → RS w' (addIo ι (hs i).length B.length new) (addMs M B.length new) s v := fun h => h.keep (fun b hb _ => q2.keep b hb) q5 hext
        have hqlen : (hs i).length + B.length ≤ (hs q).length := by rw [hX1, hB]; simp
        have hH0 : H0.length ≤ (hs i).length := by
          obtain ⟨Z, hZ⟩ := tr_prefix hT hpi (by omega) (fun k h3 h4 => hI.seg k h3 (by omega))
          have := hI.h0
          rw [hZ]; simp; omega
        refine ih _ _ _ p q (hI.step hT hd hsz ho hpi hlt hun hready' hdo (fun j t h3 h4 h5 h6 => keep (h1 j t h3 h4 h5 h6)) (fun t s h3 h4 => keep (h2 t s h3 h4)) q1 q3 q4 ?_ ?_ ?_) hu'
        · intro j B' h3 h4 h5 h6 h7 k hk
          have hfj := hf j B' h3 h4 h6 h7 k hk
          unfold addIo
          rw [if_neg ?_, hfj]
          -- the new ids of two places are apart
          rintro ⟨r1, r2⟩
          rcases Nat.lt_or_gt_of_ne h5 with hji | hji
          · obtain ⟨Y, hY⟩ := tr_prefix hT (show j + 1 ≤ i by omega) (by omega) (fun k h3' h4' => hI.seg k (by omega) (by omega))
            obtain ⟨oj, _, _, hkj⟩ := hT j (by omega)
            rw [h7] at hkj
            rw [hY, hkj.2.2] at r1
            simp at r1
            omega
          · obtain ⟨Y, hY⟩ := tr_prefix hT (show i + 1 ≤ j by omega) (by have := hI.hqn; omega) (fun k h3' h4' => hI.seg k (by omega) (by omega))
            rw [hY, hB] at r2
            simp at r2
            omega
        · intro id hid
          unfold addIo
          rw [if_neg (by omega)]
          exact hF id hid
        · refine ⟨q2.os.trans hst.os, q2.tape.trans hst.tape, q2.output.trans hst.output, Nat.le_trans hst.size q2.size, fun b hb' hl' => (q2.keep b (Nat.lt_of_lt_of_le hb' hst.size)).trans (hst.keep b hb' hl'), ?_, ?_, ?_, ?_, hst.len⟩
          · intro id hid
            unfold addIo
            rw [if_neg (by omega)]
            exact hst.same id hid
          · intro b hb'
            rcases q5 b hb' with h | h
            · exact hst.mnew b h
            · exact .inr (Nat.le_trans hst.size h)
          · intro b hb'
            rcases hst.mold b hb' with h | h
            · exact .inl (.inl h)
            · exact .inr h
          · intro b hb'
            rcases q6 b hb' with h | h
            · exact hst.live b h
            · exact .inr (Nat.le_trans hst.size h)
      | gen => exact absurd hkd (hI.seg i hpi hlt)
    · -- a general operation: the segment before it is done
      obtain rfl : i = q := by omega
      have hkq : kd i = .gen := hI.fin.resolve_left (by omega)
      rw [hkq] at hk
      obtain ⟨hw, hg, hbar⟩ := hk
      have hall : ∀ j, j < i → listed.getD j false = true := fun j hj => mask_ready hb hS (by simpa using ho) hready' ((barrier_mask hbar (by omega)).1 hj)
      obtain ⟨ι, M, hd, hsz, he, hH, hM, hF, hst⟩ := hI.full hT hdo hall
      rw [wants_real hsz hw (fun j want oj d _ _ _ => he.ev (.tmp d))]
      simp only [if_true]
      refine .inl ?_
      refine hg a w ι M he.ev hH hM hF _ _ fun v w' hp => ?_
      have hsim := Sim.post hM0 hd hsz he hH hM hF hst hp o'.dst
      rw [← henv] at hsim
      obtain ⟨q', r1, r2, r3, r4⟩ := next_gen kd (i + 1) ops.size (by omega)
      obtain ⟨X, hX⟩ := tr_prefix hT r1 r2 r3
      obtain ⟨ι1, M1, hd1, hsz1, he1, hH1, hM1, hF1, hst1⟩ := hsim
      refine ih _ _ _ (i + 1) q' ⟨r1, r2, r3, r4, hst1.len, by simpa using hsz0, fun j hj => ?_, fun j hj => ?_, ?_, ι1, M1, hd1, hsz1, ?_, ?_, ?_, hM1, ?_, ?_, ?_⟩ hu'
      · by_cases hji : j = i
        · subst hji; exact getD_set_self (by omega)
        · rw [getD_set_ne false (Ne.symm hji)]; exact hall j (by omega)
      · rw [getD_set_ne false (by omega)]; exact hI.high j (by omega)
      · intro j oj hoj hl' e he' hb'
        rcases getD_set_of hl' with rfl | hl'
        · rw [ho] at hoj
          injection hoj with hoj
          subst hoj
          exact getD_set_true (hready' e he' hb')
        · exact getD_set_true (hI.closed j oj hoj hl' e he' hb')
      · intro j t hj hl' _ _
        rcases getD_set_of hl' with rfl | hl'
        · omega
        · rw [hI.high j (by omega)] at hl'; cases hl'
      · intro t s _ hs'
        exact he1 t s hs'
      · rw [hX]; exact hH1.extend hF1
      · intro j B h3 h4 _ _ k hk
        obtain ⟨Y, hY⟩ := tr_prefix hT h3 (by omega) (fun k h3' h4' => r3 k h3' (by omega))
        exact hF1 _ (by rw [hY]; simp; omega)
      · intro id hid
        exact hF1 id (by rw [hX] at hid; simp at hid; omega)
      · refine ⟨hst1.os, hst1.tape, hst1.output, hst1.size, hst1.keep, hst1.same, hst1.mnew, hst1.mold, ?_, by rw [hX]; have := hst1.len; simp; omega⟩
        rintro b ⟨id, k, cap, size, hk, hm, hi'⟩
        have hid : id < (hs (i + 1)).length := by
          rcases Nat.lt_or_ge id (hs (i + 1)).length with h | h
          · exact h
          · rw [hF1 id h] at hi'; cases hi'
        rw [hX, List.getElem?_append_left hid] at hk
        exact hst1.live b ⟨id, k, cap, size, hk, hm, hi'⟩
end

theorem aops_drawn {P : Program} {τ : Tab} (hτ : TabOK P τ) {ops : Array Oper} {Q : Exit → Act → World → Prop} {K : Env → Hp → Prop} {w0 : World} {ι0 : Io} {M0 : Ms} {H0 : Hp} (hM0 : MB w0 M0)
    (hK : ∀ env H a w, K env H → Sim w0 ι0 M0 H0 a w env H → Q .normal a w) {env : Env} {H : Hp} {a : Act} {w : World} {id : Nat}
    (hr : regOK ops.toList = true) (h : aops P τ ops.toList true 0 ops.toList env H K) (hs : Sim w0 ι0 M0 H0 a w env H) : (Code.region id ops true).wp P Q a w := by
  simp only [regOK, Bool.and_eq_true] at hr
  obtain ⟨⟨hb, hdo⟩, hdep⟩ := hr
  obtain ⟨envs, hps, rs, kd, h1, h2, h3, h4⟩ := aops_trace hτ ops.toList 0 env H rfl h
  have hT : ∀ j, j < ops.size → TrOK P ops.toList envs hps rs kd j := fun j hj => h4 j (Nat.zero_le _) (by simpa using hj)
  obtain ⟨q, q1, q2, q3, q4⟩ := next_gen kd 0 ops.size (Nat.zero_le _)
  obtain ⟨X, hX⟩ := tr_prefix hT q1 q2 q3
  obtain ⟨ι, M, hd, hsz, he, hH, hM, hF, hst⟩ := hs
  have hnone : ∀ j, (Array.replicate ops.size false).getD j false = false := fun j => by
    by_cases hj : j < ops.size
    · simp [hj]
    · simp [hj]
  refine wp_region_any hτ.mixed (wpAny_of hM0 hT hb hdo hdep (fun a w hs => hK _ _ a w (by simpa using h3) hs) ops.size _ a _ 0 q ?_ ?_)
  · refine ⟨q1, q2, q3, q4, by rw [h2]; exact hst.len, by simp, fun j hj => by omega, fun j _ => hnone j, (fun i o _ hl => absurd hl (by rw [hnone i]; simp)), ⟨ι, M, hd, by rw [h1]; exact hsz, (fun i t _ hl => absurd hl (by rw [hnone i]; simp)), ?_, ?_, hM, ?_, ?_, ?_⟩⟩
    · intro t s _ ht
      rw [h1] at ht
      exact (he t s ht).keep (w := w) (w' := { w with drawn := w.drawn + 1 }) (fun _ _ _ => rfl) (fun b h => .inl h) (fun _ _ h => h)
    · rw [hX, h2]
      have := HeapRel.extend (X := X) hH hF
      exact ⟨fun id k hk hd l hl => by
          have hb := this.blk id k hk hd l hl
          cases l with
          | nil => exact hb
          | blk b cap size =>
            obtain ⟨r1, r2, r3, r4, r5, cur, r6, r7, r8⟩ := hb
            exact ⟨r1, r2, r3, r4, r5, cur, r6, r7, fun i j c hc => by
              obtain ⟨u, s1, s2⟩ := r8 i j c hc
              exact ⟨u, s1, s2.keep (w := w) (w' := { w with drawn := w.drawn + 1 }) (fun _ _ _ => rfl) (fun b h => .inl h) (fun _ _ h => h)⟩⟩, this.liv, this.fro, this.inj⟩
    · intro i B _ hi _ hk k hkB
      obtain ⟨Y, hY⟩ := tr_prefix hT (Nat.zero_le i) (by omega) (fun k h1 h2 => q3 k h1 (by omega))
      exact hF _ (by rw [hY, h2]; simp; omega)
    · intro id hid
      exact hF id (by rw [hX, h2] at hid; simp at hid; omega)
    · rw [hX, h2]
      refine ⟨hst.os, hst.tape, hst.output, hst.size, hst.keep, hst.same, hst.mnew, hst.mold, ?_, by have := hst.len; simp; omega⟩
      rintro b ⟨id, k, cap, size, hk, hm, hi⟩
      have hid : id < H.length := by
        rcases Nat.lt_or_ge id H.length with h | h
        · exact h
        · rw [hF id h] at hi; cases hi
      rw [List.getElem?_append_left hid] at hk
      exact hst.live b ⟨id, k, cap, size, hk, hm, hi⟩
  · unfold unl
    have := List.length_filter_le (fun j => !(Array.replicate ops.size false).getD j false) (List.range ops.size)
    simpa using this
end Go.Proofs.Ythjgbjakpbfnoaa
