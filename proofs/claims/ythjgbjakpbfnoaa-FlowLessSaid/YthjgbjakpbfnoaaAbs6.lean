/- The abstract machine is sound: numbers, tuples, functions, structs. -/
import Derived.Test.YthjgbjakpbfnoaaAbs5
import Derived.Laws.Small
namespace Go.Proofs.Ythjgbjakpbfnoaa
open Go.RowKit
set_option linter.unusedVariables false
set_option linter.unusedSimpArgs false

section
variable {P : Program} {τ : Tab} {o : Oper} {ev : Operand → S} {H : Hp}

theorem eqGuard_run {op : BinOp} {t : TypeId} {x y : Operand} {a b : Value} (w : World) (h1 : ∀ cs, a ≠ .agg cs) (h2 : a ≠ .nilIface) : (eqGuard op t x y a b).run P w = .ok () w := by
  unfold eqGuard
  generalize (match op with | .eql | .neq => true | _ => false : Bool) = q
  cases a <;> first
    | exact absurd rfl h2
    | exact absurd rfl (h1 _)
    | (cases q <;> simp)

theorem abin_run {op : BinOp} {t yt : TypeId} {x y : Operand} (ho : o.op = .binOp op t x y yt) {a : Act} {w : World} {v : Value}
    (h1 : ∀ cs, a.eval x ≠ .agg cs) (h2 : a.eval x ≠ .nilIface) (h : (binOp op t (a.eval x) (a.eval y)).run P w = .ok v w) : (execOp a.eval o).run P w = .ok (.value v) w := by
  simp [execOp, ho, eqGuard_run w h1 h2, h]

theorem aint_sound {op : BinOp} {t yt : TypeId} {x y : Operand} (ho : o.op = .binOp op t x y yt) {k k' : IntKind} {p q : Int} (hx : ev x = intS k p) (hy : ev y = intS k' q) {K : S → Prop}
    (h : aint op k k' p q K) : ∃ s, K s ∧ QOp P o ev H s [] := by
  have key : ∀ (s : S) (v : Value), (∀ w, (binOp op t (.int k p) (.int k' q)).run P w = .ok v w) → (∀ w ι M, RS w ι M s v) → QOp P o ev H s [] := fun s v hr hs =>
    qop_same fun a w ι M he hh => by
      have e1 := (he.to hx).inv_atm
      have e2 := (he.to hy).inv_atm
      exact ⟨v, abin_run ho (by rw [e1]; simp) (by rw [e1]; simp) (by rw [e1, e2]; exact hr w), hs w ι M⟩
  unfold aint at h
  split at h
  · obtain ⟨h0, n, hn, h⟩ := h
    refine ⟨_, h, key _ (.int k n) (fun w => ?_) (fun _ _ _ => .int)⟩
    simp only [binOp, Op.shift]
    rw [Sem.run_ite, if_neg (by omega)]
    unfold IsWrap at hn
    rw [hn]
    rfl
  · obtain ⟨h0, h⟩ := h
    refine ⟨_, h, key _ _ (fun w => ?_) (fun _ _ _ => .int)⟩
    simp only [binOp, Op.shift]
    rw [Sem.run_ite, if_neg (by omega)]
    rfl
  · rename_i op' hne1 hne2
    obtain ⟨hk, h'⟩ := cond_iff h
    clear h
    have hk : k = k' := by simpa using hk
    subst hk
    revert h'
    intro h
    split at h
    case h_1 =>
      obtain ⟨n, hn, h⟩ := h
      exact ⟨_, h, key _ _ (fun w => by simp [binOp, Op.intArith]; rw [← hn]) (fun _ _ _ => .int)⟩
    case h_2 =>
      obtain ⟨n, hn, h⟩ := h
      exact ⟨_, h, key _ _ (fun w => by simp [binOp, Op.intArith]; rw [← hn]) (fun _ _ _ => .int)⟩
    case h_3 =>
      obtain ⟨n, hn, h⟩ := h
      exact ⟨_, h, key _ _ (fun w => by simp [binOp, Op.intArith]; rw [← hn]) (fun _ _ _ => .int)⟩
    case h_4 =>
      obtain ⟨h0, n, hn, h⟩ := h
      exact ⟨_, h, key _ _ (fun w => by simp [binOp, Op.intDiv, h0]; rw [← hn]) (fun _ _ _ => .int)⟩
    case h_5 =>
      obtain ⟨h0, h⟩ := h
      exact ⟨_, h, key _ _ (fun w => by simp [binOp, Op.intDiv, h0]) (fun _ _ _ => .int)⟩
    case h_6 => exact ⟨_, h.get, key _ (.bool (decide (p = q))) (fun w => by simp [binOp, Op.intCmp]; rfl) (fun _ _ _ => .bool)⟩
    case h_7 => exact ⟨_, h.get, key _ (.bool (decide (p ≠ q))) (fun w => by simp [binOp, Op.intCmp]; rfl) (fun _ _ _ => .bool)⟩
    case h_8 => exact ⟨_, h.get, key _ _ (fun w => by simp [binOp, Op.intCmp]) (fun _ _ _ => .bool)⟩
    case h_9 => exact ⟨_, h.get, key _ _ (fun w => by simp [binOp, Op.intCmp]) (fun _ _ _ => .bool)⟩
    case h_10 => exact ⟨_, h.get, key _ _ (fun w => by simp [binOp, Op.intCmp]) (fun _ _ _ => .bool)⟩
    case h_11 => exact ⟨_, h.get, key _ _ (fun w => by simp [binOp, Op.intCmp]) (fun _ _ _ => .bool)⟩
    case h_12 =>
      obtain ⟨n, hn, h⟩ := h
      refine ⟨_, h, key _ (.int k n) (fun w => ?_) (fun _ _ _ => .int)⟩
      cases op <;> first | exact False.elim hn | (simp [IsBits] at hn; simp [binOp, Op.intBits, hn]; done)

theorem abin_sound (hτ : TabOK P τ) {op : BinOp} {t yt : TypeId} {x y : Operand} (ho : o.op = .binOp op t x y yt) {K : S → Prop} (h : abin τ op t (ev x) (ev y) K) : ∃ s, K s ∧ QOp P o ev H s [] := by
  unfold abin at h
  split at h
  · rename_i k a k' b hx hy
    exact aint_sound ho hx hy h
  · rename_i p q hx hy
    split at h
    · rename_i ht
      obtain ⟨u, hu, _, rfl⟩ := (hτ.td _ _ ht).und
      split at h
      · refine ⟨_, h.get, qop_same fun a w ι M he hh => ⟨_, abin_run ho (v := .bool (p == q)) ?_ ?_ ?_, .bool⟩⟩
        · simp [(he.to hx).inv_atm]
        · simp [(he.to hx).inv_atm]
        · rw [(he.to hx).inv_atm, (he.to hy).inv_atm]; exact run_eql_bool w t p q hu
      · refine ⟨_, h.get, qop_same fun a w ι M he hh => ⟨_, abin_run ho (v := .bool (!(p == q))) ?_ ?_ ?_, .bool⟩⟩
        · simp [(he.to hx).inv_atm]
        · simp [(he.to hx).inv_atm]
        · rw [(he.to hx).inv_atm, (he.to hy).inv_atm]; simp [binOp, run_equal_bool w t p q hu]
      · exact h.elim
    · exact h.elim
  · rename_i cx s hx hy
    split at h
    · rename_i e _ _ _ _ ht
      have hu := und_slice hτ ht
      have key : ∀ (k : Bool → Prop), isNilK cx k → ∃ r, k r ∧ ∀ (a : Act) (w : World) (ι : Io) (M : Ms), EvRel w ι M ev a → ∃ A n c, a.eval x = .slice A n c ∧ A.isNone = r := by
        intro k hk
        unfold isNilK at hk
        split at hk
        · refine ⟨true, hk, fun a w ι M he => ?_⟩
          have hr := (he.to hx).inv_t
          generalize a.eval x = v at *
          cases hr with
          | sl f hrow hcap hmax hk hn hA hc hr => exact ⟨_, _, _, rfl, by rw [(hn rfl).2.1]; rfl⟩
        · rename_i _ _ rows _
          refine ⟨false, hk.2, fun a w ι M he => ?_⟩
          have hr := (he.to hx).inv_t
          generalize a.eval x = v at *
          cases hr with
          | sl f hrow hcap hmax hk' hn hA hc hr => exact ⟨_, _, _, rfl, by rw [hA (by intro e; subst e; simp at hk)]; rfl⟩
        · refine ⟨false, hk.2, fun a w ι M he => ?_⟩
          have hr := (he.to hx).inv_c
          generalize a.eval x = v at *
          cases hr with
          | own h' q1 q2 q3 q4 q5 => exact ⟨_, _, _, rfl, by rw [q2 hk.1]; rfl⟩
          | nil h' => have := hk.1; omega
        · exact hk.elim
      have hnil : ∀ (a : Act) (w : World) (ι : Io) (M : Ms), EvRel w ι M ev a → ∃ c, a.eval y = .slice none 0 c := fun a w ι M he => by
        have hr := (he.to hy).inv_t
        generalize a.eval y = v at *
        cases hr with
        | sl f hrow hcap hmax hk hn hA hc hr => obtain ⟨_, rfl, _⟩ := hn rfl; exact ⟨_, rfl⟩
      split at h
      · obtain ⟨r, h, hr⟩ := key _ h
        refine ⟨_, h, qop_same fun a w ι M he hh => ?_⟩
        obtain ⟨A, n, c, e1, rfl⟩ := hr a w ι M he
        obtain ⟨c', e2⟩ := hnil a w ι M he
        exact ⟨.bool A.isNone, abin_run ho (by simp [e1]) (by simp [e1]) (by rw [e1, e2]; exact Lib.run_eql_slice_nil w t e A n c 0 c' hu), .bool⟩
      · obtain ⟨r, h, hr⟩ := key _ h
        refine ⟨_, h, qop_same fun a w ι M he hh => ?_⟩
        obtain ⟨A, n, c, e1, rfl⟩ := hr a w ι M he
        obtain ⟨c', e2⟩ := hnil a w ι M he
        exact ⟨.bool (!A.isNone), abin_run ho (by simp [e1]) (by simp [e1]) (by rw [e1, e2]; exact run_neq_slice_nil_any w t e A n c 0 c' hu), .bool⟩
      · exact h.elim
    · exact h.elim
  · exact h.elim

theorem aun_sound {op : UnOp} {t : TypeId} {x : Operand} (ho : o.op = .unOp op t x) {K : S → Prop} (h : aun op (ev x) K) : ∃ s, K s ∧ QOp P o ev H s [] := by
  unfold aun at h
  split at h
  · rename_i k n hx
    obtain ⟨m, hm, h⟩ := h
    exact ⟨_, h, qop_same fun a w ι M he hh => ⟨.int k m, by simp [execOp, ho, (he.to hx).inv_atm, Op.unary, Op.intArith]; rw [hm]; simp, .int⟩⟩
  · rename_i b hx
    exact ⟨_, h, qop_same fun a w ι M he hh => ⟨.bool (!b), by simp [execOp, ho, (he.to hx).inv_atm, Op.unary], .bool⟩⟩
  · exact h.elim

theorem aconv_sound (hτ : TabOK P τ) {src dst : TypeId} {x : Operand} (ho : o.op = .convert src dst x) {K : S → Prop} (h : aconv τ src dst (ev x) K) : ∃ s, K s ∧ QOp P o ev H s [] := by
  unfold aconv at h
  split at h
  · rename_i k0 n d k _ _ _ _ hx hs hd
    obtain ⟨m, hm, h⟩ := h
    obtain ⟨u, hu, _⟩ := (hτ.td _ _ hs).und
    obtain ⟨u', hu', _, rfl⟩ := (hτ.td _ _ hd).und
    exact ⟨_, h, qop_same fun a w ι M he hh => ⟨.int k m, by
      rw [hm]
      simp [execOp, ho, (he.to hx).inv_atm, convert, run_underlying hu, run_underlying hu', Conv.intToInt], .int⟩⟩
  · exact h.elim

theorem aextract_sound {x : Operand} {i : Nat} (ho : o.op = .extract x i) {ss : List S} (hx : ev x = .tup ss) {s : S} (hs : ss[i]? = some s) : QOp P o ev H s [] :=
  qop_same fun a w ι M he hh => by
    generalize hv : a.eval x = v
    have hr := he.to hx
    rw [hv] at hr
    cases hr with
    | tup vs hl hr =>
      have hlt : i < vs.length := by rw [hl]; exact (List.getElem?_eq_some_iff.1 hs).1
      have := hr i s hs
      rw [List.getD_eq_getElem?_getD, List.getElem?_eq_getElem hlt] at this
      exact ⟨vs[i], by simp [execOp, ho, hv, Instr.extract, hlt], this⟩

theorem alen_sound (hτ : TabOK P τ) {c : Call} {t : TypeId} {ts : List TypeId} {x : Operand} {xs : List Operand} (ho : o.op = .call c) (hc : c.callee = .builtin .len) (hts : c.argTypes.toList = t :: ts) (hxs : c.args.toList = x :: xs) {K : S → Prop}
    (h : alen τ t (ev x) K) : ∃ s, K s ∧ QOp P o ev H s [] := by
  obtain ⟨callee, args, argTypes⟩ := c
  simp only at hc hts hxs
  subst hc
  obtain rfl : argTypes = (t :: ts).toArray := by rw [← hts]
  obtain rfl : args = (x :: xs).toArray := by rw [← hxs]
  unfold alen at h
  split at h
  · rename_i e _ _ _ _ ht
    have hu := und_slice hτ ht
    split at h
    · rename_i sz k rows hx
      refine ⟨_, h, qop_same fun a w ι M he hh => ⟨.int .i64 rows.length, ?_, .int⟩⟩
      have hr := (he.to hx).inv_t
      generalize hv : a.eval x = v at *
      cases hr
      simp [execOp, ho, resolve, invoke, builtin, Builtin.len_, hv, run_underlying hu, goInt]
    · rename_i id lo len app hx
      refine ⟨_, h, qop_same fun a w ι M he hh => ⟨.int .i64 len, ?_, .int⟩⟩
      have hr := (he.to hx).inv_c
      generalize hv : a.eval x = v at *
      cases hr <;> simp [execOp, ho, resolve, invoke, builtin, Builtin.len_, hv, run_underlying hu, goInt]
    · exact h.elim
  · rename_i n e _ _ _ _ ht
    have hu := und_arr hτ ht
    refine ⟨_, h, qop_same fun a w ι M he hh => ⟨.int .i64 n, ?_, .int⟩⟩
    simp [execOp, ho, resolve, invoke, builtin, Builtin.len_, run_underlying hu, goInt]
  · exact h.elim

theorem amin_sound {c : Call} (mx : Bool) (ho : o.op = .call c) (hc : c.callee = .builtin (cond mx .max .min)) {K : S → Prop}
    (h : amin mx (c.args.toList.map ev) K) : ∃ s, K s ∧ QOp P o ev H s [] := by
  obtain ⟨callee, args, argTypes⟩ := c
  simp only at hc h
  subst hc
  unfold amin at h
  split at h
  · rename_i k p k' q hx
    obtain ⟨args⟩ := args
    rcases args with _ | ⟨x, _ | ⟨y, _ | ⟨z, r⟩⟩⟩ <;> simp at hx
    obtain ⟨hx, hy⟩ := hx
    refine ⟨_, h, qop_same fun a w ι M he hh => ⟨.int k (cond mx (if q > p then q else p) (if q < p then q else p)), ?_, .int⟩⟩
    cases mx <;> simp [execOp, ho, resolve, invoke, builtin, Builtin.min_, Builtin.max_, Builtin.min2, Builtin.max2, (he.to hx).inv_atm, (he.to hy).inv_atm]
  · exact h.elim

theorem allC_some {l : List S} {cs : List C} (h : allC l = some cs) : l = cs.map S.c := by
  induction l generalizing cs with
  | nil => simp [allC] at h; subst h; rfl
  | cons s l ih => cases s <;> simp [allC] at h
                   split at h
                   · rename_i xs hxs; injection h with h; subst h; rw [ih hxs]; rfl
                   · cases h
theorem allT_some {l : List C} {ts : List T} (h : allT l = some ts) : l = ts.map C.t := by
  induction l generalizing ts with
  | nil => simp [allT] at h; subst h; rfl
  | cons s l ih => cases s <;> simp [allT] at h
                   split at h
                   · rename_i xs hxs; injection h with h; subst h; rw [ih hxs]; rfl
                   · cases h
theorem allTT_some {l : List (List C)} {ts : List (List T)} (h : allTT l = some ts) : l = toC ts := by
  induction l generalizing ts with
  | nil => simp [allTT] at h; subst h; rfl
  | cons s l ih => simp only [allTT] at h
                   split at h
                   · rename_i a b ha hb; injection h with h; subst h; rw [ih hb, allT_some ha]; rfl
                   · cases h

theorem amakeFunc_sound {fn : Fn} {first caps : Array Operand} (ho : o.op = .makeFunc fn first caps) (hf : first.toList = []) {cs : List C} (hc : caps.toList.map ev = cs.map S.c) : QOp P o ev H (.c (.fn fn cs)) [] :=
  qop_same fun a w ι M he hh => by
    obtain rfl : first = #[] := by simpa using hf
    refine ⟨.func fn #[] (caps.toList.map a.eval).toArray, by simp [execOp, ho, Instr.makeFunc]; apply Array.ext'; simp, .c (.fn _ ?_ fun j c hj => ?_)⟩
    · rw [List.length_map]; simpa using congrArg List.length hc
    · have h1 : (caps.toList.map ev)[j]? = some (.c c) := by rw [hc, List.getElem?_map, hj]; rfl
      rw [List.getElem?_map] at h1
      cases hx : caps.toList[j]? with
      | none => rw [hx] at h1; cases h1
      | some x =>
        rw [hx] at h1
        injection h1 with h1
        rw [List.getD_eq_getElem?_getD, List.getElem?_map, hx]
        exact (he.to h1).inv_c
theorem amakeFuncT_sound {fn : Fn} {first caps : Array Operand} (ho : o.op = .makeFunc fn first caps) (hf : first.toList = []) {ts : List T} (hc : caps.toList.map ev = (ts.map C.t).map S.c) : QOp P o ev H (.c (.t (.fn fn ts))) [] :=
  qop_same fun a w ι M he hh => by
    obtain rfl : first = #[] := by simpa using hf
    refine ⟨.func fn #[] (caps.toList.map a.eval).toArray, by simp [execOp, ho, Instr.makeFunc]; apply Array.ext'; simp, .c (.t (.fn _ ?_ fun j c hj => ?_))⟩
    · rw [List.length_map]; simpa using congrArg List.length hc
    · have h1 : (caps.toList.map ev)[j]? = some (.c (.t c)) := by rw [hc, List.getElem?_map, List.getElem?_map, hj]; rfl
      rw [List.getElem?_map] at h1
      cases hx : caps.toList[j]? with
      | none => rw [hx] at h1; cases h1
      | some x =>
        rw [hx] at h1
        injection h1 with h1
        rw [List.getD_eq_getElem?_getD, List.getElem?_map, hx]
        exact (he.to h1).inv_t
end
end Go.Proofs.Ythjgbjakpbfnoaa
