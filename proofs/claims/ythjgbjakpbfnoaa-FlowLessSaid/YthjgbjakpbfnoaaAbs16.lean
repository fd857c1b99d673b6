/- Rules for the abstract machine: calls, loops, weakening, numbers. -/
import Derived.Test.YthjgbjakpbfnoaaAbsView
namespace Go.Proofs.Ythjgbjakpbfnoaa
open Go.RowKit
set_option linter.unusedVariables false
set_option linter.unusedSimpArgs false

def C.isT : C → Bool
  | .t _ => true
  | _ => false
def S.isT : S → Bool
  | .junk => true
  | .c x => x.isT
  | .agg cs => cs.all C.isT
  | .tup ss => ss.all fun s => match s with
    | .c x => x.isT
    | .agg cs => cs.all C.isT
    | .junk => true
    | .tup _ => false

theorem RC.tree {w : World} {ι ι' : Io} {M : Ms} {x : C} {v : Value} (h : x.isT = true) (hr : RC w ι M x v) : RC w ι' M x v := by
  cases hr <;> first | exact .t ‹_› | cases h
theorem RS.tree1 {w : World} {ι ι' : Io} {M : Ms} {s : S} {v : Value} (h : (match s with | .c x => x.isT | .agg cs => cs.all C.isT | .junk => true | .tup _ => false) = true) (hr : RS w ι M s v) : RS w ι' M s v := by
  cases hr with
  | junk => exact .junk
  | c hr => exact .c (hr.tree h)
  | agg vs hl hr => exact .agg vs hl fun j c hj => (hr j c hj).tree (List.all_eq_true.1 h c (List.mem_of_getElem? hj))
  | tup vs hl hr => cases h
theorem RS.tree {w : World} {ι ι' : Io} {M : Ms} {s : S} {v : Value} (h : s.isT = true) (hr : RS w ι M s v) : RS w ι' M s v := by
  cases hr with
  | junk => exact .junk
  | c hr => exact .c (hr.tree h)
  | agg vs hl hr => exact .agg vs hl fun j c hj => (hr j c hj).tree (List.all_eq_true.1 h c (List.mem_of_getElem? hj))
  | tup vs hl hr => exact .tup vs hl fun j s hj => (hr j s hj).tree1 (List.all_eq_true.1 h s (List.mem_of_getElem? hj))

/-- a call of a function at data alone -/
theorem qcall_pure {P : Program} {g : FuncId} {args : List S} {H : Hp} {r : S} (h : ACall P g args [] r []) (ha : args.all S.isT = true) (hr : r.isT = true) : QCall P g args H r [] := by
  refine ⟨h.1, fun w ι M vals hl hv hH hM hf => ?_⟩
  have := h.2 w (fun _ => none) M vals hl (fun j s hj => (hv j s hj).tree (List.all_eq_true.1 ha s (List.mem_of_getElem? hj)))
    ⟨by simp, by simp, by simp, by simp⟩ hM (fun _ _ => rfl)
  refine Calls.mono this ?_
  rintro e w' ⟨v, rfl, ι', M', h1, h2, h3, h4, h5⟩
  refine ⟨v, rfl, QPost.of_none ?_ ?_⟩
  · refine RS.keep (ι := ι) (M := M') (fun _ _ _ => rfl) (fun b hb => ?_) (fun _ _ h => h) (h1.tree hr)
    rcases h5.mold b hb with h | ⟨id, k, _, _, hk, _⟩
    · exact .inl h
    · simp at hk
  · exact ⟨h5.os, h5.tape, h5.output, h5.size, fun b hb => h5.keep b hb (by rintro ⟨id, k, _, _, hk, _⟩; simp at hk)⟩

theorem BoolB.mono {b : Bool} {k k' : S → Prop} (h : BoolB b k) (hk : ∀ s, k s → k' s) : BoolB b k' := ⟨fun e => hk _ (h.yes e), fun e => hk _ (h.no e)⟩
theorem boolF_mono {s : S} {k k' : S → Prop} (h : boolF s k) (hk : ∀ s, k s → k' s) : boolF s k' := by
  cases s with
  | c x => cases x with
    | t y => cases y with
      | atm v => cases v <;> first | exact BoolB.mono h hk | exact hk _ h
      | _ => exact hk _ h
    | _ => exact hk _ h
  | _ => exact hk _ h

theorem Awp.mono {P : Program} {n0 : Nat} {c : Code} {env : Env} {H : Hp} {Q Q' : AX → Env → Hp → Prop} (h : Awp P n0 c env H Q) (hq : ∀ a env H, Q a env H → Q' a env H) : Awp P n0 c env H Q' :=
  ⟨fun w0 ι0 M0 H0 a w hn hM hs => wp_mono (h.out w0 ι0 M0 H0 a w hn hM hs) (by rintro e a' w' ⟨x, env', H', h1, h2, h3⟩; exact ⟨x, env', H', h1, hq _ _ _ h2, h3⟩)⟩

theorem wrap_ok {x : Int} (h1 : -9223372036854775808 ≤ x) (h2 : x ≤ 9223372036854775807) : IsWrap .i64 x x := by
  unfold IsWrap
  exact (IntWalk.i64_in x ⟨h1, by omega⟩).symm

/-- weakening: slots forgotten, blocks renamed or dropped, a nil slice taken for an empty one of one's own, and what lies in dropped blocks taken for data -/
def notIn : List (Option Nat) → Nat → Bool
  | [], _ => true
  | some m :: r, n => !(Nat.beq m n) && notIn r n
  | none :: r, n => notIn r n
def EntC (ρ : List (Option Nat)) (H : Hp) (x y : C) : Prop :=
  match y with
  | .t y => match x with
    | .t x => weakTo y x = y
    | x => VC H (fun id => notIn ρ id = true) x y
  | .own id' lo' len' app' => match x with
    | .t (.sl _ .nil _) => ρ[id']? = some none ∧ lo' = 0 ∧ len' = 0
    | .own id lo len app => ρ[id']? = some (some id) ∧ lo = lo' ∧ len = len' ∧ (app' = true → app = true)
    | _ => False
  | .ptr id' r' o' => match x with
    | .ptr id r o => ρ[id']? = some (some id) ∧ r = r' ∧ o = o'
    | _ => False
  | .fn _ _ => False
def EntL (ρ : List (Option Nat)) (H : Hp) : List C → List C → Prop
  | [], [] => True
  | x :: r, y :: r' => EntC ρ H x y ∧ EntL ρ H r r'
  | _, _ => False
def EntS (ρ : List (Option Nat)) (H : Hp) (s : S) (s' : S) : Prop :=
  match s' with
  | .junk => True
  | .c y => match s with
    | .c x => EntC ρ H x y
    | _ => False
  | .agg cs' => match s with
    | .agg cs => EntL ρ H cs cs'
    | _ => False
  | .tup _ => False
def EntE (ρ : List (Option Nat)) (H : Hp) : Env → Env → Prop
  | [], [] => True
  | s :: r, s' :: r' => match s' with
    | .junk => EntE ρ H r r'
    | s' => EntS ρ H s s' ∧ EntE ρ H r r'
  | _, _ => False
def rowsT (rows : List (List C)) : Prop := ∀ r ∈ rows, ∀ c ∈ r, c.isT = true
def EntR (ρ : List (Option Nat)) (H : Hp) : List (List C) → List (List C) → Prop
  | [], [] => True
  | x :: r, y :: r' => EntL ρ H x y ∧ EntR ρ H r r'
  | _, _ => False
def EntB (ρ : List (Option Nat)) (H : Hp) (k k' : Blk) : Prop :=
  k.mode = k'.mode ∧ k.elem = k'.elem ∧ k.size = k'.size ∧ ((k.rows = k'.rows ∧ rowsT k.rows) ∨ EntR ρ H k.rows k'.rows)
def EntH (ρ : List (Option Nat)) (H : Hp) : List (Option Nat) → Hp → Prop
  | [], [] => True
  | x :: r, k' :: r' => (match x with
    | none => k'.rows = [] ∧ k'.mode = .live
    | some id => match H[id]? with
      | some k => EntB ρ H k k'
      | none => False) ∧ EntH ρ H r r'
  | _, _ => False
def nodupB : List (Option Nat) → Bool
  | [] => true
  | none :: r => nodupB r
  | some n :: r => !(r.any fun x => match x with | some m => Nat.beq m n | none => false) && nodupB r
def keepsB (ρ : List (Option Nat)) : Nat → Bool
  | 0 => true
  | n + 1 => (match ρ[n]? with | some (some m) => Nat.beq m n | _ => false) && keepsB ρ n
def Ent (n0 : Nat) (ρ : List (Option Nat)) (env : Env) (H : Hp) (env' : Env) (H' : Hp) : Prop :=
  keepsB ρ n0 = true ∧ nodupB ρ = true ∧ EntH ρ H ρ H' ∧ EntE ρ H env env'

/-- the places under a renaming -/
def renIo (ρ : List (Option Nat)) (ι : Io) : Io := fun id => match ρ[id]? with
  | some (some j) => ι j
  | some none => some .nil
  | none => none
/-- what may still be written when blocks are dropped -/
def renMs (ρ : List (Option Nat)) (H : Hp) (ι : Io) (M : Ms) : Ms := fun b => M b ∧ ¬ ∃ id k cap size, notIn ρ id = true ∧ H[id]? = some k ∧ k.mode ≠ .dead ∧ ι id = some (.blk b cap size)

theorem notIn_get : ∀ {ρ : List (Option Nat)} {i n : Nat}, ρ[i]? = some (some n) → notIn ρ n = true → False
  | [], i, n, h, _ => by simp at h
  | x :: r, i, n, h, hn => by
    have hr : notIn r n = true := by cases x <;> simp [notIn] at hn <;> first | exact hn | exact hn.2
    cases i with
    | zero =>
      simp at h
      subst h
      simp [notIn] at hn
    | succ i => exact notIn_get (by simpa using h) hr

theorem RC.sub {w : World} {ι : Io} {M M' : Ms} (hM : ∀ b, M' b → M b) {x : C} {v : Value} (h : RC w ι M x v) : RC w ι M' x v := h.keep (fun _ _ _ => rfl) (fun b hb => .inl (hM b hb)) (fun _ _ h => h)

theorem EntC.rc {w : World} {ι : Io} {M : Ms} {ρ : List (Option Nat)} {H : Hp} (hH : HeapRel w ι M H) {x y : C} {v : Value} (h : EntC ρ H x y) (hr : RC w ι M x v) : RC w (renIo ρ ι) (renMs ρ H ι M) y v := by
  cases y with
  | t y =>
    have h : VC H (fun id => notIn ρ id = true) x y := by cases x <;> first | exact h | (simp only [VC]; exact h)
    refine .t (VC.rt hH (fun b hb => hb.1) ?_ x y v h hr)
    intro id k b cap size hp hk hd hi hb
    exact hb.2 ⟨id, k, cap, size, hp, hk, hd, hi⟩
  | own id' lo' len' app' =>
    cases x with
    | t x =>
      cases x with
      | sl size k rows =>
        cases k with
        | nil =>
          obtain ⟨h1, rfl, rfl⟩ := h
          cases hr with
          | t hr => cases hr with
            | sl f hrow hcap hmax hk hn hA hc hr =>
              obtain ⟨rfl, rfl, rfl⟩ := hn rfl
              exact .nil (by unfold renIo; rw [h1])
        | _ => exact False.elim h
      | _ => exact False.elim h
    | own id lo len app =>
      obtain ⟨h1, rfl, rfl, happ⟩ := h
      cases hr with
      | own hi q1 q2 q3 q4 q5 => exact .own (by unfold renIo; rw [h1]; exact hi) q1 q2 q3 q4 (fun h => q5 (happ h))
      | nil hi => exact .nil (by unfold renIo; rw [h1]; exact hi)
    | _ => exact False.elim h
  | ptr id' r' o' =>
    cases x with
    | ptr id r o =>
      obtain ⟨h1, rfl, rfl⟩ := h
      cases hr with
      | ptr hi => exact .ptr (by unfold renIo; rw [h1]; exact hi)
    | _ => exact False.elim h
  | fn f caps => exact False.elim h

section
variable {w : World} {ι : Io} {M : Ms} {ρ : List (Option Nat)} {H : Hp} (hH : HeapRel w ι M H)
include hH
theorem EntL.rc : ∀ {xs ys : List C}, EntL ρ H xs ys → xs.length = ys.length ∧ ∀ (j : Nat) (x y : C) (v : Value), xs[j]? = some x → ys[j]? = some y → RC w ι M x v → RC w (renIo ρ ι) (renMs ρ H ι M) y v
  | [], [], _ => ⟨rfl, by simp⟩
  | x :: xs, y :: ys, h => by
    obtain ⟨h1, h2⟩ := EntL.rc h.2
    refine ⟨by simp [h1], fun j x' y' v hx hy hr => ?_⟩
    cases j with
    | zero => simp at hx hy; subst hx hy; exact h.1.rc hH hr
    | succ j => exact h2 j x' y' v (by simpa using hx) (by simpa using hy) hr
  | [], _ :: _, h => h.elim
  | _ :: _, [], h => h.elim

theorem EntS.rs {s s' : S} {v : Value} (h : EntS ρ H s s') (hr : RS w ι M s v) : RS w (renIo ρ ι) (renMs ρ H ι M) s' v := by
  unfold EntS at h
  split at h
  · exact .junk
  · split at h
    · exact .c (EntC.rc hH h hr.inv_c)
    · exact h.elim
  · split at h
    · cases hr with
      | agg vs hl hr =>
        obtain ⟨h1, h2⟩ := EntL.rc hH h
        refine .agg vs (by omega) fun j c hj => ?_
        have hlt := (List.getElem?_eq_some_iff.1 hj).1
        exact h2 j _ c _ (List.getElem?_eq_getElem (by omega)) hj (hr j _ (List.getElem?_eq_getElem (by omega)))
    · exact h.elim
  · exact h.elim

omit hH in
theorem EntE.rel : ∀ {env env' : Env}, EntE ρ H env env' → env.length = env'.length ∧ ∀ (t : Nat) (s' : S), env'[t]? = some s' → ∃ s, env[t]? = some s ∧ EntS ρ H s s'
  | [], [], _ => ⟨rfl, by simp⟩
  | s :: r, s' :: r', h => by
    have h' : EntS ρ H s s' ∧ EntE ρ H r r' := by
      cases s' with
      | junk => exact ⟨trivial, h⟩
      | _ => exact h
    obtain ⟨h1, h2⟩ := EntE.rel h'.2
    refine ⟨by simp [h1], fun t s'' ht => ?_⟩
    cases t with
    | zero => simp at ht; subst ht; exact ⟨s, rfl, h'.1⟩
    | succ t => simpa using h2 t s'' (by simpa using ht)
  | [], _ :: _, h => h.elim
  | _ :: _, [], h => h.elim

theorem EntR.rc : ∀ {xs ys : List (List C)}, EntR ρ H xs ys → xs.length = ys.length ∧ (∀ n, (∀ r ∈ xs, r.length = n) → ∀ r ∈ ys, r.length = n) ∧
    ∀ (i j : Nat) (y : C), at2 ys i j = some y → ∃ x, at2 xs i j = some x ∧ ∀ v, RC w ι M x v → RC w (renIo ρ ι) (renMs ρ H ι M) y v
  | [], [], _ => ⟨rfl, by simp, by simp [at2]⟩
  | x :: xs, y :: ys, h => by
    obtain ⟨h1, h2, h3⟩ := EntR.rc h.2
    obtain ⟨q1, q2⟩ := EntL.rc hH h.1
    refine ⟨by simp [h1], fun n hn r hr => ?_, fun i j y' hy => ?_⟩
    · rcases List.mem_cons.1 hr with rfl | hr
      · rw [← q1]; exact hn x (by simp)
      · exact h2 n (fun r hr => hn r (by simp [hr])) r hr
    · obtain ⟨row, r1, r2⟩ := at2_inv hy
      cases i with
      | zero =>
        simp at r1
        subst r1
        have hlt := (List.getElem?_eq_some_iff.1 r2).1
        exact ⟨_, at2_some rfl (List.getElem?_eq_getElem (by omega)), fun v hv => q2 j _ _ v (List.getElem?_eq_getElem (by omega)) r2 hv⟩
      | succ i =>
        obtain ⟨x', s1, s2⟩ := h3 i j y' (at2_some (by simpa using r1) r2)
        obtain ⟨row', t1, t2⟩ := at2_inv s1
        exact ⟨x', at2_some (by simpa using t1) t2, s2⟩
  | [], _ :: _, h => h.elim
  | _ :: _, [], h => h.elim
end

theorem EntH.get {ρ : List (Option Nat)} {H : Hp} : ∀ {r : List (Option Nat)} {H' : Hp}, EntH ρ H r H' → r.length = H'.length ∧ ∀ (id : Nat) (k' : Blk), H'[id]? = some k' →
    (r[id]? = some none ∧ k'.rows = [] ∧ k'.mode = .live) ∨ ∃ j k, r[id]? = some (some j) ∧ H[j]? = some k ∧ EntB ρ H k k'
  | [], [], _ => ⟨rfl, by simp⟩
  | x :: r, k :: H', h => by
    obtain ⟨h1, h2⟩ := EntH.get h.2
    refine ⟨by simp [h1], fun id k' hk => ?_⟩
    cases id with
    | zero =>
      simp at hk
      subst hk
      have hx := h.1
      cases x with
      | none => exact .inl ⟨rfl, hx⟩
      | some j =>
        refine .inr ⟨j, ?_⟩
        simp only at hx
        split at hx
        · rename_i k0 hk0
          exact ⟨k0, rfl, hk0, hx⟩
        · exact hx.elim
    | succ id => simpa using h2 id k' (by simpa using hk)
  | [], _ :: _, h => h.elim
  | _ :: _, [], h => h.elim

theorem nodup_get : ∀ {l : List (Option Nat)}, nodupB l = true → ∀ (i j n : Nat), l[i]? = some (some n) → l[j]? = some (some n) → i = j
  | [], _, i, j, n, h, _ => by simp at h
  | x :: r, hn, i, j, n, hi, hj => by
    have hr : nodupB r = true := by
      cases x with
      | none => exact hn
      | some m => simp only [nodupB, Bool.and_eq_true] at hn; exact hn.2
    have hx : ∀ k, x = some n → r[k]? = some (some n) → False := fun k hxn hk => by
      subst hxn
      simp only [nodupB, Bool.and_eq_true, Bool.not_eq_true', List.any_eq_false] at hn
      exact hn.1 (some n) (List.mem_of_getElem? hk) (by simp)
    cases i with
    | zero => cases j with
      | zero => rfl
      | succ j => simp at hi hj; exact (hx j hi hj).elim
    | succ i => cases j with
      | zero => simp at hi hj; exact (hx i hj hi).elim
      | succ j => simp at hi hj; rw [nodup_get hr i j n hi hj]

theorem keeps_get {ρ : List (Option Nat)} : ∀ {n : Nat}, keepsB ρ n = true → ∀ i, i < n → ρ[i]? = some (some i)
  | 0, _, i, h => by omega
  | n + 1, hk, i, h => by
    simp only [keepsB, Bool.and_eq_true] at hk
    by_cases hi : i = n
    · subst hi
      have := hk.1
      split at this
      · rename_i m hm
        rw [hm, Nat.eq_of_beq_eq_true this]
      · cases this
    · exact keeps_get hk.2 i (by omega)

theorem rowsT_rc {w : World} {ι ι' : Io} {M M' : Ms} (hM : ∀ b, M' b → M b) {rows : List (List C)} (h : rowsT rows) {i j : Nat} {c : C} (hc : at2 rows i j = some c) {u : Value} (hr : RC w ι M c u) : RC w ι' M' c u := by
  obtain ⟨row, h1, h2⟩ := at2_inv hc
  exact (hr.tree (h row (List.mem_of_getElem? h1) c (List.mem_of_getElem? h2))).sub hM

theorem EntH.all {n0 : Nat} {ρ : List (Option Nat)} {H H' : Hp} (h1 : keepsB ρ n0 = true) (h2 : nodupB ρ = true) (h3 : EntH ρ H ρ H') {w0 : World} {ι0 : Io} {M0 : Ms} {H0 : Hp} {w : World} {ι : Io} {M : Ms} (hn : H0.length = n0) (hM0 : MB w0 M0)
    (hH : HeapRel w ι M H) (hst : Step w0 ι0 M0 H0 w ι M H) : HeapRel w (renIo ρ ι) (renMs ρ H ι M) H' ∧ Fresh (renIo ρ ι) H'.length ∧ Step w0 ι0 M0 H0 w (renIo ρ ι) (renMs ρ H ι M) H' := by
  obtain ⟨hl, hg⟩ := EntH.get h3
  have hsub : ∀ b, renMs ρ H ι M b → M b := fun b hb => hb.1
  have hren : ∀ id j, ρ[id]? = some (some j) → renIo ρ ι id = ι j := fun id j hj => by unfold renIo; rw [hj]
  have hnil : ∀ id, ρ[id]? = some none → renIo ρ ι id = some .nil := fun id hj => by unfold renIo; rw [hj]
  have hle : H0.length ≤ H'.length := by
    rw [← hl, hn]
    rcases Nat.lt_or_ge ρ.length n0 with hlt | hge
    · have := keeps_get h1 ρ.length hlt
      simp at this
    · exact hge
  refine ⟨⟨?_, ?_, ?_, ?_⟩, ?_, ⟨hst.os, hst.tape, hst.output, hst.size, hst.keep, ?_, fun b hb => hst.mnew b hb.1, ?_, ?_, hle⟩⟩
  · intro id k' hk hd l hll
    rcases hg id k' hk with ⟨q1, q2, q3⟩ | ⟨j, k, q1, q2, q3, q4, q5, q6⟩
    · rw [hnil id q1] at hll
      injection hll with hll
      subst hll
      exact q2
    · rw [hren id j q1] at hll
      have hb := hH.blk j k q2 (by rw [q3]; exact hd) l hll
      cases l with
      | nil =>
        have hb' : k.rows = [] := hb
        show k'.rows = []
        rcases q6 with ⟨q6, _⟩ | q6
        · rw [← q6, hb']
        · rw [hb'] at q6
          cases hr : k'.rows with
          | nil => rfl
          | cons y ys => rw [hr] at q6; exact q6.elim
      | blk b cap size =>
        obtain ⟨r1, r2, r3, r4, r5, cur, r6, r7, r8⟩ := hb
        rcases q6 with ⟨q6, q7⟩ | q6
        · refine ⟨by rw [← q5]; exact r1, r2, by rw [← q6]; exact r3, r4, by rw [← q6]; exact r5, cur, by rw [← q4]; exact r6, r7, fun i j c hc => ?_⟩
          rw [← q6] at hc
          obtain ⟨u, s1, s2⟩ := r8 i j c hc
          exact ⟨u, s1, rowsT_rc hsub q7 hc s2⟩
        · obtain ⟨t1, t2, t3⟩ := EntR.rc hH q6
          refine ⟨by rw [← q5]; exact r1, r2, by rw [← t1]; exact r3, r4, t2 size r5, cur, by rw [← q4]; exact r6, r7, fun i j c hc => ?_⟩
          obtain ⟨x, u1, u2⟩ := t3 i j c hc
          obtain ⟨u, s1, s2⟩ := r8 i j x u1
          exact ⟨u, s1, u2 u s2⟩
  · intro id k' hk hm b cap size hi
    rcases hg id k' hk with ⟨q1, q2, q3⟩ | ⟨j, k, q1, q2, q3, q4, q5, q6⟩
    · rw [hnil id q1] at hi; cases hi
    · rw [hren id j q1] at hi
      have hkl : k.mode = .live := by rw [q3]; exact hm
      have hMb := hH.liv j k q2 hkl b cap size hi
      refine ⟨hMb, ?_⟩
      rintro ⟨id2, k2, cap2, size2, n1, n2, n3, n4⟩
      cases hm2 : k2.mode with
      | live =>
        have := hH.inj j id2 k k2 q2 n2 hkl hm2 _ _ _ _ _ hi n4
        subst this
        exact notIn_get q1 n1
      | froz => exact hH.fro id2 k2 n2 hm2 _ _ _ n4 hMb
      | dead => exact n3 hm2
  · intro id k' hk hm b cap size hi
    rcases hg id k' hk with ⟨q1, q2, q3⟩ | ⟨j, k, q1, q2, q3, q4, q5, q6⟩
    · rw [hnil id q1] at hi; cases hi
    · rw [hren id j q1] at hi
      exact fun hb => hH.fro j k q2 (by rw [q3]; exact hm) b cap size hi hb.1
  · intro id id' k k' hk hk' hm hm' b cap size cap' size' hi hi'
    rcases hg id k hk with ⟨q1, q2, q3⟩ | ⟨j, k1, q1, q2, q3, q4, q5, q6⟩
    · rw [hnil id q1] at hi; cases hi
    · rcases hg id' k' hk' with ⟨q1', q2', q3'⟩ | ⟨j', k1', q1', q2', q3', q4', q5', q6'⟩
      · rw [hnil id' q1'] at hi'; cases hi'
      · rw [hren id j q1] at hi
        rw [hren id' j' q1'] at hi'
        have := hH.inj j j' k1 k1' q2 q2' (by rw [q3]; exact hm) (by rw [q3']; exact hm') _ _ _ _ _ hi hi'
        subst this
        exact nodup_get h2 id id' j q1 q1'
  · intro id hid
    unfold renIo
    rw [List.getElem?_eq_none (by omega)]
  · intro id hid
    rw [hren id id (keeps_get h1 id (by omega))]
    exact hst.same id hid
  · intro b hb
    rcases hst.mold b hb with h | h
    · by_cases hx : ∃ id k cap size, notIn ρ id = true ∧ H[id]? = some k ∧ k.mode ≠ .dead ∧ ι id = some (.blk b cap size)
      · obtain ⟨id, k, cap, size, n1, n2, n3, n4⟩ := hx
        refine .inr ?_
        have hlive : k.mode = .live := by
          cases hm : k.mode with
          | live => rfl
          | froz => exact absurd h (hH.fro id k n2 hm _ _ _ n4)
          | dead => exact absurd hm n3
        rcases hst.live b ⟨id, k, cap, size, n2, hlive, n4⟩ with h' | h'
        · exact h'
        · have := hM0 b hb; omega
      · exact .inl ⟨h, hx⟩
    · exact .inr h
  · rintro b ⟨id, k', cap, size, hk, hm, hi⟩
    rcases hg id k' hk with ⟨q1, q2, q3⟩ | ⟨j, k, q1, q2, q3, q4, q5, q6⟩
    · rw [hnil id q1] at hi; cases hi
    · rw [hren id j q1] at hi
      exact hst.live b ⟨j, k, cap, size, q2, by rw [q3]; exact hm, hi⟩

theorem Ent.sim {n0 : Nat} {ρ : List (Option Nat)} {env env' : Env} {H H' : Hp} (h : Ent n0 ρ env H env' H') {w0 : World} {ι0 : Io} {M0 : Ms} {H0 : Hp} {a : Act} {w : World} (hn : H0.length = n0) (hM0 : MB w0 M0)
    (hs : Sim w0 ι0 M0 H0 a w env H) : Sim w0 ι0 M0 H0 a w env' H' := by
  obtain ⟨h1, h2, h3, h4⟩ := h
  obtain ⟨ι, M, hd, hsz, he, hH, hM, hF, hst⟩ := hs
  obtain ⟨hel, heg⟩ := EntE.rel h4
  obtain ⟨q1, q2, q3⟩ := EntH.all h1 h2 h3 hn hM0 hH hst
  refine ⟨renIo ρ ι, _, hd, by omega, fun t s' ht => ?_, q1, fun b hb => hM b hb.1, q2, q3⟩
  obtain ⟨s, q1, q2⟩ := heg t s' ht
  exact q2.rs hH (he t s q1)

/-- a function's end: its result and the blocks that it leaves, others forgotten -/
def EntT (ρ : List (Option Nat)) (H : Hp) (s s' : S) : Prop :=
  match s' with
  | .tup ss' => match s with
    | .tup ss => EntE ρ H ss ss'
    | _ => False
  | s' => EntS ρ H s s'
structure Fin (n0 : Nat) (r : S) (H1 : Hp) (s : S) (H' : Hp) : Prop where
  out : ∃ ρ, keepsB ρ n0 = true ∧ nodupB ρ = true ∧ EntH ρ H1 ρ H' ∧ EntT ρ H1 r s

theorem EntT.rs {w : World} {ι : Io} {M : Ms} {ρ : List (Option Nat)} {H : Hp} (hH : HeapRel w ι M H) {s s' : S} {v : Value} (h : EntT ρ H s s') (hr : RS w ι M s v) : RS w (renIo ρ ι) (renMs ρ H ι M) s' v := by
  cases s' with
  | tup ss' =>
    cases s with
    | tup ss =>
      cases hr with
      | tup vs hl hr =>
        obtain ⟨h1, h2⟩ := EntE.rel h
        refine .tup vs (by omega) fun j s hj => ?_
        obtain ⟨s0, q1, q2⟩ := h2 j s hj
        exact q2.rs hH (hr j s0 q1)
    | _ => exact False.elim h
  | _ => exact EntS.rs hH h hr

/-- data alone comes back -/
theorem fin_t {r s : S} {H1 : Hp} (h : EntT [] H1 r s) : Fin 0 r H1 s [] := ⟨[], rfl, rfl, trivial, h⟩

/-- a function's contract out of its text -/
theorem acall_of {P : Program} {τ : Tab} (hτ : TabOK P τ) {f : FuncId} {fn : Func} {c : Code} {args : List S} {H : Hp} {s : S} {H' : Hp} (hf : P.funcs[f]? = some fn) (hb : fn.body = some c) (hn : fn.name ≠ "runtime.NumGoroutine")
    (h : acode P τ H.length c (args ++ List.replicate (fn.ntmps - args.length) .junk) H fun x env' H1 => match x with
      | .exit _ => False
      | _ => aresult τ fn env' H1 fun r => Fin H.length r H1 s H') : ACall P f args H s H' := by
  refine ⟨⟨fn, hf, by rw [hb]; rfl, hn⟩, fun w ι M vals hl hr hH hM hF => ?_⟩
  refine calls_of_wp hf hb ?_
  have hi := Sim.init hl hr hH hM hF (fn.ntmps - args.length)
  have := (acode_sound hτ c h).out w ι M H _ w rfl hM hi
  have e : vals.toArray.size = args.length := by simpa using hl
  rw [e]
  refine wp_mono this ?_
  rintro e a' w' ⟨x, env', H1, rfl, hq, ι', M', hd, hsz, he, hH', hM', hF', hst⟩
  have key : (aresult τ fn env' H1 fun r => Fin H.length r H1 s H') → a'.defers = [] ∧ ∃ v, (results fn a'.tmps).run P w' = .ok v w' ∧ ∃ v', Ending.returned v = .returned v' ∧ GPost w ι M H s H' v' w' := by
    intro hq
    refine ⟨hd, ?_⟩
    obtain ⟨l, hk, vs, h1, h2, h3⟩ := ares_run hτ he hH' fn.results.toList hq
    have hrun : ∃ v, (results fn a'.tmps).run P w' = .ok v w' ∧ v = (if h : vs.length = 1 then vs[0] else .tuple vs.toArray) := by
      refine ⟨_, ?_, rfl⟩
      unfold results
      rw [Array.mapM_eq_mapM_toList, Sem.run_bind, Sem.run_map]
      refine (congrArg (fun r => Result.andThen (Result.andThen r _) _) h1).trans ?_
      simp
    obtain ⟨v, hv1, rfl⟩ := hrun
    refine ⟨_, hv1, _, rfl, ?_⟩
    have hsr : ∃ r, RS w' ι' M' r (if h : vs.length = 1 then vs[0] else .tuple vs.toArray) ∧ Fin H.length r H1 s H' := by
      match l, hk, h2, h3 with
      | [s1], hk, h2, h3 =>
        refine ⟨s1, ?_, hk⟩
        rw [dif_pos (by simpa using h2)]
        have := h3 0 s1 rfl
        rw [List.getD_eq_getElem?_getD, List.getElem?_eq_getElem (by simp at h2; omega)] at this
        exact this
      | [], hk, h2, h3 =>
        refine ⟨_, ?_, hk⟩
        rw [dif_neg (by simp at h2; simp [h2])]
        exact .tup vs h2 h3
      | s1 :: s2 :: r, hk, h2, h3 =>
        refine ⟨_, ?_, hk⟩
        rw [dif_neg (by simp at h2; omega)]
        exact .tup vs h2 h3
    obtain ⟨r, h4, ρ, f1, f2, f3, f4⟩ := hsr
    obtain ⟨g1, g2, g3⟩ := EntH.all f1 f2 f3 rfl hM hH' hst
    exact ⟨renIo ρ ι', _, f4.rs hH' h4, g1, fun b hb => hM' b hb.1, g2, g3⟩
  cases x with
  | normal => exact key hq
  | ret => exact key hq
  | exit id => exact hq.elim

theorem least_nat (p : Nat → Prop) (h : ∃ n, p n) : ∃ n, p n ∧ ∀ m, p m → n ≤ m := by
  obtain ⟨n, hn⟩ := h
  induction n using Nat.strongRecOn with
  | _ n ih =>
    by_cases hex : ∃ m, m < n ∧ p m
    · obtain ⟨m, hm, hp⟩ := hex
      exact ih m hm hp
    · exact ⟨n, hn, fun m hm => Nat.le_of_not_lt fun hlt => hex ⟨m, hlt, hm⟩⟩

/-- the rule of a loop: its states at the round's head, a measure, and one round -/
theorem awp_loopS {P : Program} {n0 : Nat} {c : Code} {env : Env} {H : Hp} {Q : AX → Env → Hp → Prop} {σ : Type} (E : σ → Env × Hp) (μ : σ → Nat) (x0 : σ) (ρ0 : List (Option Nat))
    (h0 : Ent n0 ρ0 env H (E x0).1 (E x0).2)
    (round : ∀ x, Awp P n0 c (E x).1 (E x).2 fun a env' H' => match a with
      | .normal => ∃ ρ x', Ent n0 ρ env' H' (E x').1 (E x').2 ∧ μ x' < μ x
      | a => Q a env' H') : Awp P n0 (.loop c) env H Q := by
  refine ⟨fun w0 ι0 M0 H0 a w hn hM hs => ?_⟩
  have hs0 := h0.sim hn hM hs
  let I : Act → World → Prop := fun a w => ∃ x, Sim w0 ι0 M0 H0 a w (E x).1 (E x).2
  let J : Act → World → Nat → Prop := fun a w n => ∃ x, μ x = n ∧ Sim w0 ι0 M0 H0 a w (E x).1 (E x).2
  have hJ : ∀ a w, I a w → ∃ n, J a w n := fun a w ⟨x, hx⟩ => ⟨μ x, x, rfl, hx⟩
  classical
  let m : Act → World → Nat := fun a w => if h : ∃ n, J a w n then Classical.choose (least_nat _ h) else 0
  have hmin : ∀ a w x, Sim w0 ι0 M0 H0 a w (E x).1 (E x).2 → m a w ≤ μ x := fun a w x hx => by
    have h : ∃ n, J a w n := ⟨μ x, x, rfl, hx⟩
    show (if h : ∃ n, J a w n then Classical.choose (least_nat _ h) else 0) ≤ μ x
    rw [dif_pos h]
    exact (Classical.choose_spec (least_nat _ h)).2 _ ⟨x, rfl, hx⟩
  refine wp_loop I m ⟨x0, hs0⟩ fun a w hI => ?_
  have hex := hJ a w hI
  have hm : m a w = Classical.choose (least_nat _ hex) := by
    show (if h : ∃ n, J a w n then Classical.choose (least_nat _ h) else 0) = _
    rw [dif_pos hex]
  obtain ⟨x, hx1, hx2⟩ := (Classical.choose_spec (least_nat _ hex)).1
  have hr := (round x).out w0 ι0 M0 H0 a w hn hM hx2
  refine wp_mono hr ?_
  rintro e a' w' ⟨ax, env', H', rfl, hq, hs'⟩
  cases ax with
  | normal =>
    obtain ⟨ρ, x', h1, h2⟩ := hq
    have hs2 := h1.sim hn hM hs'
    refine ⟨⟨x', hs2⟩, ?_⟩
    have := hmin a' w' x' hs2
    omega
  | exit id => exact ⟨_, env', H', rfl, hq, hs'⟩
  | ret => exact ⟨_, env', H', rfl, hq, hs'⟩

theorem awp_loop {P : Program} {τ : Tab} (hτ : TabOK P τ) {n0 : Nat} {c : Code} {env : Env} {H : Hp} {Q : AX → Env → Hp → Prop} {σ : Type} (E : σ → Env × Hp) (μ : σ → Nat) (x0 : σ) (ρ0 : List (Option Nat))
    (h0 : Ent n0 ρ0 env H (E x0).1 (E x0).2)
    (round : ∀ x, acode P τ n0 c (E x).1 (E x).2 fun a env' H' => match a with
      | .normal => ∃ ρ x', Ent n0 ρ env' H' (E x').1 (E x').2 ∧ μ x' < μ x
      | a => Q a env' H') : Awp P n0 (.loop c) env H Q := awp_loopS E μ x0 ρ0 h0 fun x => acode_sound hτ c (round x)

/-- a loop that counts -/
theorem awp_for {P : Program} {τ : Tab} (hτ : TabOK P τ) {n0 : Nat} {c : Code} {env : Env} {H : Hp} {Q : AX → Env → Hp → Prop} (E : Nat → Env × Hp) (n : Nat) (I : Nat → Prop) (ρ0 : List (Option Nat))
    (hI : I 0) (h0 : Ent n0 ρ0 env H (E 0).1 (E 0).2)
    (round : ∀ k, k ≤ n → I k → acode P τ n0 c (E k).1 (E k).2 fun a env' H' => match a with
      | .normal => k < n ∧ I (k + 1) ∧ ∃ ρ, Ent n0 ρ env' H' (E (k + 1)).1 (E (k + 1)).2
      | a => Q a env' H') : Awp P n0 (.loop c) env H Q := by
  refine awp_loopS (σ := { k : Nat // k ≤ n ∧ I k }) (fun k => E k.1) (fun k => n - k.1) ⟨0, Nat.zero_le _, hI⟩ ρ0 h0 ?_
  rintro ⟨k, hk, hi⟩
  refine (acode_sound hτ c (round k hk hi)).mono ?_
  intro a env' H' h
  cases a with
  | normal =>
    obtain ⟨h1, h2, ρ, h3⟩ := h
    exact ⟨ρ, ⟨k + 1, h1, h2⟩, h3, by show n - (k + 1) < n - k; omega⟩
  | exit id => exact h
  | ret => exact h

theorem and_idx {n m : Int} {K : Prop} (h0 : 0 ≤ n) (h1 : n < m) (k : K) : (0 ≤ n ∧ n < m) ∧ K := ⟨⟨h0, h1⟩, k⟩
theorem ex_row {α : Type} {xs : List α} {f : α → List T} {k : Nat} {x : α} {K : List T → Prop} (hx : xs[k]? = some x) (h : K (f x)) : ∃ row, 0 ≤ (k : Int) ∧ (xs.map f)[(k : Int).toNat]? = some row ∧ K row :=
  ⟨f x, by omega, by simp [hx], h⟩
theorem ex_rowI {α : Type} {xs : List α} {f : α → List T} {n : Int} {x : α} {K : List T → Prop} (h0 : 0 ≤ n) (hx : xs[n.toNat]? = some x) (h : K (f x)) : ∃ row, 0 ≤ n ∧ (xs.map f)[n.toNat]? = some row ∧ K row :=
  ⟨f x, h0, by simp [hx], h⟩
end Go.Proofs.Ythjgbjakpbfnoaa
