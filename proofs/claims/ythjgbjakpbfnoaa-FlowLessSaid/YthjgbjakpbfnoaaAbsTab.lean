/- A table of types out of a program, checked by computation. -/
import Derived.Test.YthjgbjakpbfnoaaAbs15
namespace Go.Proofs.Ythjgbjakpbfnoaa
open Go.RowKit
set_option linter.unusedVariables false

def undK (P : Program) (t : TypeId) : Option TK :=
  match P.underlying t with
  | some .bool => some .bool
  | some (.int k) => some (.int k)
  | some (.slice e) => some (.slice e)
  | some (.array n e) => some (.arr n e)
  | some (.struct fs) => cond (fs.toList.all fun f => (P.info? f.type).isSome) (some (.struct (fs.toList.map fun f => (f.offset, P.cellsOf f.type, false)))) none
  | some _ => some .bas
  | none => none
def aggK : TK → Bool
  | .arr _ _ => true
  | .struct _ => true
  | _ => false

theorem places_of {P : Program} : ∀ (fs : List Field), (fs.all fun f => (P.info? f.type).isSome) = true →
    fs.mapM (fun f => (P.info? f.type).map fun i => (f.offset, i.size)) = some ((fs.map fun f => (f.offset, P.cellsOf f.type, false)).map (fun x => (x.1, x.2.1)))
  | [], _ => rfl
  | f :: fs, h => by
    simp only [List.all_cons, Bool.and_eq_true] at h
    obtain ⟨i, hi⟩ := Option.isSome_iff_exists.1 h.1
    have ih := places_of fs h.2
    have hc : P.cellsOf f.type = i.size := by simp [Program.cellsOf, hi]
    simp only [List.mapM_cons, hi, ih, List.map_cons, hc, Option.map_some]
    rfl

theorem td_of {P : Program} {t : TypeId} {d : TD} (h1 : undK P t = some d.k) (h2 : d.agg = aggK d.k)
    (h3 : (P.info? t).map (fun i => (i.zero.map (·.cells.toList), i.size, i.bytes)) = some (some d.zero, d.size, d.bytes)) (h4 : d.zero.all (·.oneCell') = true) (h5 : d.zero.length = d.size) : TDok P t d := by
  constructor
  · cases hi : P.info? t with
    | none => rw [hi] at h3; cases h3
    | some i =>
      rw [hi] at h3
      simp only [Option.map_some, Option.some.injEq, Prod.mk.injEq] at h3
      cases hz : i.zero with
      | none => rw [hz] at h3; cases h3.1
      | some z =>
        rw [hz] at h3
        simp only [Option.map_some, Option.some.injEq] at h3
        exact ⟨i, rfl, h3.2.1, h3.2.2, z, hz, h3.1, fun v hv => List.all_eq_true.1 h4 v hv, h5⟩
  · unfold undK at h1
    cases hu : P.underlying t with
    | none => rw [hu] at h1; cases h1
    | some u =>
      rw [hu] at h1
      refine ⟨u, rfl, ?_⟩
      rw [h2]
      cases u with
      | struct fs =>
        simp only at h1
        cases hb : (fs.toList.all fun f => (P.info? f.type).isSome) with
        | false => rw [hb] at h1; cases h1
        | true =>
          rw [hb] at h1
          simp only [cond_true, Option.some.injEq] at h1
          rw [← h1]
          refine ⟨rfl, fs, rfl, ?_, fun f hf => List.all_eq_true.1 hb f hf, places_of _ hb⟩
          simp
      | _ => simp only [Option.some.injEq] at h1 <;> rw [← h1] <;> exact ⟨rfl, by first | trivial | rfl⟩

def TRows (P : Program) : Nat → List (Option TD) → Prop
  | _, [] => True
  | t, none :: r => TRows P (t + 1) r
  | t, some d :: r => TDok P t d ∧ TRows P (t + 1) r
theorem trows_get {P : Program} : ∀ (l : List (Option TD)) (t0 : Nat), TRows P t0 l → ∀ i d, l.getD i none = some d → TDok P (t0 + i) d
  | [], _, _, i, d, h => by simp at h
  | none :: r, t0, hr, i, d, h => by
    cases i with
    | zero => simp at h
    | succ i => have := trows_get r (t0 + 1) hr i d (by simpa using h); rwa [show t0 + 1 + i = t0 + (i + 1) by omega] at this
  | some e :: r, t0, hr, i, d, h => by
    cases i with
    | zero => simp at h; subst h; exact hr.1
    | succ i => have := trows_get r (t0 + 1) hr.2 i d (by simpa using h); rwa [show t0 + 1 + i = t0 + (i + 1) by omega] at this
theorem tabok_of {P : Program} {l : List (Option TD)} (hm : P.follows .mixedOrders = true) (h : TRows P 0 l) : TabOK P (fun t => l.getD t none) := ⟨hm, fun t d hd => by
  have := trows_get l 0 h t d hd
  rwa [Nat.zero_add] at this⟩
end Go.Proofs.Ythjgbjakpbfnoaa
