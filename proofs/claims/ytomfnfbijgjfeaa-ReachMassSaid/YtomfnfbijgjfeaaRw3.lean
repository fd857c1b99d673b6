/- The program's data as trees, and small rules of the abstract machine. -/
import Derived.Test.YtomfnfbijgjfeaaRw2
namespace Go.Proofs.Ytomfnfbijgjfeaa
open Go.RowKit
set_option linter.unusedVariables false

abbrev ti (n : Int) : T := .atm (.int .i64 n)
abbrev tb (b : Bool) : T := .atm (.bool b)
def Place.row (p : Place) : List T := [ti p.kind, ti p.hh, ti p.mat]
def Move.row (m : Move) : List T := [ti m.day, ti m.src, ti m.dst, ti m.scale, ti m.reading, tb m.all]
def Cert.row (c : Cert) : List T := [ti c.scale, ti c.since, ti c.till, ti c.grams, ti c.permille, ti c.drift]
def Recall.row (r : Recall) : List T := [ti r.scale, ti r.since]
def Purity.row (p : Purity) : List T := [ti p.move, ti p.mat, ti p.least, ti p.most]
def intRow (n : Int) : List T := [ti n]
def boolRow (b : Bool) : List T := [tb b]
abbrev placesT (l : List Place) : T := .sl 3 .any (l.map Place.row)
abbrev movesT (l : List Move) : T := .sl 6 .any (l.map Move.row)
abbrev certsT (l : List Cert) : T := .sl 6 .any (l.map Cert.row)
abbrev recallsT (l : List Recall) : T := .sl 2 .any (l.map Recall.row)
abbrev puritiesT (l : List Purity) : T := .sl 4 .any (l.map Purity.row)
abbrev intsT (l : List Int) : T := .sl 1 .any (l.map intRow)
abbrev boolsT (l : List Bool) : T := .sl 1 .any (l.map boolRow)
def evC (e : Ev) : List C := [.t (ti e.mats), .t (ti e.hhs), .t (ti e.scs), .t (placesT e.places), .t (movesT e.moves), .t (certsT e.certs), .t (recallsT e.recalls), .t (puritiesT e.purities)]
def evT (e : Ev) : List T := [ti e.mats, ti e.hhs, ti e.scs, placesT e.places, movesT e.moves, certsT e.certs, recallsT e.recalls, puritiesT e.purities]
abbrev evS (e : Ev) : S := .agg (evC e)
abbrev intsS (l : List Int) : S := .c (.t (intsT l))
abbrev boolsS (l : List Bool) : S := .c (.t (boolsT l))
def Place.cs (p : Place) : List C := p.row.map .t
def Move.cs (m : Move) : List C := m.row.map .t
abbrev moveS (m : Move) : S := .agg m.cs
abbrev placeS (p : Place) : S := .agg p.cs
abbrev evB (e : Ev) : Blk := newBlk 28 8 [evC e] true

theorem fin_bool {a b : Bool} {H1 : Hp} (h : a = b) : Fin 0 (boolS a) H1 (boolS b) [] := fin_t (by subst h; exact rfl)
theorem fin_int {a b : Int} {k : IntKind} {H1 : Hp} (h : a = b) : Fin 0 (intS k a) H1 (intS k b) [] := fin_t (by subst h; exact rfl)
theorem boolS_t : (S.c (C.t (T.atm (Value.bool true)))) = boolS true := rfl
theorem boolS_congr {a b : Bool} (h : a = b) : boolS a = boolS b := by rw [h]
theorem intS_congr {a b : Int} {k : IntKind} (h : a = b) : intS k a = intS k b := by rw [h]
theorem ent_t {x y : T} {ρ : List (Option Nat)} {H : Hp} (h : x = y) : EntS ρ H (.c (.t x)) (.c (.t y)) := weak_eq h
theorem ent_i {a b : Int} {k : IntKind} {ρ : List (Option Nat)} {H : Hp} (h : a = b) : EntS ρ H (intS k a) (intS k b) := by subst h; exact rfl
theorem rowsT_ev (e : Ev) : rowsT [evC e] := by simp [rowsT, evC, C.isT]
theorem vs_ev {H : Hp} {p : Nat → Prop} (e : Ev) : VS H p (evS e) (evS e) := vs_ts (evT e)
end Go.Proofs.Ytomfnfbijgjfeaa
/- More on picked numbers, in plain Lean. -/
namespace Go.Proofs.Ytomfnfbijgjfeaa

theorem pickFrom_none {α : Type} (p : Nat → α → Bool) (l : List α) : ∀ k, (∀ j m, k ≤ j → p j m = false) → pickFrom p k l = [] := by
  induction l with
  | nil => intro k _; rfl
  | cons m r ih =>
    intro k h
    simp only [pickFrom, h k m (Nat.le_refl _)]
    exact ih (k + 1) (fun j m' hj => h j m' (by omega))
theorem pickTo_rest {α : Type} (p : Nat → α → Bool) (l : List α) {k : Nat} (h : ∀ j m, k ≤ j → p j m = false) : pickTo p l k = pickFrom p 0 l := by
  by_cases hk : k ≤ l.length
  · unfold pickTo
    conv => rhs; rw [← List.take_append_drop k l, pickFrom_append]
    have hl : (l.take k).length = k := by simp; omega
    rw [hl, pickFrom_none p (l.drop k) (0 + k) (by simpa using h)]
    simp
  · exact pickTo_all p (by omega)
/-- equal so far -/
def SameTo (xs ys : List Int) (k : Nat) : Prop := xs.take k = ys.take k
theorem SameTo.zero (xs ys : List Int) : SameTo xs ys 0 := by simp [SameTo]
theorem SameTo.next {xs ys : List Int} {k : Nat} {x : Int} (h : SameTo xs ys k) (hx : xs[k]? = some x) (hy : ys[k]? = some x) : SameTo xs ys (k + 1) := by
  unfold SameTo at *
  rw [List.take_add_one, List.take_add_one, h, hx, hy]
theorem SameTo.all {xs ys : List Int} {k : Nat} (h : SameTo xs ys k) (h1 : xs.length ≤ k) (h2 : ys.length ≤ k) : xs = ys := by
  unfold SameTo at h
  rwa [List.take_of_length_le h1, List.take_of_length_le h2] at h
theorem liftIs_of {e : Ev} {m : Move} {i : Nat} {p : Place} (hp : e.places[i]? = some p) (hs : m.src = (i : Int)) (hh mat lo hi : Int) :
    liftIs e hh mat lo hi m = (decide (p.kind = 0) && decide (p.hh = hh) && (decide (mat = -1) || decide (p.mat = mat)) && btw m.day lo hi) := by
  unfold liftIs
  rw [hs, Int.toNat_natCast, hp]

end Go.Proofs.Ytomfnfbijgjfeaa
/- Calls that write the caller's blocks: the callee sees a few of them under numbers of its own. -/
namespace Go.Proofs.Ytomfnfbijgjfeaa
open Go.RowKit
set_option linter.unusedVariables false
set_option linter.unusedSimpArgs false

mutual
def renC (σ : List Nat) : C → C
  | .t x => .t x
  | .ptr id r o => .ptr (σ.getD id 0) r o
  | .own id lo len app => .own (σ.getD id 0) lo len app
  | .fn f caps => .fn f (renL σ caps)
def renL (σ : List Nat) : List C → List C
  | [] => []
  | x :: r => renC σ x :: renL σ r
end
def renS (σ : List Nat) : S → S
  | .junk => .junk
  | .c x => .c (renC σ x)
  | .agg cs => .agg (renL σ cs)
  | .tup ss => .tup (ss.map fun s => match s with
    | .c x => .c (renC σ x)
    | .agg cs => .agg (renL σ cs)
    | s => s)
mutual
/-- all numbers are below n -/
def okC (n : Nat) : C → Bool
  | .t _ => true
  | .ptr id _ _ => Nat.blt id n
  | .own id _ _ _ => Nat.blt id n
  | .fn _ caps => okL n caps
def okL (n : Nat) : List C → Bool
  | [] => true
  | x :: r => okC n x && okL n r
end
def okS (n : Nat) : S → Bool
  | .junk => true
  | .c x => okC n x
  | .agg cs => okL n cs
  | .tup _ => false

theorem renL_eq (σ : List Nat) : ∀ l, renL σ l = l.map (renC σ)
  | [] => by simp [renL]
  | x :: r => by simp [renL, renL_eq σ r]
theorem okL_get {n : Nat} : ∀ {l : List C}, okL n l = true → ∀ c ∈ l, okC n c = true
  | [], _, c, h => by cases h
  | x :: r, h, c, hc => by
    simp only [okL, Bool.and_eq_true] at h
    rcases List.mem_cons.1 hc with rfl | hc
    · exact h.1
    · exact okL_get h.2 c hc
theorem renC_isT {σ : List Nat} {x : C} (h : x.isT = true) : renC σ x = x := by
  cases x <;> first | rfl | cases h

/-- the callee's places -/
def subIo (σ : List Nat) (ι : Io) : Io := fun id => (σ[id]?).bind ι

mutual
theorem renC_in {w : World} {ι : Io} {M : Ms} {σ : List Nat} : ∀ (x : C) (v : Value), okC σ.length x = true → RC w ι M (renC σ x) v → RC w (subIo σ ι) M x v
  | .t x, v, _, h => by
    simp only [renC] at h
    cases h with
    | t h => exact .t h
  | .ptr id r o, v, hk, h => by
    simp only [renC] at h
    have hlt : id < σ.length := by simpa [okC, Nat.blt_eq] using hk
    have e : subIo σ ι id = ι (σ.getD id 0) := by simp [subIo, List.getElem?_eq_getElem hlt, List.getD_eq_getElem?_getD]
    cases h with
    | ptr h => exact .ptr (e.trans h)
  | .own id lo len app, v, hk, h => by
    simp only [renC] at h
    have hlt : id < σ.length := by simpa [okC, Nat.blt_eq] using hk
    have e : subIo σ ι id = ι (σ.getD id 0) := by simp [subIo, List.getElem?_eq_getElem hlt, List.getD_eq_getElem?_getD]
    cases h with
    | own h h1 h2 h3 h4 h5 => exact .own (e.trans h) h1 h2 h3 h4 h5
    | nil h => exact .nil (e.trans h)
  | .fn f caps, v, hk, h => by
    simp only [renC] at h
    cases h with
    | fn vs hl hr =>
      rw [renL_eq, List.length_map] at hl
      refine .fn vs hl fun j c hj => ?_
      exact renL_in caps (by simpa [okC] using hk) c (List.mem_of_getElem? hj) _ (hr j _ (by rw [renL_eq, List.getElem?_map, hj]; rfl))
theorem renL_in {w : World} {ι : Io} {M : Ms} {σ : List Nat} : ∀ (l : List C), okL σ.length l = true → ∀ c ∈ l, ∀ v, RC w ι M (renC σ c) v → RC w (subIo σ ι) M c v
  | [], _, c, h, _, _ => by cases h
  | x :: r, hk, c, hc, v, h => by
    simp only [okL, Bool.and_eq_true] at hk
    rcases List.mem_cons.1 hc with hcx | hc
    · rw [hcx] at h ⊢
      exact renC_in x v hk.1 h
    · exact renL_in r hk.2 c hc v h
end
theorem renS_in {w : World} {ι : Io} {M : Ms} {σ : List Nat} {s : S} {v : Value} (hk : okS σ.length s = true) (h : RS w ι M (renS σ s) v) : RS w (subIo σ ι) M s v := by
  cases s with
  | junk => exact .junk
  | c x => cases h with
    | c h => exact .c (renC_in x v hk h)
  | agg cs =>
    have h : RS w ι M (.agg (renL σ cs)) v := h
    cases h with
    | agg vs hl hr =>
      rw [renL_eq, List.length_map] at hl
      refine .agg vs hl fun j c hj => ?_
      exact renL_in cs hk c (List.mem_of_getElem? hj) _ (hr j _ (by rw [renL_eq, List.getElem?_map, hj]; rfl))
  | tup ss => cases hk
theorem RC.ren {w : World} {ι ι' : Io} {M : Ms} {σ : List Nat} (hι : ∀ id l, ι id = some l → ι' (σ.getD id 0) = some l) {x : C} {v : Value} (h : RC w ι M x v) : RC w ι' M (renC σ x) v := by
  induction h with
  | t h => simp only [renC]; exact .t h
  | ptr h => simp only [renC]; exact .ptr (hι _ _ h)
  | own h h1 h2 h3 h4 h5 => simp only [renC]; exact .own (hι _ _ h) h1 h2 h3 h4 h5
  | nil h => simp only [renC]; exact .nil (hι _ _ h)
  | fn vs hl hr ih =>
    simp only [renC]
    refine .fn vs (by rw [renL_eq, List.length_map]; exact hl) fun j c hj => ?_
    rw [renL_eq, List.getElem?_map] at hj
    obtain ⟨c0, hc0, rfl⟩ := Option.map_eq_some_iff.1 hj
    exact ih j c0 hc0
theorem RS.ren1 {w : World} {ι ι' : Io} {M : Ms} {σ : List Nat} (hι : ∀ id l, ι id = some l → ι' (σ.getD id 0) = some l) {x : List C} {v : Value} (h : RS w ι M (.agg x) v) : RS w ι' M (.agg (renL σ x)) v := by
  cases h with
  | agg vs hl hr =>
    refine .agg vs (by rw [renL_eq, List.length_map]; exact hl) fun j c hj => ?_
    rw [renL_eq, List.getElem?_map] at hj
    obtain ⟨c0, hc0, rfl⟩ := Option.map_eq_some_iff.1 hj
    exact (hr j c0 hc0).ren hι
def flatS : S → Bool
  | .tup _ => false
  | _ => true
def flatT : S → Bool
  | .tup ss => ss.all flatS
  | _ => true
theorem RS.ren {w : World} {ι ι' : Io} {M : Ms} {σ : List Nat} (hι : ∀ id l, ι id = some l → ι' (σ.getD id 0) = some l) {s : S} {v : Value} (hs : flatT s = true) (h : RS w ι M s v) : RS w ι' M (renS σ s) v := by
  cases s with
  | junk => exact .junk
  | c x => cases h with
    | c h => exact .c (h.ren hι)
  | agg cs => exact RS.ren1 hι h
  | tup ss =>
    cases h with
    | tup vs hl hr =>
      refine .tup vs (by simpa using hl) fun j s hj => ?_
      rw [List.getElem?_map] at hj
      obtain ⟨s0, hs0, rfl⟩ := Option.map_eq_some_iff.1 hj
      have h0 := hr j s0 hs0
      have hno := List.all_eq_true.1 hs s0 (List.mem_of_getElem? hs0)
      cases s0 with
      | junk => exact .junk
      | c x => cases h0 with
        | c h => exact .c (h.ren hι)
      | agg cs => exact RS.ren1 hι h0
      | tup _ => cases hno

def renR (σ : List Nat) (rows : List (List C)) : List (List C) := rows.map (renL σ)
theorem renR_toC {σ : List Nat} (rows : List (List T)) : renR σ (toC rows) = toC rows := by
  unfold renR toC
  rw [List.map_map]
  apply List.map_congr_left
  intro r _
  show renL σ (r.map C.t) = r.map C.t
  rw [renL_eq, List.map_map]
  apply List.map_congr_left
  intro c _
  simp [renC]
theorem at2_ren {σ : List Nat} {rows : List (List C)} {i j : Nat} : at2 (renR σ rows) i j = (at2 rows i j).map (renC σ) := by
  unfold at2 renR
  rw [List.getElem?_map]
  cases rows[i]? with
  | none => rfl
  | some r => simp [renL_eq]
/-- a block under the callee's numbers (k) and under the caller's (k') -/
def RenB (σ : List Nat) (k k' : Blk) : Prop := k'.mode = k.mode ∧ k'.elem = k.elem ∧ k'.size = k.size ∧ k'.app = k.app ∧ k'.rows = renR σ k.rows
theorem renB_data {σ : List Nat} {k : Blk} {rows : List (List T)} (h : k.rows = toC rows) : RenB σ k k := ⟨rfl, rfl, rfl, rfl, by rw [h, renR_toC]⟩
theorem renB_to {σ : List Nat} {k k' : Blk} {rows : List (List T)} (h1 : k'.mode = k.mode) (h2 : k'.elem = k.elem) (h3 : k'.size = k.size) (h4 : k'.app = k.app) (h : k.rows = toC rows) (h' : k'.rows = toC rows) : RenB σ k k' := ⟨h1, h2, h3, h4, by rw [h, renR_toC, h']⟩

theorem okL_ts {n : Nat} : ∀ l : List T, okL n (l.map C.t) = true
  | [] => by simp [okL]
  | x :: r => by simp [okL, okC, okL_ts r]
theorem okRows_toC {n : Nat} (rows : List (List T)) : ∀ r ∈ toC rows, okL n r = true := by
  intro r hr
  obtain ⟨r', _, rfl⟩ := List.mem_map.1 hr
  exact okL_ts r'
theorem BlkRel.ren {w : World} {ι ι' : Io} {M : Ms} {σ : List Nat} (hι : ∀ id l, ι id = some l → ι' (σ.getD id 0) = some l) {k k' : Blk} (hk : RenB σ k k') {l : Loc} (h : BlkRel w ι M k l) : BlkRel w ι' M k' l := by
  obtain ⟨e1, e2, e3, e4, e5⟩ := hk
  cases l with
  | nil =>
    have h : k.rows = [] := h
    show k'.rows = []
    rw [e5, h]; rfl
  | blk b cap size =>
    obtain ⟨q1, q2, q3, q4, q5, cur, q6, q7, q8⟩ := h
    refine ⟨by rw [e3]; exact q1, q2, by rw [e5]; simpa [renR] using q3, q4, ?_, cur, by rw [e2]; exact q6, q7, fun i j c hc => ?_⟩
    · intro r hr
      rw [e5] at hr
      obtain ⟨r0, h0, rfl⟩ := List.mem_map.1 hr
      rw [renL_eq, List.length_map]
      exact q5 r0 h0
    · rw [e5, at2_ren] at hc
      obtain ⟨c0, hc0, rfl⟩ := Option.map_eq_some_iff.1 hc
      obtain ⟨u, h1, h2⟩ := q8 i j c0 hc0
      exact ⟨u, h1, h2.ren hι⟩
theorem BlkRel.ren_in {w : World} {ι : Io} {M : Ms} {σ : List Nat} {k k' : Blk} (hk : RenB σ k k') (hok : ∀ r ∈ k.rows, okL σ.length r = true) {l : Loc} (h : BlkRel w ι M k' l) : BlkRel w (subIo σ ι) M k l := by
  obtain ⟨e1, e2, e3, e4, e5⟩ := hk
  cases l with
  | nil =>
    have h : k'.rows = [] := h
    show k.rows = []
    rw [e5] at h
    simpa [renR] using h
  | blk b cap size =>
    obtain ⟨q1, q2, q3, q4, q5, cur, q6, q7, q8⟩ := h
    refine ⟨by rw [← e3]; exact q1, q2, by rw [e5] at q3; simpa [renR] using q3, q4, ?_, cur, by rw [← e2]; exact q6, q7, fun i j c hc => ?_⟩
    · intro r hr
      have := q5 (renL σ r) (by rw [e5]; exact List.mem_map.2 ⟨r, hr, rfl⟩)
      rw [renL_eq, List.length_map] at this
      exact this
    · obtain ⟨u, h1, h2⟩ := q8 i j (renC σ c) (by rw [e5, at2_ren, hc]; rfl)
      obtain ⟨row, r1, r2⟩ := at2_inv hc
      exact ⟨u, h1, renC_in c u (okL_get (hok row (List.mem_of_getElem? r1)) c (List.mem_of_getElem? r2)) h2⟩

/-- the callee's numbers after the call -/
def extR (σ : List Nat) (n m : Nat) : List Nat := σ ++ (List.range m).map (n + ·)

/-- a call that writes some of the caller's blocks -/
theorem acall_frame {P : Program} {g : FuncId} {args args' : List S} {H H' Hs Hs' : Hp} {r r' : S} (σ : List Nat) (h : ACall P g args Hs r Hs')
    (hargs : args' = args.map (renS σ)) (hok : args.all (okS σ.length) = true) (hσl : σ.length = Hs.length) (hσn : σ.Nodup)
    (hin : ∀ i k, Hs[i]? = some k → k.mode = .live ∧ k.app = false ∧ (∀ r ∈ k.rows, okL σ.length r = true) ∧ ∃ k', H[σ.getD i 0]? = some k' ∧ RenB σ k k')
    (hno : ∀ k ∈ Hs', k.mode ≠ .old) (hlen : Hs.length ≤ Hs'.length)
    (hr : flatT r = true) (hr' : r' = renS (extR σ H.length (Hs'.length - Hs.length)) r)
    (hl' : H'.length = H.length + (Hs'.length - Hs.length)) (hout : ∀ i k, Hs'[i]? = some k → ∃ k', H'[(extR σ H.length (Hs'.length - Hs.length)).getD i 0]? = some k' ∧ RenB (extR σ H.length (Hs'.length - Hs.length)) k k')
    (hrest : ∀ j, j < H.length → j ∉ σ → H'[j]? = H[j]?) : ACall P g args' H r' H' := by
  refine ⟨h.1, fun w ι M vals hl hv hH hM hF => ?_⟩
  subst hargs
  have hσlt : ∀ i, i < σ.length → σ.getD i 0 < H.length := fun i hi => by
    obtain ⟨_, _, _, k', hk', _⟩ := hin i Hs[i] (List.getElem?_eq_getElem (by omega))
    exact (List.getElem?_eq_some_iff.1 hk').1
  have hsub : ∀ i, i < σ.length → subIo σ ι i = ι (σ.getD i 0) := fun i hi => by simp [subIo, List.getElem?_eq_getElem hi, List.getD_eq_getElem?_getD]
  have hsubn : ∀ i, σ.length ≤ i → subIo σ ι i = none := fun i hi => by simp [subIo, List.getElem?_eq_none hi]
  have hget : ∀ i k, Hs[i]? = some k → i < σ.length := fun i k hk => by rw [hσl]; exact (List.getElem?_eq_some_iff.1 hk).1
  have hHs : HeapRel w (subIo σ ι) M Hs := by
    refine ⟨?_, ?_, ?_, ?_, ?_⟩
    · intro id k hk hd l hl
      obtain ⟨h1, h2, h3, k', hk', hren⟩ := hin id k hk
      rw [hsub id (hget id k hk)] at hl
      exact (hH.blk _ k' hk' (by rw [hren.1]; exact hd) l hl).ren_in hren h3
    · intro id k hk hm b cap size hl
      obtain ⟨h1, h2, h3, k', hk', hren⟩ := hin id k hk
      rw [hsub id (hget id k hk)] at hl
      exact hH.liv _ k' hk' (by rw [hren.1]; exact hm) b cap size hl
    · intro id k hk hm
      obtain ⟨h1, h2, h3, k', hk', hren⟩ := hin id k hk
      rw [h1] at hm; cases hm
    · intro id id' k k2 hk hk2 hm hm2 b cap size cap' size' hl hl2
      obtain ⟨h1, h2, h3, k', hk', hren⟩ := hin id k hk
      obtain ⟨h1', h2', h3', k2', hk2', hren2⟩ := hin id' k2 hk2
      rw [hsub id (hget id k hk)] at hl
      rw [hsub id' (hget id' k2 hk2)] at hl2
      have := hH.inj _ _ k' k2' hk' hk2' (by rw [hren.1]; exact hm) (by rw [hren2.1]; exact hm2) _ _ _ _ _ hl hl2
      have hi := hget id k hk
      have hi' := hget id' k2 hk2
      rw [List.getD_eq_getElem?_getD, List.getD_eq_getElem?_getD, List.getElem?_eq_getElem hi, List.getElem?_eq_getElem hi'] at this
      simp only [Option.getD_some] at this
      have hp := List.pairwise_iff_getElem.1 hσn
      rcases Nat.lt_trichotomy id id' with hlt | heq | hgt
      · exact absurd this (hp id id' hi hi' hlt)
      · exact heq
      · exact absurd this.symm (hp id' id hi' hi hgt)
    · intro id id' k k2 hk hk2 hm
      obtain ⟨h1, _⟩ := hin id k hk
      rw [h1] at hm; cases hm
  have hlive : ∀ b, Live (subIo σ ι) Hs b → ∃ i k, i < σ.length ∧ H[σ.getD i 0]? = some k ∧ k.mode = .live ∧ k.app = false ∧ ∃ cap size, ι (σ.getD i 0) = some (.blk b cap size) := by
    rintro b ⟨i, k, cap, size, hk, hm, hi⟩
    obtain ⟨h1, h2, h3, k', hk', hren⟩ := hin i k hk
    rw [hsub i (hget i k hk)] at hi
    exact ⟨i, k', hget i k hk, hk', by rw [hren.1]; exact h1, by rw [hren.2.2.2.1]; exact h2, cap, size, hi⟩
  have hliveH : ∀ b, Live (subIo σ ι) Hs b → Live ι H b := fun b hb => by
    obtain ⟨i, k, _, hk, hm, _, cap, size, hi⟩ := hlive b hb
    exact ⟨_, k, cap, size, hk, hm, hi⟩
  have hvals : ∀ j s, args[j]? = some s → RS w (subIo σ ι) M s (vals.getD j undef) := fun j s hj =>
    renS_in (List.all_eq_true.1 hok s (List.mem_of_getElem? hj)) (hv j _ (by rw [List.getElem?_map, hj]; rfl))
  have hcall := h.2 w (subIo σ ι) M vals (by simpa using hl) hvals hHs hM (fun id hid => hsubn id (by omega))
  refine Calls.mono hcall ?_
  rintro e w' ⟨v, rfl, ι', M', h1, h2, h3, h4, h5⟩
  refine ⟨v, rfl, ?_⟩
  generalize hm : Hs'.length - Hs.length = m at *
  let σ' := extR σ H.length m
  let ι2 : Io := fun j => if j < H.length then ι j else ι' (Hs.length + (j - H.length))
  have hσ'l : σ'.length = Hs'.length := by simp [σ', extR]; omega
  have hσ'1 : ∀ i, i < σ.length → σ'.getD i 0 = σ.getD i 0 := fun i hi => by
    simp only [σ', extR, List.getD_eq_getElem?_getD, List.getElem?_append_left hi]
  have hσ'2 : ∀ i, σ.length ≤ i → i < Hs'.length → σ'.getD i 0 = H.length + (i - σ.length) := fun i hi hi' => by
    simp only [σ', extR, List.getD_eq_getElem?_getD]
    rw [List.getElem?_append_right hi, List.getElem?_map, List.getElem?_range (by omega)]
    rfl
  have hι2 : ∀ id l, ι' id = some l → ι2 (σ'.getD id 0) = some l := fun id l hid => by
    have hidl : id < Hs'.length := by
      rcases Nat.lt_or_ge id Hs'.length with h | h
      · exact h
      · rw [h4 id h] at hid; cases hid
    show (if _ then _ else _) = _
    by_cases hlt : id < σ.length
    · rw [hσ'1 id hlt, if_pos (hσlt id hlt), ← hsub id hlt, ← h5.same id (by omega)]
      exact hid
    · rw [hσ'2 id (by omega) hidl, if_neg (by omega), show Hs.length + (H.length + (id - σ.length) - H.length) = id by omega]
      exact hid
  have hkeepM : ∀ b, b < w.heap.size → ¬ M b → w'.heap[b]? = w.heap[b]? := fun b hb hnm => h5.keep b hb fun hl => hnm (Live.inM hHs hl)
  have hιext : ∀ id l, ι id = some l → ι2 id = some l := fun id l hid => by
    show (if _ then _ else _) = _
    rw [if_pos]
    · exact hid
    · rcases Nat.lt_or_ge id H.length with h | h
      · exact h
      · rw [hF id h] at hid; cases hid
  -- what lies at a place
  have hcase : ∀ j k', H'[j]? = some k' → (j < H.length ∧ j ∉ σ ∧ H[j]? = some k') ∨ ∃ i k, Hs'[i]? = some k ∧ σ'.getD i 0 = j ∧ RenB σ' k k' ∧ ι2 j = ι' i := fun j k' hj => by
    have hjl := (List.getElem?_eq_some_iff.1 hj).1
    have fromI : ∀ i, i < Hs'.length → σ'.getD i 0 = j → ∃ i k, Hs'[i]? = some k ∧ σ'.getD i 0 = j ∧ RenB σ' k k' ∧ ι2 j = ι' i := fun i hi hij => by
      obtain ⟨k2, hk2, hren⟩ := hout i Hs'[i] (List.getElem?_eq_getElem hi)
      have hk2' : H'[j]? = some k2 := by rw [← hij]; exact hk2
      rw [hj] at hk2'
      injection hk2' with hk2'
      subst hk2'
      refine ⟨i, _, List.getElem?_eq_getElem hi, hij, hren, ?_⟩
      show (if _ then _ else _) = _
      by_cases hlt : i < σ.length
      · rw [← hij, hσ'1 i hlt, if_pos (hσlt i hlt), ← hsub i hlt, ← h5.same i (by omega)]
      · rw [← hij, hσ'2 i (by omega) hi, if_neg (by omega), show Hs.length + (H.length + (i - σ.length) - H.length) = i by omega]
    by_cases hlt : j < H.length
    · by_cases hmem : j ∈ σ
      · obtain ⟨i, hi⟩ := List.mem_iff_getElem?.1 hmem
        have hil := (List.getElem?_eq_some_iff.1 hi).1
        refine .inr (fromI i (by omega) ?_)
        rw [hσ'1 i hil, List.getD_eq_getElem?_getD, hi]; rfl
      · rw [hrest j hlt hmem] at hj
        exact .inl ⟨hlt, hmem, hj⟩
    · refine .inr (fromI (σ.length + (j - H.length)) (by omega) ?_)
      rw [hσ'2 _ (by omega) (by omega)]; omega
  have hold2 : ∀ j, j < H.length → ι2 j = ι j := fun j hj => by show (if _ then _ else _) = _; rw [if_pos hj]
  have hmodeOut : ∀ j k', j < H.length → j ∉ σ → H[j]? = some k' → k'.mode = .live → ∀ b cap size, ι j = some (.blk b cap size) → ¬ Live (subIo σ ι) Hs b := fun j k' hjl hjn hk' hm' b cap size hi hb => by
    obtain ⟨i, k, hil, hk, hkm, _, c, s, hi2⟩ := hlive b hb
    have := hH.inj j _ k' k hk' hk hm' hkm _ _ _ _ _ hi hi2
    apply hjn
    rw [this, List.getD_eq_getElem?_getD, List.getElem?_eq_getElem hil]
    exact List.getElem_mem hil
  refine ⟨ι2, M', ?_, ⟨?_, ?_, ?_, ?_, ?_⟩, h3, ?_, ?_⟩
  · rw [hr']
    exact h1.ren hι2 hr
  · intro j k' hj hd l hl2
    rcases hcase j k' hj with ⟨hjl, hjn, hk'⟩ | ⟨i, k, hk, hij, hren, hιj⟩
    · rw [hold2 j hjl] at hl2
      have hb := hH.blk j k' hk' hd l hl2
      cases l with
      | nil => exact hb
      | blk b cap size =>
        obtain ⟨q1, q2, q3, q4, q5, cur, q6, q7, q8⟩ := hb
        have hnl : ¬ Live (subIo σ ι) Hs b := by
          intro hb
          cases hm' : k'.mode with
          | live => exact hmodeOut j k' hjl hjn hk' hm' b cap size hl2 hb
          | froz => exact hH.fro j k' hk' hm' _ _ _ hl2 (Live.inM hHs hb)
          | old =>
            obtain ⟨i, k, hil, hk, hkm, hka, c, s, hi2⟩ := hlive b hb
            have := (hH.old j _ k' k hk' hk hm' hkm _ _ _ _ _ hl2 hi2).1
            rw [hka] at this; cases this
          | dead => exact hd hm'
        refine ⟨q1, q2, q3, q4, q5, cur, (h5.keep b (block_lt q6) hnl).trans q6, q7, fun i j c hc => ?_⟩
        obtain ⟨u, r1, r2⟩ := q8 i j c hc
        exact ⟨u, r1, r2.keep hkeepM h5.mnew hιext⟩
    · rw [hιj] at hl2
      exact (h2.blk i k hk (by rw [← hren.1]; exact hd) l hl2).ren hι2 hren
  · intro j k' hj hm' b cap size hi
    rcases hcase j k' hj with ⟨hjl, hjn, hk'⟩ | ⟨i, k, hk, hij, hren, hιj⟩
    · rw [hold2 j hjl] at hi
      rcases h5.mold b (hH.liv j k' hk' hm' b cap size hi) with h | h
      · exact h
      · exact absurd h (hmodeOut j k' hjl hjn hk' hm' b cap size hi)
    · rw [hιj] at hi
      exact h2.liv i k hk (by rw [← hren.1]; exact hm') b cap size hi
  · intro j k' hj hm' b cap size hi hb
    rcases hcase j k' hj with ⟨hjl, hjn, hk'⟩ | ⟨i, k, hk, hij, hren, hιj⟩
    · rw [hold2 j hjl] at hi
      have hlt : b < w.heap.size := by
        obtain ⟨_, _, _, _, _, cur, q6, _⟩ := hH.blk j k' hk' (by rw [hm']; intro h; cases h) _ hi
        exact block_lt q6
      rcases h5.mnew b hb with h | h
      · exact hH.fro j k' hk' hm' b cap size hi h
      · omega
    · rw [hιj] at hi
      exact h2.fro i k hk (by rw [← hren.1]; exact hm') b cap size hi hb
  · have cross : ∀ j j' k' i k, j < H.length → j ∉ σ → H[j]? = some k' → k'.mode = .live → Hs'[i]? = some k → k.mode = .live → ∀ b cap size cap' size', ι j = some (.blk b cap size) → ι' i = some (.blk b cap' size') → j = j' := by
      intro j j' k' i k hjl hjn hk' hm' hk hkm b cap size cap' size' hi hi'
      have hlt : b < w.heap.size := by
        obtain ⟨_, _, _, _, _, cur, q6, _⟩ := hH.blk j k' hk' (by rw [hm']; intro h; cases h) _ hi
        exact block_lt q6
      rcases h5.live b ⟨i, k, cap', size', hk, hkm, hi'⟩ with h | h
      · exact absurd h (hmodeOut j k' hjl hjn hk' hm' b cap size hi)
      · omega
    intro j j' k1 k2 hj hj' hm1 hm2 b cap size cap' size' hi hi'
    rcases hcase j k1 hj with ⟨hjl, hjn, hk1⟩ | ⟨i, k, hk, hij, hren, hιj⟩ <;> rcases hcase j' k2 hj' with ⟨hjl', hjn', hk2⟩ | ⟨i', k0, hk0, hij', hren', hιj'⟩
    · rw [hold2 j hjl] at hi
      rw [hold2 j' hjl'] at hi'
      exact hH.inj j j' k1 k2 hk1 hk2 hm1 hm2 _ _ _ _ _ hi hi'
    · rw [hold2 j hjl] at hi
      rw [hιj'] at hi'
      exact cross j j' k1 i' k0 hjl hjn hk1 hm1 hk0 (by rw [← hren'.1]; exact hm2) _ _ _ _ _ hi hi'
    · rw [hιj] at hi
      rw [hold2 j' hjl'] at hi'
      exact (cross j' j k2 i k hjl' hjn' hk2 hm2 hk (by rw [← hren.1]; exact hm1) _ _ _ _ _ hi' hi).symm
    · rw [hιj] at hi
      rw [hιj'] at hi'
      have := h2.inj i i' k k0 hk hk0 (by rw [← hren.1]; exact hm1) (by rw [← hren'.1]; exact hm2) _ _ _ _ _ hi hi'
      rw [← hij, ← hij', this]
  · intro j j' k1 k2 hj hj' hm1 hm2 b cap size cap' size' hi hi'
    rcases hcase j k1 hj with ⟨hjl, hjn, hk1⟩ | ⟨i, k, hk, hij, hren, hιj⟩
    · rw [hold2 j hjl] at hi
      have hlt : b < w.heap.size := by
        obtain ⟨_, _, _, _, _, cur, q6, _⟩ := hH.blk j k1 hk1 (by rw [hm1]; intro h; cases h) _ hi
        exact block_lt q6
      rcases hcase j' k2 hj' with ⟨hjl', hjn', hk2⟩ | ⟨i', k0, hk0, hij', hren', hιj'⟩
      · rw [hold2 j' hjl'] at hi'
        exact hH.old j j' k1 k2 hk1 hk2 hm1 hm2 _ _ _ _ _ hi hi'
      · rw [hιj'] at hi'
        rcases h5.live b ⟨i', k0, cap', size', hk0, by rw [← hren'.1]; exact hm2, hi'⟩ with h | h
        · obtain ⟨i, k, hil, hk, hkm, hka, c, s, hi2⟩ := hlive b h
          have := (hH.old j _ k1 k hk1 hk hm1 hkm _ _ _ _ _ hi hi2).1
          rw [hka] at this; cases this
        · omega
    · have : k.mode = .old := by rw [← hren.1]; exact hm1
      exact absurd this (hno k (List.mem_of_getElem? hk))
  · intro id hid
    show (if _ then _ else _) = _
    rw [if_neg (by omega)]
    exact h4 _ (by omega)
  · refine ⟨h5.os, h5.tape, h5.output, h5.size, fun b hb hnl => h5.keep b hb fun hl => hnl (hliveH b hl), fun id hid => hold2 id hid, h5.mnew, fun b hb => ?_, ?_, by omega⟩
    · rcases h5.mold b hb with h | h
      · exact .inl h
      · exact .inr (hliveH b h)
    · rintro b ⟨j, k', cap, size, hj, hm', hi⟩
      rcases hcase j k' hj with ⟨hjl, hjn, hk'⟩ | ⟨i, k, hk, hij, hren, hιj⟩
      · rw [hold2 j hjl] at hi
        exact .inl ⟨j, k', cap, size, hk', hm', hi⟩
      · rw [hιj] at hi
        rcases h5.live b ⟨i, k, cap, size, hk, by rw [← hren.1]; exact hm', hi⟩ with h | h
        · exact .inl (hliveH b h)
        · exact .inr h

/-- a loop: its states at the round's head, what holds of them, a measure, and one round -/
theorem awp_while {P : Program} {τ : Tab} (hτ : TabOK P τ) {n0 : Nat} {c : Code} {env : Env} {H : Hp} {Q : AX → Env → Hp → Prop} {σ : Type} (E : σ → Env × Hp) (I : σ → Prop) (μ : σ → Nat) (x0 : σ) (ρ0 : List (Option Nat))
    (hI : I x0) (h0 : Ent n0 ρ0 env H (E x0).1 (E x0).2)
    (round : ∀ x, I x → acode P τ n0 c (E x).1 (E x).2 fun a env' H' => match a with
      | .normal => ∃ ρ x', Ent n0 ρ env' H' (E x').1 (E x').2 ∧ I x' ∧ μ x' < μ x
      | a => Q a env' H') : Awp P n0 (.loop c) env H Q := by
  refine awp_loopS (σ := { x : σ // I x }) (fun x => E x.1) (fun x => μ x.1) ⟨x0, hI⟩ ρ0 h0 ?_
  rintro ⟨x, hx⟩
  refine (acode_sound hτ c (round x hx)).mono ?_
  intro a env' H' h
  cases a with
  | normal =>
    obtain ⟨ρ, x', h1, h2, h3⟩ := h
    exact ⟨ρ, ⟨x', h2⟩, h1, h3⟩
  | exit id => exact h
  | ret => exact h
theorem wrap_eq {x y : Int} (h : x = y) (h1 : -9223372036854775808 ≤ y) (h2 : y ≤ 9223372036854775807) : IsWrap .i64 x y := by subst h; exact wrap_ok h1 h2
/-- a function at data, called at what lies in blocks that are written no more -/
theorem qcall_frozen {P : Program} {g : FuncId} {args args' : List S} {H : Hp} {r : S} (h : ACall P g args' [] r []) (ha : VArgs H (fun id => ∃ k, H[id]? = some k ∧ k.mode = .froz) args args') (hr : r.isT = true) : QCall P g args H r [] := by
  refine ⟨h.1, fun w ι M vals hl hv hH hM hf => ?_⟩
  obtain ⟨hlen, hget⟩ := VArgs.get ha
  have := h.2 w (fun _ => none) M vals (by omega) (fun j s hj => by
    obtain ⟨x, hx, hs⟩ := hget j s hj
    refine hs.rs hH (fun _ h => h) ?_ (hv j x hx)
    rintro id k b cap size ⟨k', hk', hm⟩ hk _ hi
    rw [hk'] at hk
    injection hk with hk
    subst hk
    exact hH.fro id k' hk' hm b cap size hi)
    .none hM (fun _ _ => rfl)
  refine Calls.mono this ?_
  rintro e w' ⟨v, rfl, ι', M', h1, h2, h3, h4, h5⟩
  refine ⟨v, rfl, QPost.of_none ?_ ?_⟩
  · refine RS.keep (ι := ι) (M := M') (fun _ _ _ => rfl) (fun b hb => ?_) (fun _ _ h => h) (h1.tree hr)
    rcases h5.mold b hb with h | ⟨id, k, _, _, hk, _⟩
    · exact .inl h
    · simp at hk
  · exact ⟨h5.os, h5.tape, h5.output, h5.size, fun b hb => h5.keep b hb (by rintro ⟨id, k, _, _, hk, _⟩; simp at hk)⟩
end Go.Proofs.Ytomfnfbijgjfeaa
/- Small lemmas of the abstract machine that many walks use. -/
namespace Go.Proofs.Ytomfnfbijgjfeaa
open Go.RowKit
set_option linter.unusedVariables false
set_option linter.unusedSimpArgs false
set_option maxRecDepth 100000

abbrev intsB (l : List Int) : Blk := { mode := .live, elem := 3, size := 1, rows := toC (l.map intRow), box := false }
abbrev ownI (id : Nat) (l : List Int) : S := .c (.own id 0 l.length true)
abbrev boolsB (l : List Bool) : Blk := { mode := .live, elem := 4, size := 1, rows := toC (l.map boolRow), box := false }
abbrev ownB (id : Nat) (l : List Bool) : S := .c (.own id 0 l.length true)
theorem ex_own {α : Type} {xs : List α} {f : α → List T} {n : Int} {x : α} {lo : Nat} {K : List C → Prop} (hx : xs[lo + n.toNat]? = some x) (h : K ((f x).map C.t)) : ∃ row, (toC (xs.map f))[lo + n.toNat]? = some row ∧ K row :=
  ⟨(f x).map C.t, by simp [toC, hx], h⟩
theorem mk_ok {a b : Int} {n : Nat} {K : Prop} (h0 : 0 ≤ a) (h1 : a ≤ b) (h2 : b ≤ 1000000) (hn : n ≤ 1000) (k : K) : (0 ≤ a ∧ a ≤ b ∧ b * ((n : Int) + 1) ≤ 140737488355328) ∧ K := by
  refine ⟨⟨h0, h1, ?_⟩, k⟩
  have : b * ((n : Int) + 1) ≤ 1000000 * 1001 := Int.mul_le_mul h2 (by omega) (by omega) (by omega)
  omega
theorem ex_rep {n i : Nat} {z : List C} {K : List C → Prop} (hi : i < n) (h : K z) : ∃ row, (List.replicate n z)[i]? = some row ∧ K row := ⟨z, by simp [hi], h⟩
theorem ex_setne {α : Type} {xs : List α} {f : α → List T} {i n : Nat} {v : List C} {x : α} {K : List C → Prop} (hne : i ≠ n) (hx : xs[n]? = some x) (h : K ((f x).map C.t)) : ∃ row, ((toC (xs.map f)).set i v)[n]? = some row ∧ K row :=
  ⟨(f x).map C.t, by rw [List.getElem?_set_ne hne]; simp [toC, hx], h⟩
theorem ent_view {ρ : List (Option Nat)} {H : Hp} {id len : Nat} {app : Bool} {size : Nat} {k : Blk} {rows : List (List T)} (hp : notIn ρ id = true) (hk : H[id]? = some k) (hd : ¬ k.mode.gone) (hs : k.size = size) (hc : k.rows = toC rows) (hl : len = rows.length) :
    EntS ρ H (.c (.own id 0 len app)) (.c (.t (.sl size .any rows))) := show VC H (fun id => notIn ρ id = true) _ _ from vc_all hp hk hd hs hc hl
theorem toC_app {α : Type} {f : α → List T} {xs : List α} {x : α} : (toC (xs.map f)).take xs.length ++ toC [f x] = toC ((xs ++ [x]).map f) := by
  rw [List.take_of_length_le (by simp [toC])]; simp [toC]
theorem set_same {α : Type} {l : List α} {i : Nat} {v : α} (h : l[i]? = some v) : l.set i v = l := by
  apply List.ext_getElem?
  intro j
  by_cases hj : i = j
  · subst hj; rw [List.getElem?_set_self (List.getElem?_eq_some_iff.1 h).1, h]
  · rw [List.getElem?_set_ne hj]
theorem wrap_u64 {x : Int} (h1 : 0 ≤ x) (h2 : x < 18446744073709551616) : IntKind.wrap .u64 x = x := by
  simp only [IntKind.wrap, IntKind.bits, IntKind.signed]
  simp
  omega
/-- bits of a mask -/
theorem and_mask {k : IntKind} (hk : k.bits = 64) (a : Int) (j : Nat) (hj : j ≤ 62) : (BitVec.ofInt k.bits a &&& BitVec.ofInt k.bits ((2 ^ j - 1 : Nat) : Int)).toNat = (a % ((2 ^ j : Nat) : Int)).toNat := by
  rw [hk]
  rw [BitVec.toNat_and, BitVec.toNat_ofInt, BitVec.toNat_ofInt]
  have hp : (2 : Nat) ^ j ≤ 2 ^ 62 := Nat.pow_le_pow_right (by decide) hj
  have h0 : 0 < (2 : Nat) ^ j := Nat.pow_pos (by decide)
  have e1 : ((((2 ^ j - 1 : Nat) : Int)) % ((2 ^ 64 : Nat) : Int)).toNat = 2 ^ j - 1 := by
    rw [Int.emod_eq_of_lt (by omega) (by omega)]; simp
  rw [e1, Nat.and_two_pow_sub_one_eq_mod]
  have hd : (2 : Nat) ^ 64 = 2 ^ j * 2 ^ (64 - j) := by rw [← Nat.pow_add]; congr 1; omega
  have h2 : 0 ≤ a % ((2 ^ 64 : Nat) : Int) := Int.emod_nonneg _ (by decide)
  have e2 : ((a % ((2 ^ 64 : Nat) : Int)).toNat % 2 ^ j : Nat) = ((a % ((2 ^ 64 : Nat) : Int)) % ((2 ^ j : Nat) : Int)).toNat := by
    rw [Int.toNat_emod h2 (by omega)]; rfl
  rw [e2]
  congr 1
  refine Int.emod_emod_of_dvd _ ?_
  exact ⟨((2 ^ (64 - j) : Nat) : Int), by exact_mod_cast hd⟩
theorem bits_and {k : IntKind} {a b n : Int} (h : IsBits .and k a b n) : n = k.wrap (BitVec.ofInt k.bits a &&& BitVec.ofInt k.bits b).toNat := h
theorem and_mask_u64 {a : Int} (j : Nat) (hj : j ≤ 62) : IntKind.wrap .u64 (BitVec.ofInt (IntKind.bits .u64) a &&& BitVec.ofInt (IntKind.bits .u64) ((2 ^ j - 1 : Nat) : Int)).toNat = a % ((2 ^ j : Nat) : Int) := by
  rw [and_mask rfl a j hj]
  have hp : (2 : Nat) ^ j ≤ 2 ^ 62 := Nat.pow_le_pow_right (by decide) hj
  have h0 : 0 < (2 : Nat) ^ j := Nat.pow_pos (by decide)
  have h1 : 0 ≤ a % ((2 ^ j : Nat) : Int) := Int.emod_nonneg _ (by omega)
  have h2 : a % ((2 ^ j : Nat) : Int) < ((2 ^ j : Nat) : Int) := Int.emod_lt_of_pos _ (by omega)
  rw [Int.toNat_of_nonneg h1, wrap_u64 h1 (by omega)]
theorem wrapu_ok {x : Int} (h1 : 0 ≤ x) (h2 : x < 18446744073709551616) : IsWrap .u64 x x := by unfold IsWrap; exact (wrap_u64 h1 h2).symm
theorem copy_ok {a m : Nat} {K : Prop} (h : a ≤ m) (k : K) : a ≤ m ∧ K := ⟨h, k⟩
abbrev intsA (l : List Int) : Blk := { mode := .live, elem := 3, size := 1, rows := toC (l.map intRow), box := false, app := true }
abbrev intsO (l : List Int) : Blk := { mode := .old, elem := 3, size := 1, rows := toC (l.map intRow), box := false, app := true }
theorem sl3_ok {l h m n : Int} {K : Prop} (h1 : 0 ≤ l) (h2 : l ≤ h) (h3 : m = h) (h4 : h ≤ n) (k : K) : (0 ≤ l ∧ l ≤ h ∧ m = h ∧ h ≤ n) ∧ K := ⟨⟨h1, h2, h3, h4⟩, k⟩
theorem ex_ownN {xs : List Int} {i : Nat} {x : Int} {K : List C → Prop} (hx : xs[i]? = some x) (h : K [C.t (ti x)]) : ∃ row, (toC (xs.map intRow))[i]? = some row ∧ K row :=
  ⟨[C.t (ti x)], by simp [toC, hx, intRow], h⟩
theorem appA_ok {len m n b : Nat} {K : Prop} (h1 : len = m) (h2 : (len + n) * b ≤ 140737488355328) (k : K) : (len = m ∧ (len + n) * b ≤ 140737488355328) ∧ K := ⟨⟨h1, h2⟩, k⟩
theorem ownI_congr {id : Nat} {l : List Int} {n : Nat} (h : n = l.length) : (S.c (.own id 0 n true)) = ownI id l := by rw [h]
theorem any_take_succ {α : Type} {l : List α} {f : α → Bool} {k : Nat} {x : α} (h : l[k]? = some x) : (l.take (k + 1)).any f = ((l.take k).any f || f x) := by
  rw [List.take_add_one, h]; simp
theorem all_take_succ {α : Type} {l : List α} {f : α → Bool} {k : Nat} {x : α} (h : l[k]? = some x) : (l.take (k + 1)).all f = ((l.take k).all f && f x) := by
  rw [List.take_add_one, h]; simp
theorem any_of_get {α : Type} {l : List α} {f : α → Bool} {k : Nat} {x : α} (h : l[k]? = some x) (hf : f x = true) : l.any f = true := List.any_eq_true.2 ⟨x, List.mem_of_getElem? h, hf⟩
theorem all_of_get {α : Type} {l : List α} {f : α → Bool} {k : Nat} {x : α} (h : l[k]? = some x) (hf : f x = false) : l.all f = false := by
  rw [← Bool.not_eq_true, List.all_eq_true]; intro h'; rw [h' x (List.mem_of_getElem? h)] at hf; cases hf
theorem fin_d {x y : T} {H1 : Hp} (h : x = y) : Fin 0 (.c (.t x)) H1 (.c (.t y)) [] := by subst h; exact fin_t (show EntT [] H1 _ _ from ent_t (ρ := []) (H := H1) rfl)
theorem fin_sl {n : Nat} {k : SK} {a b : List (List T)} {H1 : Hp} (h : a = b) (hk : k = .any) : Fin 0 (.c (.t (.sl n k a))) H1 (.c (.t (.sl n .any b))) [] := by subst h hk; exact fin_t (show EntT [] H1 _ _ from ent_t (ρ := []) (H := H1) rfl)
/-- an empty slice of which nobody knows whether it is nil -/
theorem acall_nil {P : Program} {g : FuncId} {args : List S} {H H' : Hp} {r : S} (i : Nat) {n : Nat} (hi : args[i]? = some (.c (.t (.sl n .any [])))) (h1 : ACall P g (args.set i (.c (.t (.sl n .nul [])))) H r H')
    (h2 : ACall P g (args.set i (.c (.t (.sl n .non [])))) H r H') : ACall P g args H r H' := by
  refine ⟨h1.1, fun w ι M vals hl hr hH hM hF => ?_⟩
  have hv := (hr i _ hi).inv_t
  have hil := (List.getElem?_eq_some_iff.1 hi).1
  have key : ∀ k : SK, RT w M (.sl n k []) (vals.getD i undef) → ∀ j s, (args.set i (.c (.t (.sl n k []))))[j]? = some s → RS w ι M s (vals.getD j undef) := fun k hk j s hj => by
    by_cases hji : i = j
    · subst hji
      rw [List.getElem?_set_self hil] at hj
      injection hj with hj
      subst hj
      exact .c (.t hk)
    · rw [List.getElem?_set_ne hji] at hj
      exact hr j s hj
  generalize hu : vals.getD i undef = u at hv
  cases hv with
  | @sl _ _ _ b off cap A f hrow hcap hmax hk hn hA hc hr' hx =>
    cases A with
    | none => exact h1.2 w ι M vals (by simpa using hl) (key .nul (by rw [hu]; exact .sl (b := b) (off := off) f hrow hcap hmax (by intro h; cases h) (by intro h; cases h) (by simp) hc hr' ⟨(fun _ => ⟨rfl, rfl⟩), (fun h => nomatch h)⟩)) hH hM hF
    | some a => exact h2.2 w ι M vals (by simpa using hl) (key .non (by rw [hu]; exact .sl (b := b) (off := off) f hrow hcap hmax (by intro h; cases h) (by intro h; cases h) (by simp) hc hr' ⟨(fun h => nomatch h), (fun _ h => nomatch h)⟩)) hH hM hF
/-- a call that returns one new block of one's own -/
theorem acall_new {P : Program} {g : FuncId} {args : List S} {H : Hp} {n : Nat} {b : Blk} {rows : List (List T)} (h : ACall P g args [] (.c (.own 0 0 n true)) [b]) (hargs : args = args.map (renS [])) (hok : args.all (okS 0) = true)
    (hm : b.mode = .live) (hb : b.rows = toC rows) : ACall P g args H (.c (.own H.length 0 n true)) (H ++ [b]) := by
  refine acall_frame [] h hargs hok rfl List.nodup_nil (by simp) (by intro k hk; simp at hk; subst hk; rw [hm]; simp) (by simp) rfl ?_ (by simp) ?_ ?_
  · simp [renS, renC, extR]
  · intro i k hk
    match i, hk with
    | 0, hk =>
      simp at hk
      subst hk
      exact ⟨b, by simp [extR], renB_data hb⟩
  · intro j hj _
    rw [List.getElem?_append_left hj]
/-- a call at data that may be known better, with its own blocks left -/
theorem acall_data {P : Program} {g : FuncId} {args args' : List S} {r : S} {H' : Hp} (h : ACall P g args' [] r H') (ha : VArgs [] (fun _ => False) args args') : ACall P g args [] r H' := by
  refine ⟨h.1, fun w ι M vals hl hv hH hM hf => ?_⟩
  obtain ⟨hlen, hget⟩ := VArgs.get ha
  exact h.2 w ι M vals (by omega) (fun j s hj => by
    obtain ⟨x, hx, hs⟩ := hget j s hj
    exact hs.rs hH (fun _ h => h) (fun _ _ _ _ _ h _ _ _ _ => h.elim) (hv j x hx)) hH hM hf
end Go.Proofs.Ytomfnfbijgjfeaa
/- Package flow: what its inner functions compute. -/
namespace Go.Proofs.Ytomfnfbijgjfeaa
open Go.RowKit
set_option linter.unusedVariables false
set_option linter.unusedSimpArgs false

theorem a_index (i n : Int) : ACall Try.prog 50 [intS .i64 i, intS .i64 n] [] (boolS (idx i n)) [] := by
  (refine acall_of tab_ok Try.func50 rfl (by decide) ?_; (conv => whnf); repeat (first | (refine LitB.data ?_; conv => whnf) | (refine BoxB.own ?_; conv => whnf)))
  (repeat' (first | ((refine DecB.mk (fun h => ?_) (fun h => ?_)) <;> first | (exfalso; omega) | (conv => whnf)) | ((refine BoolB.mk (fun h => ?_) (fun h => ?_)) <;> first | (exact absurd h (by decide)) | (conv => whnf)) | (refine ⟨_, wrap_ok (by omega) (by omega), ?_⟩; conv => whnf) | (refine and_idx (by omega) (by omega) ?_; conv => whnf) | (refine reg_ok (by decide +kernel) ?_; conv => whnf) | (refine bar_ok (by decide +kernel) (by decide +kernel) ?_; conv => whnf) | (refine late_ok rfl rfl ?_; conv => whnf) | (refine src_ok rfl ?_; conv => whnf) | (refine LitB.data ?_; conv => whnf) | (refine BoxB.own ?_; conv => whnf)))
  all_goals (refine fin_bool ?_; simp only [idx]; simp; omega)

theorem a_between (n lo hi : Int) : ACall Try.prog 86 [intS .i64 n, intS .i64 lo, intS .i64 hi] [] (boolS (btw n lo hi)) [] := by
  (refine acall_of tab_ok Try.func86 rfl (by decide) ?_; (conv => whnf); repeat (first | (refine LitB.data ?_; conv => whnf) | (refine BoxB.own ?_; conv => whnf)))
  (repeat' (first | ((refine DecB.mk (fun h => ?_) (fun h => ?_)) <;> first | (exfalso; omega) | (conv => whnf)) | ((refine BoolB.mk (fun h => ?_) (fun h => ?_)) <;> first | (exact absurd h (by decide)) | (conv => whnf)) | (refine ⟨_, wrap_ok (by omega) (by omega), ?_⟩; conv => whnf) | (refine and_idx (by omega) (by omega) ?_; conv => whnf) | (refine reg_ok (by decide +kernel) ?_; conv => whnf) | (refine bar_ok (by decide +kernel) (by decide +kernel) ?_; conv => whnf) | (refine late_ok rfl rfl ?_; conv => whnf) | (refine src_ok rfl ?_; conv => whnf) | (refine LitB.data ?_; conv => whnf) | (refine BoxB.own ?_; conv => whnf)))
  all_goals (refine fin_bool ?_; simp only [btw]; simp; omega)

def pairRow (p : Int × Int) : List T := [ti p.1, ti p.2]
def fullL (e : Ev) : List (Int × Int) := [(e.mats, 6), (e.hhs, 100), (e.scs, 30), (e.places.length, 100), (e.moves.length, 200), (e.certs.length, 100), (e.recalls.length, 30), (e.purities.length, 200)]
theorem fullB_any (e : Ev) : fullB e = (fullL e).any fun p => decide (p.2 < p.1) := by
  rw [Bool.eq_iff_iff]
  simp [fullB, fullL]
  omega

set_option maxRecDepth 100000 in
theorem a_full (e : Ev) (hs : e.Sized) : ACall Try.prog 45 [evS e] [] (boolS (fullB e)) [] := by
  (refine acall_of tab_ok Try.func45 rfl (by decide) ?_; (conv => whnf); repeat (first | (refine LitB.data ?_; conv => whnf) | (refine BoxB.own ?_; conv => whnf)))
  have hl : (fullL e).length = 8 := rfl
  refine awp_for tab_ok (fun k => ([S.junk, S.junk, S.junk, S.junk, S.junk, S.junk, S.junk, S.junk, S.junk, S.junk, S.junk, S.junk, S.junk, S.junk, S.junk, S.junk, S.junk, S.junk, S.junk, S.junk, S.junk, S.junk, S.junk, S.junk, S.junk, S.junk, S.junk, S.junk, S.junk, S.junk, S.junk, S.junk, S.junk, S.junk, S.c (C.t (T.sl 2 .full ((fullL e).map pairRow))), intS .i64 8, intS .i64 k, S.junk, S.junk, S.junk, S.junk, S.junk, S.junk, S.junk, S.junk, S.junk], [])) 8 (fun k => ((fullL e).take k).any (fun p => decide (p.2 < p.1)) = false) [] rfl
    ⟨rfl, rfl, trivial, ⟨ent_t (by simp [fullL, pairRow]), rfl, rfl, trivial⟩⟩ ?_
  intro k hk hI
  conv => whnf
  (repeat' (first | ((refine DecB.mk (fun h => ?_) (fun h => ?_)) <;> first | (exfalso; omega) | (conv => whnf)) | ((refine BoolB.mk (fun h => ?_) (fun h => ?_)) <;> first | (exact absurd h (by decide)) | (conv => whnf)) | (refine ⟨_, wrap_ok (by omega) (by omega), ?_⟩; conv => whnf) | (refine and_idx (by omega) (by omega) ?_; conv => whnf) | (refine reg_ok (by decide +kernel) ?_; conv => whnf) | (refine bar_ok (by decide +kernel) (by decide +kernel) ?_; conv => whnf) | (refine late_ok rfl rfl ?_; conv => whnf) | (refine src_ok rfl ?_; conv => whnf) | (refine LitB.data ?_; conv => whnf) | (refine BoxB.own ?_; conv => whnf)))
  · have hlt : k < 8 := by omega
    refine ex_row (List.getElem?_eq_getElem (hl ▸ hlt)) ?_
    conv => whnf
    (repeat' (first | ((refine DecB.mk (fun h => ?_) (fun h => ?_)) <;> first | (exfalso; omega) | (conv => whnf)) | ((refine BoolB.mk (fun h => ?_) (fun h => ?_)) <;> first | (exact absurd h (by decide)) | (conv => whnf)) | (refine ⟨_, wrap_ok (by omega) (by omega), ?_⟩; conv => whnf) | (refine and_idx (by omega) (by omega) ?_; conv => whnf) | (refine reg_ok (by decide +kernel) ?_; conv => whnf) | (refine bar_ok (by decide +kernel) (by decide +kernel) ?_; conv => whnf) | (refine late_ok rfl rfl ?_; conv => whnf) | (refine src_ok rfl ?_; conv => whnf) | (refine LitB.data ?_; conv => whnf) | (refine BoxB.own ?_; conv => whnf)))
    · refine fin_bool ?_
      rw [fullB_any, any_of_get (List.getElem?_eq_getElem (hl ▸ hlt))]
      simpa using ‹_ > _›
    · refine ⟨hlt, ?_, [], rfl, rfl, trivial, ⟨rfl, rfl, rfl, trivial⟩⟩
      rw [any_take_succ (List.getElem?_eq_getElem (hl ▸ hlt)), hI]
      have h := ‹¬ _ > _›
      simp; omega
  · refine fin_bool ?_
    rw [fullB_any, ← hI, List.take_of_length_le (by omega)]
end Go.Proofs.Ytomfnfbijgjfeaa
/- Package flow: places, moves, what was said; Check. -/
namespace Go.Proofs.Ytomfnfbijgjfeaa
open Go.RowKit
set_option linter.unusedVariables false
set_option linter.unusedSimpArgs false
set_option maxRecDepth 100000


theorem a_places (e : Ev) (hs : e.Sized) : ACall Try.prog 46 [evS e] [] (boolS (e.places.all (placeOk e))) [] := by
  have l1 := hs.s1
  have l2 : (e.places.map Place.row).length = e.places.length := by simp
  (refine acall_of tab_ok Try.func46 rfl (by decide) ?_; (conv => whnf); repeat (first | (refine LitB.data ?_; conv => whnf) | (refine BoxB.own ?_; conv => whnf)))
  refine awp_for tab_ok (fun k => ([S.junk, S.c (C.ptr 0 0 0), S.junk, S.junk, S.junk, S.junk, S.c (C.t (placesT e.places)), intS .i64 e.places.length, intS .i64 k, S.junk, S.junk, S.junk, S.junk, S.junk, S.junk, S.junk, S.junk, S.junk, S.junk, S.junk, S.junk, S.junk, S.junk, S.junk, S.junk, S.junk, S.junk, S.junk, S.junk, S.junk, S.junk, S.junk, S.junk, S.junk, S.junk, S.junk, S.junk, S.junk, S.junk, S.junk, S.junk, S.junk, S.junk, S.junk, S.junk], [evB e])) e.places.length (fun k => (e.places.take k).all (placeOk e) = true) [some 0] rfl
    ⟨rfl, rfl, ⟨⟨rfl, rfl, rfl, .inl ⟨rfl, rowsT_ev e⟩⟩, trivial⟩, ⟨⟨rfl, rfl, rfl⟩, ent_t rfl, ent_i (by simp), ent_i rfl, trivial⟩⟩ ?_
  intro k hk hI
  conv => whnf
  (repeat' (first | ((refine DecB.mk (fun h => ?_) (fun h => ?_)) <;> first | (exfalso; omega) | (conv => whnf)) | ((refine BoolB.mk (fun h => ?_) (fun h => ?_)) <;> first | (exact absurd h (by decide)) | (conv => whnf)) | (refine ⟨_, wrap_ok (by omega) (by omega), ?_⟩; conv => whnf) | (refine and_idx (by omega) (by omega) ?_; conv => whnf) | (refine reg_ok (by decide +kernel) ?_; conv => whnf) | (refine bar_ok (by decide +kernel) (by decide +kernel) ?_; conv => whnf) | (refine late_ok rfl rfl ?_; conv => whnf) | (refine src_ok rfl ?_; conv => whnf) | (refine LitB.data ?_; conv => whnf) | (refine BoxB.own ?_; conv => whnf)))
  · have hlt : k < e.places.length := by omega
    obtain ⟨x, hx⟩ : ∃ x, e.places[k]? = some x := ⟨_, List.getElem?_eq_getElem hlt⟩
    refine ex_row hx ?_
    conv => whnf
    (repeat' (first | ((refine DecB.mk (fun h => ?_) (fun h => ?_)) <;> first | (exfalso; omega) | (conv => whnf)) | ((refine BoolB.mk (fun h => ?_) (fun h => ?_)) <;> first | (exact absurd h (by decide)) | (conv => whnf)) | (refine ⟨_, wrap_ok (by omega) (by omega), ?_⟩; conv => whnf) | (refine and_idx (by omega) (by omega) ?_; conv => whnf) | (refine reg_ok (by decide +kernel) ?_; conv => whnf) | (refine bar_ok (by decide +kernel) (by decide +kernel) ?_; conv => whnf) | (refine late_ok rfl rfl ?_; conv => whnf) | (refine src_ok rfl ?_; conv => whnf) | (refine .inl ⟨_, _, qcall_pure (a_index _ _) rfl rfl, ?_⟩; conv => whnf) | (refine LitB.data ?_; conv => whnf) | (refine BoxB.own ?_; conv => whnf)))
    all_goals first
      | (refine ⟨hlt, ?_, [some 0], rfl, rfl, ⟨⟨rfl, rfl, rfl, .inl ⟨rfl, rowsT_ev e⟩⟩, trivial⟩, ⟨⟨rfl, rfl, rfl⟩, rfl, rfl, rfl, trivial⟩⟩; rw [all_take_succ hx, hI]; simp_all [placeOk]; done)
      | (refine fin_bool ?_; rw [all_of_get hx]; simp_all [placeOk]; done)
  · refine fin_bool ?_
    rw [← hI, List.take_of_length_le (by omega)]

theorem place_get {e : Ev} {i : Int} (h : idx i e.places.length = true) : 0 ≤ i ∧ ∃ x, e.places[i.toNat]? = some x ∧ kindAt e i = x.kind := by
  have h' := idx_iff.1 h
  have hlt : i.toNat < e.places.length := by omega
  refine ⟨h'.1, _, List.getElem?_eq_getElem hlt, ?_⟩
  unfold kindAt
  rw [List.getElem?_eq_getElem hlt]; rfl

theorem a_move (e : Ev) (m : Move) (hs : e.Sized) : ACall Try.prog 47 [evS e, moveS m] [] (boolS (moveOk e m)) [] := by
  have l1 := hs.s1
  have l2 : (e.places.map Place.row).length = e.places.length := by simp
  by_cases h1 : idx m.src e.places.length = true
  · obtain ⟨hs0, x, hx, kx⟩ := place_get h1
    by_cases h2 : idx m.dst e.places.length = true
    · obtain ⟨hd0, y, hy, ky⟩ := place_get h2
      (refine acall_of tab_ok Try.func47 rfl (by decide) ?_; (conv => whnf); repeat (first | (refine LitB.data ?_; conv => whnf) | (refine BoxB.own ?_; conv => whnf)))
      rw [← l2] at h1 h2
      (repeat' (first | ((refine DecB.mk (fun h => ?_) (fun h => ?_)) <;> first | (exfalso; omega) | (conv => whnf)) | ((refine BoolB.mk (fun h => ?_) (fun h => ?_)) <;> first | (exact absurd h (by decide)) | (conv => whnf)) | (refine ⟨_, wrap_ok (by omega) (by omega), ?_⟩; conv => whnf) | (refine and_idx (by omega) (by omega) ?_; conv => whnf) | (refine reg_ok (by decide +kernel) ?_; conv => whnf) | (refine bar_ok (by decide +kernel) (by decide +kernel) ?_; conv => whnf) | (refine late_ok rfl rfl ?_; conv => whnf) | (refine src_ok rfl ?_; conv => whnf) | (refine .inl ⟨_, _, qcall_pure (a_index _ _) rfl rfl, ?_⟩; conv => whnf) | (refine .inl ⟨_, _, qcall_pure (a_between _ _ _) rfl rfl, ?_⟩; conv => whnf) | (refine ex_rowI hs0 hx ?_; conv => whnf) | (refine ex_rowI hd0 hy ?_; conv => whnf) | (refine LitB.data ?_; conv => whnf) | (refine BoxB.own ?_; conv => whnf)))
      all_goals (refine fin_bool ?_; simp_all [moveOk]; done)
    · (refine acall_of tab_ok Try.func47 rfl (by decide) ?_; (conv => whnf); repeat (first | (refine LitB.data ?_; conv => whnf) | (refine BoxB.own ?_; conv => whnf)))
      rw [← l2] at h1 h2
      (repeat' (first | ((refine DecB.mk (fun h => ?_) (fun h => ?_)) <;> first | (exfalso; omega) | (conv => whnf)) | ((refine BoolB.mk (fun h => ?_) (fun h => ?_)) <;> first | (exact absurd h (by decide)) | (conv => whnf)) | (refine ⟨_, wrap_ok (by omega) (by omega), ?_⟩; conv => whnf) | (refine and_idx (by omega) (by omega) ?_; conv => whnf) | (refine reg_ok (by decide +kernel) ?_; conv => whnf) | (refine bar_ok (by decide +kernel) (by decide +kernel) ?_; conv => whnf) | (refine late_ok rfl rfl ?_; conv => whnf) | (refine src_ok rfl ?_; conv => whnf) | (refine .inl ⟨_, _, qcall_pure (a_index _ _) rfl rfl, ?_⟩; conv => whnf) | (refine LitB.data ?_; conv => whnf) | (refine BoxB.own ?_; conv => whnf)))
      all_goals first | (exfalso; simp_all; done) | (refine fin_bool ?_; simp_all [moveOk]; done)
  · (refine acall_of tab_ok Try.func47 rfl (by decide) ?_; (conv => whnf); repeat (first | (refine LitB.data ?_; conv => whnf) | (refine BoxB.own ?_; conv => whnf)))
    rw [← l2] at h1
    (repeat' (first | ((refine DecB.mk (fun h => ?_) (fun h => ?_)) <;> first | (exfalso; omega) | (conv => whnf)) | ((refine BoolB.mk (fun h => ?_) (fun h => ?_)) <;> first | (exact absurd h (by decide)) | (conv => whnf)) | (refine ⟨_, wrap_ok (by omega) (by omega), ?_⟩; conv => whnf) | (refine and_idx (by omega) (by omega) ?_; conv => whnf) | (refine reg_ok (by decide +kernel) ?_; conv => whnf) | (refine bar_ok (by decide +kernel) (by decide +kernel) ?_; conv => whnf) | (refine late_ok rfl rfl ?_; conv => whnf) | (refine src_ok rfl ?_; conv => whnf) | (refine .inl ⟨_, _, qcall_pure (a_index _ _) rfl rfl, ?_⟩; conv => whnf) | (refine LitB.data ?_; conv => whnf) | (refine BoxB.own ?_; conv => whnf)))
    all_goals first | (exfalso; simp_all; done) | (refine fin_bool ?_; simp_all [moveOk]; done)

theorem a_said (e : Ev) (hs : e.Sized) : ACall Try.prog 48 [evS e] [] (boolS (saidOk e)) [] := by
  have l1 := hs.s3
  have l2 : (e.certs.map Cert.row).length = e.certs.length := by simp
  have l3 := hs.s4
  have l4 : (e.recalls.map Recall.row).length = e.recalls.length := by simp
  have l5 := hs.s5
  have l6 : (e.purities.map Purity.row).length = e.purities.length := by simp
  have l7 := hs.s2
  have l8 : (e.moves.map Move.row).length = e.moves.length := by simp
  (refine acall_of tab_ok Try.func48 rfl (by decide) ?_; (conv => whnf); repeat (first | (refine LitB.data ?_; conv => whnf) | (refine BoxB.own ?_; conv => whnf)))
  refine awp_for tab_ok (fun k => ([S.junk, S.c (C.ptr 0 0 0), S.junk, S.junk, S.junk, S.junk, S.junk, S.junk, S.junk, S.junk, S.junk, S.c (C.t (certsT e.certs)), intS .i64 e.certs.length, intS .i64 k, S.junk, S.junk, S.junk, S.junk, S.junk, S.junk, S.junk, S.junk, S.junk, S.junk, S.junk, S.junk, S.junk, S.junk, S.junk, S.junk, S.junk, S.junk, S.junk, S.junk, S.junk, S.junk, S.junk, S.junk, S.junk, S.junk, S.junk, S.junk, S.junk, S.junk, S.junk, S.junk, S.junk, S.junk, S.junk, S.junk, S.junk, S.junk, S.junk, S.junk, S.junk, S.junk, S.junk, S.junk, S.junk, S.junk, S.junk, S.junk, S.junk, S.junk, S.junk, S.junk, S.junk, S.junk, S.junk, S.junk, S.junk, S.junk, S.junk, S.junk, S.junk, S.junk, S.junk, S.junk, S.junk, S.junk, S.junk, S.junk, S.junk, S.junk, S.junk, S.junk, S.junk, S.junk, S.junk, S.junk, S.junk, S.junk, S.junk, S.junk, S.junk, S.junk, S.junk, S.junk, S.junk, S.junk, S.junk, S.junk, S.junk, S.junk, S.junk, S.junk, S.junk, S.junk, S.junk, S.junk, S.junk, S.junk, S.junk, S.junk, S.junk, S.junk, S.junk, S.junk, S.junk, S.junk, S.junk], [evB e])) e.certs.length (fun k => (e.certs.take k).all (certOk e) = true) [some 0] rfl
    ⟨rfl, rfl, ⟨⟨rfl, rfl, rfl, .inl ⟨rfl, rowsT_ev e⟩⟩, trivial⟩, ⟨⟨rfl, rfl, rfl⟩, ent_t rfl, ent_i (by simp), ent_i rfl, trivial⟩⟩ ?_
  intro k hk hI
  conv => whnf
  (repeat' (first | ((refine DecB.mk (fun h => ?_) (fun h => ?_)) <;> first | (exfalso; omega) | (conv => whnf)) | ((refine BoolB.mk (fun h => ?_) (fun h => ?_)) <;> first | (exact absurd h (by decide)) | (conv => whnf)) | (refine ⟨_, wrap_ok (by omega) (by omega), ?_⟩; conv => whnf) | (refine and_idx (by omega) (by omega) ?_; conv => whnf) | (refine reg_ok (by decide +kernel) ?_; conv => whnf) | (refine bar_ok (by decide +kernel) (by decide +kernel) ?_; conv => whnf) | (refine late_ok rfl rfl ?_; conv => whnf) | (refine src_ok rfl ?_; conv => whnf) | (refine LitB.data ?_; conv => whnf) | (refine BoxB.own ?_; conv => whnf)))
  · have hlt : k < e.certs.length := by omega
    obtain ⟨x, hx⟩ : ∃ x, e.certs[k]? = some x := ⟨_, List.getElem?_eq_getElem hlt⟩
    refine ex_row hx ?_
    conv => whnf
    (repeat' (first | ((refine DecB.mk (fun h => ?_) (fun h => ?_)) <;> first | (exfalso; omega) | (conv => whnf)) | ((refine BoolB.mk (fun h => ?_) (fun h => ?_)) <;> first | (exact absurd h (by decide)) | (conv => whnf)) | (refine ⟨_, wrap_ok (by omega) (by omega), ?_⟩; conv => whnf) | (refine and_idx (by omega) (by omega) ?_; conv => whnf) | (refine reg_ok (by decide +kernel) ?_; conv => whnf) | (refine bar_ok (by decide +kernel) (by decide +kernel) ?_; conv => whnf) | (refine late_ok rfl rfl ?_; conv => whnf) | (refine src_ok rfl ?_; conv => whnf) | (refine .inl ⟨_, _, qcall_pure (a_index _ _) rfl rfl, ?_⟩; conv => whnf) | (refine .inl ⟨_, _, qcall_pure (a_between _ _ _) rfl rfl, ?_⟩; conv => whnf) | (refine LitB.data ?_; conv => whnf) | (refine BoxB.own ?_; conv => whnf)))
    all_goals first
      | (refine ⟨hlt, ?_, [some 0], rfl, rfl, ⟨⟨rfl, rfl, rfl, .inl ⟨rfl, rowsT_ev e⟩⟩, trivial⟩, ⟨⟨rfl, rfl, rfl⟩, rfl, rfl, rfl, trivial⟩⟩; rw [all_take_succ hx, hI]; simp_all [certOk]; done)
      | (refine fin_bool ?_; rw [saidOk, all_of_get hx]; rfl; simp_all [certOk]; (try omega); done)
  · have hc : e.certs.all (certOk e) = true := by rw [← hI, List.take_of_length_le (by omega)]
    clear hI h hk
    refine awp_for tab_ok (fun k => ([S.junk, S.c (C.ptr 0 0 0), S.junk, S.junk, S.junk, S.junk, S.junk, S.junk, S.junk, S.junk, S.junk, S.junk, S.junk, S.junk, S.junk, S.junk, S.junk, S.junk, S.junk, S.junk, S.junk, S.junk, S.junk, S.junk, S.junk, S.junk, S.junk, S.junk, S.junk, S.junk, S.junk, S.junk, S.junk, S.junk, S.junk, S.junk, S.junk, S.junk, S.junk, S.junk, S.junk, S.junk, S.junk, S.junk, S.junk, S.junk, S.junk, S.junk, S.junk, S.junk, S.junk, S.junk, S.junk, S.junk, S.junk, S.junk, S.junk, S.junk, S.junk, S.junk, S.junk, S.junk, S.c (C.t (recallsT e.recalls)), intS .i64 e.recalls.length, intS .i64 k, S.junk, S.junk, S.junk, S.junk, S.junk, S.junk, S.junk, S.junk, S.junk, S.junk, S.junk, S.junk, S.junk, S.junk, S.junk, S.junk, S.junk, S.junk, S.junk, S.junk, S.junk, S.junk, S.junk, S.junk, S.junk, S.junk, S.junk, S.junk, S.junk, S.junk, S.junk, S.junk, S.junk, S.junk, S.junk, S.junk, S.junk, S.junk, S.junk, S.junk, S.junk, S.junk, S.junk, S.junk, S.junk, S.junk, S.junk, S.junk, S.junk, S.junk, S.junk, S.junk, S.junk, S.junk, S.junk, S.junk], [evB e])) e.recalls.length (fun k => (e.recalls.take k).all (recallOk e) = true) [some 0] rfl
      ⟨rfl, rfl, ⟨⟨rfl, rfl, rfl, .inl ⟨rfl, rowsT_ev e⟩⟩, trivial⟩, ⟨⟨rfl, rfl, rfl⟩, ent_t rfl, ent_i (by simp), ent_i rfl, trivial⟩⟩ ?_
    intro k hk hI
    conv => whnf
    (repeat' (first | ((refine DecB.mk (fun h => ?_) (fun h => ?_)) <;> first | (exfalso; omega) | (conv => whnf)) | ((refine BoolB.mk (fun h => ?_) (fun h => ?_)) <;> first | (exact absurd h (by decide)) | (conv => whnf)) | (refine ⟨_, wrap_ok (by omega) (by omega), ?_⟩; conv => whnf) | (refine and_idx (by omega) (by omega) ?_; conv => whnf) | (refine reg_ok (by decide +kernel) ?_; conv => whnf) | (refine bar_ok (by decide +kernel) (by decide +kernel) ?_; conv => whnf) | (refine late_ok rfl rfl ?_; conv => whnf) | (refine src_ok rfl ?_; conv => whnf) | (refine LitB.data ?_; conv => whnf) | (refine BoxB.own ?_; conv => whnf)))
    · have hlt : k < e.recalls.length := by omega
      obtain ⟨x, hx⟩ : ∃ x, e.recalls[k]? = some x := ⟨_, List.getElem?_eq_getElem hlt⟩
      refine ex_row hx ?_
      conv => whnf
      (repeat' (first | ((refine DecB.mk (fun h => ?_) (fun h => ?_)) <;> first | (exfalso; omega) | (conv => whnf)) | ((refine BoolB.mk (fun h => ?_) (fun h => ?_)) <;> first | (exact absurd h (by decide)) | (conv => whnf)) | (refine ⟨_, wrap_ok (by omega) (by omega), ?_⟩; conv => whnf) | (refine and_idx (by omega) (by omega) ?_; conv => whnf) | (refine reg_ok (by decide +kernel) ?_; conv => whnf) | (refine bar_ok (by decide +kernel) (by decide +kernel) ?_; conv => whnf) | (refine late_ok rfl rfl ?_; conv => whnf) | (refine src_ok rfl ?_; conv => whnf) | (refine .inl ⟨_, _, qcall_pure (a_index _ _) rfl rfl, ?_⟩; conv => whnf) | (refine .inl ⟨_, _, qcall_pure (a_between _ _ _) rfl rfl, ?_⟩; conv => whnf) | (refine LitB.data ?_; conv => whnf) | (refine BoxB.own ?_; conv => whnf)))
      all_goals first
        | (refine ⟨hlt, ?_, [some 0], rfl, rfl, ⟨⟨rfl, rfl, rfl, .inl ⟨rfl, rowsT_ev e⟩⟩, trivial⟩, ⟨⟨rfl, rfl, rfl⟩, rfl, rfl, rfl, trivial⟩⟩; rw [all_take_succ hx, hI]; simp_all [recallOk]; done)
        | (refine fin_bool ?_; rw [saidOk, hc, all_of_get hx]; rfl; simp_all [recallOk]; done)
    · have hr : e.recalls.all (recallOk e) = true := by rw [← hI, List.take_of_length_le (by omega)]
      clear hI h hk
      refine awp_for tab_ok (fun k => ([S.junk, S.c (C.ptr 0 0 0), S.junk, S.junk, S.junk, S.junk, S.junk, S.junk, S.junk, S.junk, S.junk, S.junk, S.junk, S.junk, S.junk, S.junk, S.junk, S.junk, S.junk, S.junk, S.junk, S.junk, S.junk, S.junk, S.junk, S.junk, S.junk, S.junk, S.junk, S.junk, S.junk, S.junk, S.junk, S.junk, S.junk, S.junk, S.junk, S.junk, S.junk, S.junk, S.junk, S.junk, S.junk, S.junk, S.junk, S.junk, S.junk, S.junk, S.junk, S.junk, S.junk, S.junk, S.junk, S.junk, S.junk, S.junk, S.junk, S.junk, S.junk, S.junk, S.junk, S.junk, S.junk, S.junk, S.junk, S.junk, S.junk, S.junk, S.junk, S.junk, S.junk, S.junk, S.junk, S.junk, S.junk, S.junk, S.junk, S.junk, S.junk, S.junk, S.junk, S.junk, S.c (C.t (puritiesT e.purities)), intS .i64 e.purities.length, intS .i64 k, S.junk, S.junk, S.junk, S.junk, S.junk, S.junk, S.junk, S.junk, S.junk, S.junk, S.junk, S.junk, S.junk, S.junk, S.junk, S.junk, S.junk, S.junk, S.junk, S.junk, S.junk, S.junk, S.junk, S.junk, S.junk, S.junk, S.junk, S.junk, S.junk, S.junk, S.junk, S.junk, S.junk, S.junk, S.junk, S.junk], [evB e])) e.purities.length (fun k => (e.purities.take k).all (purityOk e) = true) [some 0] rfl
        ⟨rfl, rfl, ⟨⟨rfl, rfl, rfl, .inl ⟨rfl, rowsT_ev e⟩⟩, trivial⟩, ⟨⟨rfl, rfl, rfl⟩, ent_t rfl, ent_i (by simp), ent_i rfl, trivial⟩⟩ ?_
      intro k hk hI
      conv => whnf
      (repeat' (first | ((refine DecB.mk (fun h => ?_) (fun h => ?_)) <;> first | (exfalso; omega) | (conv => whnf)) | ((refine BoolB.mk (fun h => ?_) (fun h => ?_)) <;> first | (exact absurd h (by decide)) | (conv => whnf)) | (refine ⟨_, wrap_ok (by omega) (by omega), ?_⟩; conv => whnf) | (refine and_idx (by omega) (by omega) ?_; conv => whnf) | (refine reg_ok (by decide +kernel) ?_; conv => whnf) | (refine bar_ok (by decide +kernel) (by decide +kernel) ?_; conv => whnf) | (refine late_ok rfl rfl ?_; conv => whnf) | (refine src_ok rfl ?_; conv => whnf) | (refine LitB.data ?_; conv => whnf) | (refine BoxB.own ?_; conv => whnf)))
      · have hlt : k < e.purities.length := by omega
        obtain ⟨x, hx⟩ : ∃ x, e.purities[k]? = some x := ⟨_, List.getElem?_eq_getElem hlt⟩
        refine ex_row hx ?_
        conv => whnf
        (repeat' (first | ((refine DecB.mk (fun h => ?_) (fun h => ?_)) <;> first | (exfalso; omega) | (conv => whnf)) | ((refine BoolB.mk (fun h => ?_) (fun h => ?_)) <;> first | (exact absurd h (by decide)) | (conv => whnf)) | (refine ⟨_, wrap_ok (by omega) (by omega), ?_⟩; conv => whnf) | (refine and_idx (by omega) (by omega) ?_; conv => whnf) | (refine reg_ok (by decide +kernel) ?_; conv => whnf) | (refine bar_ok (by decide +kernel) (by decide +kernel) ?_; conv => whnf) | (refine late_ok rfl rfl ?_; conv => whnf) | (refine src_ok rfl ?_; conv => whnf) | (refine .inl ⟨_, _, qcall_pure (a_index _ _) rfl rfl, ?_⟩; conv => whnf) | (refine .inl ⟨_, _, qcall_pure (a_between _ _ _) rfl rfl, ?_⟩; conv => whnf) | (refine LitB.data ?_; conv => whnf) | (refine BoxB.own ?_; conv => whnf)))
        all_goals first
          | (refine ⟨hlt, ?_, [some 0], rfl, rfl, ⟨⟨rfl, rfl, rfl, .inl ⟨rfl, rowsT_ev e⟩⟩, trivial⟩, ⟨⟨rfl, rfl, rfl⟩, rfl, rfl, rfl, trivial⟩⟩; rw [all_take_succ hx, hI]; simp_all [purityOk]; done)
          | (refine fin_bool ?_; rw [saidOk, hc, hr, all_of_get hx]; rfl; simp_all [purityOk]; (try omega); done)
      · have hp : e.purities.all (purityOk e) = true := by rw [← hI, List.take_of_length_le (by omega)]
        refine fin_bool ?_
        rw [saidOk, hc, hr, hp]; rfl
end Go.Proofs.Ytomfnfbijgjfeaa
/- Package flow: Check. -/
namespace Go.Proofs.Ytomfnfbijgjfeaa
open Go.RowKit
set_option linter.unusedVariables false
set_option linter.unusedSimpArgs false
set_option maxRecDepth 100000

def lastD (e : Ev) : Nat → Int
  | 0 => 0
  | k + 1 => ((e.moves[k]?).map (·.day)).getD 0
theorem lastD_succ {e : Ev} {k : Nat} {m : Move} (h : e.moves[k]? = some m) : lastD e (k + 1) = m.day := by simp [lastD, h]
theorem drop_get {α : Type} {l : List α} {k : Nat} {x : α} (h : l[k]? = some x) : l.drop k = x :: l.drop (k + 1) := by
  obtain ⟨h1, h2⟩ := List.getElem?_eq_some_iff.1 h
  rw [List.drop_eq_getElem_cons h1, h2]

theorem a_Check (e : Ev) (hs : e.Sized) : ACall Try.prog 13 [evS e] [] (intS .i64 (check e)) [] := by
  have l7 := hs.s2
  have l8 : (e.moves.map Move.row).length = e.moves.length := by simp
  (refine acall_of tab_ok Try.func13 rfl (by decide) ?_; (conv => whnf); repeat (first | (refine LitB.data ?_; conv => whnf) | (refine BoxB.own ?_; conv => whnf)))
  (repeat' (first | ((refine DecB.mk (fun h => ?_) (fun h => ?_)) <;> first | (exfalso; omega) | (conv => whnf)) | ((refine BoolB.mk (fun h => ?_) (fun h => ?_)) <;> first | (exact absurd h (by decide)) | (conv => whnf)) | (refine ⟨_, wrap_ok (by omega) (by omega), ?_⟩; conv => whnf) | (refine and_idx (by omega) (by omega) ?_; conv => whnf) | (refine reg_ok (by decide +kernel) ?_; conv => whnf) | (refine bar_ok (by decide +kernel) (by decide +kernel) ?_; conv => whnf) | (refine late_ok rfl rfl ?_; conv => whnf) | (refine src_ok rfl ?_; conv => whnf) | (refine .inl ⟨_, _, qcall_pure (a_full _ hs) rfl rfl, ?_⟩; conv => whnf) | (refine .inl ⟨_, _, qcall_pure (a_places _ hs) rfl rfl, ?_⟩; conv => whnf) | (refine LitB.data ?_; conv => whnf) | (refine BoxB.own ?_; conv => whnf)))
  case refine_2.refine_2.refine_2.refine_2.refine_1 hf h1 h2 h3 =>
    have h4 := h
    clear h
    have hpre : ¬(e.mats < 1 ∨ e.hhs < 0 ∨ e.scs < 0 ∨ e.places.all (placeOk e) = false) := by
      rintro (h | h | h | h)
      · omega
      · omega
      · omega
      · rw [h4] at h; cases h
    have hck : check e = if movesErr e 0 e.moves ≠ 0 then movesErr e 0 e.moves else if saidOk e then 0 else 1 := by
      unfold check; rw [if_neg (by simp [hf]), if_neg hpre]
    refine awp_for tab_ok (fun k => ([S.junk, S.c (C.ptr 0 0 0), S.junk, intS .i64 (lastD e k), S.junk, S.junk, S.junk, S.junk, S.junk, S.junk, S.junk, S.junk, S.junk, S.junk, S.junk, S.junk, S.junk, S.junk, S.junk, S.junk, S.junk, S.junk, S.junk, S.junk, S.junk, S.junk, S.junk, S.junk, S.junk, S.c (C.t (movesT e.moves)), intS .i64 e.moves.length, intS .i64 k, S.junk, S.junk, S.junk, S.junk, S.junk, S.junk, S.junk, S.junk, S.junk, S.junk, S.junk, S.junk, S.junk, S.junk, S.junk, S.junk, S.junk, S.junk, S.junk, S.junk, S.junk, S.junk], [evB e])) e.moves.length (fun k => movesErr e 0 e.moves = movesErr e (lastD e k) (e.moves.drop k)) [some 0] rfl
      ⟨rfl, rfl, ⟨⟨rfl, rfl, rfl, .inl ⟨rfl, rowsT_ev e⟩⟩, trivial⟩, ⟨⟨rfl, rfl, rfl⟩, ent_i rfl, ent_t rfl, ent_i (by simp), ent_i rfl, trivial⟩⟩ ?_
    intro k hk hI
    conv => whnf
    (repeat' (first | ((refine DecB.mk (fun h => ?_) (fun h => ?_)) <;> first | (exfalso; omega) | (conv => whnf)) | ((refine BoolB.mk (fun h => ?_) (fun h => ?_)) <;> first | (exact absurd h (by decide)) | (conv => whnf)) | (refine ⟨_, wrap_ok (by omega) (by omega), ?_⟩; conv => whnf) | (refine and_idx (by omega) (by omega) ?_; conv => whnf) | (refine reg_ok (by decide +kernel) ?_; conv => whnf) | (refine bar_ok (by decide +kernel) (by decide +kernel) ?_; conv => whnf) | (refine late_ok rfl rfl ?_; conv => whnf) | (refine src_ok rfl ?_; conv => whnf) | (refine LitB.data ?_; conv => whnf) | (refine BoxB.own ?_; conv => whnf)))
    · have hlt : k < e.moves.length := by omega
      obtain ⟨x, hx⟩ : ∃ x, e.moves[k]? = some x := ⟨_, List.getElem?_eq_getElem hlt⟩
      rw [drop_get hx, movesErr] at hI
      refine ex_row hx ?_
      conv => whnf
      (repeat' (first | ((refine DecB.mk (fun h => ?_) (fun h => ?_)) <;> first | (exfalso; omega) | (conv => whnf)) | ((refine BoolB.mk (fun h => ?_) (fun h => ?_)) <;> first | (exact absurd h (by decide)) | (conv => whnf)) | (refine ⟨_, wrap_ok (by omega) (by omega), ?_⟩; conv => whnf) | (refine and_idx (by omega) (by omega) ?_; conv => whnf) | (refine reg_ok (by decide +kernel) ?_; conv => whnf) | (refine bar_ok (by decide +kernel) (by decide +kernel) ?_; conv => whnf) | (refine late_ok rfl rfl ?_; conv => whnf) | (refine src_ok rfl ?_; conv => whnf) | (refine .inl ⟨_, _, qcall_pure (a_move _ x hs) rfl rfl, ?_⟩; conv => whnf) | (refine LitB.data ?_; conv => whnf) | (refine BoxB.own ?_; conv => whnf)))
      all_goals first
        | (refine ⟨hlt, ?_, [some 0], rfl, rfl, ⟨⟨rfl, rfl, rfl, .inl ⟨rfl, rowsT_ev e⟩⟩, trivial⟩, ⟨⟨rfl, rfl, rfl⟩, ?_, rfl, rfl, rfl, trivial⟩⟩
           · rw [lastD_succ hx, hI, if_neg (by omega), if_pos (by assumption)]
           · rw [lastD_succ hx]; exact rfl)
        | (have e1 : movesErr e 0 e.moves = 17 := by rw [hI, if_pos (by omega)]
           refine fin_int ?_; rw [hck, e1]; rfl)
        | (have e1 : movesErr e 0 e.moves = 1 := by rw [hI, if_neg (by omega), if_neg (by simp_all)]
           refine fin_int ?_; rw [hck, e1]; rfl)
    · rw [List.drop_eq_nil_of_le (by omega), movesErr] at hI
      (repeat' (first | ((refine DecB.mk (fun h => ?_) (fun h => ?_)) <;> first | (exfalso; omega) | (conv => whnf)) | ((refine BoolB.mk (fun h => ?_) (fun h => ?_)) <;> first | (exact absurd h (by decide)) | (conv => whnf)) | (refine ⟨_, wrap_ok (by omega) (by omega), ?_⟩; conv => whnf) | (refine and_idx (by omega) (by omega) ?_; conv => whnf) | (refine reg_ok (by decide +kernel) ?_; conv => whnf) | (refine bar_ok (by decide +kernel) (by decide +kernel) ?_; conv => whnf) | (refine late_ok rfl rfl ?_; conv => whnf) | (refine src_ok rfl ?_; conv => whnf) | (refine .inl ⟨_, _, qcall_pure (a_said _ hs) rfl rfl, ?_⟩; conv => whnf) | (refine LitB.data ?_; conv => whnf) | (refine BoxB.own ?_; conv => whnf)))
      all_goals (refine fin_int ?_; rw [hck, hI]; simp_all)
  all_goals (refine fin_int ?_; unfold check; simp_all; try omega)
end Go.Proofs.Ytomfnfbijgjfeaa
/- Package flow: Source, moves, Lifts, Into, Out. -/
namespace Go.Proofs.Ytomfnfbijgjfeaa
open Go.RowKit
set_option linter.unusedVariables false
set_option linter.unusedSimpArgs false
set_option maxRecDepth 100000

theorem a_Source (e : Ev) (hs : e.Sized) (p : Int) : ACall Try.prog 15 [evS e, intS .i64 p] [] (boolS (source e p)) [] := by
  have l1 := hs.s1
  have l2 : (e.places.map Place.row).length = e.places.length := by simp
  by_cases hx : idx p e.places.length = true
  · obtain ⟨hp0, x, hx', kx⟩ := place_get hx
    (refine acall_of tab_ok Try.func15 rfl (by decide) ?_; (conv => whnf); repeat (first | (refine LitB.data ?_; conv => whnf) | (refine BoxB.own ?_; conv => whnf)))
    rw [← l2] at hx
    (repeat' (first | ((refine DecB.mk (fun h => ?_) (fun h => ?_)) <;> first | (exfalso; omega) | (conv => whnf)) | ((refine BoolB.mk (fun h => ?_) (fun h => ?_)) <;> first | (exact absurd h (by decide)) | (conv => whnf)) | (refine ⟨_, wrap_ok (by omega) (by omega), ?_⟩; conv => whnf) | (refine and_idx (by omega) (by omega) ?_; conv => whnf) | (refine reg_ok (by decide +kernel) ?_; conv => whnf) | (refine bar_ok (by decide +kernel) (by decide +kernel) ?_; conv => whnf) | (refine late_ok rfl rfl ?_; conv => whnf) | (refine src_ok rfl ?_; conv => whnf) | (refine .inl ⟨_, _, qcall_pure (a_Check _ hs) rfl rfl, ?_⟩; conv => whnf) | (refine .inl ⟨_, _, qcall_pure (a_index _ _) rfl rfl, ?_⟩; conv => whnf) | (refine ex_rowI hp0 hx' ?_; conv => whnf) | (refine LitB.data ?_; conv => whnf) | (refine BoxB.own ?_; conv => whnf)))
    all_goals (refine fin_bool ?_; simp_all [source]; done)
  · (refine acall_of tab_ok Try.func15 rfl (by decide) ?_; (conv => whnf); repeat (first | (refine LitB.data ?_; conv => whnf) | (refine BoxB.own ?_; conv => whnf)))
    rw [← l2] at hx
    (repeat' (first | ((refine DecB.mk (fun h => ?_) (fun h => ?_)) <;> first | (exfalso; omega) | (conv => whnf)) | ((refine BoolB.mk (fun h => ?_) (fun h => ?_)) <;> first | (exact absurd h (by decide)) | (conv => whnf)) | (refine ⟨_, wrap_ok (by omega) (by omega), ?_⟩; conv => whnf) | (refine and_idx (by omega) (by omega) ?_; conv => whnf) | (refine reg_ok (by decide +kernel) ?_; conv => whnf) | (refine bar_ok (by decide +kernel) (by decide +kernel) ?_; conv => whnf) | (refine late_ok rfl rfl ?_; conv => whnf) | (refine src_ok rfl ?_; conv => whnf) | (refine .inl ⟨_, _, qcall_pure (a_Check _ hs) rfl rfl, ?_⟩; conv => whnf) | (refine .inl ⟨_, _, qcall_pure (a_index _ _) rfl rfl, ?_⟩; conv => whnf) | (refine LitB.data ?_; conv => whnf) | (refine BoxB.own ?_; conv => whnf)))
    all_goals first | (exfalso; simp_all; done) | (refine fin_bool ?_; simp_all [source]; done)

end Go.Proofs.Ytomfnfbijgjfeaa
/- Package flow: Lifts, Into, Out. -/
namespace Go.Proofs.Ytomfnfbijgjfeaa
open Go.RowKit
set_option linter.unusedVariables false
set_option linter.unusedSimpArgs false
set_option maxRecDepth 100000

abbrev boxT14 (n : Int) : T := .ptr [ti n]
end Go.Proofs.Ytomfnfbijgjfeaa
/- Picked numbers ascend; which ones they are. Plain Lean. -/
namespace Go.Proofs.Ytomfnfbijgjfeaa

theorem mem_pickFrom {α : Type} {p : Nat → α → Bool} {l : List α} : ∀ {k : Nat} {x : Int}, x ∈ pickFrom p k l ↔ ∃ i m, l[i]? = some m ∧ p (k + i) m = true ∧ x = ((k + i : Nat) : Int) := by
  induction l with
  | nil => intro k x; simp [pickFrom]
  | cons a r ih =>
    intro k x
    have step : x ∈ pickFrom p (k + 1) r ↔ ∃ i m, (a :: r)[i + 1]? = some m ∧ p (k + (i + 1)) m = true ∧ x = ((k + (i + 1) : Nat) : Int) := by
      rw [ih]
      constructor
      · rintro ⟨i, m, h1, h2, h3⟩
        exact ⟨i, m, by simpa using h1, by rw [show k + (i + 1) = k + 1 + i from by omega]; exact h2, by rw [h3]; omega⟩
      · rintro ⟨i, m, h1, h2, h3⟩
        exact ⟨i, m, by simpa using h1, by rw [show k + 1 + i = k + (i + 1) from by omega]; exact h2, by rw [h3]; omega⟩
    unfold pickFrom
    by_cases hp : p k a = true
    · rw [if_pos hp, List.mem_cons, step]
      constructor
      · rintro (rfl | ⟨i, m, h⟩)
        · exact ⟨0, a, rfl, hp, rfl⟩
        · exact ⟨i + 1, m, h⟩
      · rintro ⟨i, m, h1, h2, h3⟩
        cases i with
        | zero => left; simpa using h3
        | succ i => right; exact ⟨i, m, h1, h2, h3⟩
    · rw [if_neg hp, step]
      constructor
      · rintro ⟨i, m, h⟩
        exact ⟨i + 1, m, h⟩
      · rintro ⟨i, m, h1, h2, h3⟩
        cases i with
        | zero => simp at h1; subst h1; exact absurd h2 hp
        | succ i => exact ⟨i, m, h1, h2, h3⟩
theorem pickFrom_sorted {α : Type} (p : Nat → α → Bool) (l : List α) : ∀ k, (pickFrom p k l).Pairwise (· < ·) := by
  induction l with
  | nil => intro k; simp [pickFrom]
  | cons a r ih =>
    intro k
    unfold pickFrom
    split
    · rw [List.pairwise_cons]
      refine ⟨fun x hx => ?_, ih (k + 1)⟩
      obtain ⟨i, m, _, _, rfl⟩ := mem_pickFrom.1 hx
      omega
    · exact ih (k + 1)
/-- strictly ascending, from 0 to n - 1 -/
def Asc (l : List Int) (n : Int) : Prop := (∀ (i : Nat) (x : Int), l[i]? = some x → 0 ≤ x ∧ x < n) ∧ ∀ (i : Nat) (x y : Int), l[i]? = some x → l[i + 1]? = some y → x < y
theorem Asc.of_sorted {l : List Int} {n : Int} (h1 : l.Pairwise (· < ·)) (h2 : ∀ x ∈ l, 0 ≤ x ∧ x < n) : Asc l n := by
  refine ⟨fun i x hx => h2 x (List.mem_of_getElem? hx), fun i x y hx hy => ?_⟩
  obtain ⟨hi, rfl⟩ := List.getElem?_eq_some_iff.1 hx
  obtain ⟨hj, rfl⟩ := List.getElem?_eq_some_iff.1 hy
  exact List.pairwise_iff_getElem.1 h1 i (i + 1) hi hj (by omega)
theorem pickFrom_asc {α : Type} (p : Nat → α → Bool) (l : List α) : Asc (pickFrom p 0 l) l.length := by
  refine Asc.of_sorted (pickFrom_sorted p l 0) (fun x hx => ?_)
  obtain ⟨i, m, hm, _, rfl⟩ := mem_pickFrom.1 hx
  have := (List.getElem?_eq_some_iff.1 hm).1
  omega
theorem asc_nil (n : Int) : Asc [] n := ⟨fun i x h => by simp at h, fun i x y h => by simp at h⟩
theorem into_asc (e : Ev) (pl up : Int) : Asc (into e pl up) e.moves.length := by
  unfold into; split
  · exact pickFrom_asc _ _
  · exact asc_nil _
theorem outOf_asc (e : Ev) (pl up : Int) : Asc (outOf e pl up) e.moves.length := by
  unfold outOf; split
  · exact pickFrom_asc _ _
  · exact asc_nil _
theorem lifts_asc (e : Ev) (hh mat lo hi : Int) : Asc (lifts e hh mat lo hi) e.moves.length := by
  unfold lifts; split
  · exact pickFrom_asc _ _
  · exact asc_nil _
end Go.Proofs.Ytomfnfbijgjfeaa
/- FlowOnce in plain Lean: the counts. -/
namespace Go.Proofs.Ytomfnfbijgjfeaa
set_option linter.unusedSimpArgs false
set_option linter.unusedVariables false

theorem into_mem {e : Ev} (h0 : check e = 0) {pl up x : Int} : x ∈ into e pl up ↔ ∃ (j : Nat) (m : Move), e.moves[j]? = some m ∧ (j : Int) < up ∧ m.dst = pl ∧ x = (j : Int) := by
  unfold into
  rw [if_pos h0, mem_pickFrom]
  constructor
  · rintro ⟨i, m, h1, h2, h3⟩
    simp at h2
    exact ⟨i, m, h1, h2.1, h2.2, by simpa using h3⟩
  · rintro ⟨i, m, h1, h2, h3, h4⟩
    exact ⟨i, m, h1, by simp [h2, h3], by simpa using h4⟩
theorem outOf_mem {e : Ev} (h0 : check e = 0) {pl up x : Int} : x ∈ outOf e pl up ↔ ∃ (j : Nat) (m : Move), e.moves[j]? = some m ∧ (j : Int) < up ∧ m.src = pl ∧ x = (j : Int) := by
  unfold outOf
  rw [if_pos h0, mem_pickFrom]
  constructor
  · rintro ⟨i, m, h1, h2, h3⟩
    simp at h2
    exact ⟨i, m, h1, h2.1, h2.2, by simpa using h3⟩
  · rintro ⟨i, m, h1, h2, h3, h4⟩
    exact ⟨i, m, h1, by simp [h2, h3], by simpa using h4⟩
theorem moveOk_dstKind {e : Ev} {m : Move} (h : moveOk e m = true) : kindAt e m.dst ≠ 0 := by
  simp [moveOk] at h; exact h.1.2
theorem moveOk_srcKind {e : Ev} {m : Move} (h : moveOk e m = true) : kindAt e m.src ≠ 5 ∧ kindAt e m.src ≠ 6 := by
  simp [moveOk] at h; exact ⟨h.1.1.1.1.2, h.1.1.1.2⟩
theorem into_bin {e : Ev} (h0 : check e = 0) {pl up : Int} (hk : kindAt e pl = 0) : into e pl up = [] := by
  rw [List.eq_nil_iff_forall_not_mem]
  intro x hx
  obtain ⟨j, m, hm, _, hd, _⟩ := (into_mem h0).1 hx
  exact moveOk_dstKind (check_move h0 (List.mem_of_getElem? hm)) (by rw [hd]; exact hk)
theorem outOf_end {e : Ev} (h0 : check e = 0) {pl up : Int} (hk : kindAt e pl = 5 ∨ kindAt e pl = 6) : outOf e pl up = [] := by
  rw [List.eq_nil_iff_forall_not_mem]
  intro x hx
  obtain ⟨j, m, hm, _, hd, _⟩ := (outOf_mem h0).1 hx
  have := moveOk_srcKind (check_move h0 (List.mem_of_getElem? hm))
  rw [hd] at this
  rcases hk with h | h
  · exact this.1 h
  · exact this.2 h
theorem into_neg {e : Ev} (h0 : check e = 0) {pl up : Int} (hp : pl < 0 ∨ (e.places.length : Int) ≤ pl) : into e pl up = [] := by
  rw [List.eq_nil_iff_forall_not_mem]
  intro x hx
  obtain ⟨j, m, hm, _, hd, _⟩ := (into_mem h0).1 hx
  have := moveOk_dst (check_move h0 (List.mem_of_getElem? hm))
  omega
theorem outOf_neg {e : Ev} (h0 : check e = 0) {pl up : Int} (hp : pl < 0 ∨ (e.places.length : Int) ≤ pl) : outOf e pl up = [] := by
  rw [List.eq_nil_iff_forall_not_mem]
  intro x hx
  obtain ⟨j, m, hm, _, hd, _⟩ := (outOf_mem h0).1 hx
  have := moveOk_src (check_move h0 (List.mem_of_getElem? hm))
  omega

/-- the count of each move: 1 if it is before 'up' and its place d is below p, or it is among S -/
def Cnt (l : List Move) (d : Move → Int) (up : Int) (p : Nat) (S : List Int) (L : List Int) : Prop :=
  L.length = l.length ∧ ∀ (j : Nat) (m : Move), l[j]? = some m → L[j]? = some (if (j : Int) ∈ S ∨ ((j : Int) < up ∧ d m < (p : Int)) then 1 else 0)
theorem Cnt.zero {l : List Move} {d : Move → Int} {up : Int} (hd : ∀ m ∈ l, 0 ≤ d m) : Cnt l d up 0 [] (List.replicate l.length 0) := by
  refine ⟨by simp, fun j m hm => ?_⟩
  have hl := (List.getElem?_eq_some_iff.1 hm).1
  have := hd m (List.mem_of_getElem? hm)
  rw [if_neg (by simp; omega)]
  simp [List.getElem?_replicate, hl]
/-- one more of the picked ones is counted -/
theorem Cnt.step {l : List Move} {d : Move → Int} {up : Int} {p : Nat} {a L : List Int} {i j : Nat} {m : Move} (h : Cnt l d up p (a.take i) L) (hs : a.Pairwise (· < ·)) (hx : a[i]? = some (j : Int)) (hm : l[j]? = some m) (hdm : d m = (p : Int)) :
    L[j]? = some 0 ∧ Cnt l d up p (a.take (i + 1)) (L.set j 1) := by
  obtain ⟨hi, hxi⟩ := List.getElem?_eq_some_iff.1 hx
  have hnot : (j : Int) ∉ a.take i := by
    intro hmem
    obtain ⟨k, hk, e⟩ := List.getElem_of_mem hmem
    have hk' : k < i := by simp at hk; omega
    rw [List.getElem_take] at e
    have := List.pairwise_iff_getElem.1 hs k i (by omega) hi hk'
    omega
  refine ⟨?_, by simpa using h.1, fun j' m' hm' => ?_⟩
  · rw [h.2 j m hm, if_neg]
    rintro (h1 | ⟨_, h2⟩)
    · exact hnot h1
    · omega
  · have hmem : (j' : Int) ∈ a.take (i + 1) ↔ (j' : Int) ∈ a.take i ∨ j' = j := by
      rw [List.take_succ_eq_append_getElem hi, List.mem_append, hxi, List.mem_singleton]
      constructor
      · rintro (h1 | h1)
        · exact .inl h1
        · exact .inr (by omega)
      · rintro (h1 | h1)
        · exact .inl h1
        · exact .inr (by omega)
    by_cases hj : j' = j
    · subst hj
      rw [List.getElem?_set_self (by rw [h.1]; exact (List.getElem?_eq_some_iff.1 hm').1), if_pos (.inl (hmem.2 (.inr rfl)))]
    · rw [List.getElem?_set_ne (by omega), h.2 j' m' hm']
      have : (j' : Int) ∈ a.take (i + 1) ↔ (j' : Int) ∈ a.take i := by rw [hmem]; simp [hj]
      simp only [this]
/-- all of them are counted: on to the next place -/
theorem Cnt.next {l : List Move} {d : Move → Int} {up : Int} {p : Nat} {a L : List Int} (h : Cnt l d up p a L) (ha : ∀ (j : Nat) (m : Move), l[j]? = some m → ((j : Int) ∈ a ↔ (j : Int) < up ∧ d m = (p : Int))) : Cnt l d up (p + 1) [] L := by
  refine ⟨h.1, fun j m hm => ?_⟩
  rw [h.2 j m hm]
  have hj := ha j m hm
  have hiff : ((j : Int) ∈ a ∨ ((j : Int) < up ∧ d m < (p : Int))) ↔ ((j : Int) ∈ ([] : List Int) ∨ ((j : Int) < up ∧ d m < ((p + 1 : Nat) : Int))) := by
    rw [hj]
    constructor
    · rintro (h1 | h1)
      · exact .inr ⟨h1.1, by omega⟩
      · exact .inr ⟨h1.1, by omega⟩
    · rintro (h1 | h1)
      · cases h1
      · by_cases h2 : d m = (p : Int)
        · exact .inl ⟨h1.1, h2⟩
        · exact .inr ⟨h1.1, by omega⟩
  by_cases h : (j : Int) ∈ a ∨ ((j : Int) < up ∧ d m < (p : Int))
  · rw [if_pos h, if_pos (hiff.1 h)]
  · rw [if_neg h, if_neg (fun h' => h (hiff.2 h'))]
theorem Cnt.last {l : List Move} {d : Move → Int} {up : Int} {p : Nat} {L : List Int} (h : Cnt l d up p [] L) (hd : ∀ m ∈ l, d m < (p : Int)) {j : Nat} {m : Move} (hm : l[j]? = some m) : L[j]? = some (if (j : Int) < up then 1 else 0) := by
  rw [h.2 j m hm]
  have := hd m (List.mem_of_getElem? hm)
  congr 1
  by_cases h1 : (j : Int) < up
  · rw [if_pos (.inr ⟨h1, this⟩), if_pos h1]
  · rw [if_neg (by simp; omega), if_neg h1]
theorem into_cnt {e : Ev} (h0 : check e = 0) {up : Int} (p : Nat) : ∀ (j : Nat) (m : Move), e.moves[j]? = some m → ((j : Int) ∈ into e p up ↔ (j : Int) < up ∧ m.dst = (p : Int)) := by
  intro j m hm
  rw [into_mem h0]
  constructor
  · rintro ⟨j', m', h1, h2, h3, h4⟩
    obtain rfl : j' = j := by omega
    rw [hm] at h1
    injection h1 with h1
    subst h1
    exact ⟨h2, h3⟩
  · rintro ⟨h1, h2⟩
    exact ⟨j, m, hm, h1, h2, rfl⟩
theorem outOf_cnt {e : Ev} (h0 : check e = 0) {up : Int} (p : Nat) : ∀ (j : Nat) (m : Move), e.moves[j]? = some m → ((j : Int) ∈ outOf e p up ↔ (j : Int) < up ∧ m.src = (p : Int)) := by
  intro j m hm
  rw [outOf_mem h0]
  constructor
  · rintro ⟨j', m', h1, h2, h3, h4⟩
    obtain rfl : j' = j := by omega
    rw [hm] at h1
    injection h1 with h1
    subst h1
    exact ⟨h2, h3⟩
  · rintro ⟨h1, h2⟩
    exact ⟨j, m, hm, h1, h2, rfl⟩
theorem into_sorted (e : Ev) (pl up : Int) : (into e pl up).Pairwise (· < ·) := by
  unfold into; split
  · exact pickFrom_sorted _ _ _
  · simp
theorem outOf_sorted (e : Ev) (pl up : Int) : (outOf e pl up).Pairwise (· < ·) := by
  unfold outOf; split
  · exact pickFrom_sorted _ _ _
  · simp
theorem Ints_set (L : List Int) (j : Nat) (x : Int) : Ints (L.set j x) = (Ints L).set j (vi x) := by
  have h : ∀ l : List Int, Ints l = l.map vi := by intro l; induction l <;> simp_all [Ints]
  rw [h, h, List.map_set]
theorem Ints_at (L : List Int) (j : Nat) : (Ints L)[j]? = (L[j]?).map vi := by
  have h : ∀ l : List Int, Ints l = l.map vi := by intro l; induction l <;> simp_all [Ints]
  rw [h, List.getElem?_map]
theorem Ints_replicate (n : Nat) : Ints (List.replicate n 0) = List.replicate n (vi 0) := by
  have h : ∀ l : List Int, Ints l = l.map vi := by intro l; induction l <;> simp_all [Ints]
  rw [h, List.map_replicate]
end Go.Proofs.Ytomfnfbijgjfeaa
/- FlowLifts in plain Lean: the counts, the cut of a period. -/
namespace Go.Proofs.Ytomfnfbijgjfeaa
set_option linter.unusedSimpArgs false
set_option linter.unusedVariables false

def hhAt (e : Ev) (i : Int) : Int := ((e.places[i.toNat]?).map (·.hh)).getD (-1)
def matAt (e : Ev) (i : Int) : Int := ((e.places[i.toNat]?).map (·.mat)).getD (-1)
theorem hhAt_of {e : Ev} {i : Nat} {p : Place} (h : e.places[i]? = some p) : hhAt e (i : Int) = p.hh := by simp [hhAt, h]
theorem matAt_of {e : Ev} {i : Nat} {p : Place} (h : e.places[i]? = some p) : matAt e (i : Int) = p.mat := by simp [matAt, h]
theorem place_at {e : Ev} (h0 : check e = 0) {m : Move} (hm : m ∈ e.moves) : ∃ (i : Nat) (p : Place), m.src = (i : Int) ∧ e.places[i]? = some p ∧ placeOk e p = true := by
  obtain ⟨h1, h2⟩ := moveOk_src (check_move h0 hm)
  obtain ⟨i, hi⟩ := Int.eq_ofNat_of_zero_le h1
  have hlt : i < e.places.length := by omega
  refine ⟨i, e.places[i], hi, List.getElem?_eq_getElem hlt, ?_⟩
  have := (check_zero h0).2.2.2.2.1
  rw [List.all_eq_true] at this
  exact this _ (List.getElem_mem hlt)
theorem bin_at {e : Ev} (h0 : check e = 0) {m : Move} (hm : m ∈ e.moves) (hk : kindAt e m.src = 0) : (0 ≤ hhAt e m.src ∧ hhAt e m.src < e.hhs) ∧ (0 ≤ matAt e m.src ∧ matAt e m.src < e.mats) := by
  obtain ⟨i, p, hs, hp, hok⟩ := place_at h0 hm
  rw [hs] at hk ⊢
  rw [hhAt_of hp, matAt_of hp]
  rw [kindAt_of hp] at hk
  simp [placeOk, hk] at hok
  exact ⟨idx_iff.1 hok.2.1, idx_iff.1 hok.2.2⟩
theorem liftIs_at {e : Ev} (h0 : check e = 0) {m : Move} (hm : m ∈ e.moves) (hh mat lo hi : Int) :
    liftIs e hh mat lo hi m = (decide (kindAt e m.src = 0) && decide (hhAt e m.src = hh) && (decide (mat = -1) || decide (matAt e m.src = mat)) && btw m.day lo hi) := by
  obtain ⟨i, p, hs, hp, -⟩ := place_at h0 hm
  rw [liftIs_of hp hs, hs, kindAt_of hp, hhAt_of hp, matAt_of hp]
theorem movesErr_days {e : Ev} {l : List Move} : ∀ {last : Int}, movesErr e last l = 0 → l.Pairwise (fun a b => a.day ≤ b.day) ∧ ∀ m ∈ l, last ≤ m.day ∧ m.day ≤ 100000 := by
  induction l with
  | nil => intro last _; simp
  | cons m r ih =>
    intro last h
    unfold movesErr at h
    split at h
    · simp at h
    · rename_i hd
      split at h
      · obtain ⟨h1, h2⟩ := ih h
        refine ⟨List.pairwise_cons.2 ⟨fun x hx => (h2 x hx).1, h1⟩, fun x hx => ?_⟩
        rcases List.mem_cons.1 hx with rfl | hx
        · omega
        · have := h2 x hx; omega
      · simp at h
theorem check_day {e : Ev} (h0 : check e = 0) {m : Move} (hm : m ∈ e.moves) : 0 ≤ m.day ∧ m.day ≤ 100000 := (movesErr_days (check_zero h0).2.2.2.2.2.1).2 m hm
theorem pickFrom_cut {A B C : Move → Bool} {c : Int} (h1 : ∀ m : Move, m.day ≤ c → A m = B m ∧ C m = false) (h2 : ∀ m : Move, c < m.day → A m = C m ∧ B m = false) :
    ∀ (l : List Move) (k : Nat), l.Pairwise (fun a b => a.day ≤ b.day) → pickFrom (fun _ m => A m) k l = pickFrom (fun _ m => B m) k l ++ pickFrom (fun _ m => C m) k l := by
  intro l
  induction l with
  | nil => intro k _; simp [pickFrom]
  | cons m r ih =>
    intro k hp
    obtain ⟨hm, hr⟩ := List.pairwise_cons.1 hp
    have hi := ih (k + 1) hr
    by_cases hd : m.day ≤ c
    · obtain ⟨e1, e2⟩ := h1 m hd
      simp only [pickFrom, e1, e2, hi]
      split <;> simp
    · obtain ⟨e1, e2⟩ := h2 m (by omega)
      have hn : pickFrom (fun _ m => B m) (k + 1) r = [] := by
        rw [List.eq_nil_iff_forall_not_mem]
        intro x hx
        obtain ⟨i, y, hy, hb, -⟩ := mem_pickFrom.1 hx
        have hdy := hm y (List.mem_of_getElem? hy)
        have := (h2 y (by omega)).2
        simp_all
      simp only [pickFrom, e1, e2, hi, hn]
      split <;> simp
theorem lifts_cut {e : Ev} (h0 : check e = 0) {hh mat lo c hi : Int} (h1 : lo ≤ c) (h2 : c < hi) : lifts e hh mat lo hi = lifts e hh mat lo c ++ lifts e hh mat (c + 1) hi := by
  unfold lifts
  rw [if_pos h0, if_pos h0, if_pos h0]
  refine pickFrom_cut (c := c) ?_ ?_ _ _ (movesErr_days (check_zero h0).2.2.2.2.2.1).1
  · intro m hd
    unfold liftIs
    cases e.places[m.src.toNat]? with
    | none => simp
    | some p => simp only; constructor
                · have : btw m.day lo hi = btw m.day lo c := by rw [Bool.eq_iff_iff, btw_iff, btw_iff]; omega
                  rw [this]
                · have : btw m.day (c + 1) hi = false := by rw [btw_false]; omega
                  rw [this]; simp
  · intro m hd
    unfold liftIs
    cases e.places[m.src.toNat]? with
    | none => simp
    | some p => simp only; constructor
                · have : btw m.day lo hi = btw m.day (c + 1) hi := by rw [Bool.eq_iff_iff, btw_iff, btw_iff]; omega
                  rw [this]
                · have : btw m.day lo c = false := by rw [btw_false]; omega
                  rw [this]; simp
theorem lifts_mem {e : Ev} (h0 : check e = 0) {hh mat lo hi x : Int} : x ∈ lifts e hh mat lo hi ↔ ∃ (j : Nat) (m : Move), e.moves[j]? = some m ∧ liftIs e hh mat lo hi m = true ∧ x = (j : Int) := by
  unfold lifts
  rw [if_pos h0, mem_pickFrom]
  constructor
  · rintro ⟨i, m, h1, h2, h3⟩
    exact ⟨i, m, h1, h2, by simpa using h3⟩
  · rintro ⟨i, m, h1, h2, h3⟩
    exact ⟨i, m, h1, h2, by simpa using h3⟩

/-! counts -/
theorem length_pick_count {α : Type} (q : α → Bool) (l : List α) : ∀ k, (pickFrom (fun _ m => q m) k l).length = l.countP q := by
  induction l with
  | nil => intro k; simp [pickFrom]
  | cons m r ih =>
    intro k
    simp only [pickFrom, List.countP_cons]
    split <;> simp [ih]
theorem countP_split {α : Type} {l : List α} {P A B : α → Bool} (h : ∀ m ∈ l, P m = (A m || B m) ∧ ¬ (A m = true ∧ B m = true)) : l.countP P = l.countP A + l.countP B := by
  induction l with
  | nil => simp
  | cons m r ih =>
    have h1 := h m (by simp)
    have h2 := ih fun x hx => h x (by simp [hx])
    simp only [List.countP_cons, h2, h1.1]
    cases ha : A m <;> cases hb : B m <;> simp_all <;> omega
theorem countP_same {α : Type} {l : List α} {P A : α → Bool} (h : ∀ m ∈ l, P m = A m) : l.countP P = l.countP A := by
  induction l with
  | nil => simp
  | cons m r ih => simp [List.countP_cons, h m (by simp), ih fun x hx => h x (by simp [hx])]
theorem countP_none {α : Type} {l : List α} {P : α → Bool} (h : ∀ m ∈ l, P m = false) : l.countP P = 0 := by
  rw [countP_same h]; simp

def isBin (e : Ev) (m : Move) : Bool := decide (kindAt e m.src = 0)
def cTot (e : Ev) : Nat := e.moves.countP (isBin e)
def cAll (e : Ev) (h : Int) : Nat := e.moves.countP fun m => isBin e m && decide (hhAt e m.src < h)
def cSome (e : Ev) (h t : Int) : Nat := e.moves.countP fun m => isBin e m && (decide (hhAt e m.src < h) || decide (hhAt e m.src = h) && decide (matAt e m.src < t))
def cBin (e : Ev) (p : Int) : Nat := e.moves.countP fun m => isBin e m && decide (m.src < p)
section
variable {e : Ev} (h0 : check e = 0)
include h0
theorem length_lifts_count (hh mat lo hi : Int) : (lifts e hh mat lo hi).length = e.moves.countP (liftIs e hh mat lo hi) := by
  unfold lifts
  rw [if_pos h0]
  exact length_pick_count _ _ _
theorem length_outOf_count (p : Int) : (outOf e p e.moves.length).length = e.moves.countP fun m => decide (m.src = p) := by
  unfold outOf
  rw [if_pos h0, ← length_pick_count _ _ 0]
  congr 1
  exact pickFrom_congr e.moves e.moves.length (fun k m hk => by simp [hk]) 0 (by omega)
theorem cAll_zero : cAll e 0 = 0 := countP_none fun m hm => by
  by_cases hk : kindAt e m.src = 0
  · have := bin_at h0 hm hk; simp; intro _; omega
  · simp [isBin, hk]
theorem cSome_zero : cSome e 0 0 = 0 := countP_none fun m hm => by
  by_cases hk : kindAt e m.src = 0
  · have := bin_at h0 hm hk
    rw [Bool.eq_false_iff]; simp; intro _; omega
  · simp [isBin, hk]
theorem cBin_zero : cBin e 0 = 0 := countP_none fun m hm => by
  have := moveOk_src (check_move h0 hm)
  simp; intro _; omega
theorem cAll_all : cAll e e.hhs = cTot e := countP_same fun m hm => by
  by_cases hk : kindAt e m.src = 0
  · have := bin_at h0 hm hk; simp [isBin, hk]; omega
  · simp [isBin, hk]
theorem cSome_all : cSome e e.hhs 0 = cTot e := countP_same fun m hm => by
  by_cases hk : kindAt e m.src = 0
  · have := bin_at h0 hm hk; simp [isBin, hk]; omega
  · simp [isBin, hk]
theorem cBin_all : cBin e e.places.length = cTot e := countP_same fun m hm => by
  have := moveOk_src (check_move h0 hm)
  simp; intro _; omega
theorem cAll_step (h : Int) : cAll e (h + 1) = cAll e h + (lifts e h (-1) 0 100000).length := by
  rw [length_lifts_count h0]
  refine countP_split fun m hm => ?_
  have hd := check_day h0 hm
  have hb : btw m.day 0 100000 = true := btw_iff.2 hd
  rw [liftIs_at h0 hm, hb]
  by_cases hk : kindAt e m.src = 0
  · simp [isBin, hk]
    constructor
    · rw [Bool.eq_iff_iff]; simp; omega
    · omega
  · simp [isBin, hk]
theorem cSome_step (h : Int) {t : Int} (ht : 0 ≤ t) : cSome e h (t + 1) = cSome e h t + (lifts e h t 0 100000).length := by
  rw [length_lifts_count h0]
  refine countP_split fun m hm => ?_
  have hd := check_day h0 hm
  have hb : btw m.day 0 100000 = true := btw_iff.2 hd
  have hne : ¬ t = -1 := by omega
  rw [liftIs_at h0 hm, hb]
  by_cases hk : kindAt e m.src = 0
  · simp [isBin, hk, hne]
    constructor
    · rw [Bool.eq_iff_iff]; simp; omega
    · omega
  · simp [isBin, hk]
theorem cSome_row (h : Int) : cSome e h e.mats = cSome e (h + 1) 0 := countP_same fun m hm => by
  by_cases hk : kindAt e m.src = 0
  · have := bin_at h0 hm hk
    rw [Bool.eq_iff_iff]; simp [isBin, hk]; omega
  · simp [isBin, hk]
theorem cBin_yes {p : Nat} (hs : source e p = true) : cBin e (p + 1) = cBin e p + (outOf e p e.moves.length).length := by
  rw [length_outOf_count h0]
  simp [source] at hs
  refine countP_split fun m hm => ?_
  constructor
  · rw [Bool.eq_iff_iff]; simp [isBin]
    constructor
    · rintro ⟨h1, h2⟩
      by_cases h3 : m.src = (p : Int)
      · exact .inr h3
      · exact .inl ⟨h1, by omega⟩
    · rintro (⟨h1, h2⟩ | h1)
      · exact ⟨h1, by omega⟩
      · exact ⟨by rw [h1]; exact hs.2, by omega⟩
  · simp; intro _ _; omega
theorem cBin_no {p : Nat} (hp : p < e.places.length) (hs : source e p = false) : cBin e (p + 1) = cBin e p := by
  have hk : ¬ kindAt e (p : Int) = 0 := by
    intro hk
    have : source e p = true := by simp [source, h0, hk, idx_iff]; omega
    rw [this] at hs; cases hs
  refine countP_same fun m hm => ?_
  rw [Bool.eq_iff_iff]; simp [isBin]
  intro h1
  constructor
  · intro h2
    by_cases h3 : m.src = (p : Int)
    · rw [h3] at h1; exact absurd h1 hk
    · omega
  · omega
end
theorem cAll_le (e : Ev) (h : Int) : cAll e h ≤ e.moves.length := List.countP_le_length
theorem cSome_le (e : Ev) (h t : Int) : cSome e h t ≤ e.moves.length := List.countP_le_length
theorem cBin_le (e : Ev) (h : Int) : cBin e h ≤ e.moves.length := List.countP_le_length
end Go.Proofs.Ytomfnfbijgjfeaa
/- The reference's Few and SameInts; the law's example, small, ascending. -/
namespace Go.Proofs.Ytomfnfbijgjfeaa
open Go.RowKit
set_option linter.unusedVariables false
set_option linter.unusedSimpArgs false
set_option maxRecDepth 100000

def exEv14 : Ev := ⟨1, 1, 0, [⟨0, 0, 0⟩, ⟨1, -1, -1⟩, ⟨5, -1, -1⟩], [⟨3, 0, 1, -1, 0, false⟩, ⟨5, 1, 2, -1, 0, false⟩], [], [], []⟩
def exMore (x : Move) : Ev := { exEv14 with moves := exEv14.moves ++ [x] }

theorem a_Few (e : Ev) : ACall Try.prog 80 [evS e] [] (boolS (few e)) [] := by
  have l1 : (e.places.map Place.row).length = e.places.length := by simp
  have l2 : (e.moves.map Move.row).length = e.moves.length := by simp
  have l3 : (e.certs.map Cert.row).length = e.certs.length := by simp
  have l4 : (e.recalls.map Recall.row).length = e.recalls.length := by simp
  have l5 : (e.purities.map Purity.row).length = e.purities.length := by simp
  (refine acall_of tab_ok Try.func80 rfl (by decide) ?_; (conv => whnf); repeat (first | (refine LitB.data ?_; conv => whnf) | (refine BoxB.own ?_; conv => whnf)))
  (repeat' (first | ((refine DecB.mk (fun h => ?_) (fun h => ?_)) <;> first | (exfalso; omega) | (conv => whnf)) | ((refine BoolB.mk (fun h => ?_) (fun h => ?_)) <;> first | (exact absurd h (by decide)) | (conv => whnf)) | (refine ⟨_, wrap_ok (by omega) (by omega), ?_⟩; conv => whnf) | (refine and_idx (by omega) (by omega) ?_; conv => whnf) | (refine reg_ok (by decide +kernel) ?_; conv => whnf) | (refine bar_ok (by decide +kernel) (by decide +kernel) ?_; conv => whnf) | (refine late_ok rfl rfl ?_; conv => whnf) | (refine src_ok rfl ?_; conv => whnf) | (refine LitB.data ?_; conv => whnf) | (refine BoxB.own ?_; conv => whnf)))
  all_goals (refine fin_bool ?_; simp [few]; omega)

theorem take_snoc {α : Type} {l : List α} {k : Nat} {x : α} (h : l[k]? = some x) : l.take (k + 1) = l.take k ++ [x] := by
  rw [List.take_add_one, h]; rfl
abbrev exS : S := .agg [.t (ti 1), .t (ti 1), .t (ti 0), .t (.sl 3 .full (exEv14.places.map Place.row)), .t (.sl 6 .full (exEv14.moves.map Move.row)), .t (.sl 0 .nil []), .t (.sl 0 .nil []), .t (.sl 0 .nil [])]
theorem exSized14 : exEv14.Sized := ⟨by simp [exEv14], by simp [exEv14], by simp [exEv14], by simp [exEv14], by simp [exEv14]⟩
theorem exMoreSized14 (x : Move) : (exMore x).Sized := ⟨by simp [exMore, exEv14], by simp [exMore, exEv14], by simp [exMore, exEv14], by simp [exMore, exEv14], by simp [exMore, exEv14]⟩
def x14a : Move := ⟨5, 2, 1, -1, 0, false⟩
def x14b : Move := ⟨5, 1, 0, -1, 0, false⟩
theorem ex14_check : check exEv14 = 0 := by decide +kernel
theorem ex14_checka : check (exMore x14a) = 1 := by decide +kernel
theorem ex14_checkb : check (exMore x14b) = 1 := by decide +kernel
theorem ex14_source0 : source exEv14 0 = true := by decide +kernel
theorem ex14_source1 : source exEv14 1 = false := by decide +kernel
theorem ex14_lifts0 : lifts exEv14 0 (-1) 0 9 = [0] := by decide +kernel
theorem ex14_lifts1 : lifts exEv14 0 (-1) 4 9 = [] := by decide +kernel
theorem ex14_into : into exEv14 1 2 = [0] := by decide +kernel
theorem ex14_out1 : outOf exEv14 1 1 = [] := by decide +kernel
theorem ex14_out2 : outOf exEv14 1 2 = [1] := by decide +kernel
theorem vs_ex {H : Hp} {p : Nat → Prop} : VS H p exS (evS exEv14) := vs_agg (ts := evT exEv14) (vl_cons (vc_t rfl) (vl_cons (vc_t rfl) (vl_cons (vc_t rfl) (vl_cons (vc_t rfl) (vl_cons (vc_t rfl) (vl_cons (vc_t rfl) (vl_cons (vc_t rfl) (vl_cons (vc_t rfl) vl_nil))))))))
theorem vs_more {H : Hp} {p : Nat → Prop} {x : Move} {id len : Nat} {app : Bool} {k : Blk} (hp : p id) (hk : H[id]? = some k) (hd : ¬ k.mode.gone) (hs : k.size = 6) (hc : k.rows = toC ((exEv14.moves ++ [x]).map Move.row)) (hl : len = 3) :
    VS H p (.agg [.t (ti 1), .t (ti 1), .t (ti 0), .t (.sl 3 .full (exEv14.places.map Place.row)), .own id 0 len app, .t (.sl 0 .nil []), .t (.sl 0 .nil []), .t (.sl 0 .nil [])]) (evS (exMore x)) :=
  vs_agg (ts := evT (exMore x)) (vl_cons (vc_t rfl) (vl_cons (vc_t rfl) (vl_cons (vc_t rfl) (vl_cons (vc_t rfl) (vl_cons (vc_all hp hk hd hs hc (by rw [hl]; rfl)) (vl_cons (vc_t rfl) (vl_cons (vc_t rfl) (vl_cons (vc_t rfl) vl_nil))))))))
end Go.Proofs.Ytomfnfbijgjfeaa
/- Package reach: fits, indices; the reference's Has, Same. -/
namespace Go.Proofs.Ytomfnfbijgjfeaa
open Go.RowKit
set_option linter.unusedVariables false
set_option linter.unusedSimpArgs false
set_option maxRecDepth 100000

def fitsB (e : Ev) (m : Int) (bl : List Bool) : Bool := decide (0 ≤ m) && decide (m < e.moves.length) && decide ((bl.length : Int) = e.moves.length)
theorem a_fits (e : Ev) (m : Int) (bl : List Bool) : ACall Try.prog 81 [evS e, intS .i64 m, boolsS bl] [] (boolS (fitsB e m bl)) [] := by
  have l1 : (e.moves.map Move.row).length = e.moves.length := by simp
  have l2 : (bl.map boolRow).length = bl.length := by simp
  (refine acall_of tab_ok Try.func81 rfl (by decide) ?_; (conv => whnf); repeat (first | (refine LitB.data ?_; conv => whnf) | (refine BoxB.own ?_; conv => whnf)))
  (repeat' (first | ((refine DecB.mk (fun h => ?_) (fun h => ?_)) <;> first | (exfalso; omega) | (conv => whnf)) | ((refine BoolB.mk (fun h => ?_) (fun h => ?_)) <;> first | (exact absurd h (by decide)) | (conv => whnf)) | (refine ⟨_, wrap_ok (by omega) (by omega), ?_⟩; conv => whnf) | (refine and_idx (by omega) (by omega) ?_; conv => whnf) | (refine reg_ok (by decide +kernel) ?_; conv => whnf) | (refine bar_ok (by decide +kernel) (by decide +kernel) ?_; conv => whnf) | (refine late_ok rfl rfl ?_; conv => whnf) | (refine src_ok rfl ?_; conv => whnf) | (refine LitB.data ?_; conv => whnf) | (refine BoxB.own ?_; conv => whnf)))
  all_goals (refine fin_bool ?_; simp [fitsB]; omega)
theorem a_Same24 (a b : List Int) (ha : a.length ≤ 1000000) (hb : b.length ≤ 1000000) : ACall Try.prog 76 [intsS a, intsS b] [] (boolS (decide (a = b))) [] := by
  have l1 : (a.map intRow).length = a.length := by simp
  have l2 : (b.map intRow).length = b.length := by simp
  (refine acall_of tab_ok Try.func76 rfl (by decide) ?_; (conv => whnf); repeat (first | (refine LitB.data ?_; conv => whnf) | (refine BoxB.own ?_; conv => whnf)))
  (repeat' (first | ((refine DecB.mk (fun h => ?_) (fun h => ?_)) <;> first | (exfalso; omega) | (conv => whnf)) | ((refine BoolB.mk (fun h => ?_) (fun h => ?_)) <;> first | (exact absurd h (by decide)) | (conv => whnf)) | (refine ⟨_, wrap_ok (by omega) (by omega), ?_⟩; conv => whnf) | (refine and_idx (by omega) (by omega) ?_; conv => whnf) | (refine reg_ok (by decide +kernel) ?_; conv => whnf) | (refine bar_ok (by decide +kernel) (by decide +kernel) ?_; conv => whnf) | (refine late_ok rfl rfl ?_; conv => whnf) | (refine src_ok rfl ?_; conv => whnf) | (refine LitB.data ?_; conv => whnf) | (refine BoxB.own ?_; conv => whnf)))
  · refine fin_bool (decide_eq_false ?_).symm
    intro hab; subst hab; exact h rfl
  have hab : a.length = b.length := by omega
  refine awp_for tab_ok (fun k => ([intsS a, intsS b, S.junk, S.junk, S.junk, intS .i64 k, S.junk, S.junk, S.junk, S.junk, S.junk, S.junk, S.junk, S.junk, S.junk, S.junk, S.junk, S.junk, S.junk, S.junk, S.junk, S.junk, S.junk, S.junk, S.junk, S.junk], [])) a.length (fun k => a.take k = b.take k) [] rfl
    ⟨rfl, rfl, trivial, ⟨ent_t rfl, ent_t rfl, ent_i rfl, trivial⟩⟩ ?_
  intro k hk hI
  conv => whnf
  (repeat' (first | ((refine DecB.mk (fun h => ?_) (fun h => ?_)) <;> first | (exfalso; omega) | (conv => whnf)) | ((refine BoolB.mk (fun h => ?_) (fun h => ?_)) <;> first | (exact absurd h (by decide)) | (conv => whnf)) | (refine ⟨_, wrap_ok (by omega) (by omega), ?_⟩; conv => whnf) | (refine and_idx (by omega) (by omega) ?_; conv => whnf) | (refine reg_ok (by decide +kernel) ?_; conv => whnf) | (refine bar_ok (by decide +kernel) (by decide +kernel) ?_; conv => whnf) | (refine late_ok rfl rfl ?_; conv => whnf) | (refine src_ok rfl ?_; conv => whnf) | (refine LitB.data ?_; conv => whnf) | (refine BoxB.own ?_; conv => whnf)))
  · have hlt : k < a.length := by omega
    obtain ⟨x, hx⟩ : ∃ x, a[k]? = some x := ⟨_, List.getElem?_eq_getElem hlt⟩
    obtain ⟨y, hy⟩ : ∃ y, b[k]? = some y := ⟨_, List.getElem?_eq_getElem (by omega)⟩
    (repeat' (first | ((refine DecB.mk (fun h => ?_) (fun h => ?_)) <;> first | (exfalso; omega) | (conv => whnf)) | ((refine BoolB.mk (fun h => ?_) (fun h => ?_)) <;> first | (exact absurd h (by decide)) | (conv => whnf)) | (refine ⟨_, wrap_ok (by omega) (by omega), ?_⟩; conv => whnf) | (refine and_idx (by omega) (by omega) ?_; conv => whnf) | (refine reg_ok (by decide +kernel) ?_; conv => whnf) | (refine bar_ok (by decide +kernel) (by decide +kernel) ?_; conv => whnf) | (refine late_ok rfl rfl ?_; conv => whnf) | (refine src_ok rfl ?_; conv => whnf) | (refine ex_row hx ?_; conv => whnf) | (refine ex_row hy ?_; conv => whnf) | (refine LitB.data ?_; conv => whnf) | (refine BoxB.own ?_; conv => whnf)))
    · have hne : x ≠ y := ‹x ≠ y›
      refine fin_bool (decide_eq_false ?_).symm
      intro hq; subst hq; rw [hx] at hy; injection hy with hy; exact hne hy
    · have hxy : x = y := by omega
      refine ⟨hlt, ?_, [], rfl, rfl, trivial, ⟨ent_t rfl, ent_t rfl, rfl, trivial⟩⟩
      rw [take_snoc hx, take_snoc hy, hI, hxy]
  · refine fin_bool (decide_eq_true ?_).symm
    rw [List.take_of_length_le (by omega), List.take_of_length_le (by omega)] at hI
    exact hI
theorem a_Has24 (l : List Int) (n : Int) (ha : l.length ≤ 1000000) : ACall Try.prog 35 [intsS l, intS .i64 n] [] (boolS (l.any fun x => decide (x = n))) [] := by
  have l1 : (l.map intRow).length = l.length := by simp
  (refine acall_of tab_ok Try.func35 rfl (by decide) ?_; (conv => whnf); repeat (first | (refine LitB.data ?_; conv => whnf) | (refine BoxB.own ?_; conv => whnf)))
  refine awp_for tab_ok (fun k => ([intsS l, intS .i64 n, S.junk, S.junk, S.junk, intS .i64 k, S.junk, S.junk, S.junk, S.junk, S.junk, S.junk, S.junk, S.junk, S.junk, S.junk, S.junk, S.junk], [])) l.length (fun k => (l.take k).any (fun x => decide (x = n)) = false) [] rfl
    ⟨rfl, rfl, trivial, ⟨ent_t rfl, rfl, ent_i rfl, trivial⟩⟩ ?_
  intro k hk hI
  conv => whnf
  (repeat' (first | ((refine DecB.mk (fun h => ?_) (fun h => ?_)) <;> first | (exfalso; omega) | (conv => whnf)) | ((refine BoolB.mk (fun h => ?_) (fun h => ?_)) <;> first | (exact absurd h (by decide)) | (conv => whnf)) | (refine ⟨_, wrap_ok (by omega) (by omega), ?_⟩; conv => whnf) | (refine and_idx (by omega) (by omega) ?_; conv => whnf) | (refine reg_ok (by decide +kernel) ?_; conv => whnf) | (refine bar_ok (by decide +kernel) (by decide +kernel) ?_; conv => whnf) | (refine late_ok rfl rfl ?_; conv => whnf) | (refine src_ok rfl ?_; conv => whnf) | (refine LitB.data ?_; conv => whnf) | (refine BoxB.own ?_; conv => whnf)))
  · have hlt : k < l.length := by omega
    obtain ⟨x, hx⟩ : ∃ x, l[k]? = some x := ⟨_, List.getElem?_eq_getElem hlt⟩
    (repeat' (first | ((refine DecB.mk (fun h => ?_) (fun h => ?_)) <;> first | (exfalso; omega) | (conv => whnf)) | ((refine BoolB.mk (fun h => ?_) (fun h => ?_)) <;> first | (exact absurd h (by decide)) | (conv => whnf)) | (refine ⟨_, wrap_ok (by omega) (by omega), ?_⟩; conv => whnf) | (refine and_idx (by omega) (by omega) ?_; conv => whnf) | (refine reg_ok (by decide +kernel) ?_; conv => whnf) | (refine bar_ok (by decide +kernel) (by decide +kernel) ?_; conv => whnf) | (refine late_ok rfl rfl ?_; conv => whnf) | (refine src_ok rfl ?_; conv => whnf) | (refine ex_row hx ?_; conv => whnf) | (refine LitB.data ?_; conv => whnf) | (refine BoxB.own ?_; conv => whnf)))
    · refine fin_bool ?_
      rw [any_of_get hx]
      simpa using ‹x = n›
    · have hne : ¬ x = n := ‹¬ x = n›
      refine ⟨hlt, ?_, [], rfl, rfl, trivial, ⟨rfl, rfl, rfl, trivial⟩⟩
      rw [any_take_succ hx, hI]
      simpa using hne
  · refine fin_bool ?_
    rw [List.take_of_length_le (by omega)] at hI
    exact hI.symm
theorem a_indices (l : List Bool) (hl : l.length ≤ 1000000) : ACall Try.prog 82 [boolsS l] [] (intsS (pickFrom (fun _ b => b) 0 l)) [] := by
  have l2 : (l.map boolRow).length = l.length := by simp
  let P : Nat → Bool → Bool := fun _ b => b
  (refine acall_of tab_ok Try.func82 rfl (by decide) ?_; (conv => whnf); repeat (first | (refine LitB.data ?_; conv => whnf) | (refine BoxB.own ?_; conv => whnf)))
  refine awp_for tab_ok (fun k => ([S.junk, S.junk, S.junk, ownI 0 (pickTo P l k), S.junk, S.junk, boolsS l, intS .i64 l.length, intS .i64 k, S.junk, S.junk, S.junk, S.junk, S.junk, S.junk, S.junk, S.junk, S.junk, S.junk, S.junk], [intsB (pickTo P l k)])) l.length (fun k => True) [none] trivial
    ⟨rfl, rfl, ⟨⟨rfl, rfl⟩, trivial⟩, ⟨⟨rfl, rfl, rfl⟩, rfl, ent_i (by simp), ent_i rfl, trivial⟩⟩ ?_
  intro k hk hI
  have hpl := length_pickTo P l k
  conv => whnf
  (repeat' (first | ((refine DecB.mk (fun h => ?_) (fun h => ?_)) <;> first | (exfalso; omega) | (conv => whnf)) | ((refine BoolB.mk (fun h => ?_) (fun h => ?_)) <;> first | (exact absurd h (by decide)) | (conv => whnf)) | (refine ⟨_, wrap_ok (by omega) (by omega), ?_⟩; conv => whnf) | (refine and_idx (by omega) (by omega) ?_; conv => whnf) | (refine reg_ok (by decide +kernel) ?_; conv => whnf) | (refine bar_ok (by decide +kernel) (by decide +kernel) ?_; conv => whnf) | (refine late_ok rfl rfl ?_; conv => whnf) | (refine src_ok rfl ?_; conv => whnf) | (refine LitB.data ?_; conv => whnf) | (refine BoxB.own ?_; conv => whnf)))
  · have hlt : k < l.length := by omega
    obtain ⟨x, hx⟩ : ∃ x, l[k]? = some x := ⟨_, List.getElem?_eq_getElem hlt⟩
    (repeat' (first | ((refine DecB.mk (fun h => ?_) (fun h => ?_)) <;> first | (exfalso; omega) | (conv => whnf)) | ((refine BoolB.mk (fun h => ?_) (fun h => ?_)) <;> first | (exact absurd h (by decide)) | (conv => whnf)) | (refine ⟨_, wrap_ok (by omega) (by omega), ?_⟩; conv => whnf) | (refine and_idx (by omega) (by omega) ?_; conv => whnf) | (refine reg_ok (by decide +kernel) ?_; conv => whnf) | (refine bar_ok (by decide +kernel) (by decide +kernel) ?_; conv => whnf) | (refine late_ok rfl rfl ?_; conv => whnf) | (refine src_ok rfl ?_; conv => whnf) | (refine .inl ⟨_, _, qcall_pure (toC) rfl rfl, ?_⟩; conv => whnf) | (refine .inl ⟨_, _, qcall_pure (toC) rfl rfl, ?_⟩; conv => whnf) | (refine ex_row hx ?_; conv => whnf) | (refine app_ok (by simp [toC]) (by simp [toC]; omega) ?_; conv => whnf) | (refine LitB.data ?_; conv => whnf) | (refine BoxB.own ?_; conv => whnf)))
    · have hP : P k x = true := ‹x = true›
      refine ⟨hlt, trivial, [some 1], rfl, rfl, ⟨entB_rows rfl rfl rfl ?_ rfl, trivial⟩, ⟨ent_own rfl ?_, rfl, rfl, rfl, trivial⟩⟩
      · rw [pickTo_yes P hx hP, List.map_append]
        exact (congrArg (fun n => List.take n (toC ((pickTo P l k).map intRow)) ++ toC [[ti k]]) (by simp)).trans toC_snoc
      · rw [pickTo_yes P hx hP]; simp [toC]
    · have hP : P k x = false := ‹x = false›
      refine ⟨hlt, trivial, [some 0], rfl, rfl, ⟨entB_rows rfl rfl rfl ?_ rfl, trivial⟩, ⟨ent_own rfl ?_, rfl, rfl, rfl, trivial⟩⟩
      · rw [pickTo_no P hx hP]
      · rw [pickTo_no P hx hP]
  · have hk' : pickFrom P 0 l = pickTo P l k := (pickTo_all P (by omega)).symm
    show Fin 0 _ _ (intsS (pickFrom P 0 l)) []
    rw [hk']
    exact fin_own rfl (by intro h; cases h) rfl rfl (by simp)
end Go.Proofs.Ytomfnfbijgjfeaa
/- FlowLess in plain Lean: right evidence stays right with less said, fewer moves, more room. -/
namespace Go.Proofs.Ytomfnfbijgjfeaa
set_option linter.unusedSimpArgs false
set_option linter.unusedVariables false

theorem moveOk_mono {e e' : Ev} (hp : e'.places = e.places) (hs : e.scs ≤ e'.scs) {m : Move} (h : moveOk e m = true) : moveOk e' m = true := by
  have hk : ∀ i, kindAt e' i = kindAt e i := fun i => by unfold kindAt; rw [hp]
  unfold moveOk at h ⊢
  rw [hp, hk, hk]
  simp only [Bool.and_eq_true] at h ⊢
  refine ⟨h.1, ?_⟩
  have h2 := h.2
  split at h2
  · rw [if_pos (by assumption)]; exact h2
  · rw [if_neg (by assumption)]
    simp only [Bool.and_eq_true, idx_iff] at h2 ⊢
    exact ⟨⟨h2.1.1, by omega⟩, h2.2⟩
theorem movesErr_mono {e e' : Ev} (hm : ∀ m, moveOk e m = true → moveOk e' m = true) : ∀ (l : List Move) (n : Nat) (last : Int), movesErr e last l = 0 → movesErr e' last (l.take n) = 0
  | [], n, last, _ => by simp [movesErr]
  | m :: r, 0, last, _ => by simp [movesErr]
  | m :: r, n + 1, last, h => by
    unfold movesErr at h
    split at h
    · simp at h
    · rename_i hd
      split at h
      · rename_i hk
        rw [List.take_succ_cons]
        unfold movesErr
        rw [if_neg hd, if_pos (hm m hk)]
        exact movesErr_mono hm r n m.day h
      · simp at h
theorem check_mono {e e' : Ev} {n : Nat} (h : check e = 0) (hp : e'.places = e.places) (h1 : e.mats ≤ e'.mats) (h2 : e'.mats ≤ 6) (h3 : e.hhs ≤ e'.hhs) (h4 : e'.hhs ≤ 100) (h5 : e.scs ≤ e'.scs) (h6 : e'.scs ≤ 30)
    (hm : e'.moves = e.moves.take n) (hc : e'.certs = e.certs ∨ e'.certs = []) (hr : e'.recalls = e.recalls ∨ e'.recalls = [])
    (hq : ∀ q ∈ e'.purities, q ∈ e.purities ∧ q.move < e'.moves.length) (hl : e'.purities.length ≤ e.purities.length) : check e' = 0 := by
  obtain ⟨a1, a2, a3, a4, a5, a6, a7⟩ := check_zero h
  have b1 : fullB e' = false := by
    have e1 : e'.certs.length ≤ e.certs.length := by rcases hc with hc | hc <;> rw [hc] <;> simp
    have e2 : e'.recalls.length ≤ e.recalls.length := by rcases hr with hr | hr <;> rw [hr] <;> simp
    have e3 : e'.moves.length ≤ e.moves.length := by rw [hm]; simp; omega
    have e4 : e'.places.length = e.places.length := by rw [hp]
    simp [fullB] at a1 ⊢
    omega
  have b2 : e'.places.all (placeOk e') = true := by
    rw [hp, List.all_eq_true]
    intro p hpm
    have := List.all_eq_true.1 a5 p hpm
    unfold placeOk at this ⊢
    simp only [Bool.and_eq_true] at this ⊢
    refine ⟨this.1, ?_⟩
    have h2 := this.2
    split at h2
    · rw [if_pos (by assumption)]
      simp only [Bool.and_eq_true, idx_iff] at h2 ⊢
      omega
    · rw [if_neg (by assumption)]; exact h2
  have b3 : movesErr e' 0 e'.moves = 0 := by
    rw [hm]; exact movesErr_mono (fun m => moveOk_mono hp h5) _ _ _ a6
  have b4 : saidOk e' = true := by
    simp only [saidOk, Bool.and_eq_true, List.all_eq_true] at a7 ⊢
    obtain ⟨⟨c1, c2⟩, c3⟩ := a7
    refine ⟨⟨fun c hcm => ?_, fun r hrm => ?_⟩, fun q hqm => ?_⟩
    · have : c ∈ e.certs := by
        rcases hc with hc | hc <;> rw [hc] at hcm
        · exact hcm
        · cases hcm
      have := c1 c this
      simp only [certOk, Bool.and_eq_true, decide_eq_true_eq, idx_iff] at this ⊢
      refine ⟨⟨⟨⟨this.1.1.1.1, this.1.1.1.2.1, by omega⟩, this.1.1.2⟩, this.1.2⟩, this.2⟩
    · have : r ∈ e.recalls := by
        rcases hr with hr | hr <;> rw [hr] at hrm
        · exact hrm
        · cases hrm
      have := c2 r this
      simp only [recallOk, Bool.and_eq_true, idx_iff] at this ⊢
      exact ⟨⟨this.1.1, by omega⟩, this.2⟩
    · obtain ⟨d1, d2⟩ := hq q hqm
      have := c3 q d1
      simp only [purityOk, Bool.and_eq_true, decide_eq_true_eq, idx_iff] at this ⊢
      omega
  unfold check
  rw [if_neg (by simp [b1]), if_neg, if_neg (by simp [b3]), if_pos b4]
  rintro (h | h | h | h)
  · omega
  · omega
  · omega
  · rw [b2] at h; cases h

theorem pickFrom_nil {α : Type} {p : Nat → α → Bool} : ∀ (l : List α) (k : Nat), (∀ i m, k ≤ i → p i m = false) → pickFrom p k l = []
  | [], k, _ => rfl
  | m :: r, k, h => by
    rw [pickFrom, h k m (Nat.le_refl _)]
    simp only [Bool.false_eq_true, if_false]
    exact pickFrom_nil r (k + 1) fun i m hi => h i m (by omega)
theorem pickFrom_take {α : Type} {p : Nat → α → Bool} {l : List α} {n : Nat} (hn : n ≤ l.length) (h : ∀ i m, n ≤ i → p i m = false) : pickFrom p 0 (l.take n) = pickFrom p 0 l := by
  have := pickFrom_append p (l.take n) (l.drop n) 0
  rw [List.take_append_drop] at this
  rw [this, pickFrom_nil (l.drop n) _ (fun i m hi => h i m (by simp at hi; omega)), List.append_nil]
theorem into_less {e e' : Ev} {n : Nat} (h : check e = 0) (h' : check e' = 0) (hm : e'.moves = e.moves.take n) (hn : n ≤ e.moves.length) (p : Int) : into e' p n = into e p n := by
  unfold into
  rw [if_pos h, if_pos h', hm]
  exact pickFrom_take hn fun i m hi => by simp; omega
theorem outOf_less {e e' : Ev} {n : Nat} (h : check e = 0) (h' : check e' = 0) (hm : e'.moves = e.moves.take n) (hn : n ≤ e.moves.length) (p : Int) : outOf e' p e.moves.length = outOf e p n := by
  unfold outOf
  rw [if_pos h, if_pos h', hm, ← pickFrom_take hn (p := fun k m => decide ((k : Int) < n) && decide (m.src = p)) (fun i m hi => by simp; omega)]
  refine pickFrom_congr _ n (fun k m hk => ?_) 0 (by simp; omega)
  have e1 : decide ((k : Int) < e.moves.length) = true := by simp; omega
  have e2 : decide ((k : Int) < n) = true := by simp; omega
  rw [e1, e2]
end Go.Proofs.Ytomfnfbijgjfeaa
/- Package reach: next; the reference's step. -/
namespace Go.Proofs.Ytomfnfbijgjfeaa
open Go.RowKit
set_option linter.unusedVariables false
set_option linter.unusedSimpArgs false
set_option maxRecDepth 100000

/-- nothing between two moves empties the place d -/
def clearB (e : Ev) (d : Int) (m i : Nat) : Bool := ((e.moves.take i).drop (m + 1)).all fun x => !(decide (x.src = d) && x.all)
/-- a move that can follow the move m, which goes to d, on a path -/
def nextIs (e : Ev) (bl : List Bool) (d : Int) (m i : Nat) (x : Move) : Bool := decide (m < i) && decide (x.src = d) && clearB e d m i && !(bl.getD i true)
theorem clearB_start {e : Ev} {d : Int} {m : Nat} : clearB e d m (m + 1) = true := by
  unfold clearB; rw [List.drop_eq_nil_of_le (by simp; omega)]; rfl
theorem clearB_succ {e : Ev} {d : Int} {m k : Nat} {x : Move} (h : e.moves[k]? = some x) (hm : m < k) : clearB e d m (k + 1) = (clearB e d m k && !(decide (x.src = d) && x.all)) := by
  unfold clearB
  have hlt := (List.getElem?_eq_some_iff.1 h).1
  rw [take_snoc h, List.drop_append_of_le_length (by simp; omega), List.all_append]
  simp
theorem clearB_mono {e : Ev} {d : Int} {m : Nat} : ∀ (n k : Nat), k ≤ n → m < k → clearB e d m k = false → clearB e d m n = false
  | 0, k, h, hm, hk => by omega
  | n + 1, k, h, hm, hk => by
    by_cases hkn : k = n + 1
    · subst hkn; exact hk
    · have ih := clearB_mono n k (by omega) hm hk
      cases hx : e.moves[n]? with
      | none =>
        have hle := List.getElem?_eq_none_iff.1 hx
        unfold clearB at ih ⊢
        rw [List.take_of_length_le (by omega)] at ih ⊢
        exact ih
      | some x => rw [clearB_succ hx (by omega), ih]; rfl

theorem a_next (e : Ev) (hs : e.Sized) (bl : List Bool) (m : Nat) (x0 : Move) (hm : e.moves[m]? = some x0) (hb : bl.length = e.moves.length) :
    ACall Try.prog 104 [evS e, intS .i64 m, boolsS bl] [] (intsS (pickFrom (nextIs e bl x0.dst m) 0 e.moves)) [] := by
  have l1 := hs.s2
  have l2 : (e.moves.map Move.row).length = e.moves.length := by simp
  have l3 : (bl.map boolRow).length = bl.length := by simp
  have hmlt := (List.getElem?_eq_some_iff.1 hm).1
  let P : Nat → Move → Bool := nextIs e bl x0.dst m
  (refine acall_of tab_ok Try.func104 rfl (by decide) ?_; (conv => whnf); repeat (first | (refine LitB.data ?_; conv => whnf) | (refine BoxB.own ?_; conv => whnf)))
  (repeat' (first | ((refine DecB.mk (fun h => ?_) (fun h => ?_)) <;> first | (exfalso; omega) | (conv => whnf)) | ((refine BoolB.mk (fun h => ?_) (fun h => ?_)) <;> first | (exact absurd h (by decide)) | (conv => whnf)) | (refine ⟨_, wrap_ok (by omega) (by omega), ?_⟩; conv => whnf) | (refine and_idx (by omega) (by omega) ?_; conv => whnf) | (refine reg_ok (by decide +kernel) ?_; conv => whnf) | (refine bar_ok (by decide +kernel) (by decide +kernel) ?_; conv => whnf) | (refine late_ok rfl rfl ?_; conv => whnf) | (refine src_ok rfl ?_; conv => whnf) | (refine LitB.data ?_; conv => whnf) | (refine BoxB.own ?_; conv => whnf)))
  have hp0 : pickTo P e.moves (m + 1) = [] := by
    unfold pickTo
    rw [List.eq_nil_iff_forall_not_mem]
    intro y hy
    obtain ⟨i, z, hz, hP, -⟩ := mem_pickFrom.1 hy
    have := (List.getElem?_eq_some_iff.1 hz).1
    simp only [List.length_take] at this
    simp [P, nextIs] at hP
    omega
  refine awp_for tab_ok (fun k => ([S.junk, intS .i64 m, boolsS bl, S.c (C.ptr 0 0 0), S.junk, S.junk, S.junk, ownI 1 (pickTo P e.moves (m + 1 + k)), intS .i64 ((m + 1 + k : Nat) : Int), S.junk, S.junk, S.junk, S.junk, S.junk, S.junk, S.junk, S.junk, S.junk, S.junk, S.junk, S.junk, S.junk, S.junk, S.junk, S.junk, S.junk, S.junk, S.junk, S.junk, S.junk, S.junk, S.junk, S.junk, S.junk, S.junk, S.junk, S.junk, S.junk, S.junk, S.junk, S.junk, S.junk, S.junk, S.junk, S.junk, S.junk, S.junk], [evB e, intsB (pickTo P e.moves (m + 1 + k))])) (e.moves.length - (m + 1)) (fun k => clearB e x0.dst m (m + 1 + k) = true) [some 0, none] clearB_start
    ⟨rfl, rfl, ⟨⟨rfl, rfl, rfl, .inl ⟨rfl, rowsT_ev e⟩⟩, ⟨?_, rfl⟩, trivial⟩, ⟨rfl, ent_t rfl, ⟨rfl, rfl, rfl⟩, ⟨rfl, rfl, ?_⟩, ent_i rfl, trivial⟩⟩ ?_
  · show toC ((pickTo P e.moves (m + 1)).map intRow) = []
    rw [hp0]; rfl
  · show (pickTo P e.moves (m + 1)).length = 0
    rw [hp0]; rfl
  intro k hk hI
  have hpl := length_pickTo P e.moves (m + 1 + k)
  conv => whnf
  (repeat' (first | ((refine DecB.mk (fun h => ?_) (fun h => ?_)) <;> first | (exfalso; omega) | (conv => whnf)) | ((refine BoolB.mk (fun h => ?_) (fun h => ?_)) <;> first | (exact absurd h (by decide)) | (conv => whnf)) | (refine ⟨_, wrap_ok (by omega) (by omega), ?_⟩; conv => whnf) | (refine and_idx (by omega) (by omega) ?_; conv => whnf) | (refine reg_ok (by decide +kernel) ?_; conv => whnf) | (refine bar_ok (by decide +kernel) (by decide +kernel) ?_; conv => whnf) | (refine late_ok rfl rfl ?_; conv => whnf) | (refine src_ok rfl ?_; conv => whnf) | (refine LitB.data ?_; conv => whnf) | (refine BoxB.own ?_; conv => whnf)))
  · have hlt : m + 1 + k < e.moves.length := by omega
    obtain ⟨x, hx⟩ : ∃ x, e.moves[m + 1 + k]? = some x := ⟨_, List.getElem?_eq_getElem hlt⟩
    obtain ⟨b, hbx⟩ : ∃ b, bl[m + 1 + k]? = some b := ⟨_, List.getElem?_eq_getElem (by omega)⟩
    have hP : P (m + 1 + k) x = (decide (x.src = x0.dst) && !b) := by
      have hbd : bl.getD (m + 1 + k) true = b := by rw [List.getD_eq_getElem?_getD, hbx]; rfl
      have hmk : decide (m < m + 1 + k) = true := by simp; omega
      simp only [P, nextIs, hI, hbd, hmk, Bool.true_and, Bool.and_true]
    have hC := clearB_succ hx (show m < m + 1 + k by omega) (d := x0.dst)
    rw [hI] at hC
    have hstop : x.src = x0.dst → x.all = true → pickFrom P 0 e.moves = pickTo P e.moves (m + 1 + k + 1) := fun h1 h2 => by
      refine (pickFrom_take (by omega) fun i z hi => ?_).symm
      have := clearB_mono (e := e) (d := x0.dst) (m := m) i (m + 1 + k + 1) hi (by omega) (hC.trans (by simp [h1, h2]))
      simp [P, nextIs, this]
    (repeat' (first | ((refine DecB.mk (fun h => ?_) (fun h => ?_)) <;> first | (exfalso; omega) | (conv => whnf)) | ((refine BoolB.mk (fun h => ?_) (fun h => ?_)) <;> first | (exact absurd h (by decide)) | (conv => whnf)) | (refine ⟨_, wrap_ok (by omega) (by omega), ?_⟩; conv => whnf) | (refine and_idx (by omega) (by omega) ?_; conv => whnf) | (refine reg_ok (by decide +kernel) ?_; conv => whnf) | (refine bar_ok (by decide +kernel) (by decide +kernel) ?_; conv => whnf) | (refine late_ok rfl rfl ?_; conv => whnf) | (refine src_ok rfl ?_; conv => whnf) | (refine .inl ⟨_, _, qcall_pure (toC) rfl rfl, ?_⟩; conv => whnf) | (refine .inl ⟨_, _, qcall_pure (toC) rfl rfl, ?_⟩; conv => whnf) | (refine ex_row hx ?_; conv => whnf) | (refine ex_row hm ?_; conv => whnf) | (refine ex_row hbx ?_; conv => whnf) | (refine app_ok (by simp [toC]) (by simp [toC]; omega) ?_; conv => whnf) | (refine LitB.data ?_; conv => whnf) | (refine BoxB.own ?_; conv => whnf)))
    · have hs' : ¬ x.src = x0.dst := ‹x.src ≠ x0.dst›
      have hPf : P (m + 1 + k) x = false := by rw [hP]; simp [hs']
      refine ⟨by omega, hC.trans (by simp [hs']), [some 0, some 1], rfl, rfl, ⟨⟨rfl, rfl, rfl, .inl ⟨rfl, rowsT_ev e⟩⟩, entB_rows rfl rfl rfl ?_ rfl, trivial⟩, ⟨rfl, rfl, ⟨rfl, rfl, rfl⟩, ent_own rfl ?_, rfl, trivial⟩⟩
      · exact congrArg (fun l => toC (l.map intRow)) (pickTo_no P hx hPf).symm
      · exact congrArg List.length (pickTo_no P hx hPf).symm
    · have hs' : x.src = x0.dst := Decidable.not_not.1 ‹¬ x.src ≠ x0.dst›
      have hPf : P (m + 1 + k) x = false := by rw [hP]; simp_all
      have hst := hstop hs' ‹x.all = true›
      show Fin 0 _ _ (intsS (pickFrom P 0 e.moves)) []
      rw [hst, pickTo_no P hx hPf]
      exact fin_own rfl (by intro h; cases h) rfl rfl (by simp)
    · have hs' : x.src = x0.dst := Decidable.not_not.1 ‹¬ x.src ≠ x0.dst›
      have ha' : x.all = false := ‹x.all = false›
      have hPf : P (m + 1 + k) x = false := by rw [hP]; simp_all
      refine ⟨by omega, hC.trans (by simp [ha']), [some 0, some 1], rfl, rfl, ⟨⟨rfl, rfl, rfl, .inl ⟨rfl, rowsT_ev e⟩⟩, entB_rows rfl rfl rfl ?_ rfl, trivial⟩, ⟨rfl, rfl, ⟨rfl, rfl, rfl⟩, ent_own rfl ?_, rfl, trivial⟩⟩
      · exact congrArg (fun l => toC (l.map intRow)) (pickTo_no P hx hPf).symm
      · exact congrArg List.length (pickTo_no P hx hPf).symm
    · have hs' : x.src = x0.dst := Decidable.not_not.1 ‹¬ x.src ≠ x0.dst›
      have hb' : b = false := ‹b = false›
      have hPt : P (m + 1 + k) x = true := by rw [hP]; simp [hs', hb']
      have hst := hstop hs' ‹x.all = true›
      show Fin 0 _ _ (intsS (pickFrom P 0 e.moves)) []
      rw [hst, pickTo_yes P hx hPt]
      refine fin_own rfl (by intro h; cases h) rfl ?_ (by simp [toC])
      rw [List.map_append]
      exact (congrArg (fun n => List.take n (toC ((pickTo P e.moves (m + 1 + k)).map intRow)) ++ toC [[ti (m + 1 + k : Nat)]]) (by simp)).trans toC_snoc
    · have hs' : x.src = x0.dst := Decidable.not_not.1 ‹¬ x.src ≠ x0.dst›
      have ha' : x.all = false := ‹x.all = false›
      have hb' : b = false := ‹b = false›
      have hPt : P (m + 1 + k) x = true := by rw [hP]; simp [hs', hb']
      have hy := pickTo_yes P hx hPt
      refine ⟨by omega, hC.trans (by simp [ha']), [some 0, some 2], rfl, rfl, ⟨⟨rfl, rfl, rfl, .inl ⟨rfl, rowsT_ev e⟩⟩, entB_rows (rows := (pickTo P e.moves (m + 1 + k + 1)).map intRow) rfl rfl rfl ?_ rfl, trivial⟩, ⟨rfl, rfl, ⟨rfl, rfl, rfl⟩, ent_own rfl ?_, rfl, trivial⟩⟩
      · rw [hy, List.map_append]
        exact (congrArg (fun n => List.take n (toC ((pickTo P e.moves (m + 1 + k)).map intRow)) ++ toC [[ti (m + 1 + k : Nat)]]) (by simp)).trans toC_snoc
      · show _ = (pickTo P e.moves (m + 1 + k + 1)).length
        rw [hy]; simp [toC]
  · have hk' : pickFrom P 0 e.moves = pickTo P e.moves (m + 1 + k) := (pickTo_all P (by omega)).symm
    show Fin 0 _ _ (intsS (pickFrom P 0 e.moves)) []
    rw [hk']
    exact fin_own rfl (by intro h; cases h) rfl rfl (by simp)
end Go.Proofs.Ytomfnfbijgjfeaa
/- The reference's step; slices.Contains. -/
namespace Go.Proofs.Ytomfnfbijgjfeaa
open Go.RowKit
set_option linter.unusedVariables false
set_option linter.unusedSimpArgs false
set_option maxRecDepth 100000

end Go.Proofs.Ytomfnfbijgjfeaa
/- slices.Index, slices.Contains. -/
namespace Go.Proofs.Ytomfnfbijgjfeaa
open Go.RowKit
set_option linter.unusedVariables false
set_option linter.unusedSimpArgs false
set_option maxRecDepth 100000

theorem a_SIndex (l : List Int) (n : Int) (ha : l.length ≤ 1000000) : ACall Try.prog 123 [intsS l, intS .i64 n] [] (intS .i64 (if (l.any fun x => decide (x = n)) then (l.findIdx fun x => decide (x = n)) else -1)) [] := by
  have l1 : (l.map intRow).length = l.length := by simp
  (refine acall_of tab_ok Try.func123 rfl (by decide) ?_; (conv => whnf); repeat (first | (refine LitB.data ?_; conv => whnf) | (refine BoxB.own ?_; conv => whnf)))
  refine awp_for tab_ok (fun k => ([intsS l, intS .i64 n, S.junk, S.junk, S.junk, S.junk, intsS l, intS .i64 l.length, intS .i64 k, S.junk, S.junk, S.junk, S.junk, S.junk, S.junk, S.junk, S.junk, S.junk, S.junk], [])) l.length (fun k => (l.take k).any (fun x => decide (x = n)) = false) [] rfl
    ⟨rfl, rfl, trivial, ⟨ent_t rfl, rfl, ent_t rfl, ent_i (by simp), ent_i rfl, trivial⟩⟩ ?_
  intro k hk hI
  conv => whnf
  (repeat' (first | ((refine DecB.mk (fun h => ?_) (fun h => ?_)) <;> first | (exfalso; omega) | (conv => whnf)) | ((refine BoolB.mk (fun h => ?_) (fun h => ?_)) <;> first | (exact absurd h (by decide)) | (conv => whnf)) | (refine ⟨_, wrap_ok (by omega) (by omega), ?_⟩; conv => whnf) | (refine and_idx (by omega) (by omega) ?_; conv => whnf) | (refine reg_ok (by decide +kernel) ?_; conv => whnf) | (refine bar_ok (by decide +kernel) (by decide +kernel) ?_; conv => whnf) | (refine late_ok rfl rfl ?_; conv => whnf) | (refine src_ok rfl ?_; conv => whnf) | (refine LitB.data ?_; conv => whnf) | (refine BoxB.own ?_; conv => whnf)))
  · have hlt : k < l.length := by omega
    obtain ⟨x, hx⟩ : ∃ x, l[k]? = some x := ⟨_, List.getElem?_eq_getElem hlt⟩
    have hxg : l[k] = x := (List.getElem?_eq_some_iff.1 hx).2
    (repeat' (first | ((refine DecB.mk (fun h => ?_) (fun h => ?_)) <;> first | (exfalso; omega) | (conv => whnf)) | ((refine BoolB.mk (fun h => ?_) (fun h => ?_)) <;> first | (exact absurd h (by decide)) | (conv => whnf)) | (refine ⟨_, wrap_ok (by omega) (by omega), ?_⟩; conv => whnf) | (refine and_idx (by omega) (by omega) ?_; conv => whnf) | (refine reg_ok (by decide +kernel) ?_; conv => whnf) | (refine bar_ok (by decide +kernel) (by decide +kernel) ?_; conv => whnf) | (refine late_ok rfl rfl ?_; conv => whnf) | (refine src_ok rfl ?_; conv => whnf) | (refine ex_row hx ?_; conv => whnf) | (refine LitB.data ?_; conv => whnf) | (refine BoxB.own ?_; conv => whnf)))
    · have hxn : x = n := by omega
      refine fin_int ?_
      rw [if_pos (any_of_get hx (by simpa using hxn)), (List.findIdx_eq hlt).2 ⟨by simp [hxg, hxn], fun j hj => ?_⟩]
      rw [List.any_eq_false] at hI
      have := hI l[j] (List.mem_take_iff_getElem.2 ⟨j, by omega, rfl⟩)
      simpa using this
    · have hne : ¬ x = n := by omega
      refine ⟨hlt, ?_, [], rfl, rfl, trivial, ⟨rfl, rfl, rfl, rfl, rfl, trivial⟩⟩
      rw [any_take_succ hx, hI]
      simpa using hne
  · refine fin_int ?_
    rw [List.take_of_length_le (by omega)] at hI
    rw [hI]; rfl
theorem a_SContains (l : List Int) (n : Int) (ha : l.length ≤ 1000000) : ACall Try.prog 106 [intsS l, intS .i64 n] [] (boolS (l.any fun x => decide (x = n))) [] := by
  (refine acall_of tab_ok Try.func106 rfl (by decide) ?_; (conv => whnf); repeat (first | (refine LitB.data ?_; conv => whnf) | (refine BoxB.own ?_; conv => whnf)))
  (repeat' (first | ((refine DecB.mk (fun h => ?_) (fun h => ?_)) <;> first | (exfalso; omega) | (conv => whnf)) | ((refine BoolB.mk (fun h => ?_) (fun h => ?_)) <;> first | (exact absurd h (by decide)) | (conv => whnf)) | (refine ⟨_, wrap_ok (by omega) (by omega), ?_⟩; conv => whnf) | (refine and_idx (by omega) (by omega) ?_; conv => whnf) | (refine reg_ok (by decide +kernel) ?_; conv => whnf) | (refine bar_ok (by decide +kernel) (by decide +kernel) ?_; conv => whnf) | (refine late_ok rfl rfl ?_; conv => whnf) | (refine src_ok rfl ?_; conv => whnf) | (refine .inl ⟨_, _, qcall_pure (a_SIndex _ _ ha) rfl rfl, ?_⟩; conv => whnf) | (refine LitB.data ?_; conv => whnf) | (refine BoxB.own ?_; conv => whnf)))
  all_goals
    refine fin_bool ?_
    cases hb : (l.any fun x => decide (x = n)) with
    | true => simp_all
    | false => simp_all
end Go.Proofs.Ytomfnfbijgjfeaa
/- Follows. -/
namespace Go.Proofs.Ytomfnfbijgjfeaa
open Go.RowKit
set_option linter.unusedVariables false
set_option linter.unusedSimpArgs false
set_option maxRecDepth 100000

/-- b can follow a on a path, but for whether it is blocked -/
def edgeB (e : Ev) (a b : Int) : Bool := match e.moves[a.toNat]?, e.moves[b.toNat]? with
  | some u, some v => decide (a.toNat < b.toNat) && decide (v.src = u.dst) && clearB e u.dst a.toNat b.toNat
  | _, _ => false
def goodAt (e : Ev) (bl : List Bool) (path : List Int) (i : Nat) : Bool :=
  fitsB e (path.getD i 0) bl && !(bl.getD (path.getD i 0).toNat true) && (decide (i = 0) || edgeB e (path.getD (i - 1) 0) (path.getD i 0))
def goodTo (e : Ev) (bl : List Bool) (path : List Int) (k : Nat) : Bool := (List.range k).all (goodAt e bl path)
def followsB (e : Ev) (bl : List Bool) (path : List Int) : Bool := goodTo e bl path path.length && decide (0 < path.length)
theorem goodTo_succ {e : Ev} {bl : List Bool} {path : List Int} {k : Nat} : goodTo e bl path (k + 1) = (goodTo e bl path k && goodAt e bl path k) := by
  unfold goodTo; rw [List.range_succ, List.all_append]; simp
theorem goodTo_no {e : Ev} {bl : List Bool} {path : List Int} {k : Nat} (h : goodAt e bl path k = false) (hk : k < path.length) : followsB e bl path = false := by
  unfold followsB goodTo
  have : (List.range path.length).all (goodAt e bl path) = false := by
    rw [← Bool.not_eq_true, List.all_eq_true]
    intro hq
    rw [hq k (List.mem_range.2 hk)] at h; cases h
  rw [this]; rfl
theorem any_pick {e : Ev} {P : Nat → Move → Bool} {x : Int} {v : Move} (h0 : 0 ≤ x) (hv : e.moves[x.toNat]? = some v) : ((pickFrom P 0 e.moves).any fun y => decide (y = x)) = P x.toNat v := by
  rw [Bool.eq_iff_iff, List.any_eq_true]
  constructor
  · rintro ⟨y, hy, he⟩
    obtain ⟨i, z, hz, hP, hyi⟩ := mem_pickFrom.1 hy
    rw [Nat.zero_add] at hP
    have hyx : y = x := by simpa using he
    have : x.toNat = i := by omega
    rw [this] at hv ⊢
    rw [hz] at hv
    injection hv with hv
    rw [← hv]; exact hP
  · intro hP
    exact ⟨x, mem_pickFrom.2 ⟨x.toNat, v, hv, by rw [Nat.zero_add]; exact hP, by omega⟩, by simp⟩
theorem a_Follows (e : Ev) (hs : e.Sized) (path : List Int) (bl : List Bool) (hp : path.length ≤ 1000) : ACall Try.prog 78 [evS e, intsS path, boolsS bl] [] (boolS (followsB e bl path)) [] := by
  have l1 := hs.s2
  have l2 : (e.moves.map Move.row).length = e.moves.length := by simp
  have l3 : (path.map intRow).length = path.length := by simp
  have l4 : (bl.map boolRow).length = bl.length := by simp
  (refine acall_of tab_ok Try.func78 rfl (by decide) ?_; (conv => whnf); repeat (first | (refine LitB.data ?_; conv => whnf) | (refine BoxB.own ?_; conv => whnf)))
  refine awp_for tab_ok (fun k => ([S.junk, intsS path, boolsS bl, S.c (C.ptr 0 0 0), S.junk, S.junk, S.junk, S.junk, S.junk, intsS path, intS .i64 path.length, intS .i64 k, S.junk, S.junk, S.junk, S.junk, S.junk, S.junk, S.junk, S.junk, S.junk, S.junk, S.junk, S.junk, S.junk, S.junk, S.junk, S.junk, S.junk, S.junk, S.junk, S.junk, S.junk, S.junk, S.junk, S.junk, S.junk, S.junk, S.junk, S.junk, S.junk, S.junk, S.junk, S.junk, S.junk, S.junk, S.junk, S.junk], [evB e])) path.length (fun k => goodTo e bl path k = true) [some 0] rfl
    ⟨rfl, rfl, ⟨⟨rfl, rfl, rfl, .inl ⟨rfl, rowsT_ev e⟩⟩, trivial⟩, ⟨ent_t rfl, ent_t rfl, ⟨rfl, rfl, rfl⟩, ent_t rfl, ent_i (by simp), ent_i rfl, trivial⟩⟩ ?_
  intro k hk hI
  conv => whnf
  (repeat' (first | ((refine DecB.mk (fun h => ?_) (fun h => ?_)) <;> first | (exfalso; omega) | (conv => whnf)) | ((refine BoolB.mk (fun h => ?_) (fun h => ?_)) <;> first | (exact absurd h (by decide)) | (conv => whnf)) | (refine ⟨_, wrap_ok (by omega) (by omega), ?_⟩; conv => whnf) | (refine and_idx (by omega) (by omega) ?_; conv => whnf) | (refine reg_ok (by decide +kernel) ?_; conv => whnf) | (refine bar_ok (by decide +kernel) (by decide +kernel) ?_; conv => whnf) | (refine late_ok rfl rfl ?_; conv => whnf) | (refine src_ok rfl ?_; conv => whnf) | (refine LitB.data ?_; conv => whnf) | (refine BoxB.own ?_; conv => whnf)))
  · have hlt : k < path.length := by omega
    obtain ⟨x, hx⟩ : ∃ x, path[k]? = some x := ⟨_, List.getElem?_eq_getElem hlt⟩
    have gx : path.getD k 0 = x := by rw [List.getD_eq_getElem?_getD, hx]; rfl
    have f1 := a_fits e x bl
    cases hfit : fitsB e x bl with
    | false =>
      rw [hfit] at f1
      (repeat' (first | ((refine DecB.mk (fun h => ?_) (fun h => ?_)) <;> first | (exfalso; omega) | (conv => whnf)) | ((refine BoolB.mk (fun h => ?_) (fun h => ?_)) <;> first | (exact absurd h (by decide)) | (conv => whnf)) | (refine ⟨_, wrap_ok (by omega) (by omega), ?_⟩; conv => whnf) | (refine and_idx (by omega) (by omega) ?_; conv => whnf) | (refine reg_ok (by decide +kernel) ?_; conv => whnf) | (refine bar_ok (by decide +kernel) (by decide +kernel) ?_; conv => whnf) | (refine late_ok rfl rfl ?_; conv => whnf) | (refine src_ok rfl ?_; conv => whnf) | (refine .inl ⟨_, _, qcall_pure (f1) rfl rfl, ?_⟩; conv => whnf) | (refine ex_row hx ?_; conv => whnf) | (refine LitB.data ?_; conv => whnf) | (refine BoxB.own ?_; conv => whnf)))
      all_goals exact fin_bool (goodTo_no (by unfold goodAt; rw [gx, hfit]; rfl) hlt).symm
    | true =>
      rw [hfit] at f1
      have hf2 : (0 ≤ x ∧ x < e.moves.length) ∧ (bl.length : Int) = e.moves.length := by simpa [fitsB] using hfit
      obtain ⟨v, hv⟩ : ∃ v, e.moves[x.toNat]? = some v := ⟨_, List.getElem?_eq_getElem (by omega)⟩
      obtain ⟨b, hb⟩ : ∃ b, bl[x.toNat]? = some b := ⟨_, List.getElem?_eq_getElem (by omega)⟩
      have gb : bl.getD x.toNat true = b := by rw [List.getD_eq_getElem?_getD, hb]; rfl
      cases k with
      | zero =>
        (repeat' (first | ((refine DecB.mk (fun h => ?_) (fun h => ?_)) <;> first | (exfalso; omega) | (conv => whnf)) | ((refine BoolB.mk (fun h => ?_) (fun h => ?_)) <;> first | (exact absurd h (by decide)) | (conv => whnf)) | (refine ⟨_, wrap_ok (by omega) (by omega), ?_⟩; conv => whnf) | (refine and_idx (by omega) (by omega) ?_; conv => whnf) | (refine reg_ok (by decide +kernel) ?_; conv => whnf) | (refine bar_ok (by decide +kernel) (by decide +kernel) ?_; conv => whnf) | (refine late_ok rfl rfl ?_; conv => whnf) | (refine src_ok rfl ?_; conv => whnf) | (refine .inl ⟨_, _, qcall_pure (f1) rfl rfl, ?_⟩; conv => whnf) | (refine ex_row hx ?_; conv => whnf) | (refine ex_rowI hf2.1.1 hb ?_; conv => whnf) | (refine LitB.data ?_; conv => whnf) | (refine BoxB.own ?_; conv => whnf)))
        all_goals first
          | (refine ⟨hlt, ?_, [some 0], rfl, rfl, ⟨⟨rfl, rfl, rfl, .inl ⟨rfl, rowsT_ev e⟩⟩, trivial⟩, ⟨rfl, rfl, ⟨rfl, rfl, rfl⟩, rfl, rfl, rfl, trivial⟩⟩
             rw [goodTo_succ, hI]; unfold goodAt; rw [gx, hfit, gb]; simp_all; done)
          | (refine fin_bool (goodTo_no ?_ hlt).symm; unfold goodAt; rw [gx, hfit, gb]; simp_all; done)
      | succ j =>
        obtain ⟨a, ha⟩ : ∃ a, path[j]? = some a := ⟨_, List.getElem?_eq_getElem (by omega)⟩
        have ga : path.getD j 0 = a := by rw [List.getD_eq_getElem?_getD, ha]; rfl
        have hga : goodAt e bl path j = true := by rw [goodTo_succ, Bool.and_eq_true] at hI; exact hI.2
        have hfa : fitsB e a bl = true := by
          unfold goodAt at hga; rw [ga] at hga; simp only [Bool.and_eq_true] at hga; exact hga.1.1
        have hf3 : (0 ≤ a ∧ a < e.moves.length) ∧ (bl.length : Int) = e.moves.length := by simpa [fitsB] using hfa
        obtain ⟨u, hu⟩ : ∃ u, e.moves[a.toNat]? = some u := ⟨_, List.getElem?_eq_getElem (by omega)⟩
        have nx := a_next e hs bl a.toNat u hu (by omega)
        rw [Int.toNat_of_nonneg hf3.1.1] at nx
        have ct := a_SContains (pickFrom (nextIs e bl u.dst a.toNat) 0 e.moves) x (Nat.le_trans (length_pickFrom _ _ _) l1)
        rw [any_pick hf2.1.1 hv] at ct
        have hed : edgeB e a x = (decide (a.toNat < x.toNat) && decide (v.src = u.dst) && clearB e u.dst a.toNat x.toNat) := by unfold edgeB; rw [hu, hv]
        (repeat' (first | ((refine DecB.mk (fun h => ?_) (fun h => ?_)) <;> first | (exfalso; omega) | (conv => whnf)) | ((refine BoolB.mk (fun h => ?_) (fun h => ?_)) <;> first | (exact absurd h (by decide)) | (conv => whnf)) | (refine ⟨_, wrap_ok (by omega) (by omega), ?_⟩; conv => whnf) | (refine and_idx (by omega) (by omega) ?_; conv => whnf) | (refine reg_ok (by decide +kernel) ?_; conv => whnf) | (refine bar_ok (by decide +kernel) (by decide +kernel) ?_; conv => whnf) | (refine late_ok rfl rfl ?_; conv => whnf) | (refine src_ok rfl ?_; conv => whnf) | (refine .inl ⟨_, _, qcall_pure (f1) rfl rfl, ?_⟩; conv => whnf) | (refine .inl ⟨_, _, qcall_pure (nx) rfl rfl, ?_⟩; conv => whnf) | (refine .inl ⟨_, _, qcall_pure (ct) rfl rfl, ?_⟩; conv => whnf) | (refine ex_row hx ?_; conv => whnf) | (refine ex_rowI hf2.1.1 hb ?_; conv => whnf) | (refine ex_rowE (k := j) (by omega) ha ?_; conv => whnf) | (refine LitB.data ?_; conv => whnf) | (refine BoxB.own ?_; conv => whnf)))
        all_goals first
          | (refine ⟨hlt, ?_, [some 0], rfl, rfl, ⟨⟨rfl, rfl, rfl, .inl ⟨rfl, rowsT_ev e⟩⟩, trivial⟩, ⟨rfl, rfl, ⟨rfl, rfl, rfl⟩, rfl, rfl, rfl, trivial⟩⟩
             rw [goodTo_succ, hI]; unfold goodAt; rw [gx, hfit, gb, Nat.add_sub_cancel, ga, hed]; simp_all [nextIs]; done)
          | (refine fin_bool (goodTo_no ?_ hlt).symm; unfold goodAt; rw [gx, hfit, gb, Nat.add_sub_cancel, ga, hed]; simp_all [nextIs]; done)
  all_goals
    refine fin_bool ?_
    have hkl : k = path.length := by omega
    subst hkl
    unfold followsB
    rw [hI]
    simp
    try first | omega | exact List.eq_nil_of_length_eq_zero (by omega)
end Go.Proofs.Ytomfnfbijgjfeaa
/- The reference's Follows. -/
namespace Go.Proofs.Ytomfnfbijgjfeaa
open Go.RowKit
set_option linter.unusedVariables false
set_option linter.unusedSimpArgs false
set_option maxRecDepth 100000

end Go.Proofs.Ytomfnfbijgjfeaa
/- What a move can carry: the places and moves that can contain something of it, in plain terms. -/
namespace Go.Proofs.Ytomfnfbijgjfeaa
open Go.RowKit
set_option linter.unusedVariables false
set_option linter.unusedSimpArgs false

def flowStep (bl : List Bool) (i : Nat) (x : Move) (a : List Bool) : List Bool :=
  cond (a.getD x.src.toNat false) (cond x.all ((cond (bl.getD i true) a (a.set x.dst.toNat true)).set x.src.toNat false) (cond (bl.getD i true) a (a.set x.dst.toNat true))) a
/-- which places can contain something after k more moves -/
def atTo (e : Ev) (bl : List Bool) (m : Nat) (d : Nat) : Nat → List Bool
  | 0 => (List.replicate e.places.length false).set d true
  | k + 1 => match e.moves[m + 1 + k]? with
    | some x => flowStep bl (m + 1 + k) x (atTo e bl m d k)
    | none => atTo e bl m d k
def carB (e : Ev) (bl : List Bool) (m d : Nat) (i : Nat) (x : Move) : Bool := decide (m < i) && (atTo e bl m d (i - (m + 1))).getD x.src.toNat false && !(bl.getD i true)
def caTo (e : Ev) (bl : List Bool) (m d k : Nat) : List Bool := (List.range e.moves.length).map fun i => decide (i < m + 1 + k) && (match e.moves[i]? with | some x => carB e bl m d i x | none => false)
def loadsMoves (e : Ev) (bl : List Bool) (m d : Nat) : List Int := pickFrom (carB e bl m d) 0 e.moves
def loadsPlaces (e : Ev) (bl : List Bool) (m d : Nat) : List Int := pickFrom (fun _ b => b) 0 (atTo e bl m d (e.moves.length - (m + 1)))

theorem flowStep_len {bl : List Bool} {i : Nat} {x : Move} {a : List Bool} : (flowStep bl i x a).length = a.length := by
  unfold flowStep
  cases a.getD x.src.toNat false <;> cases x.all <;> cases bl.getD i true <;> simp
theorem atTo_len {e : Ev} {bl : List Bool} {m d : Nat} : ∀ k, (atTo e bl m d k).length = e.places.length
  | 0 => by simp [atTo]
  | k + 1 => by
    unfold atTo
    split
    · rw [flowStep_len, atTo_len k]
    · exact atTo_len k
theorem caTo_len {e : Ev} {bl : List Bool} {m d k : Nat} : (caTo e bl m d k).length = e.moves.length := by simp [caTo]
theorem atTo_succ {e : Ev} {bl : List Bool} {m d k : Nat} {x : Move} (h : e.moves[m + 1 + k]? = some x) : atTo e bl m d (k + 1) = flowStep bl (m + 1 + k) x (atTo e bl m d k) := by
  rw [atTo, h]
theorem caTo_zero {e : Ev} {bl : List Bool} {m d : Nat} : caTo e bl m d 0 = List.replicate e.moves.length false := by
  apply List.ext_getElem?
  intro i
  unfold caTo
  rw [List.getElem?_map]
  by_cases h : i < e.moves.length
  · rw [List.getElem?_range h, List.getElem?_replicate, if_pos h, Option.map_some, List.getElem?_eq_getElem h]
    simp only [carB]
    by_cases h2 : i < m + 1 + 0
    · simp [show ¬ m < i by omega]
    · simp [show ¬ i < m + 1 by omega]
  · rw [List.getElem?_eq_none (by simp; omega), List.getElem?_eq_none (by simp; omega)]; rfl
theorem carB_now {e : Ev} {bl : List Bool} {m d k : Nat} {x : Move} : carB e bl m d (m + 1 + k) x = ((atTo e bl m d k).getD x.src.toNat false && !(bl.getD (m + 1 + k) true)) := by
  unfold carB
  rw [show m + 1 + k - (m + 1) = k by omega]
  simp [show m < m + 1 + k by omega]
theorem caTo_succ {e : Ev} {bl : List Bool} {m d k : Nat} {x : Move} (h : e.moves[m + 1 + k]? = some x) : caTo e bl m d (k + 1) = cond (carB e bl m d (m + 1 + k) x) ((caTo e bl m d k).set (m + 1 + k) true) (caTo e bl m d k) := by
  have hlt := (List.getElem?_eq_some_iff.1 h).1
  apply List.ext_getElem?
  intro i
  have key : ∀ j, (caTo e bl m d j)[i]? = if i < e.moves.length then some (decide (i < m + 1 + j) && (match e.moves[i]? with | some x => carB e bl m d i x | none => false)) else none := fun j => by
    unfold caTo
    rw [List.getElem?_map]
    by_cases h : i < e.moves.length
    · rw [List.getElem?_range h, if_pos h]; rfl
    · rw [List.getElem?_eq_none (by simp; omega), if_neg h]; rfl
  by_cases hi : i = m + 1 + k
  · subst hi
    have e1 := key (k + 1)
    have e2 := key k
    rw [if_pos hlt, h] at e1 e2
    simp only [show decide (m + 1 + k < m + 1 + (k + 1)) = true by simp, show decide (m + 1 + k < m + 1 + k) = false by simp, Bool.true_and, Bool.false_and] at e1 e2
    rw [e1]
    cases hc : carB e bl m d (m + 1 + k) x with
    | true => rw [cond_true, List.getElem?_set_self (by rw [caTo_len]; exact hlt)]
    | false => rw [cond_false, e2]
  · have : (cond (carB e bl m d (m + 1 + k) x) ((caTo e bl m d k).set (m + 1 + k) true) (caTo e bl m d k))[i]? = (caTo e bl m d k)[i]? := by
      cases carB e bl m d (m + 1 + k) x
      · rfl
      · rw [cond_true, List.getElem?_set_ne (Ne.symm hi)]
    rw [this, key, key]
    have hd : decide (i < m + 1 + (k + 1)) = decide (i < m + 1 + k) := by
      have : (i < m + 1 + (k + 1)) ↔ (i < m + 1 + k) := by omega
      simp [this]
    rw [hd]
theorem pickFrom_bools {α : Type} (p : Nat → α → Bool) : ∀ (l : List α) (bs : List Bool) (n : Nat), bs.length = l.length → (∀ i x, l[i]? = some x → bs[i]? = some (p (n + i) x)) → pickFrom (fun _ b => b) n bs = pickFrom p n l
  | [], [], n, _, _ => rfl
  | x :: l, b :: bs, n, hl, h => by
    have h0 := h 0 x rfl
    simp at h0
    subst h0
    have ih := pickFrom_bools p l bs (n + 1) (by simpa using hl) (fun i y hy => by
      have := h (i + 1) y (by simpa using hy)
      rw [show n + 1 + i = n + (i + 1) by omega]
      simpa using this)
    simp only [pickFrom, ih]
  | [], _ :: _, n, hl, _ => by simp at hl
  | _ :: _, [], n, hl, _ => by simp at hl
theorem caTo_all {e : Ev} {bl : List Bool} {m d : Nat} (hm : m < e.moves.length) : pickFrom (fun _ b => b) 0 (caTo e bl m d (e.moves.length - (m + 1))) = loadsMoves e bl m d := by
  refine pickFrom_bools _ _ _ 0 (by rw [caTo_len]) fun i x hx => ?_
  have hlt := (List.getElem?_eq_some_iff.1 hx).1
  unfold caTo
  rw [List.getElem?_map, List.getElem?_range hlt, Option.map_some, hx]
  simp [show i < m + 1 + (e.moves.length - (m + 1)) by omega]
end Go.Proofs.Ytomfnfbijgjfeaa
/- Loads. -/
namespace Go.Proofs.Ytomfnfbijgjfeaa
open Go.RowKit
set_option linter.unusedVariables false
set_option linter.unusedSimpArgs false
set_option maxRecDepth 100000

theorem moveOk_ne {e : Ev} {m : Move} (h : moveOk e m = true) : m.src ≠ m.dst := by
  simp [moveOk] at h; exact h.1.1.1.1.1.2
theorem a_Loads (e : Ev) (hs : e.Sized) (h0 : check e = 0) (m : Nat) (x0 : Move) (bl : List Bool) (hm : e.moves[m]? = some x0) (hb : bl.length = e.moves.length) (hbm : bl.getD m true = false) :
    ACall Try.prog 34 [evS e, intS .i64 m, boolsS bl] [] (.tup [intsS (loadsMoves e bl m x0.dst.toNat), intsS (loadsPlaces e bl m x0.dst.toNat)]) [] := by
  have l1 := hs.s2
  have l0 := hs.s1
  have l2 : (e.moves.map Move.row).length = e.moves.length := by simp
  have l4 : (e.places.map Place.row).length = e.places.length := by simp
  have l3 : (bl.map boolRow).length = bl.length := by simp
  have hmlt := (List.getElem?_eq_some_iff.1 hm).1
  have f1 := a_fits e m bl
  have hfit : fitsB e m bl = true := by simp [fitsB]; omega
  rw [hfit] at f1
  have hbx : bl[m]? = some false := by
    obtain ⟨b, hb⟩ : ∃ b, bl[m]? = some b := ⟨_, List.getElem?_eq_getElem (by omega)⟩
    rw [List.getD_eq_getElem?_getD, hb] at hbm
    rw [hb]; exact congrArg some hbm
  have hd := moveOk_dst (check_move h0 (List.mem_of_getElem? hm))
  (refine acall_of tab_ok Try.func34 rfl (by decide) ?_; (conv => whnf); repeat (first | (refine LitB.data ?_; conv => whnf) | (refine BoxB.own ?_; conv => whnf)))
  (repeat' (first | ((refine DecB.mk (fun h => ?_) (fun h => ?_)) <;> first | (exfalso; omega) | (conv => whnf)) | ((refine BoolB.mk (fun h => ?_) (fun h => ?_)) <;> first | (exact absurd h (by decide)) | (conv => whnf)) | (refine ⟨_, wrap_ok (by omega) (by omega), ?_⟩; conv => whnf) | (refine and_idx (by omega) (by omega) ?_; conv => whnf) | (refine reg_ok (by decide +kernel) ?_; conv => whnf) | (refine bar_ok (by decide +kernel) (by decide +kernel) ?_; conv => whnf) | (refine late_ok rfl rfl ?_; conv => whnf) | (refine src_ok rfl ?_; conv => whnf) | (refine .inl ⟨_, _, qcall_pure (f1) rfl rfl, ?_⟩; conv => whnf) | (refine ex_row hbx ?_; conv => whnf) | (refine ex_row hm ?_; conv => whnf) | (refine mk_ok (by omega) (by omega) (by omega) (by decide) ?_; conv => whnf) | (refine ex_rep (by omega) ?_; conv => whnf) | (refine LitB.data ?_; conv => whnf) | (refine BoxB.own ?_; conv => whnf)))
  refine awp_weak ?_
  refine awp_for tab_ok (fun k => ([S.junk, S.junk, boolsS bl, S.c (C.ptr 0 0 0), S.junk, S.junk, S.junk, S.junk, ownB 1 (atTo e bl m x0.dst.toNat k), ownB 2 (caTo e bl m x0.dst.toNat k), intS .i64 ((m + 1 + k : Nat) : Int), S.junk, S.junk, S.junk, S.junk, S.junk, S.junk, S.junk, S.junk, S.junk, S.junk, S.junk, S.junk, S.junk, S.junk, S.junk, S.junk, S.junk, S.junk, S.junk, S.junk, S.junk, S.junk, S.junk, S.junk, S.junk, S.junk, S.junk, S.junk, S.junk, S.junk, S.junk, S.junk, S.junk, S.junk, S.junk, S.junk, S.junk, S.junk, S.junk, S.junk, S.junk, S.junk, S.junk, S.junk, S.junk, S.junk, S.junk, S.junk, S.junk, S.junk, S.junk, S.junk, S.junk, S.junk, S.junk, S.junk, S.junk, S.junk, S.junk, S.junk, S.junk, S.junk, S.junk, S.junk, S.junk, S.junk, S.junk, S.junk, S.junk, S.junk], [evB e, boolsB (atTo e bl m x0.dst.toNat k), boolsB (caTo e bl m x0.dst.toNat k)])) (e.moves.length - (m + 1)) (fun k => True) [some 0, some 1, some 2] trivial
    ⟨rfl, rfl, ⟨⟨rfl, rfl, rfl, .inl ⟨rfl, rowsT_ev e⟩⟩, entB_rows rfl rfl rfl ?_ rfl, entB_rows rfl rfl rfl ?_ rfl, trivial⟩, ⟨ent_t rfl, ⟨rfl, rfl, rfl⟩, ent_own rfl ?_, ent_own rfl ?_, ent_i rfl, trivial⟩⟩ ?_
  · simp [toC, atTo, newBlk, setRows, boolRow, constC, List.map_set]
  · simp [toC, caTo_zero, newBlk, boolRow, constC]
  · simp [atTo_len]
  · simp [caTo_len]
  intro k hk hI
  have hal : (atTo e bl m x0.dst.toNat k).length = e.places.length := atTo_len k
  have hcl : (caTo e bl m x0.dst.toNat k).length = e.moves.length := caTo_len
  conv => whnf
  (repeat' (first | ((refine DecB.mk (fun h => ?_) (fun h => ?_)) <;> first | (exfalso; omega) | (conv => whnf)) | ((refine BoolB.mk (fun h => ?_) (fun h => ?_)) <;> first | (exact absurd h (by decide)) | (conv => whnf)) | (refine ⟨_, wrap_ok (by omega) (by omega), ?_⟩; conv => whnf) | (refine and_idx (by omega) (by omega) ?_; conv => whnf) | (refine reg_ok (by decide +kernel) ?_; conv => whnf) | (refine bar_ok (by decide +kernel) (by decide +kernel) ?_; conv => whnf) | (refine late_ok rfl rfl ?_; conv => whnf) | (refine src_ok rfl ?_; conv => whnf) | (refine LitB.data ?_; conv => whnf) | (refine BoxB.own ?_; conv => whnf)))
  · have hlt : m + 1 + k < e.moves.length := by omega
    obtain ⟨x, hx⟩ : ∃ x, e.moves[m + 1 + k]? = some x := ⟨_, List.getElem?_eq_getElem hlt⟩
    obtain ⟨b, hbx⟩ : ∃ b, bl[m + 1 + k]? = some b := ⟨_, List.getElem?_eq_getElem (by omega)⟩
    have hmo := check_move h0 (List.mem_of_getElem? hx)
    have hsr := moveOk_src hmo
    have hdr := moveOk_dst hmo
    have hne := moveOk_ne hmo
    obtain ⟨a, ha⟩ : ∃ a, (atTo e bl m x0.dst.toNat k)[0 + x.src.toNat]? = some a := ⟨_, List.getElem?_eq_getElem (by omega)⟩
    obtain ⟨a2, ha2⟩ : ∃ a, (atTo e bl m x0.dst.toNat k)[0 + x.dst.toNat]? = some a := ⟨_, List.getElem?_eq_getElem (by omega)⟩
    obtain ⟨a3, ha3⟩ : ∃ a, (caTo e bl m x0.dst.toNat k)[0 + ((m + 1 + k : Nat) : Int).toNat]? = some a := ⟨_, List.getElem?_eq_getElem (by omega)⟩
    (repeat' (first | ((refine DecB.mk (fun h => ?_) (fun h => ?_)) <;> first | (exfalso; omega) | (conv => whnf)) | ((refine BoolB.mk (fun h => ?_) (fun h => ?_)) <;> first | (exact absurd h (by decide)) | (conv => whnf)) | (refine ⟨_, wrap_ok (by omega) (by omega), ?_⟩; conv => whnf) | (refine and_idx (by omega) (by omega) ?_; conv => whnf) | (refine reg_ok (by decide +kernel) ?_; conv => whnf) | (refine bar_ok (by decide +kernel) (by decide +kernel) ?_; conv => whnf) | (refine late_ok rfl rfl ?_; conv => whnf) | (refine src_ok rfl ?_; conv => whnf) | (refine .inl ⟨_, _, qcall_pure (2, 3, 4) rfl rfl, ?_⟩; conv => whnf) | (refine ex_row hx ?_; conv => whnf) | (refine ex_own ha ?_; conv => whnf) | (refine ex_own ha2 ?_; conv => whnf) | (refine ex_own ha3 ?_; conv => whnf) | (refine ex_row hbx ?_; conv => whnf) | (refine ex_setne (by omega) ha ?_; conv => whnf) | (refine bar_late [2, 3, 4] (by decide +kernel) (by decide +kernel) ?_; conv => whnf) | (refine LitB.data ?_; conv => whnf) | (refine BoxB.own ?_; conv => whnf)))
    all_goals
      have hs1 := atTo_succ (bl := bl) (d := x0.dst.toNat) hx
      have hc1 := caTo_succ (bl := bl) (d := x0.dst.toNat) hx
      have hgd : (atTo e bl m x0.dst.toNat k).getD x.src.toNat false = a := by rw [Nat.zero_add] at ha; rw [List.getD_eq_getElem?_getD, ha]; rfl
      have hgb : bl.getD (m + 1 + k) true = b := by rw [List.getD_eq_getElem?_getD, hbx]; rfl
      rw [carB_now, hgd, hgb] at hc1
      unfold flowStep at hs1
      rw [hgd, hgb] at hs1
      refine ⟨by omega, trivial, [some 0, some 1, some 2], rfl, rfl, ⟨⟨rfl, rfl, rfl, .inl ⟨rfl, rowsT_ev e⟩⟩, entB_rows rfl rfl rfl ?_ rfl, entB_rows rfl rfl rfl ?_ rfl, trivial⟩, ⟨rfl, ⟨rfl, rfl, rfl⟩, ent_own rfl ?_, ent_own rfl ?_, rfl, trivial⟩⟩
      · rw [hs1]; simp_all [toC, boolRow, List.map_set, setRows]
      · have hmk : ((m : Int) + 1 + (k : Int)).toNat = m + 1 + k := by omega
        rw [hc1]; simp_all [toC, boolRow, List.map_set, setRows, hmk]
      · rw [atTo_len, atTo_len]
      · rw [caTo_len, caTo_len]
  · have hkk : k = e.moves.length - (m + 1) := by omega
    refine .inr ⟨[], [S.junk, S.junk, boolsS bl, S.junk, S.junk, S.junk, S.junk, S.junk, boolsS (atTo e bl m x0.dst.toNat k), boolsS (caTo e bl m x0.dst.toNat k), S.junk, S.junk, S.junk, S.junk, S.junk, S.junk, S.junk, S.junk, S.junk, S.junk, S.junk, S.junk, S.junk, S.junk, S.junk, S.junk, S.junk, S.junk, S.junk, S.junk, S.junk, S.junk, S.junk, S.junk, S.junk, S.junk, S.junk, S.junk, S.junk, S.junk, S.junk, S.junk, S.junk, S.junk, S.junk, S.junk, S.junk, S.junk, S.junk, S.junk, S.junk, S.junk, S.junk, S.junk, S.junk, S.junk, S.junk, S.junk, S.junk, S.junk, S.junk, S.junk, S.junk, S.junk, S.junk, S.junk, S.junk, S.junk, S.junk, S.junk, S.junk, S.junk, S.junk, S.junk, S.junk, S.junk, S.junk, S.junk, S.junk, S.junk, S.junk], [], ⟨rfl, rfl, trivial, ⟨rfl, ent_view rfl rfl (by intro h; cases h) rfl rfl (by simp), ent_view rfl rfl (by intro h; cases h) rfl rfl (by simp), trivial⟩⟩, ?_⟩
    conv => whnf
    (repeat' (first | ((refine DecB.mk (fun h => ?_) (fun h => ?_)) <;> first | (exfalso; omega) | (conv => whnf)) | ((refine BoolB.mk (fun h => ?_) (fun h => ?_)) <;> first | (exact absurd h (by decide)) | (conv => whnf)) | (refine ⟨_, wrap_ok (by omega) (by omega), ?_⟩; conv => whnf) | (refine and_idx (by omega) (by omega) ?_; conv => whnf) | (refine reg_ok (by decide +kernel) ?_; conv => whnf) | (refine bar_ok (by decide +kernel) (by decide +kernel) ?_; conv => whnf) | (refine late_ok rfl rfl ?_; conv => whnf) | (refine src_ok rfl ?_; conv => whnf) | (refine .inl ⟨_, _, qcall_pure (a_indices _ (by omega)) rfl rfl, ?_⟩; conv => whnf) | (refine LitB.data ?_; conv => whnf) | (refine BoxB.own ?_; conv => whnf)))
    refine fin_t ?_
    rw [hkk, caTo_all hmlt]
    exact ⟨rfl, rfl, trivial⟩

def loads (e : Ev) (m : Int) (bl : List Bool) : List Int × List Int :=
  if fitsB e m bl = true ∧ bl.getD m.toNat true = false then match e.moves[m.toNat]? with
    | some x => (loadsMoves e bl m.toNat x.dst.toNat, loadsPlaces e bl m.toNat x.dst.toNat)
    | none => ([], [])
  else ([], [])
theorem loads_no {e : Ev} {m : Int} {bl : List Bool} (h : fitsB e m bl = true → bl.getD m.toNat true = true) : loads e m bl = ([], []) := by
  unfold loads
  rw [if_neg]
  rintro ⟨h1, h2⟩
  rw [h h1] at h2; cases h2
theorem loads_yes {e : Ev} {m : Nat} {bl : List Bool} {x : Move} (h1 : fitsB e m bl = true) (h2 : bl.getD m true = false) (hx : e.moves[m]? = some x) : loads e m bl = (loadsMoves e bl m x.dst.toNat, loadsPlaces e bl m x.dst.toNat) := by
  unfold loads
  rw [if_pos ⟨h1, h2⟩]
  simp [hx]
theorem fits_iff {e : Ev} {m : Int} {bl : List Bool} : fitsB e m bl = true ↔ (0 ≤ m ∧ m < e.moves.length) ∧ (bl.length : Int) = e.moves.length := by simp [fitsB]
abbrev pairS (p : List Int × List Int) : S := .tup [intsS p.1, intsS p.2]
theorem a_LoadsAll (e : Ev) (hs : e.Sized) (h0 : check e = 0) (m : Int) (bl : List Bool) : ACall Try.prog 34 [evS e, intS .i64 m, boolsS bl] [] (pairS (loads e m bl)) [] := by
  have f1 := a_fits e m bl
  cases hfit : fitsB e m bl with
  | false =>
    rw [hfit] at f1
    rw [loads_no (fun h => by rw [hfit] at h; cases h)]
    (refine acall_of tab_ok Try.func34 rfl (by decide) ?_; (conv => whnf); repeat (first | (refine LitB.data ?_; conv => whnf) | (refine BoxB.own ?_; conv => whnf)))
    (repeat' (first | ((refine DecB.mk (fun h => ?_) (fun h => ?_)) <;> first | (exfalso; omega) | (conv => whnf)) | ((refine BoolB.mk (fun h => ?_) (fun h => ?_)) <;> first | (exact absurd h (by decide)) | (conv => whnf)) | (refine ⟨_, wrap_ok (by omega) (by omega), ?_⟩; conv => whnf) | (refine and_idx (by omega) (by omega) ?_; conv => whnf) | (refine reg_ok (by decide +kernel) ?_; conv => whnf) | (refine bar_ok (by decide +kernel) (by decide +kernel) ?_; conv => whnf) | (refine late_ok rfl rfl ?_; conv => whnf) | (refine src_ok rfl ?_; conv => whnf) | (refine .inl ⟨_, _, qcall_pure (f1) rfl rfl, ?_⟩; conv => whnf) | (refine LitB.data ?_; conv => whnf) | (refine BoxB.own ?_; conv => whnf)))
    all_goals first | (exfalso; simp_all; done) | exact fin_t ⟨rfl, rfl, trivial⟩
  | true =>
    obtain ⟨⟨h1, h2⟩, h3⟩ := fits_iff.1 hfit
    obtain ⟨n, rfl⟩ := Int.eq_ofNat_of_zero_le h1
    obtain ⟨x, hx⟩ : ∃ x, e.moves[n]? = some x := ⟨_, List.getElem?_eq_getElem (by omega)⟩
    obtain ⟨b, hb⟩ : ∃ b, bl[n]? = some b := ⟨_, List.getElem?_eq_getElem (by omega)⟩
    have hg : bl.getD n true = b := by rw [List.getD_eq_getElem?_getD, hb]; rfl
    cases b with
    | false =>
      rw [loads_yes hfit hg hx]
      exact a_Loads e hs h0 n x bl hx (by omega) hg
    | true =>
      rw [loads_no (fun _ => by simpa using hg)]
      rw [hfit] at f1
      (refine acall_of tab_ok Try.func34 rfl (by decide) ?_; (conv => whnf); repeat (first | (refine LitB.data ?_; conv => whnf) | (refine BoxB.own ?_; conv => whnf)))
      (repeat' (first | ((refine DecB.mk (fun h => ?_) (fun h => ?_)) <;> first | (exfalso; omega) | (conv => whnf)) | ((refine BoolB.mk (fun h => ?_) (fun h => ?_)) <;> first | (exact absurd h (by decide)) | (conv => whnf)) | (refine ⟨_, wrap_ok (by omega) (by omega), ?_⟩; conv => whnf) | (refine and_idx (by omega) (by omega) ?_; conv => whnf) | (refine reg_ok (by decide +kernel) ?_; conv => whnf) | (refine bar_ok (by decide +kernel) (by decide +kernel) ?_; conv => whnf) | (refine late_ok rfl rfl ?_; conv => whnf) | (refine src_ok rfl ?_; conv => whnf) | (refine .inl ⟨_, _, qcall_pure (f1) rfl rfl, ?_⟩; conv => whnf) | (refine ex_row hb ?_; conv => whnf) | (refine LitB.data ?_; conv => whnf) | (refine BoxB.own ?_; conv => whnf)))
      all_goals first | (exfalso; simp_all; done) | exact fin_t ⟨rfl, rfl, trivial⟩
end Go.Proofs.Ytomfnfbijgjfeaa
/- The reference's Loads. -/
namespace Go.Proofs.Ytomfnfbijgjfeaa
open Go.RowKit
set_option linter.unusedVariables false
set_option linter.unusedSimpArgs false
set_option maxRecDepth 100000

end Go.Proofs.Ytomfnfbijgjfeaa
/- math/bits.Mul at 1; slices.Repeat of one element; slices.Reverse. -/
namespace Go.Proofs.Ytomfnfbijgjfeaa
open Go.RowKit
set_option linter.unusedVariables false
set_option linter.unusedSimpArgs false
set_option maxRecDepth 100000

theorem and32 (a : Int) : IsBits .and .u64 a 4294967295 (a % 4294967296) := (and_mask_u64 (a := a) 32 (by decide)).symm
theorem shr32 {a : Int} (h1 : 0 ≤ a) (h2 : a < 4294967296) : IsShr .u64 a 32 0 := by
  show 0 = a.fdiv 4294967296
  rw [Int.fdiv_eq_ediv_of_nonneg _ (by decide)]
  omega
theorem a_Mul64 (y : Int) (h0 : 0 ≤ y) (h1 : y ≤ 1000000) : ACall Try.prog 135 [intS .u64 1, intS .u64 y] [] (.tup [intS .u64 0, intS .u64 y]) [] := by
  (refine acall_of tab_ok Try.func135 rfl (by decide) ?_; (conv => whnf); repeat (first | (refine LitB.data ?_; conv => whnf) | (refine BoxB.own ?_; conv => whnf)))
  (repeat' (first | ((refine DecB.mk (fun h => ?_) (fun h => ?_)) <;> first | (exfalso; omega) | (conv => whnf)) | ((refine BoolB.mk (fun h => ?_) (fun h => ?_)) <;> first | (exact absurd h (by decide)) | (conv => whnf)) | (refine ⟨_, wrap_ok (by omega) (by omega), ?_⟩; conv => whnf) | (refine and_idx (by omega) (by omega) ?_; conv => whnf) | (refine reg_ok (by decide +kernel) ?_; conv => whnf) | (refine bar_ok (by decide +kernel) (by decide +kernel) ?_; conv => whnf) | (refine late_ok rfl rfl ?_; conv => whnf) | (refine src_ok rfl ?_; conv => whnf) | (refine ⟨_, and32 _, ?_⟩; conv => whnf) | (refine ⟨_, wrapu_ok (by omega) (by omega), ?_⟩; conv => whnf) | (refine ⟨by decide, _, shr32 (by omega) (by omega), ?_⟩; conv => whnf) | (refine LitB.data ?_; conv => whnf) | (refine BoxB.own ?_; conv => whnf)))
  exact fin_t ⟨ent_i (by omega), ent_i (by omega), trivial⟩
theorem a_Mul (y : Int) (h0 : 0 ≤ y) (h1 : y ≤ 1000000) : ACall Try.prog 122 [intS .u64 1, intS .u64 y] [] (.tup [intS .u64 0, intS .u64 y]) [] := by
  (refine acall_of tab_ok Try.func122 rfl (by decide) ?_; (conv => whnf); repeat (first | (refine LitB.data ?_; conv => whnf) | (refine BoxB.own ?_; conv => whnf)))
  (repeat' (first | ((refine DecB.mk (fun h => ?_) (fun h => ?_)) <;> first | (exfalso; omega) | (conv => whnf)) | ((refine BoolB.mk (fun h => ?_) (fun h => ?_)) <;> first | (exact absurd h (by decide)) | (conv => whnf)) | (refine ⟨_, wrap_ok (by omega) (by omega), ?_⟩; conv => whnf) | (refine and_idx (by omega) (by omega) ?_; conv => whnf) | (refine reg_ok (by decide +kernel) ?_; conv => whnf) | (refine bar_ok (by decide +kernel) (by decide +kernel) ?_; conv => whnf) | (refine late_ok rfl rfl ?_; conv => whnf) | (refine src_ok rfl ?_; conv => whnf) | (refine .inl ⟨_, _, qcall_pure (a_Mul64 _ (by omega) (by omega)) rfl rfl, ?_⟩; conv => whnf) | (refine ⟨_, wrapu_ok (by omega) (by omega), ?_⟩; conv => whnf) | (refine LitB.data ?_; conv => whnf) | (refine BoxB.own ?_; conv => whnf)))
  exact fin_t ⟨rfl, rfl, trivial⟩

def repTo (x : Int) (n k : Nat) : List Int := List.replicate k x ++ List.replicate (n - k) 0
theorem repTo_len {x : Int} {n k : Nat} (h : k ≤ n) : (repTo x n k).length = n := by simp [repTo]; omega
theorem repTo_copy {x : Int} {n k : Nat} (h : k ≤ n) : copyRows k (n - k) (toC ((repTo x n k).map intRow)) ((toC ((repTo x n k).map intRow)).take k) = toC ((repTo x n (k + min k (n - k))).map intRow) := by
  have e1 : (toC ((repTo x n k).map intRow)).take k = toC ((List.replicate k x).map intRow) := by
    unfold repTo toC
    simp [List.map_append, List.take_append]
  have e2 : (toC ((repTo x n k).map intRow)).drop (k + min k (n - k)) = toC ((List.replicate (n - (k + min k (n - k))) 0).map intRow) := by
    unfold repTo toC
    simp only [List.map_append, List.drop_append, List.map_replicate, List.drop_replicate, List.length_replicate]
    rw [show k - (k + min k (n - k)) = 0 by omega, show k + min k (n - k) - k = min k (n - k) by omega, show n - k - min k (n - k) = n - (k + min k (n - k)) by omega]
    simp
  unfold copyRows
  rw [e1]
  have e3 : ((toC ((List.replicate k x).map intRow)).take (n - k)) = toC ((List.replicate (min k (n - k)) x).map intRow) := by
    simp [toC, Nat.min_comm]
  rw [e3]
  have e4 : (toC ((List.replicate (min k (n - k)) x).map intRow)).length = min k (n - k) := by simp [toC]
  rw [e4, e2]
  unfold repTo toC
  simp only [List.map_append, List.map_replicate]
  rw [← List.append_assoc]
  congr 1
  rw [List.replicate_append_replicate]
theorem repTo_first {x : Int} {n : Nat} (h : 1 ≤ n) : copyRows 0 n (List.replicate n [C.t (ti 0)]) (toC [[ti x]]) = toC ((repTo x n 1).map intRow) := by
  obtain ⟨m, rfl⟩ : ∃ m, n = m + 1 := ⟨n - 1, by omega⟩
  unfold copyRows repTo toC
  simp [intRow, List.replicate_succ]
theorem a_Repeat (x n : Int) (h0 : 1 ≤ n) (h1 : n ≤ 1000000) : ACall Try.prog 103 [.c (.t (.sl 1 .full [[ti x]])), intS .i64 n] [] (ownI 0 (List.replicate n.toNat x)) [intsB (List.replicate n.toNat x)] := by
  (refine acall_of tab_ok Try.func103 rfl (by decide) ?_; (conv => whnf); repeat (first | (refine LitB.data ?_; conv => whnf) | (refine BoxB.own ?_; conv => whnf)))
  (repeat' (first | ((refine DecB.mk (fun h => ?_) (fun h => ?_)) <;> first | (exfalso; omega) | (conv => whnf)) | ((refine BoolB.mk (fun h => ?_) (fun h => ?_)) <;> first | (exact absurd h (by decide)) | (conv => whnf)) | (refine ⟨_, wrap_ok (by omega) (by omega), ?_⟩; conv => whnf) | (refine and_idx (by omega) (by omega) ?_; conv => whnf) | (refine reg_ok (by decide +kernel) ?_; conv => whnf) | (refine bar_ok (by decide +kernel) (by decide +kernel) ?_; conv => whnf) | (refine late_ok rfl rfl ?_; conv => whnf) | (refine src_ok rfl ?_; conv => whnf) | (refine .inl ⟨_, _, qcall_pure (a_Mul _ (by omega) (by omega)) rfl rfl, ?_⟩; conv => whnf) | (refine ⟨1, wrapu_ok (x := 1) (by decide) (by decide), ?_⟩; conv => whnf) | (refine ⟨_, wrapu_ok (by omega) (by omega), ?_⟩; conv => whnf) | (refine mk_ok (by omega) (by omega) (by omega) (by decide) ?_; conv => whnf) | (refine LitB.data ?_; conv => whnf) | (refine BoxB.own ?_; conv => whnf)))
  refine copy_ok (by simp [newBlk]) ?_
  conv => whnf
  obtain ⟨N, rfl⟩ : ∃ N : Nat, n = N := Int.eq_ofNat_of_zero_le (by omega)
  refine awp_while tab_ok (fun k : Nat => ([S.junk, S.junk, S.junk, S.junk, S.junk, S.junk, S.junk, S.c (C.own 0 0 N true), intS .i64 k, S.junk, S.junk, S.junk, S.junk, S.junk, S.junk, S.junk, S.junk, S.junk, S.junk, S.junk, S.junk, S.junk, S.junk, S.junk, S.junk, S.junk, S.junk, S.junk, S.junk, S.junk, S.junk, S.junk, S.junk, S.junk, S.junk, S.junk, S.junk, S.junk, S.junk, S.junk, S.junk, S.junk, S.junk, S.junk, S.junk, S.junk, S.junk, S.junk], [intsB (repTo x N k)])) (fun k => 1 ≤ k ∧ k ≤ N) (fun k => N - k) 1 [some 0] ⟨by omega, by omega⟩
    ⟨rfl, rfl, ⟨entB_rows rfl rfl rfl ?_ rfl, trivial⟩, ⟨⟨rfl, rfl, rfl, fun h => h⟩, ent_i ?_, trivial⟩⟩ ?_
  · exact repTo_first (x := x) (n := N) (by omega)
  · simp [toC]; omega
  rintro k ⟨hk1, hk2⟩
  have hl := repTo_len (x := x) hk2
  conv => whnf
  (repeat' (first | ((refine DecB.mk (fun h => ?_) (fun h => ?_)) <;> first | (exfalso; omega) | (conv => whnf)) | ((refine BoolB.mk (fun h => ?_) (fun h => ?_)) <;> first | (exact absurd h (by decide)) | (conv => whnf)) | (refine ⟨_, wrap_ok (by omega) (by omega), ?_⟩; conv => whnf) | (refine and_idx (by omega) (by omega) ?_; conv => whnf) | (refine reg_ok (by decide +kernel) ?_; conv => whnf) | (refine bar_ok (by decide +kernel) (by decide +kernel) ?_; conv => whnf) | (refine late_ok rfl rfl ?_; conv => whnf) | (refine src_ok rfl ?_; conv => whnf) | (refine .inl ⟨_, _, qcall_pure (toC, hl) rfl rfl, ?_⟩; conv => whnf) | (refine .inl ⟨_, _, qcall_pure (0) rfl rfl, ?_⟩; conv => whnf) | (refine .inl ⟨_, _, qcall_pure (toC, hl) rfl rfl, ?_⟩; conv => whnf) | (refine sl_ok (by omega) (by omega) (by omega) ?_; conv => whnf) | (refine copy_ok (by simp [toC, hl] <;> omega) ?_; conv => whnf) | (refine bar_late [0] (by decide +kernel) (by decide +kernel) ?_; conv => whnf) | (refine ⟨((k + min k (N - k) : Nat) : Int), wrap_eq (by simp [toC, hl]; omega) (by omega) (by omega), ?_⟩; conv => whnf) | (refine LitB.data ?_; conv => whnf) | (refine BoxB.own ?_; conv => whnf)))
  · refine ⟨[some 0], k + min k (N - k), ⟨rfl, rfl, ⟨entB_rows rfl rfl rfl ?_ rfl, trivial⟩, ⟨⟨rfl, rfl, rfl, fun h => h⟩, rfl, trivial⟩⟩, ⟨by omega, by omega⟩, ?_⟩
    · have := repTo_copy (x := x) hk2
      refine Eq.trans ?_ this
      show copyRows (0 + (k : Int).toNat) ((N : Int) - k).toNat _ (((toC ((repTo x N k).map intRow)).drop (0 + (0 : Int).toNat)).take ((k : Int) - 0).toNat) = _
      rw [show 0 + (k : Int).toNat = k by omega, show ((N : Int) - k).toNat = N - k by omega, show 0 + (0 : Int).toNat = 0 by omega, show ((k : Int) - 0).toNat = k by omega, List.drop_zero]
    · show N - (k + min k (N - k)) < N - k
      omega
  · have hkN : k = N := by omega
    subst hkN
    have e : repTo x k k = List.replicate k x := by simp [repTo]
    refine ⟨⟨[some 0], rfl, rfl, ⟨entB_rows rfl rfl rfl rfl ?_, trivial⟩, ⟨rfl, rfl, by simp, fun h => h⟩⟩⟩
    rw [e]; rfl
/-- k elements from each end are swapped -/
def revTo (l : List Int) (k : Nat) : List Int := (List.range l.length).map fun p => if p < k ∨ l.length - 1 - p < k then l.getD (l.length - 1 - p) 0 else l.getD p 0
theorem revTo_len {l : List Int} {k : Nat} : (revTo l k).length = l.length := by simp [revTo]
theorem revTo_get {l : List Int} {k p : Nat} (h : p < l.length) : (revTo l k)[p]? = some (if p < k ∨ l.length - 1 - p < k then l.getD (l.length - 1 - p) 0 else l.getD p 0) := by
  unfold revTo
  rw [List.getElem?_map, List.getElem?_range h]; rfl
theorem revTo_zero {l : List Int} : revTo l 0 = l := by
  apply List.ext_getElem?
  intro p
  by_cases h : p < l.length
  · rw [revTo_get h, if_neg (by omega), List.getD_eq_getElem?_getD, List.getElem?_eq_getElem h]; rfl
  · rw [List.getElem?_eq_none (by rw [revTo_len]; omega), List.getElem?_eq_none (by omega)]
theorem revTo_end {l : List Int} {k : Nat} (h : l.length ≤ 2 * k + 1) : revTo l k = l.reverse := by
  apply List.ext_getElem?
  intro p
  by_cases hp : p < l.length
  · rw [revTo_get hp, List.getElem?_reverse hp]
    by_cases hc : p < k ∨ l.length - 1 - p < k
    · rw [if_pos hc, List.getD_eq_getElem?_getD, List.getElem?_eq_getElem (by omega)]; rfl
    · rw [if_neg hc, List.getD_eq_getElem?_getD, show l.length - 1 - p = p by omega, List.getElem?_eq_getElem hp]; rfl
  · rw [List.getElem?_eq_none (by rw [revTo_len]; omega), List.getElem?_eq_none (by simp; omega)]
theorem revTo_succ {l : List Int} {k : Nat} {a b : Int} (h : 2 * k + 1 < l.length) (ha : (revTo l k)[k]? = some a) (hb : (revTo l k)[l.length - 1 - k]? = some b) : ((revTo l k).set k b).set (l.length - 1 - k) a = revTo l (k + 1) := by
  apply List.ext_getElem?
  intro p
  by_cases hp : p < l.length
  · rw [revTo_get (by omega), if_neg (by omega)] at ha
    rw [revTo_get (by omega), if_neg (by omega)] at hb
    injection ha with ha
    injection hb with hb
    rw [revTo_get hp]
    by_cases h1 : p = l.length - 1 - k
    · subst h1
      rw [List.getElem?_set_self (by simp [revTo_len]; omega), if_pos (by omega), ← ha]
      congr 2; omega
    · rw [List.getElem?_set_ne (by omega)]
      by_cases h2 : p = k
      · subst h2
        rw [List.getElem?_set_self (by rw [revTo_len]; omega), if_pos (by omega), ← hb]
      · rw [List.getElem?_set_ne (by omega), revTo_get hp]
        have : (p < k ∨ l.length - 1 - p < k) ↔ (p < k + 1 ∨ l.length - 1 - p < k + 1) := by omega
        simp only [this]
  · rw [List.getElem?_eq_none (by simp [revTo_len]; omega), List.getElem?_eq_none (by rw [revTo_len]; omega)]
theorem a_Reverse (l : List Int) (h1 : l.length ≤ 1000000) : ACall Try.prog 105 [ownI 0 l] [intsB l] (.tup []) [intsB l.reverse] := by
  (refine acall_of tab_ok Try.func105 rfl (by decide) ?_; (conv => whnf); repeat (first | (refine LitB.data ?_; conv => whnf) | (refine BoxB.own ?_; conv => whnf)))
  (repeat' (first | ((refine DecB.mk (fun h => ?_) (fun h => ?_)) <;> first | (exfalso; omega) | (conv => whnf)) | ((refine BoolB.mk (fun h => ?_) (fun h => ?_)) <;> first | (exact absurd h (by decide)) | (conv => whnf)) | (refine ⟨_, wrap_ok (by omega) (by omega), ?_⟩; conv => whnf) | (refine and_idx (by omega) (by omega) ?_; conv => whnf) | (refine reg_ok (by decide +kernel) ?_; conv => whnf) | (refine bar_ok (by decide +kernel) (by decide +kernel) ?_; conv => whnf) | (refine late_ok rfl rfl ?_; conv => whnf) | (refine src_ok rfl ?_; conv => whnf) | (refine LitB.data ?_; conv => whnf) | (refine BoxB.own ?_; conv => whnf)))
  refine awp_while tab_ok (fun k : Nat => ([S.c (C.own 0 0 l.length true), S.junk, intS .i64 k, intS .i64 ((l.length : Int) - 1 - k), S.junk, S.junk, S.junk, S.junk, S.junk, S.junk, S.junk, S.junk, S.junk, S.junk, S.junk, S.junk, S.junk, S.junk, S.junk, S.junk, S.junk, S.junk, S.junk, S.junk, S.junk, S.junk, S.junk, S.junk], [intsB (revTo l k)])) (fun k => 2 * k ≤ l.length) (fun k => l.length - k) 0 [some 0] (by omega)
    ⟨rfl, rfl, ⟨entB_rows rfl rfl rfl ?_ rfl, trivial⟩, ⟨⟨rfl, rfl, rfl, fun h => h⟩, ent_i rfl, ent_i (by omega), trivial⟩⟩ ?_
  · rw [revTo_zero]
  intro k hk
  have hl := revTo_len (l := l) (k := k)
  conv => whnf
  (repeat' (first | ((refine DecB.mk (fun h => ?_) (fun h => ?_)) <;> first | (exfalso; omega) | (conv => whnf)) | ((refine BoolB.mk (fun h => ?_) (fun h => ?_)) <;> first | (exact absurd h (by decide)) | (conv => whnf)) | (refine ⟨_, wrap_ok (by omega) (by omega), ?_⟩; conv => whnf) | (refine and_idx (by omega) (by omega) ?_; conv => whnf) | (refine reg_ok (by decide +kernel) ?_; conv => whnf) | (refine bar_ok (by decide +kernel) (by decide +kernel) ?_; conv => whnf) | (refine late_ok rfl rfl ?_; conv => whnf) | (refine src_ok rfl ?_; conv => whnf) | (refine LitB.data ?_; conv => whnf) | (refine BoxB.own ?_; conv => whnf)))
  · obtain ⟨a, ha⟩ : ∃ a, (revTo l k)[0 + (k : Int).toNat]? = some a := ⟨_, List.getElem?_eq_getElem (by omega)⟩
    obtain ⟨b, hb⟩ : ∃ a, (revTo l k)[0 + ((l.length : Int) - 1 - k).toNat]? = some a := ⟨_, List.getElem?_eq_getElem (by omega)⟩
    (repeat' (first | ((refine DecB.mk (fun h => ?_) (fun h => ?_)) <;> first | (exfalso; omega) | (conv => whnf)) | ((refine BoolB.mk (fun h => ?_) (fun h => ?_)) <;> first | (exact absurd h (by decide)) | (conv => whnf)) | (refine ⟨_, wrap_ok (by omega) (by omega), ?_⟩; conv => whnf) | (refine and_idx (by omega) (by omega) ?_; conv => whnf) | (refine reg_ok (by decide +kernel) ?_; conv => whnf) | (refine bar_ok (by decide +kernel) (by decide +kernel) ?_; conv => whnf) | (refine late_ok rfl rfl ?_; conv => whnf) | (refine src_ok rfl ?_; conv => whnf) | (refine .inl ⟨_, _, qcall_pure (2, 3) rfl rfl, ?_⟩; conv => whnf) | (refine ex_own ha ?_; conv => whnf) | (refine ex_own hb ?_; conv => whnf) | (refine ex_setne (by omega) hb ?_; conv => whnf) | (refine bar_late [2, 3] (by decide +kernel) (by decide +kernel) ?_; conv => whnf) | (refine LitB.data ?_; conv => whnf) | (refine BoxB.own ?_; conv => whnf)))
    refine ⟨[some 0], k + 1, ⟨rfl, rfl, ⟨entB_rows rfl rfl rfl ?_ rfl, trivial⟩, ⟨⟨rfl, rfl, rfl, fun h => h⟩, rfl, ent_i (by omega), trivial⟩⟩, by omega, by omega⟩
    have ha' : (revTo l k)[k]? = some a := by rw [← ha]; congr 1; omega
    have hb' : (revTo l k)[l.length - 1 - k]? = some b := by rw [← hb]; congr 1; omega
    have e := revTo_succ (by omega) ha' hb'
    show ((toC ((revTo l k).map intRow)).set (0 + (k : Int).toNat) [C.t (ti b)]).set (0 + ((l.length : Int) - 1 - k).toNat) [C.t (ti a)] = _
    rw [show 0 + (k : Int).toNat = k by omega, show 0 + ((l.length : Int) - 1 - k).toNat = l.length - 1 - k by omega, ← e]
    simp [toC, intRow, List.map_set]
  · refine ⟨⟨[some 0], rfl, rfl, ⟨entB_rows rfl rfl rfl rfl ?_, trivial⟩, trivial⟩⟩
    rw [revTo_end (by omega)]
end Go.Proofs.Ytomfnfbijgjfeaa
/- The search for a shortest path, as a function; what stays true in it. -/
namespace Go.Proofs.Ytomfnfbijgjfeaa
open Go.RowKit
set_option linter.unusedVariables false
set_option linter.unusedSimpArgs false

def nextI (e : Ev) (bl : List Bool) (m : Int) : List Int := match e.moves[m.toNat]? with
  | some x => pickFrom (nextIs e bl x.dst m.toNat) 0 e.moves
  | none => []
structure BQ where
  bef : List Int
  que : List Int
def visitK (m : Int) (s : BQ) (k : Int) : BQ := if s.bef.getD k.toNat 0 = -1 then ⟨s.bef.set k.toNat m, s.que ++ [k]⟩ else s
def visitM (e : Ev) (bl : List Bool) (s : BQ) (m : Int) : BQ := (nextI e bl m).foldl (visitK m) s
def roundQ (e : Ev) (bl : List Bool) (s : BQ) (b : Nat) : BQ := (s.que.drop b).foldl (visitM e bl) s
def bfsGo (e : Ev) (bl : List Bool) (t : Int) : Nat → BQ → Nat → BQ
  | 0, s, _ => s
  | f + 1, s, b => if b < s.que.length ∧ s.bef.getD t.toNat 0 = -1 then bfsGo e bl t f (roundQ e bl s b) s.que.length else s
def startQ (e : Ev) (fr : Int) : BQ := ⟨(List.replicate e.moves.length (-1)).set fr.toNat fr, [fr]⟩
def backGo (bef : List Int) (fr : Int) : Nat → Int → List Int
  | 0, v => [v]
  | f + 1, v => if v = fr then [v] else v :: backGo bef fr f (bef.getD v.toNat 0)
def foundQ (e : Ev) (bl : List Bool) (fr t : Int) : BQ := bfsGo e bl t (e.moves.length + 1) (startQ e fr) 0
def pathF (e : Ev) (bl : List Bool) (fr t : Int) : List Int :=
  if fitsB e fr bl = true ∧ fitsB e t bl = true ∧ bl.getD fr.toNat true = false then
    if (foundQ e bl fr t).bef.getD t.toNat 0 = -1 then [] else (backGo (foundQ e bl fr t).bef fr (t.toNat + 1) t).reverse
  else []

/-- what stays true in the search -/
structure GoodQ (n : Nat) (fr : Int) (s : BQ) : Prop where
  len : s.bef.length = n
  cnt : s.que.length + s.bef.countP (fun x => decide (x = -1)) = n
  que : ∀ v ∈ s.que, 0 ≤ v ∧ v.toNat < n ∧ fr ≤ v ∧ s.bef.getD v.toNat 0 ≠ -1
  bef : ∀ k, k < n → s.bef.getD k 0 ≠ -1 → ((k : Int) = fr ∧ s.bef.getD k 0 = fr) ∨ (0 ≤ s.bef.getD k 0 ∧ s.bef.getD k 0 < k ∧ s.bef.getD (s.bef.getD k 0).toNat 0 ≠ -1 ∧ (k : Int) ≠ fr)

theorem count_set {l : List Int} {i : Nat} {v : Int} (h : l.getD i 0 = -1) (hv : v ≠ -1) : (l.set i v).countP (fun x => decide (x = -1)) + 1 = l.countP (fun x => decide (x = -1)) := by
  induction l generalizing i with
  | nil => simp at h
  | cons x l ih =>
    cases i with
    | zero =>
      simp at h
      subst h
      simp [List.countP_cons, hv]
    | succ i =>
      have := ih (i := i) (by simpa using h)
      simp only [List.set_cons_succ, List.countP_cons]
      omega
theorem getD_set_eq {l : List Int} {i j : Nat} {v : Int} (hi : i < l.length) : (l.set i v).getD j 0 = if j = i then v else l.getD j 0 := by
  rw [List.getD_eq_getElem?_getD, List.getD_eq_getElem?_getD]
  by_cases h : j = i
  · subst h; rw [List.getElem?_set_self hi, if_pos rfl]; rfl
  · rw [List.getElem?_set_ne (Ne.symm h), if_neg h]
theorem nextI_mem {e : Ev} {bl : List Bool} {m k : Int} (hm : 0 ≤ m) (h : k ∈ nextI e bl m) : 0 ≤ k ∧ k.toNat < e.moves.length ∧ m < k := by
  unfold nextI at h
  split at h
  · obtain ⟨i, z, hz, hP, rfl⟩ := mem_pickFrom.1 h
    have := (List.getElem?_eq_some_iff.1 hz).1
    simp [nextIs] at hP
    omega
  · cases h
theorem GoodQ.stepK {n : Nat} {fr : Int} {s : BQ} (h : GoodQ n fr s) {m k : Int} (hm : 0 ≤ m) (hmn : m.toNat < n) (hmb : s.bef.getD m.toNat 0 ≠ -1) (hk : k.toNat < n) (hmk : m < k) (hfr : fr ≤ m) :
    GoodQ n fr (visitK m s k) := by
  unfold visitK
  split
  · rename_i hb
    have hkl : k.toNat < s.bef.length := by rw [h.len]; exact hk
    have hc := count_set (v := m) hb (by omega)
    have hmk' : m.toNat ≠ k.toNat := by omega
    refine ⟨by simpa using h.len, by have := h.cnt; simp only [List.length_append, List.length_singleton]; omega, ?_, ?_⟩
    · intro v hv
      rcases List.mem_append.1 hv with hv | hv
      · obtain ⟨h1, h2, h4, h3⟩ := h.que v hv
        refine ⟨h1, h2, h4, ?_⟩
        rw [getD_set_eq hkl]
        split
        · omega
        · exact h3
      · simp at hv
        subst hv
        refine ⟨by omega, hk, by omega, ?_⟩
        rw [getD_set_eq hkl, if_pos rfl]
        omega
    · intro j hj
      simp only [getD_set_eq hkl]
      by_cases hjk : j = k.toNat
      · rw [if_pos hjk]
        intro _
        refine .inr ⟨hm, by omega, ?_, by omega⟩
        rw [if_neg hmk']
        exact hmb
      · rw [if_neg hjk]
        intro h1
        rcases h.bef j hj h1 with h2 | ⟨h2, h3, h4, h5⟩
        · exact .inl h2
        · refine .inr ⟨h2, h3, ?_, h5⟩
          split
          · omega
          · exact h4
  · exact h
theorem visitK_old {m k v : Int} {s : BQ} (h : s.bef.getD v.toNat 0 ≠ -1) (hm : m ≠ -1) (hl : k.toNat < s.bef.length) : (visitK m s k).bef.getD v.toNat 0 ≠ -1 := by
  unfold visitK
  split
  · show (s.bef.set _ _).getD _ _ ≠ _
    rw [getD_set_eq hl]
    split
    · exact hm
    · exact h
  · exact h
theorem startQ_good {e : Ev} {fr : Int} (h0 : 0 ≤ fr) (h1 : fr.toNat < e.moves.length) : GoodQ e.moves.length fr (startQ e fr) := by
  have hl : fr.toNat < (List.replicate e.moves.length (-1 : Int)).length := by simpa using h1
  have hg : (List.replicate e.moves.length (-1 : Int)).getD fr.toNat 0 = -1 := by simp [List.getD_eq_getElem?_getD, List.getElem?_replicate, h1]
  have hc := count_set (v := fr) hg (by omega)
  have hc2 : (List.replicate e.moves.length (-1 : Int)).countP (fun x => decide (x = -1)) = e.moves.length := by simp [List.countP_replicate]
  refine ⟨by simp [startQ], ?_, ?_, ?_⟩
  · show 1 + _ = _
    unfold startQ
    simp only
    omega
  · intro v hv
    simp [startQ] at hv
    subst hv
    refine ⟨h0, h1, Int.le_refl _, ?_⟩
    unfold startQ
    simp only
    rw [getD_set_eq hl, if_pos rfl]
    omega
  · intro k hk
    unfold startQ
    simp only [getD_set_eq hl]
    by_cases hkf : k = fr.toNat
    · rw [if_pos hkf]
      intro _
      exact .inl ⟨by omega, rfl⟩
    · rw [if_neg hkf]
      intro hne
      exact absurd (by simp [List.getD_eq_getElem?_getD, List.getElem?_replicate, hk]) hne
theorem GoodQ.room {n : Nat} {fr : Int} {s : BQ} (h : GoodQ n fr s) : s.que.length ≤ n := by have := h.cnt; omega

theorem foldl_take_succ {α β : Type} {f : β → α → β} {l : List α} {s : β} {k : Nat} {x : α} (h : l[k]? = some x) : (l.take (k + 1)).foldl f s = f ((l.take k).foldl f s) x := by
  rw [List.take_add_one, h, List.foldl_append]; rfl
/-- a place in the queue -/
def OkQ (n : Nat) (fr : Int) (s : BQ) (v : Int) : Prop := 0 ≤ v ∧ v.toNat < n ∧ fr ≤ v ∧ s.bef.getD v.toNat 0 ≠ -1
theorem GoodQ.stepKs {n : Nat} {fr m : Int} : ∀ {ks : List Int} {s : BQ}, GoodQ n fr s → OkQ n fr s m → (∀ k ∈ ks, k.toNat < n ∧ m < k) →
    GoodQ n fr (ks.foldl (visitK m) s) ∧ ∀ v, OkQ n fr s v → OkQ n fr (ks.foldl (visitK m) s) v
  | [], s, h, _, _ => ⟨h, fun v hv => hv⟩
  | k :: ks, s, h, hm, hk => by
    obtain ⟨h1, h2⟩ := hk k (by simp)
    have hg := h.stepK hm.1 hm.2.1 hm.2.2.2 h1 h2 hm.2.2.1
    have hold : ∀ v, OkQ n fr s v → OkQ n fr (visitK m s k) v := fun v hv => ⟨hv.1, hv.2.1, hv.2.2.1, visitK_old hv.2.2.2 (by have := hm.1; omega) (by rw [h.len]; exact h1)⟩
    obtain ⟨q1, q2⟩ := GoodQ.stepKs (ks := ks) hg (hold m hm) (fun k' hk' => hk k' (by simp [hk']))
    exact ⟨q1, fun v hv => q2 v (hold v hv)⟩
theorem GoodQ.stepM {e : Ev} {bl : List Bool} {fr m : Int} {s : BQ} (h : GoodQ e.moves.length fr s) (hm : OkQ e.moves.length fr s m) :
    GoodQ e.moves.length fr (visitM e bl s m) ∧ ∀ v, OkQ e.moves.length fr s v → OkQ e.moves.length fr (visitM e bl s m) v :=
  h.stepKs hm fun k hk => by
    have := nextI_mem hm.1 hk
    exact ⟨this.2.1, this.2.2⟩
theorem GoodQ.stepMs {e : Ev} {bl : List Bool} {fr : Int} : ∀ {ms : List Int} {s : BQ}, GoodQ e.moves.length fr s → (∀ m ∈ ms, OkQ e.moves.length fr s m) →
    GoodQ e.moves.length fr (ms.foldl (visitM e bl) s) ∧ ∀ v, OkQ e.moves.length fr s v → OkQ e.moves.length fr (ms.foldl (visitM e bl) s) v
  | [], s, h, _ => ⟨h, fun v hv => hv⟩
  | m :: ms, s, h, hm => by
    obtain ⟨h1, h2⟩ := h.stepM (bl := bl) (hm m (by simp))
    obtain ⟨q1, q2⟩ := GoodQ.stepMs (ms := ms) h1 (fun v hv => h2 v (hm v (by simp [hv])))
    exact ⟨q1, fun v hv => q2 v (h2 v hv)⟩
theorem GoodQ.stepR {e : Ev} {bl : List Bool} {fr : Int} {s : BQ} (h : GoodQ e.moves.length fr s) (b : Nat) : GoodQ e.moves.length fr (roundQ e bl s b) :=
  (h.stepMs (fun m hm => h.que m (List.mem_of_mem_drop hm))).1
theorem visitK_que {m k : Int} {s : BQ} : s.que.length ≤ (visitK m s k).que.length := by
  unfold visitK; split <;> simp
theorem visitKs_que {m : Int} : ∀ {ks : List Int} {s : BQ}, s.que.length ≤ (ks.foldl (visitK m) s).que.length
  | [], s => Nat.le_refl _
  | k :: ks, s => Nat.le_trans visitK_que (visitKs_que (ks := ks))
theorem visitMs_que {e : Ev} {bl : List Bool} : ∀ {ms : List Int} {s : BQ}, s.que.length ≤ (ms.foldl (visitM e bl) s).que.length
  | [], s => Nat.le_refl _
  | m :: ms, s => Nat.le_trans (visitKs_que (m := m)) (visitMs_que (ms := ms))
theorem bfsGo_stop {e : Ev} {bl : List Bool} {t : Int} {f b : Nat} {s : BQ} (h : ¬ (b < s.que.length ∧ s.bef.getD t.toNat 0 = -1)) : bfsGo e bl t f s b = s := by
  cases f with
  | zero => rfl
  | succ f => unfold bfsGo; rw [if_neg h]
theorem bfsGo_go {e : Ev} {bl : List Bool} {t : Int} {f b : Nat} {s : BQ} (h : b < s.que.length ∧ s.bef.getD t.toNat 0 = -1) : bfsGo e bl t (f + 1) s b = bfsGo e bl t f (roundQ e bl s b) s.que.length := by
  rw [bfsGo, if_pos h]
theorem back_fuel {n : Nat} {fr : Int} {s : BQ} (h : GoodQ n fr s) : ∀ (u f : Nat) (g : Nat), u < n → s.bef.getD u 0 ≠ -1 → u < f → u < g → backGo s.bef fr f (u : Int) = backGo s.bef fr g u := by
  intro u
  induction u using Nat.strongRecOn with
  | _ u ih =>
    intro f g hu hb hf hg
    obtain ⟨f, rfl⟩ : ∃ k, f = k + 1 := ⟨f - 1, by omega⟩
    obtain ⟨g, rfl⟩ : ∃ k, g = k + 1 := ⟨g - 1, by omega⟩
    unfold backGo
    by_cases hfr : (u : Int) = fr
    · rw [if_pos hfr, if_pos hfr]
    · rw [if_neg hfr, if_neg hfr]
      congr 1
      rcases h.bef u hu hb with h1 | ⟨h1, h2, h3, h4⟩
      · exact absurd h1.1 hfr
      · obtain ⟨w, hw⟩ := Int.eq_ofNat_of_zero_le h1
        have e1 : s.bef.getD (u : Int).toNat 0 = (w : Int) := hw
        rw [e1]
        rw [hw] at h2 h3
        exact ih w (by omega) f g (by omega) (by simpa using h3) (by omega) (by omega)
theorem GoodQ.ge {n : Nat} {fr : Int} {s : BQ} (h : GoodQ n fr s) : ∀ (u : Nat), u < n → s.bef.getD u 0 ≠ -1 → fr ≤ (u : Int) := by
  intro u
  induction u using Nat.strongRecOn with
  | _ u ih =>
    intro hu hb
    rcases h.bef u hu hb with h1 | ⟨h1, h2, h3, h4⟩
    · omega
    · obtain ⟨w, hw⟩ := Int.eq_ofNat_of_zero_le h1
      rw [hw] at h2 h3
      have := ih w (by omega) (by omega) (by simpa using h3)
      omega
end Go.Proofs.Ytomfnfbijgjfeaa
/- Path. -/
namespace Go.Proofs.Ytomfnfbijgjfeaa
open Go.RowKit
set_option linter.unusedVariables false
set_option linter.unusedSimpArgs false
set_option maxRecDepth 100000

theorem nextI_of {e : Ev} {bl : List Bool} {m : Nat} {x : Move} (h : e.moves[m]? = some x) : nextI e bl m = pickFrom (nextIs e bl x.dst m) 0 e.moves := by
  unfold nextI; simp [h]
theorem a_nextI (e : Ev) (hs : e.Sized) (bl : List Bool) (m : Int) (h0 : 0 ≤ m) (h1 : m.toNat < e.moves.length) (hb : bl.length = e.moves.length) :
    ACall Try.prog 104 [evS e, intS .i64 m, boolsS bl] [] (intsS (nextI e bl m)) [] := by
  obtain ⟨n, rfl⟩ := Int.eq_ofNat_of_zero_le h0
  obtain ⟨x, hx⟩ : ∃ x, e.moves[n]? = some x := ⟨_, List.getElem?_eq_getElem (by simpa using h1)⟩
  rw [nextI_of hx]
  exact a_next e hs bl n x hx hb
theorem a_Path1 (e : Ev) (hs : e.Sized) (fr t : Nat) (bl : List Bool) (hf : fr < e.moves.length) (ht : t < e.moves.length) (hb : bl.length = e.moves.length) (hbf0 : bl.getD fr true = false) :
    ACall Try.prog 77 [evS e, intS .i64 fr, intS .i64 t, boolsS bl] [] (intsS (pathF e bl fr t)) [] := by
  have l1 := hs.s2
  have l2 : (e.moves.map Move.row).length = e.moves.length := by simp
  have l3 : (bl.map boolRow).length = bl.length := by simp
  have f1 := a_fits e fr bl
  have hfit : fitsB e fr bl = true := fits_iff.2 (by omega)
  rw [hfit] at f1
  have f2 := a_fits e t bl
  have hfit2 : fitsB e t bl = true := fits_iff.2 (by omega)
  rw [hfit2] at f2
  have hbx : bl[fr]? = some false := by
    obtain ⟨b, hb⟩ : ∃ b, bl[fr]? = some b := ⟨_, List.getElem?_eq_getElem (by omega)⟩
    rw [List.getD_eq_getElem?_getD, hb] at hbf0
    rw [hb]; exact congrArg some hbf0
  have rp := a_Repeat (-1) (e.moves.map Move.row).length (by omega) (by omega)
  have hN : ((e.moves.map Move.row).length : Int).toNat = e.moves.length := by omega
  rw [hN] at rp
  (refine acall_of tab_ok Try.func77 rfl (by decide) ?_; (conv => whnf); repeat (first | (refine LitB.data ?_; conv => whnf) | (refine BoxB.own ?_; conv => whnf)))
  (repeat' (first | ((refine DecB.mk (fun h => ?_) (fun h => ?_)) <;> first | (exfalso; omega) | (conv => whnf)) | ((refine BoolB.mk (fun h => ?_) (fun h => ?_)) <;> first | (exact absurd h (by decide)) | (conv => whnf)) | (refine ⟨_, wrap_ok (by omega) (by omega), ?_⟩; conv => whnf) | (refine and_idx (by omega) (by omega) ?_; conv => whnf) | (refine reg_ok (by decide +kernel) ?_; conv => whnf) | (refine bar_ok (by decide +kernel) (by decide +kernel) ?_; conv => whnf) | (refine late_ok rfl rfl ?_; conv => whnf) | (refine src_ok rfl ?_; conv => whnf) | (refine .inl ⟨_, _, qcall_pure (f1) rfl rfl, ?_⟩; conv => whnf) | (refine .inl ⟨_, _, qcall_pure (f2) rfl rfl, ?_⟩; conv => whnf) | (refine ex_row hbx ?_; conv => whnf) | (refine LitB.data ?_; conv => whnf) | (refine BoxB.own ?_; conv => whnf)))
  refine .inr ⟨_, _, acall_frame (H' := [evB e, intsB (List.replicate e.moves.length (-1))]) [] rp rfl rfl rfl List.nodup_nil (by simp) (by simp) (by simp) rfl rfl rfl ?_ ?_, ?_⟩
  · intro i k hk
    match i, hk with
    | 0, hk =>
      injection hk with hk
      subst hk
      exact ⟨_, rfl, renB_data rfl⟩
  · intro j hj _
    match j, hj with
    | 0, _ => rfl
  conv => whnf
  have hg0 := startQ_good (e := e) (fr := (fr : Int)) (by omega) (by simpa using hf)
  have hst : (startQ e fr).bef = (List.replicate e.moves.length (-1 : Int)).set fr fr := by simp [startQ]
  obtain ⟨a0, ha0⟩ : ∃ a, (List.replicate e.moves.length (-1 : Int))[0 + (fr : Int).toNat]? = some a := ⟨_, List.getElem?_eq_getElem (by simp; omega)⟩
  (repeat' (first | ((refine DecB.mk (fun h => ?_) (fun h => ?_)) <;> first | (exfalso; omega) | (conv => whnf)) | ((refine BoolB.mk (fun h => ?_) (fun h => ?_)) <;> first | (exact absurd h (by decide)) | (conv => whnf)) | (refine ⟨_, wrap_ok (by omega) (by omega), ?_⟩; conv => whnf) | (refine and_idx (by omega) (by omega) ?_; conv => whnf) | (refine reg_ok (by decide +kernel) ?_; conv => whnf) | (refine bar_ok (by decide +kernel) (by decide +kernel) ?_; conv => whnf) | (refine late_ok rfl rfl ?_; conv => whnf) | (refine src_ok rfl ?_; conv => whnf) | (refine LitB.own ?_; conv => whnf) | (refine ex_own ha0 ?_; conv => whnf) | (refine and_idx (by omega) (by simp; omega) ?_; conv => whnf) | (refine LitB.data ?_; conv => whnf) | (refine BoxB.own ?_; conv => whnf)))
  refine awp_while tab_ok (σ := Nat × BQ × Nat) (fun | (f, s, b) => ([S.junk, intS .i64 fr, intS .i64 t, boolsS bl, S.c (C.ptr 0 0 0), S.junk, S.junk, S.junk, S.junk, ownI 1 s.bef, ownI 2 s.que, intS .i64 b, S.junk, S.junk, S.junk, S.junk, S.junk, S.junk, S.junk, S.junk, S.junk, S.junk, S.junk, S.junk, S.junk, S.junk, S.junk, S.junk, S.junk, S.junk, S.junk, S.junk, S.junk, S.junk, S.junk, S.junk, S.junk, S.junk, S.junk, S.junk, S.junk, S.junk, S.junk, S.junk, S.junk, S.junk, S.junk, S.junk, S.junk, S.junk, S.junk, S.junk, S.junk, S.junk, S.junk, S.junk, S.junk, S.junk, S.junk, S.junk, S.junk, S.junk, S.junk, S.junk, S.junk, S.junk, S.junk, S.junk, S.junk, S.junk, S.junk, S.junk, S.junk, S.junk, S.junk, S.junk, S.junk, S.junk, S.junk, S.junk, S.junk, S.junk, S.junk, S.junk, S.junk, S.junk, S.junk, S.junk, S.junk, S.junk, S.junk, S.junk, S.junk, S.junk, S.junk, S.junk, S.junk, S.junk, S.junk, S.junk, S.junk, S.junk, S.junk, S.junk, S.junk, S.junk, S.junk, S.junk, S.junk, S.junk, S.junk, S.junk, S.junk, S.junk, S.junk, S.junk, S.junk, S.junk, S.junk, S.junk, S.junk, S.junk, S.junk, S.junk, S.junk, S.junk, S.junk], [evB e, intsB s.bef, intsA s.que]))
    (fun x => GoodQ e.moves.length fr x.2.1 ∧ foundQ e bl fr t = bfsGo e bl t x.1 x.2.1 x.2.2 ∧ x.2.2 ≤ x.2.1.que.length ∧ e.moves.length < x.1 + x.2.2) (fun x => x.1) (e.moves.length + 1, startQ e fr, 0) [some 0, some 1, some 2]
    ⟨hg0, rfl, by simp, by simp⟩ ⟨rfl, rfl, ⟨⟨rfl, rfl, rfl, .inl ⟨rfl, rowsT_ev e⟩⟩, entB_rows rfl rfl rfl ?_ rfl, entB_rows rfl rfl rfl rfl rfl, trivial⟩, ⟨rfl, rfl, ent_t rfl, ⟨rfl, rfl, rfl⟩, ent_own rfl ?_, ent_own rfl rfl, ent_i rfl, trivial⟩⟩ ?_
  · rw [hst]
    show (toC ((List.replicate e.moves.length (-1)).map intRow)).set (0 + (fr : Int).toNat) [C.t (ti fr)] = _
    rw [show 0 + (fr : Int).toNat = fr by omega]
    simp [toC, intRow, List.map_set]
  · rw [hst]; simp
  rintro ⟨f, s, b⟩ ⟨hg, hbf, hbl, hfb⟩
  have hbl : b ≤ s.que.length := hbl
  have hfb : e.moves.length < f + b := hfb
  have hg : GoodQ e.moves.length fr s := hg
  have hbf : foundQ e bl fr t = bfsGo e bl t f s b := hbf
  have hsl := hg.len
  have hroom := hg.room
  obtain ⟨at0, hat0⟩ : ∃ a, s.bef[0 + (t : Int).toNat]? = some a := ⟨_, List.getElem?_eq_getElem (by omega)⟩
  have hgt : s.bef.getD (t : Int).toNat 0 = at0 := by rw [Nat.zero_add] at hat0; rw [List.getD_eq_getElem?_getD, hat0]; rfl
  conv => whnf
  (repeat' (first | ((refine DecB.mk (fun h => ?_) (fun h => ?_)) <;> first | (exfalso; omega) | (conv => whnf)) | ((refine BoolB.mk (fun h => ?_) (fun h => ?_)) <;> first | (exact absurd h (by decide)) | (conv => whnf)) | (refine ⟨_, wrap_ok (by omega) (by omega), ?_⟩; conv => whnf) | (refine and_idx (by omega) (by omega) ?_; conv => whnf) | (refine reg_ok (by decide +kernel) ?_; conv => whnf) | (refine bar_ok (by decide +kernel) (by decide +kernel) ?_; conv => whnf) | (refine late_ok rfl rfl ?_; conv => whnf) | (refine src_ok rfl ?_; conv => whnf) | (refine ex_own hat0 ?_; conv => whnf) | (refine and_idx (by omega) (by show _ < ((s.bef.length : Nat) : Int); omega) ?_; conv => whnf) | (refine sl3_ok (by omega) (by omega) rfl (by omega) ?_; conv => whnf) | (refine LitB.own ?_; conv => whnf) | (refine LitB.data ?_; conv => whnf) | (refine BoxB.own ?_; conv => whnf)))
  · have hat1 : s.bef.getD (t : Int).toNat 0 = -1 := by rw [hgt]; omega
    have hblt : b < s.que.length := by have := ‹(b : Int) < _›; omega
    obtain ⟨f, rfl⟩ : ∃ k, f = k + 1 := ⟨f - 1, by omega⟩
    rw [bfsGo_go ⟨hblt, hat1⟩] at hbf
    let lev : List Int := s.que.drop b
    have hlev : lev.length = s.que.length - b := by simp [lev]
    let sa : Nat → BQ := fun a => (lev.take a).foldl (visitM e bl) s
    have hga : ∀ a, GoodQ e.moves.length fr (sa a) ∧ ∀ v, OkQ e.moves.length fr s v → OkQ e.moves.length fr (sa a) v := fun a =>
      hg.stepMs (fun m hm => hg.que m (List.mem_of_mem_drop (List.mem_of_mem_take hm)))
    refine awp_for tab_ok (fun a => ([S.junk, intS .i64 fr, intS .i64 t, boolsS bl, S.c (C.ptr 0 0 0), S.junk, S.junk, S.junk, S.junk, ownI 1 (sa a).bef, ownI 2 (sa a).que, intS .i64 s.que.length, S.junk, S.junk, S.junk, S.junk, S.junk, S.junk, S.junk, S.junk, S.junk, S.junk, S.junk, S.junk, S.junk, S.junk, S.junk, S.junk, S.junk, S.junk, S.junk, S.junk, S.junk, S.junk, S.junk, S.junk, S.junk, S.junk, S.junk, S.junk, S.junk, S.junk, S.junk, S.junk, S.junk, S.junk, S.junk, S.junk, S.junk, S.junk, S.junk, S.junk, S.junk, S.junk, S.junk, S.junk, S.junk, S.junk, S.junk, S.junk, S.junk, S.junk, S.junk, S.junk, S.junk, S.junk, S.junk, S.c (C.own 3 b (s.que.length - b) false), intS .i64 ((s.que.length - b : Nat) : Int), intS .i64 a, S.junk, S.junk, S.junk, S.junk, S.junk, S.junk, S.junk, S.junk, S.junk, S.junk, S.junk, S.junk, S.junk, S.junk, S.junk, S.junk, S.junk, S.junk, S.junk, S.junk, S.junk, S.junk, S.junk, S.junk, S.junk, S.junk, S.junk, S.junk, S.junk, S.junk, S.junk, S.junk, S.junk, S.junk, S.junk, S.junk, S.junk, S.junk, S.junk, S.junk, S.junk, S.junk, S.junk, S.junk, S.junk, S.junk, S.junk, S.junk, S.junk, S.junk, S.junk, S.junk, S.junk, S.junk, S.junk, S.junk, S.junk], [evB e, intsB (sa a).bef, intsA (sa a).que, intsO s.que])) (s.que.length - b) (fun k => True) [some 0, some 1, some 2, some 2] trivial
      ⟨rfl, rfl, ⟨⟨rfl, rfl, rfl, .inl ⟨rfl, rowsT_ev e⟩⟩, entB_rows rfl rfl rfl rfl rfl, entB_rows rfl rfl rfl rfl rfl, entB_rows rfl rfl rfl rfl rfl, trivial⟩, ⟨rfl, rfl, ent_t rfl, ⟨rfl, rfl, rfl⟩, ent_own rfl rfl, ent_own rfl rfl, ent_i rfl, ⟨rfl, ?_, ?_, fun h => h⟩, ent_i ?_, ent_i rfl, trivial⟩⟩ ?_
    · show 0 + (b : Int).toNat = b
      omega
    · omega
    · omega
    intro a ha hI
    obtain ⟨hgA, hokA⟩ := hga a
    have hroomA := hgA.room
    conv => whnf
    (repeat' (first | ((refine DecB.mk (fun h => ?_) (fun h => ?_)) <;> first | (exfalso; omega) | (conv => whnf)) | ((refine BoolB.mk (fun h => ?_) (fun h => ?_)) <;> first | (exact absurd h (by decide)) | (conv => whnf)) | (refine ⟨_, wrap_ok (by omega) (by omega), ?_⟩; conv => whnf) | (refine and_idx (by omega) (by omega) ?_; conv => whnf) | (refine reg_ok (by decide +kernel) ?_; conv => whnf) | (refine bar_ok (by decide +kernel) (by decide +kernel) ?_; conv => whnf) | (refine late_ok rfl rfl ?_; conv => whnf) | (refine src_ok rfl ?_; conv => whnf) | (refine LitB.data ?_; conv => whnf) | (refine BoxB.own ?_; conv => whnf)))
    · have hlt : a < s.que.length - b := by omega
      obtain ⟨v, hv⟩ : ∃ v, s.que[b + (a : Int).toNat]? = some v := ⟨_, List.getElem?_eq_getElem (by omega)⟩
      have hva : lev[a]? = some v := by show (s.que.drop b)[a]? = _; rw [List.getElem?_drop, ← hv]; congr 1
      have hvq : v ∈ s.que := List.mem_of_getElem? hv
      have hov := hokA v (hg.que v hvq)
      have hsa1 : sa (a + 1) = visitM e bl (sa a) v := foldl_take_succ hva
      let ks := nextI e bl v
      have nx := a_nextI e hs bl v hov.1 hov.2.1 hb
      let tc : Nat → BQ := fun c => (ks.take c).foldl (visitK v) (sa a)
      have hgc : ∀ c, GoodQ e.moves.length fr (tc c) ∧ ∀ u, OkQ e.moves.length fr (sa a) u → OkQ e.moves.length fr (tc c) u := fun c => hgA.stepKs hov (fun k hk => by
        have := nextI_mem hov.1 (List.mem_of_mem_take hk)
        exact ⟨this.2.1, this.2.2⟩)
      have hkl : ks.length ≤ e.moves.length := by
        show (nextI e bl v).length ≤ _
        unfold nextI
        split
        · exact length_pickFrom _ _ _
        · simp
      have lks : (ks.map intRow).length = ks.length := by simp
      have lks' : (((ks.map intRow).length : Nat) : Int) = (ks.length : Nat) := by rw [lks]
      refine ex_ownN hv ?_
      conv => whnf
      (repeat' (first | ((refine DecB.mk (fun h => ?_) (fun h => ?_)) <;> first | (exfalso; omega) | (conv => whnf)) | ((refine BoolB.mk (fun h => ?_) (fun h => ?_)) <;> first | (exact absurd h (by decide)) | (conv => whnf)) | (refine ⟨_, wrap_ok (by omega) (by omega), ?_⟩; conv => whnf) | (refine and_idx (by omega) (by omega) ?_; conv => whnf) | (refine reg_ok (by decide +kernel) ?_; conv => whnf) | (refine bar_ok (by decide +kernel) (by decide +kernel) ?_; conv => whnf) | (refine late_ok rfl rfl ?_; conv => whnf) | (refine src_ok rfl ?_; conv => whnf) | (refine .inl ⟨_, _, qcall_pure (nx) rfl rfl, ?_⟩; conv => whnf) | (refine LitB.data ?_; conv => whnf) | (refine BoxB.own ?_; conv => whnf)))
      refine awp_for tab_ok (fun c => ([S.junk, intS .i64 fr, intS .i64 t, boolsS bl, S.c (C.ptr 0 0 0), S.junk, S.junk, S.junk, S.junk, ownI 1 (tc c).bef, ownI 2 (tc c).que, intS .i64 s.que.length, S.junk, S.junk, intS .i64 v, S.junk, S.junk, S.junk, S.junk, S.junk, S.junk, S.junk, S.junk, S.junk, S.junk, S.junk, S.junk, S.junk, S.junk, S.junk, S.junk, S.junk, S.junk, S.junk, S.junk, S.junk, S.junk, S.junk, S.junk, S.junk, S.junk, S.junk, S.junk, S.junk, S.junk, S.junk, S.junk, S.junk, S.junk, S.junk, S.junk, S.junk, S.junk, S.junk, S.junk, S.junk, S.junk, S.junk, S.junk, S.junk, S.junk, S.junk, S.junk, S.junk, S.junk, S.junk, S.junk, S.c (C.own 3 b (s.que.length - b) false), intS .i64 ((s.que.length - b : Nat) : Int), intS .i64 a, S.junk, S.junk, S.junk, S.junk, S.junk, S.junk, intsS ks, intS .i64 ks.length, intS .i64 c, S.junk, S.junk, S.junk, S.junk, S.junk, S.junk, S.junk, S.junk, S.junk, S.junk, S.junk, S.junk, S.junk, S.junk, S.junk, S.junk, S.junk, S.junk, S.junk, S.junk, S.junk, S.junk, S.junk, S.junk, S.junk, S.junk, S.junk, S.junk, S.junk, S.junk, S.junk, S.junk, S.junk, S.junk, S.junk, S.junk, S.junk, S.junk, S.junk, S.junk, S.junk, S.junk, S.junk, S.junk, S.junk, S.junk, S.junk, S.junk], [evB e, intsB (tc c).bef, intsA (tc c).que, intsO s.que])) ks.length (fun k => True) [some 0, some 1, some 2, some 3] trivial
        ⟨rfl, rfl, ⟨⟨rfl, rfl, rfl, .inl ⟨rfl, rowsT_ev e⟩⟩, entB_rows rfl rfl rfl rfl rfl, entB_rows rfl rfl rfl rfl rfl, entB_rows rfl rfl rfl rfl rfl, trivial⟩, ⟨rfl, rfl, ent_t rfl, ⟨rfl, rfl, rfl⟩, ent_own rfl rfl, ent_own rfl rfl, ent_i rfl, ent_i rfl, ⟨rfl, rfl, rfl, fun h => h⟩, ent_i rfl, ent_i rfl, ent_t rfl, ent_i lks', ent_i rfl, trivial⟩⟩ ?_
      intro c hc hI
      obtain ⟨hgC, hokC⟩ := hgc c
      have hroomC := hgC.room
      have hlenC := hgC.len
      conv => whnf
      (repeat' (first | ((refine DecB.mk (fun h => ?_) (fun h => ?_)) <;> first | (exfalso; omega) | (conv => whnf)) | ((refine BoolB.mk (fun h => ?_) (fun h => ?_)) <;> first | (exact absurd h (by decide)) | (conv => whnf)) | (refine ⟨_, wrap_ok (by omega) (by omega), ?_⟩; conv => whnf) | (refine and_idx (by omega) (by omega) ?_; conv => whnf) | (refine reg_ok (by decide +kernel) ?_; conv => whnf) | (refine bar_ok (by decide +kernel) (by decide +kernel) ?_; conv => whnf) | (refine late_ok rfl rfl ?_; conv => whnf) | (refine src_ok rfl ?_; conv => whnf) | (refine LitB.data ?_; conv => whnf) | (refine BoxB.own ?_; conv => whnf)))
      · have hlt2 : c < ks.length := by omega
        obtain ⟨k, hk⟩ : ∃ k, ks[c]? = some k := ⟨_, List.getElem?_eq_getElem hlt2⟩
        have hkm := nextI_mem hov.1 (List.mem_of_getElem? hk)
        have htc1 : tc (c + 1) = visitK v (tc c) k := foldl_take_succ hk
        obtain ⟨bk, hbk⟩ : ∃ a, (tc c).bef[0 + k.toNat]? = some a := ⟨_, List.getElem?_eq_getElem (by omega)⟩
        have hgk : (tc c).bef.getD k.toNat 0 = bk := by rw [Nat.zero_add] at hbk; rw [List.getD_eq_getElem?_getD, hbk]; rfl
        (repeat' (first | ((refine DecB.mk (fun h => ?_) (fun h => ?_)) <;> first | (exfalso; omega) | (conv => whnf)) | ((refine BoolB.mk (fun h => ?_) (fun h => ?_)) <;> first | (exact absurd h (by decide)) | (conv => whnf)) | (refine ⟨_, wrap_ok (by omega) (by omega), ?_⟩; conv => whnf) | (refine and_idx (by omega) (by omega) ?_; conv => whnf) | (refine reg_ok (by decide +kernel) ?_; conv => whnf) | (refine bar_ok (by decide +kernel) (by decide +kernel) ?_; conv => whnf) | (refine late_ok rfl rfl ?_; conv => whnf) | (refine src_ok rfl ?_; conv => whnf) | (refine .inl ⟨_, _, qcall_pure (toC) rfl rfl, ?_⟩; conv => whnf) | (refine .inl ⟨_, _, qcall_pure (toC) rfl rfl, ?_⟩; conv => whnf) | (refine ex_row hk ?_; conv => whnf) | (refine ex_own hbk ?_; conv => whnf) | (refine and_idx (by omega) (by show _ < (((tc c).bef.length : Nat) : Int); omega) ?_; conv => whnf) | (refine appA_ok (by simp [toC]) (by simp [toC]; omega) ?_; conv => whnf) | (refine LitB.data ?_; conv => whnf) | (refine BoxB.own ?_; conv => whnf)))
        · have hbk1 : (tc c).bef.getD k.toNat 0 = -1 := by rw [hgk]; assumption
          have hv1 : tc (c + 1) = ⟨(tc c).bef.set k.toNat v, (tc c).que ++ [k]⟩ := by rw [htc1]; unfold visitK; rw [if_pos hbk1]
          refine ⟨hlt2, trivial, [some 0, some 1, some 4, some 3], rfl, rfl, ⟨⟨rfl, rfl, rfl, .inl ⟨rfl, rowsT_ev e⟩⟩, entB_rows rfl rfl rfl ?_ rfl, entB_rows rfl rfl rfl ?_ rfl, entB_rows rfl rfl rfl rfl rfl, trivial⟩, ⟨rfl, rfl, rfl, ⟨rfl, rfl, rfl⟩, ent_own rfl ?_, ent_own rfl ?_, rfl, rfl, ⟨rfl, rfl, rfl, fun h => h⟩, rfl, rfl, rfl, rfl, rfl, trivial⟩⟩
          · rw [hv1]; simp [toC, intRow, List.map_set, setRows]
          · rw [hv1]; simp [toC, intRow, oldBlk, appBlk]
          · rw [hv1]; simp
          · rw [hv1]; simp [toC]
        · have hbk1 : ¬ (tc c).bef.getD k.toNat 0 = -1 := by rw [hgk]; assumption
          have hv1 : tc (c + 1) = tc c := by rw [htc1]; unfold visitK; rw [if_neg hbk1]
          refine ⟨hlt2, trivial, [some 0, some 1, some 2, some 3], rfl, rfl, ⟨⟨rfl, rfl, rfl, .inl ⟨rfl, rowsT_ev e⟩⟩, entB_rows rfl rfl rfl ?_ rfl, entB_rows rfl rfl rfl ?_ rfl, entB_rows rfl rfl rfl rfl rfl, trivial⟩, ⟨rfl, rfl, rfl, ⟨rfl, rfl, rfl⟩, ent_own rfl ?_, ent_own rfl ?_, rfl, rfl, ⟨rfl, rfl, rfl, fun h => h⟩, rfl, rfl, rfl, rfl, rfl, trivial⟩⟩
          all_goals rw [hv1]
      · have hck : tc c = sa (a + 1) := by
          rw [hsa1]
          show (ks.take c).foldl _ _ = ks.foldl _ _
          rw [List.take_of_length_le (by omega)]
        refine ⟨hlt, trivial, [some 0, some 1, some 2, some 3], rfl, rfl, ⟨⟨rfl, rfl, rfl, .inl ⟨rfl, rowsT_ev e⟩⟩, entB_rows rfl rfl rfl ?_ rfl, entB_rows rfl rfl rfl ?_ rfl, entB_rows rfl rfl rfl rfl rfl, trivial⟩, ⟨rfl, rfl, rfl, ⟨rfl, rfl, rfl⟩, ent_own rfl ?_, ent_own rfl ?_, rfl, ⟨rfl, rfl, rfl, fun h => h⟩, rfl, rfl, trivial⟩⟩
        all_goals rw [hck]
    · have hra : sa a = roundQ e bl s b := by
        show (lev.take a).foldl _ _ = lev.foldl _ _
        rw [List.take_of_length_le (by omega)]
      refine ⟨[some 0, some 1, some 2], (f, roundQ e bl s b, s.que.length), ⟨rfl, rfl, ⟨⟨rfl, rfl, rfl, .inl ⟨rfl, rowsT_ev e⟩⟩, entB_rows rfl rfl rfl ?_ rfl, entB_rows rfl rfl rfl ?_ rfl, trivial⟩, ⟨rfl, rfl, rfl, ⟨rfl, rfl, rfl⟩, ent_own rfl ?_, ent_own rfl ?_, rfl, trivial⟩⟩, ⟨hg.stepR b, hbf, visitMs_que, ?_⟩, ?_⟩
      · rw [hra]
      · rw [hra]
      · rw [hra]
      · rw [hra]
      · show e.moves.length < f + s.que.length
        omega
      · show f < f + 1
        omega
  all_goals
    have hfs : foundQ e bl fr t = s := by
      rw [hbf]
      refine bfsGo_stop ?_
      rw [hgt]
      omega
    have hpf : pathF e bl fr t = if at0 = -1 then [] else (backGo s.bef fr (t + 1) t).reverse := by
      unfold pathF
      rw [if_pos ⟨hfit, hfit2, by simpa using hbf0⟩, hfs, hgt]
      rfl
    rw [hpf]
  rotate_left
  · rw [if_pos (by assumption)]
    exact fin_t rfl
  all_goals
    have hat2 : at0 ≠ -1 := by assumption
    have hgt2 : s.bef.getD t 0 ≠ -1 := by have := hgt; simp only [Int.toNat_natCast] at this; rw [this]; exact hat2
    rw [if_neg hat2]
    have hokt : OkQ e.moves.length fr s t := ⟨by omega, by simpa using ht, hg.ge t ht hgt2, by simpa using hgt2⟩
    refine awp_while tab_ok (σ := List Int × Int) (fun | (acc, v) => ([S.junk, intS .i64 fr, S.junk, S.junk, S.junk, S.junk, S.junk, S.junk, S.junk, ownI 0 s.bef, S.junk, S.junk, S.junk, S.junk, S.junk, S.junk, S.junk, ownI 1 (acc ++ [v]), S.junk, S.junk, S.junk, S.junk, S.junk, S.junk, S.junk, S.junk, S.junk, S.junk, S.junk, S.junk, S.junk, S.junk, S.junk, S.junk, S.junk, S.junk, S.junk, S.junk, S.junk, S.junk, S.junk, S.junk, S.junk, S.junk, S.junk, S.junk, S.junk, S.junk, S.junk, S.junk, S.junk, S.junk, S.junk, S.junk, S.junk, S.junk, S.junk, S.junk, S.junk, S.junk, S.junk, S.junk, S.junk, S.junk, S.junk, S.junk, S.junk, S.junk, S.junk, S.junk, S.junk, S.junk, S.junk, S.junk, S.junk, S.junk, S.junk, S.junk, S.junk, S.junk, S.junk, S.junk, S.junk, S.junk, S.junk, S.junk, S.junk, S.junk, S.junk, S.junk, S.junk, S.junk, S.junk, S.junk, S.junk, S.junk, S.junk, S.junk, S.junk, S.junk, S.junk, S.junk, S.junk, S.junk, S.junk, S.junk, S.junk, S.junk, S.junk, S.junk, S.junk, S.junk, S.junk, S.junk, S.junk, S.junk, S.junk, S.junk, S.junk, S.junk, S.junk, S.junk, S.junk, S.junk, S.junk, S.junk, S.junk], [intsB s.bef, intsB (acc ++ [v])])) (fun x => OkQ e.moves.length fr s x.2 ∧ backGo s.bef fr (t + 1) t = x.1 ++ backGo s.bef fr (x.2.toNat + 1) x.2 ∧ x.1.length + x.2.toNat ≤ t) (fun x => x.2.toNat) ([], (t : Int)) [some 1, some 3]
      ⟨hokt, rfl, by simp⟩ ⟨rfl, rfl, ⟨entB_rows rfl rfl rfl rfl rfl, entB_rows rfl rfl rfl rfl rfl, trivial⟩, ⟨rfl, ent_own rfl rfl, ent_own rfl rfl, trivial⟩⟩ ?_
    rintro ⟨acc, v⟩ ⟨hov, hback, hlen⟩
    have hov : OkQ e.moves.length fr s v := hov
    have hback : backGo s.bef fr (t + 1) t = acc ++ backGo s.bef fr (v.toNat + 1) v := hback
    have hlen : acc.length + v.toNat ≤ t := hlen
    have hov1 := hov.1
    have hov2 := hov.2.1
    have hpl : (acc ++ [v]).length = acc.length + 1 := by simp
    have hpv : (acc ++ [v])[0 + ((((acc ++ [v]).length : Nat) : Int) - 1).toNat]? = some v := by
      rw [show 0 + ((((acc ++ [v]).length : Nat) : Int) - 1).toNat = acc.length by omega]; simp
    obtain ⟨u, hu⟩ : ∃ a, s.bef[0 + v.toNat]? = some a := ⟨_, List.getElem?_eq_getElem (by omega)⟩
    conv => whnf
    (repeat' (first | ((refine DecB.mk (fun h => ?_) (fun h => ?_)) <;> first | (exfalso; omega) | (conv => whnf)) | ((refine BoolB.mk (fun h => ?_) (fun h => ?_)) <;> first | (exact absurd h (by decide)) | (conv => whnf)) | (refine ⟨_, wrap_ok (by omega) (by omega), ?_⟩; conv => whnf) | (refine and_idx (by omega) (by omega) ?_; conv => whnf) | (refine reg_ok (by decide +kernel) ?_; conv => whnf) | (refine bar_ok (by decide +kernel) (by decide +kernel) ?_; conv => whnf) | (refine late_ok rfl rfl ?_; conv => whnf) | (refine src_ok rfl ?_; conv => whnf) | (refine .inl ⟨_, _, qcall_pure (toC) rfl rfl, ?_⟩; conv => whnf) | (refine .inl ⟨_, _, qcall_pure (toC) rfl rfl, ?_⟩; conv => whnf) | (refine ex_own hpv ?_; conv => whnf) | (refine ex_own hu ?_; conv => whnf) | (refine app_ok (by simp [toC]) (by simp [toC]; omega) ?_; conv => whnf) | (refine LitB.data ?_; conv => whnf) | (refine BoxB.own ?_; conv => whnf)))
    · have hne : v ≠ fr := by assumption
      have hbv : backGo s.bef fr (v.toNat + 1) v = v :: backGo s.bef fr v.toNat (s.bef.getD v.toNat 0) := by rw [backGo, if_neg hne]
      have hgu : s.bef.getD v.toNat 0 = u := by rw [Nat.zero_add] at hu; rw [List.getD_eq_getElem?_getD, hu]; rfl
      rcases hg.bef v.toNat hov.2.1 hov.2.2.2 with h1 | ⟨h1, h2, h3, h4⟩
      · omega
      · rw [hgu] at h1 h2 h3
        obtain ⟨w, rfl⟩ := Int.eq_ofNat_of_zero_le h1
        refine ⟨[some 0, some 2], (acc ++ [v], (w : Int)), ⟨rfl, rfl, ⟨entB_rows rfl rfl rfl rfl rfl, entB_rows rfl rfl rfl ?_ rfl, trivial⟩, ⟨rfl, ent_own rfl rfl, ent_own rfl ?_, trivial⟩⟩, ⟨⟨h1, by omega, ?_, h3⟩, ?_, ?_⟩, ?_⟩
        · exact toC_app (f := intRow) (xs := acc ++ [v]) (x := (w : Int))
        · simp [toC]
        · exact hg.ge w (by omega) (by simpa using h3)
        · rw [hback, hbv, hgu, List.append_assoc]
          show _ = acc ++ (v :: backGo s.bef fr ((w : Int).toNat + 1) w)
          rw [back_fuel hg w v.toNat ((w : Int).toNat + 1) (by omega) (by simpa using h3) (by omega) (by omega)]
        · show (acc ++ [v]).length + (w : Int).toNat ≤ t
          simp; omega
        · show (w : Int).toNat < v.toNat
          omega
    · have hvf : v = fr := by omega
      subst hvf
      refine .inr ⟨_, _, acall_frame (H' := [intsB s.bef, intsB (acc ++ [(fr : Int)]).reverse]) [1] (a_Reverse (acc ++ [(fr : Int)]) (by omega)) rfl rfl rfl (by decide) ?_ (by simp) (by simp) rfl rfl rfl ?_ ?_, ?_⟩
      · intro i k hk
        match i, hk with
        | 0, hk =>
          injection hk with hk
          subst hk
          exact ⟨rfl, rfl, okRows_toC _, _, rfl, renB_data rfl⟩
      · intro i k hk
        match i, hk with
        | 0, hk =>
          injection hk with hk
          subst hk
          exact ⟨_, rfl, renB_data rfl⟩
      · intro j hj hn
        match j, hj, hn with
        | 0, _, _ => rfl
        | 1, _, hn => simp at hn
      conv => whnf
      (repeat' (first | ((refine DecB.mk (fun h => ?_) (fun h => ?_)) <;> first | (exfalso; omega) | (conv => whnf)) | ((refine BoolB.mk (fun h => ?_) (fun h => ?_)) <;> first | (exact absurd h (by decide)) | (conv => whnf)) | (refine ⟨_, wrap_ok (by omega) (by omega), ?_⟩; conv => whnf) | (refine and_idx (by omega) (by omega) ?_; conv => whnf) | (refine reg_ok (by decide +kernel) ?_; conv => whnf) | (refine bar_ok (by decide +kernel) (by decide +kernel) ?_; conv => whnf) | (refine late_ok rfl rfl ?_; conv => whnf) | (refine src_ok rfl ?_; conv => whnf) | (refine LitB.data ?_; conv => whnf) | (refine BoxB.own ?_; conv => whnf)))
      refine fin_t (ent_view (app := true) rfl rfl (by intro h; cases h) rfl ?_ ?_)
      · rw [hback]
        show toC (((acc ++ [(fr : Int)]).reverse).map intRow) = toC ((acc ++ backGo s.bef fr ((fr : Int).toNat + 1) fr).reverse.map intRow)
        rw [backGo, if_pos rfl]
      · rw [hback, backGo, if_pos rfl]; simp
theorem a_Path (e : Ev) (hs : e.Sized) (fr t : Int) (bl : List Bool) : ACall Try.prog 77 [evS e, intS .i64 fr, intS .i64 t, boolsS bl] [] (intsS (pathF e bl fr t)) [] := by
  have f1 := a_fits e fr bl
  have f2 := a_fits e t bl
  cases hfit : fitsB e fr bl with
  | false =>
    rw [hfit] at f1
    have hp : pathF e bl fr t = [] := by unfold pathF; rw [if_neg (by simp [hfit])]
    rw [hp]
    (refine acall_of tab_ok Try.func77 rfl (by decide) ?_; (conv => whnf); repeat (first | (refine LitB.data ?_; conv => whnf) | (refine BoxB.own ?_; conv => whnf)))
    (repeat' (first | ((refine DecB.mk (fun h => ?_) (fun h => ?_)) <;> first | (exfalso; omega) | (conv => whnf)) | ((refine BoolB.mk (fun h => ?_) (fun h => ?_)) <;> first | (exact absurd h (by decide)) | (conv => whnf)) | (refine ⟨_, wrap_ok (by omega) (by omega), ?_⟩; conv => whnf) | (refine and_idx (by omega) (by omega) ?_; conv => whnf) | (refine reg_ok (by decide +kernel) ?_; conv => whnf) | (refine bar_ok (by decide +kernel) (by decide +kernel) ?_; conv => whnf) | (refine late_ok rfl rfl ?_; conv => whnf) | (refine src_ok rfl ?_; conv => whnf) | (refine .inl ⟨_, _, qcall_pure (f1) rfl rfl, ?_⟩; conv => whnf) | (refine LitB.data ?_; conv => whnf) | (refine BoxB.own ?_; conv => whnf)))
    all_goals first | (exfalso; simp_all; done) | exact fin_t rfl
  | true =>
    rw [hfit] at f1
    cases hfit2 : fitsB e t bl with
    | false =>
      rw [hfit2] at f2
      have hp : pathF e bl fr t = [] := by unfold pathF; rw [if_neg (by simp [hfit2])]
      rw [hp]
      (refine acall_of tab_ok Try.func77 rfl (by decide) ?_; (conv => whnf); repeat (first | (refine LitB.data ?_; conv => whnf) | (refine BoxB.own ?_; conv => whnf)))
      (repeat' (first | ((refine DecB.mk (fun h => ?_) (fun h => ?_)) <;> first | (exfalso; omega) | (conv => whnf)) | ((refine BoolB.mk (fun h => ?_) (fun h => ?_)) <;> first | (exact absurd h (by decide)) | (conv => whnf)) | (refine ⟨_, wrap_ok (by omega) (by omega), ?_⟩; conv => whnf) | (refine and_idx (by omega) (by omega) ?_; conv => whnf) | (refine reg_ok (by decide +kernel) ?_; conv => whnf) | (refine bar_ok (by decide +kernel) (by decide +kernel) ?_; conv => whnf) | (refine late_ok rfl rfl ?_; conv => whnf) | (refine src_ok rfl ?_; conv => whnf) | (refine .inl ⟨_, _, qcall_pure (f1) rfl rfl, ?_⟩; conv => whnf) | (refine .inl ⟨_, _, qcall_pure (f2) rfl rfl, ?_⟩; conv => whnf) | (refine LitB.data ?_; conv => whnf) | (refine BoxB.own ?_; conv => whnf)))
      all_goals first | (exfalso; simp_all; done) | exact fin_t rfl
    | true =>
      rw [hfit2] at f2
      obtain ⟨⟨h1, h2⟩, h3⟩ := fits_iff.1 hfit
      obtain ⟨⟨h4, h5⟩, _⟩ := fits_iff.1 hfit2
      obtain ⟨n, rfl⟩ := Int.eq_ofNat_of_zero_le h1
      obtain ⟨q, rfl⟩ := Int.eq_ofNat_of_zero_le h4
      obtain ⟨b, hb⟩ : ∃ b, bl[n]? = some b := ⟨_, List.getElem?_eq_getElem (by omega)⟩
      have hg : bl.getD n true = b := by rw [List.getD_eq_getElem?_getD, hb]; rfl
      cases b with
      | false => exact a_Path1 e hs n q bl (by omega) (by omega) (by omega) hg
      | true =>
        have hp : pathF e bl n q = [] := by unfold pathF; rw [if_neg (by simp only [Int.toNat_natCast, hg]; simp)]
        rw [hp]
        (refine acall_of tab_ok Try.func77 rfl (by decide) ?_; (conv => whnf); repeat (first | (refine LitB.data ?_; conv => whnf) | (refine BoxB.own ?_; conv => whnf)))
        (repeat' (first | ((refine DecB.mk (fun h => ?_) (fun h => ?_)) <;> first | (exfalso; omega) | (conv => whnf)) | ((refine BoolB.mk (fun h => ?_) (fun h => ?_)) <;> first | (exact absurd h (by decide)) | (conv => whnf)) | (refine ⟨_, wrap_ok (by omega) (by omega), ?_⟩; conv => whnf) | (refine and_idx (by omega) (by omega) ?_; conv => whnf) | (refine reg_ok (by decide +kernel) ?_; conv => whnf) | (refine bar_ok (by decide +kernel) (by decide +kernel) ?_; conv => whnf) | (refine late_ok rfl rfl ?_; conv => whnf) | (refine src_ok rfl ?_; conv => whnf) | (refine .inl ⟨_, _, qcall_pure (f1) rfl rfl, ?_⟩; conv => whnf) | (refine .inl ⟨_, _, qcall_pure (f2) rfl rfl, ?_⟩; conv => whnf) | (refine ex_row hb ?_; conv => whnf) | (refine LitB.data ?_; conv => whnf) | (refine BoxB.own ?_; conv => whnf)))
        all_goals first | (exfalso; simp_all; done) | exact fin_t rfl
end Go.Proofs.Ytomfnfbijgjfeaa
/- The reference's better, Paths, Path. -/
namespace Go.Proofs.Ytomfnfbijgjfeaa
open Go.RowKit
set_option linter.unusedVariables false
set_option linter.unusedSimpArgs false
set_option maxRecDepth 100000

def lexB : List Int → List Int → Bool
  | x :: a, y :: b => if x = y then lexB a b else decide (x < y)
  | _, _ => false
def betterB (a b : List Int) : Bool := if b = [] ∨ a.length ≠ b.length then decide (b = []) || decide (a.length < b.length) else lexB a b
theorem lexB_take {a b : List Int} : ∀ k, a.take k = b.take k → lexB a b = lexB (a.drop k) (b.drop k) := by
  intro k
  induction k generalizing a b with
  | zero => intro _; rfl
  | succ k ih =>
    intro h
    cases a with
    | nil => cases b with
      | nil => rfl
      | cons y b => simp at h
    | cons x a => cases b with
      | nil => simp at h
      | cons y b =>
        simp at h
        obtain ⟨rfl, h⟩ := h
        rw [lexB, if_pos rfl, ih h]
        rfl
end Go.Proofs.Ytomfnfbijgjfeaa
/- The reference's search: the best path from a move to each one, as a function. -/
namespace Go.Proofs.Ytomfnfbijgjfeaa
open Go.RowKit
set_option linter.unusedVariables false
set_option linter.unusedSimpArgs false

def stepB (e : Ev) (i k : Nat) : Bool := match e.moves[i]?, e.moves[k]? with
  | some u, some v => decide (i < k) && decide (v.src = u.dst) && clearB e u.dst i k
  | _, _ => false
def innerStep (e : Ev) (k : Nat) (b : List (List Int)) (i : Nat) : List (List Int) :=
  if b.getD i [] = [] ∨ stepB e i k = false then b else if betterB (b.getD i [] ++ [(k : Int)]) (b.getD k []) = true then b.set k (b.getD i [] ++ [(k : Int)]) else b
def innerTo (e : Ev) (fr k : Nat) (b : List (List Int)) (c : Nat) : List (List Int) := (List.range c).foldl (fun b j => innerStep e k b (fr + j)) b
def outerStep (e : Ev) (bl : List Bool) (fr : Nat) (b : List (List Int)) (k : Nat) : List (List Int) :=
  if bl.getD k true = true then b else innerTo e fr k (if k = fr then b.set k [(k : Int)] else b) (k - fr)
def refTo (e : Ev) (bl : List Bool) (fr c : Nat) : List (List Int) := (List.range c).foldl (fun b j => outerStep e bl fr b (fr + j)) (List.replicate e.moves.length [])
def refPaths (e : Ev) (bl : List Bool) (fr : Nat) : List (List Int) := refTo e bl fr (e.moves.length - fr)
def refPath (e : Ev) (bl : List Bool) (fr t : Int) : List Int :=
  if fitsB e fr bl = true ∧ fitsB e t bl = true then (refPaths e bl fr.toNat).getD t.toNat [] else []

theorem range_foldl_succ {α : Type} {f : α → Nat → α} {s : α} {c : Nat} : (List.range (c + 1)).foldl f s = f ((List.range c).foldl f s) c := by
  rw [List.range_succ, List.foldl_append]; rfl
theorem innerTo_succ {e : Ev} {fr k c : Nat} {b : List (List Int)} : innerTo e fr k b (c + 1) = innerStep e k (innerTo e fr k b c) (fr + c) := range_foldl_succ
theorem refTo_succ {e : Ev} {bl : List Bool} {fr c : Nat} : refTo e bl fr (c + 1) = outerStep e bl fr (refTo e bl fr c) (fr + c) := range_foldl_succ
/-- how many lists there are, and how long they are -/
structure ShortP (n : Nat) (b : List (List Int)) : Prop where
  len : b.length = n
  short : ∀ j, (b.getD j []).length ≤ j + 1
theorem getD_setL {b : List (List Int)} {k j : Nat} {p : List Int} (hk : k < b.length) : (b.set k p).getD j [] = if j = k then p else b.getD j [] := by
  rw [List.getD_eq_getElem?_getD, List.getD_eq_getElem?_getD]
  by_cases h : j = k
  · subst h; rw [List.getElem?_set_self hk, if_pos rfl]; rfl
  · rw [List.getElem?_set_ne (Ne.symm h), if_neg h]
theorem ShortP.set {n k : Nat} {b : List (List Int)} {p : List Int} (h : ShortP n b) (hk : k < n) (hp : p.length ≤ k + 1) : ShortP n (b.set k p) := by
  refine ⟨by simpa using h.len, fun j => ?_⟩
  rw [getD_setL (by rw [h.len]; exact hk)]
  split
  · rename_i hj; subst hj; exact hp
  · exact h.short j
theorem ShortP.inner {e : Ev} {n k i : Nat} {b : List (List Int)} (h : ShortP n b) (hk : k < n) (hi : i < k) : ShortP n (innerStep e k b i) := by
  unfold innerStep
  split
  · exact h
  · split
    · exact h.set hk (by have := h.short i; rw [List.length_append, List.length_singleton]; omega)
    · exact h
theorem ShortP.innerTo {e : Ev} {n fr k : Nat} {b : List (List Int)} (h : ShortP n b) (hk : k < n) : ∀ c, fr + c ≤ k → ShortP n (innerTo e fr k b c)
  | 0, _ => h
  | c + 1, hc => by
    rw [innerTo_succ]
    exact (ShortP.innerTo h hk c (by omega)).inner hk (by omega)
theorem ShortP.outer {e : Ev} {bl : List Bool} {n fr k : Nat} {b : List (List Int)} (h : ShortP n b) (hk : k < n) (hf : fr ≤ k) : ShortP n (outerStep e bl fr b k) := by
  unfold outerStep
  split
  · exact h
  · refine ShortP.innerTo ?_ hk _ (by omega)
    split
    · exact h.set hk (by simp)
    · exact h
theorem ShortP.refTo {e : Ev} {bl : List Bool} {fr : Nat} : ∀ c, fr + c ≤ e.moves.length → ShortP e.moves.length (refTo e bl fr c)
  | 0, _ => ⟨by simp [Go.Proofs.Ytomfnfbijgjfeaa.refTo], fun j => by simp [Go.Proofs.Ytomfnfbijgjfeaa.refTo, List.getD_eq_getElem?_getD, List.getElem?_replicate]; split <;> simp⟩
  | c + 1, hc => by
    rw [refTo_succ]
    exact (ShortP.refTo c (by omega)).outer (by omega) (by omega)
end Go.Proofs.Ytomfnfbijgjfeaa
/- The reference's Paths. -/
namespace Go.Proofs.Ytomfnfbijgjfeaa
open Go.RowKit
set_option linter.unusedVariables false
set_option linter.unusedSimpArgs false
set_option maxRecDepth 100000

theorem entL_ts {ρ : List (Option Nat)} {H : Hp} : ∀ l : List T, EntL ρ H (l.map C.t) (l.map C.t)
  | [] => trivial
  | x :: r => ⟨weak_refl x, entL_ts r⟩
theorem entR_rf24 {ρ : List (Option Nat)} {H : Hp} : ∀ R : List (List T), EntR ρ H (toC R) (toC R)
  | [] => trivial
  | r :: R => ⟨entL_ts r, entR_rf24 R⟩
theorem entR_set {ρ : List (Option Nat)} {H : Hp} {x y : C} (h : EntC ρ H x y) : ∀ {A B : List (List C)} (k : Nat), EntR ρ H A B → EntR ρ H (A.set k [x]) (B.set k [y])
  | [], [], _, _ => trivial
  | a :: A, b :: B, 0, hr => ⟨⟨h, trivial⟩, hr.2⟩
  | a :: A, b :: B, k + 1, hr => ⟨hr.1, entR_set h k hr.2⟩
  | [], _ :: _, _, hr => hr.elim
  | _ :: _, [], _, hr => hr.elim
theorem entR_rep {ρ : List (Option Nat)} {H : Hp} {x y : C} (h : EntC ρ H x y) : ∀ n, EntR ρ H (List.replicate n [x]) (List.replicate n [y])
  | 0 => trivial
  | n + 1 => ⟨⟨h, trivial⟩, entR_rep h n⟩
def bestRow (p : List Int) : List T := [intsT p]
abbrev bestB (L : List (List Int)) : Blk := { mode := .live, elem := 47, size := 1, rows := toC (L.map bestRow), box := false }
theorem ex_best {L : List (List Int)} {i : Nat} {p : List Int} {K : List C → Prop} (hx : L[i]? = some p) (h : K [C.t (intsT p)]) : ∃ row, (toC (L.map bestRow))[i]? = some row ∧ K row :=
  ⟨[C.t (intsT p)], by simp [toC, hx, bestRow], h⟩
theorem toC_best_set {L : List (List Int)} {k : Nat} {p : List Int} : toC ((L.set k p).map bestRow) = (toC (L.map bestRow)).set k [C.t (intsT p)] := by
  simp [toC, bestRow, List.map_set]
end Go.Proofs.Ytomfnfbijgjfeaa
