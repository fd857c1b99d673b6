/- The laws HistoryScales, HistoryCuts, HistoryMixes, HistoryConserves: at every input each returns true, and its arguments read as before. Conditions: none. -/
import Derived.Deep.DeepMust
import Derived.BigQuiet
import Derived.Deep.Light
import Derived.ProofKit
import Derived.OpenShut
import Derived.Deep.Slices
import Derived.Deep.Fields
import Derived.Test.YthinjkjhiembgaaRows
import Derived.Test.YthinjkjhiembgaaHx5
/- HistoryScales: its walk. -/
namespace Go.Proofs.Ythinjkjhiembgaa
open Go.RowKit
set_option linter.unusedVariables false
set_option linter.unusedSimpArgs false
set_option maxRecDepth 100000

abbrev movesB (l : List Move) : Blk := { mode := .live, elem := 40, size := 6, rows := toC (l.map Move.row), box := false }
abbrev picksB (l : List Pick) : Blk := { mode := .live, elem := 63, size := 2, rows := toC (l.map Pick.row), box := false }
/-- a box of evidence whose moves are a block of one's own -/
abbrev otherB (e : Ev) (id n : Nat) : Blk := { mode := .live, elem := 28, size := 8, rows := [[.t (ti e.mats), .t (ti e.hhs), .t (ti e.scs), .t (placesT e.places), .own id 0 n true, .t (certsT e.certs), .t (recallsT e.recalls), .t (puritiesT e.purities)]], box := true }
theorem vs_readE {e e' : Ev} {H : Hp} {id n : Nat} {app : Bool} {k : Blk} (he : e' = { e with moves := e'.moves }) (hk : H[id]? = some k) (hd : ¬ k.mode.gone) (hs : k.size = 6) (hc : k.rows = toC (e'.moves.map Move.row)) (hl : n = e'.moves.length) :
    VS H (fun _ => True) (.agg [.t (ti e.mats), .t (ti e.hhs), .t (ti e.scs), .t (placesT e.places), .own id 0 n app, .t (certsT e.certs), .t (recallsT e.recalls), .t (puritiesT e.purities)]) (evS e') := by
  have h1 : e'.mats = e.mats := by rw [he]
  have h2 : e'.hhs = e.hhs := by rw [he]
  have h3 : e'.scs = e.scs := by rw [he]
  have h4 : e'.places = e.places := by rw [he]
  have h5 : e'.certs = e.certs := by rw [he]
  have h6 : e'.recalls = e.recalls := by rw [he]
  have h7 : e'.purities = e.purities := by rw [he]
  rw [← h1, ← h2, ← h3, ← h4, ← h5, ← h6, ← h7]
  exact vs_agg (ts := evT e') (vl_cons (vc_t rfl) (vl_cons (vc_t rfl) (vl_cons (vc_t rfl) (vl_cons (vc_t rfl) (vl_cons (vc_all trivial hk hd hs hc (by simp [hl])) (vl_cons (vc_t rfl) (vl_cons (vc_t rfl) (vl_cons (vc_t rfl) vl_nil))))))))
def reRead (x : Move) (r : Int) : Move := { x with reading := r }
theorem toC_move {l : List Move} {k n : Nat} {y : Move} (h : n = k) : (toC (l.map Move.row)).set n (y.row.map C.t) = toC ((l.set k y).map Move.row) := by
  subst h; simp [toC, List.map_set]
theorem cmpR_ge {x y : Rat} : cmpR x y ≥ 0 ↔ y ≤ x := by
  have := cmpR_lt (x := x) (y := y)
  constructor
  · intro h; have h2 : ¬ x < y := fun h' => by have := this.2 h'; omega
    grind
  · intro h; have h2 : ¬ cmpR x y < 0 := fun h' => by have := this.1 h'; grind
    omega
def pkM (k m : Nat) : List Pick := (List.range m).map fun (j : Nat) => ⟨(k : Int), (j : Int)⟩
theorem massF_snoc (hh : List (List Fr)) (p : Pick) : ∀ (ps : List Pick) (a : Rat), massF hh a (ps ++ [p]) = (massF hh a ps).bind fun s => (pickVal hh p).map (s + ·)
  | [], a => by
    show massF hh a [p] = _
    unfold massF
    cases pickVal hh p <;> rfl
  | q :: ps, a => by
    show massF hh a (q :: (ps ++ [p])) = _
    unfold massF
    cases pickVal hh q with
    | none => rfl
    | some v => exact massF_snoc hh p ps (a + v)
theorem mass_row {G : List (List Rat)} {k : Nat} {l : List Rat} (hl : G[k]? = some l) : ∀ m, m ≤ l.length → massF (hz G) zR (pkM k m) = some (sumR (l.take m))
  | 0, _ => rfl
  | m + 1, h => by
    have epk : pkM k (m + 1) = pkM k m ++ [⟨k, m⟩] := by simp [pkM, List.range_succ]
    have hg : l[m]? = some (l[m]'(by omega)) := List.getElem?_eq_getElem (by omega)
    rw [epk, massF_snoc, mass_row hl m (by omega), sumR_take hg]
    have hp : pickVal (hz G) ⟨k, m⟩ = some (l[m]'(by omega)) := by
      unfold pickVal
      rw [if_pos ⟨by show (0 : Int) ≤ k; omega, by show (0 : Int) ≤ m; omega⟩]
      show (match ((hz G).getD ((k : Int)).toNat [])[((m : Int)).toNat]? with | some f => if rightF f then some (fv f) else none | none => none) = _
      rw [show ((k : Int)).toNat = k by omega, show ((m : Int)).toNat = m by omega, List.getD_eq_getElem?_getD, hz_get hl]
      simp only [Option.getD_some]
      rw [zero_get l hg]
      simp [fz_right, fv_fz]
    rw [hp]; rfl
set_option maxHeartbeats 4000000 in
theorem a_HistoryScales (e : Ev) (hh : List (List Fr)) (which reading : Int) (hw0 : 0 ≤ which) (hw1 : which ≤ 255) :
    ACall Try.prog 6 [evS e, histS hh, intS .u8 which, intS .i64 reading] [] (boolS true) [] := by
  have sm := a_small15
  have fw := a_few e hh
  have m1 : (hh.map fracsRow).length = hh.length := by simp
  cases hf : (little e && fewH hh) with
  | false =>
    rw [hf] at fw
    (refine acall_of tab_ok Try.func6 rfl (by decide) ?_; (conv => whnf); repeat (first | (refine LitB.data ?_; conv => whnf) | (refine BoxB.data ?_; conv => whnf)))
    (repeat' (first | ((refine DecB.mk (fun h => ?_) (fun h => ?_)) <;> first | (exfalso; omega) | (conv => whnf)) | ((refine BoolB.mk (fun h => ?_) (fun h => ?_)) <;> first | (exact absurd h (by decide)) | (conv => whnf)) | (refine ⟨_, wrap_ok (by omega) (by omega), ?_⟩; conv => whnf) | (refine and_idx (by omega) (by omega) ?_; conv => whnf) | (refine reg_ok (by decide +kernel) ?_; conv => whnf) | (refine bar_ok (by decide +kernel) (by decide +kernel) ?_; conv => whnf) | (refine late_ok rfl rfl ?_; conv => whnf) | (refine src_ok rfl ?_; conv => whnf) | (refine .inl ⟨_, _, qcall_pure (sm) rfl rfl, ?_⟩; conv => whnf) | (refine .inl ⟨_, _, qcall_pure (fw) rfl rfl, ?_⟩; conv => whnf) | (refine LitB.data ?_; conv => whnf) | (refine BoxB.own ?_; conv => whnf)))
    all_goals first
      | (exfalso; simp_all; done)
      | exact fin_bool rfl
  | true =>
    rw [hf] at fw
    simp only [Bool.and_eq_true] at hf
    have hs := little_sized hf.1
    obtain ⟨hS, hS2, hS3⟩ := few_small hf.2
    have hS := hS.mono (show 3 ≤ 200 by decide)
    have hc := a_hCheck e hh hs hS
    by_cases hok : 0 < hh.length ∧ histCheck e hh = 0
    · obtain ⟨q1, q2, q3⟩ := histCheck_zero hok.2
      obtain ⟨G, rfl, hG⟩ := shaped_rats q2
      have m2 : (e.moves.map Move.row).length = e.moves.length := by simp
      have gl : (hz G).length = e.moves.length := by simp [hz, hG.len]
      obtain ⟨b1, b2, b3, b4⟩ := check_bounds q1
      have hmod : 0 ≤ which.tmod ((((hz G).map fracsRow).length : Nat) : Int) ∧ which.tmod ((((hz G).map fracsRow).length : Nat) : Int) < e.moves.length := by
        rw [m1, gl, Int.tmod_eq_emod_of_nonneg hw0]
        exact ⟨Int.emod_nonneg _ (by omega), Int.emod_lt_of_pos _ (by omega)⟩
      obtain ⟨k, hk⟩ := Int.eq_ofNat_of_zero_le hmod.1
      rw [hk] at hmod
      obtain ⟨x, hx⟩ : ∃ x, e.moves[k]? = some x := ⟨_, List.getElem?_eq_getElem (by omega)⟩
      have hsz : (readE e k x reading).Sized := ⟨hs.s1, by have := hs.s2; simpa [readE] using this, hs.s3, hs.s4, hs.s5⟩
      have cko := a_Check (readE e k x reading) hsz
      have hco := a_hCheck (readE e k x reading) (hz G) hsz hS
      have hrow : (toC (e.moves.map Move.row))[0 + (which.tmod ((((hz G).map fracsRow).length : Nat) : Int)).toNat]? = some (x.row.map C.t) := by
        rw [hk, show 0 + ((k : Nat) : Int).toNat = k by omega]
        simp [toC, hx]
      have eX : 0 + (which.tmod ((((hz G).map fracsRow).length : Nat) : Int)).toNat = k := by rw [hk]; omega
      (refine acall_of tab_ok Try.func6 rfl (by decide) ?_; (conv => whnf); repeat (first | (refine LitB.data ?_; conv => whnf) | (refine BoxB.data ?_; conv => whnf)))
      (repeat' (first | ((refine DecB.mk (fun h => ?_) (fun h => ?_)) <;> first | (exfalso; omega) | (conv => whnf)) | ((refine BoolB.mk (fun h => ?_) (fun h => ?_)) <;> first | (exact absurd h (by decide)) | (conv => whnf)) | (refine ⟨_, wrap_ok (by omega) (by omega), ?_⟩; conv => whnf) | (refine and_idx (by omega) (by omega) ?_; conv => whnf) | (refine reg_ok (by decide +kernel) ?_; conv => whnf) | (refine bar_ok (by decide +kernel) (by decide +kernel) ?_; conv => whnf) | (refine late_ok rfl rfl ?_; conv => whnf) | (refine src_ok rfl ?_; conv => whnf) | (refine .inl ⟨_, _, qcall_pure (sm) rfl rfl, ?_⟩; conv => whnf) | (refine .inl ⟨_, _, qcall_pure (fw) rfl rfl, ?_⟩; conv => whnf) | (refine .inl ⟨_, _, qcall_pure (hc) rfl rfl, ?_⟩; conv => whnf) | (refine .inl ⟨_, _, qcall_pure (toC) rfl rfl, ?_⟩; conv => whnf) | (refine .inl ⟨_, _, qcall_pure (toC) rfl rfl, ?_⟩; conv => whnf) | (refine .inl ⟨_, _, qcall_pure (toC, readE) rfl rfl, ?_⟩; conv => whnf) | (refine ne_ok (by omega) ?_; conv => whnf) | (refine app_nil rfl (by simp [toC]; omega) ?_; conv => whnf) | (refine and_idx (by omega) (by (have l3 : (toC (e.moves.map Move.row)).length = e.moves.length := (by simp [toC])); (show _ < (((0 + (toC (e.moves.map Move.row)).length : Nat)) : Int)); omega) ?_; conv => whnf) | (refine ⟨_, hrow, ?_⟩; conv => whnf) | (refine .inl ⟨_, _, qcall_view cko ⟨vs_readE (e := e) rfl rfl (by intro h; cases h) rfl (toC_move (l := e.moves) (y := reRead x reading) eX) (by simp [toC, readE]), trivial⟩ rfl, ?_⟩; conv => whnf) | (refine LitB.data ?_; conv => whnf) | (refine BoxB.own ?_; conv => whnf)))
      all_goals first
        | (exfalso; omega)
        | exact fin_bool rfl
        | skip
      have hmo : (readE e k x reading).moves.length = e.moves.length := by simp [readE]
      refine awp_for tab_ok (fun m => ([S.junk, histS (hz G), S.junk, intS .i64 reading, S.c (C.t (T.ptr (evT e))), S.junk, S.junk, S.junk, S.junk, boolS true, intS .i64 k, S.c (C.ptr 0 0 0), S.c (C.own 2 0 m true), intS .i64 m, S.junk, S.junk, S.junk, S.junk, S.junk, S.junk, S.junk, S.junk, S.junk, S.junk, S.junk, S.junk, S.junk, S.junk, S.junk, S.junk, S.junk, S.junk, S.junk, S.junk, S.junk, S.junk, S.junk, S.junk, S.junk, S.junk, S.junk, S.junk, S.junk, S.junk, S.junk, S.junk, S.junk, S.junk, S.junk, S.junk, S.junk, S.junk, S.junk, S.junk, S.junk, S.junk, S.junk, S.junk, S.junk, S.junk, S.junk, S.junk, S.junk, S.junk, S.junk, S.junk, S.junk, S.junk, S.junk, S.junk, S.junk, S.junk, S.junk, S.junk, S.junk, S.junk, S.junk, S.junk, S.junk, S.junk, S.junk, S.junk, S.junk, S.junk, S.junk, S.junk, S.junk, S.junk, S.junk, S.junk, S.junk, S.junk, S.junk, S.junk, S.junk, S.junk, S.junk, S.junk, S.junk, S.junk, S.junk, S.junk, S.junk, S.junk, S.junk, S.junk, S.junk, S.junk, S.junk, S.junk, S.junk, S.junk, S.junk, S.junk, S.junk, S.junk, S.junk, S.junk, S.junk, S.junk, S.junk, S.junk, S.junk, S.junk, S.junk, S.junk, S.junk, S.junk, S.junk], [otherB e 1 e.moves.length, movesB (readE e k x reading).moves, picksB (pkM k m)])) e.mats.toNat (fun _ => True) [some 0, some 1, none] trivial
        ⟨rfl, rfl, ⟨⟨rfl, rfl, rfl, .inr ⟨⟨rfl, rfl, rfl, rfl, ⟨rfl, rfl, by simp [toC], fun h => h⟩, rfl, rfl, rfl, trivial⟩, trivial⟩⟩, entB_rows rfl rfl rfl (toC_move (l := e.moves) (y := reRead x reading) eX) rfl, ⟨rfl, rfl⟩, trivial⟩, ⟨rfl, rfl, rfl, rfl, ent_i hk, ⟨rfl, rfl, rfl⟩, ⟨rfl, rfl, rfl⟩, rfl, trivial⟩⟩ ?_
      intro m hm _
      by_cases hmt : m < e.mats.toNat
      · conv => whnf
        (repeat' (first | ((refine DecB.mk (fun h => ?_) (fun h => ?_)) <;> first | (exfalso; omega) | (conv => whnf)) | ((refine BoolB.mk (fun h => ?_) (fun h => ?_)) <;> first | (exact absurd h (by decide)) | (conv => whnf)) | (refine ⟨_, wrap_ok (by omega) (by omega), ?_⟩; conv => whnf) | (refine and_idx (by omega) (by omega) ?_; conv => whnf) | (refine reg_ok (by decide +kernel) ?_; conv => whnf) | (refine bar_ok (by decide +kernel) (by decide +kernel) ?_; conv => whnf) | (refine late_ok rfl rfl ?_; conv => whnf) | (refine src_ok rfl ?_; conv => whnf) | (refine .inl ⟨_, _, qcall_pure (toC, pkM) rfl rfl, ?_⟩; conv => whnf) | (refine .inl ⟨_, _, qcall_pure (toC) rfl rfl, ?_⟩; conv => whnf) | (refine app_ok (by simp [toC, pkM]) (by simp [toC]; omega) ?_; conv => whnf) | (refine LitB.data ?_; conv => whnf) | (refine BoxB.own ?_; conv => whnf)))
        all_goals try (exfalso; omega)
        have epk : pkM k (m + 1) = pkM k m ++ [⟨k, m⟩] := by simp [pkM, List.range_succ]
        refine ⟨hmt, trivial, [some 0, some 1, some 3], rfl, rfl, ⟨⟨rfl, rfl, rfl, .inr ⟨⟨rfl, rfl, rfl, rfl, ⟨rfl, rfl, rfl, fun h => h⟩, rfl, rfl, rfl, trivial⟩, trivial⟩⟩, entB_rows rfl rfl rfl rfl rfl, entB_rows rfl rfl rfl ?_ rfl, trivial⟩, ⟨rfl, rfl, rfl, rfl, rfl, ⟨rfl, rfl, rfl⟩, ent_own rfl (by simp [toC]), rfl, trivial⟩⟩
        rw [epk]
        simp [newBlk, toC, pkM, Pick.row]
        exact List.take_of_length_le (by simp)
      · have hme : m = e.mats.toNat := by omega
        subst hme
        obtain ⟨l, hl⟩ : ∃ l, G[k]? = some l := ⟨_, List.getElem?_eq_getElem (by rw [hG.len]; omega)⟩
        have hlw := hG.wid l (List.mem_of_getElem? hl)
        have ms := a_hMass (hz G) (pkM k e.mats.toNat) hS (by simp [pkM]; omega)
        rw [mass_row hl e.mats.toNat (by omega), List.take_of_length_le (by omega)] at ms
        have hrow2 : (toC ((readE e k x reading).moves.map Move.row))[0 + (k : Int).toNat]? = some ((reRead x reading).row.map C.t) := by
          rw [show 0 + (k : Int).toNat = k by omega]
          have : (readE e k x reading).moves[k]? = some (reRead x reading) := by rw [readE_get hx, if_pos rfl]; rfl
          simp [toC, this]
        have hsr : (reRead x reading).scale = x.scale := rfl
        have l2 := hs.s3
        have l3 := hs.s4
        have iv := a_Interval e.certs e.recalls (by omega) (by omega) x.scale reading x.day
        have bs : rl (sumR l) ≤ 50000 := by
          have := rl_sumR (small_rats hS l (List.mem_of_getElem? hl))
          have h2 := Nat.mul_le_mul_right (200 + 1) (show l.length ≤ 6 by omega)
          omega
        have hgd : G.getD k [] = l := by rw [List.getD_eq_getElem?_getD, hl]; rfl
        have hrd : check (readE e k x reading) = 0 → histCheck (readE e k x reading) (hz G) = if weighedB (readE e k x reading) (reRead x reading) (sumR l) then 0 else 24 := fun h => by
          have := hist_read (r := reading) hx rfl hok.2 h
          rw [hgd] at this
          exact this
        have hch : check (readE e k x reading) = 0 := by omega
        have hrd := hrd hch
        have hw : weighedB (readE e k x reading) (reRead x reading) (sumR l) = if x.scale = -1 then true else inB (interval e.certs e.recalls x.scale reading x.day) (sumR l) := rfl
        rw [hrd, hw] at hco
        by_cases hsc : x.scale = -1
        · rw [if_pos hsc, if_pos rfl] at hco
          cases hiv : interval e.certs e.recalls x.scale reading x.day with
          | none =>
            rw [hiv] at iv
            conv => whnf
            (repeat' (first | ((refine DecB.mk (fun h => ?_) (fun h => ?_)) <;> first | (exfalso; omega) | (conv => whnf)) | ((refine BoolB.mk (fun h => ?_) (fun h => ?_)) <;> first | (exact absurd h (by decide)) | (conv => whnf)) | (refine ⟨_, wrap_ok (by omega) (by omega), ?_⟩; conv => whnf) | (refine and_idx (by omega) (by omega) ?_; conv => whnf) | (refine reg_ok (by decide +kernel) ?_; conv => whnf) | (refine bar_ok (by decide +kernel) (by decide +kernel) ?_; conv => whnf) | (refine late_ok rfl rfl ?_; conv => whnf) | (refine src_ok rfl ?_; conv => whnf) | (refine .inl ⟨_, _, qcall_pure (iv) rfl rfl, ?_⟩; conv => whnf) | (refine .inl ⟨_, _, qcall_pure (2) rfl rfl, ?_⟩; conv => whnf) | (refine .inl ⟨_, _, qcall_pure (pkM) rfl rfl, ?_⟩; conv => whnf) | (refine .inl ⟨_, _, qcall_pure (readE) rfl rfl, ?_⟩; conv => whnf) | (refine .inr ⟨_, _, acall_freeze [2] ms ⟨vs_t, vs_c (vc_all (by simp) rfl (by intro h; cases h) rfl rfl (by simp [pkM])), trivial⟩ rfl, ?_⟩; conv => whnf) | (refine ⟨_, hrow2, ?_⟩; conv => whnf) | (refine and_idx (by omega) (by omega) ?_; conv => whnf) | (refine .inl ⟨_, _, qcall_view hco ⟨vs_readE (e := e) rfl rfl (by intro h; cases h) rfl rfl (by simp [readE]), vs_t, trivial⟩ rfl, ?_⟩; conv => whnf) | (refine LitB.data ?_; conv => whnf) | (refine BoxB.own ?_; conv => whnf)))
            all_goals first
              | (exfalso; omega)
              | exact fin_bool rfl
              | (exfalso; simp_all; done)
          | some p =>
            obtain ⟨lo, hi⟩ := p
            obtain ⟨r1, r2⟩ := rl_interval hiv
            rw [hiv] at iv
            have c1 := z_fCompare (sumR l) lo (by omega) (by omega)
            have c2 := z_fCompare (sumR l) hi (by omega) (by omega)
            have g1 := cmpR_ge (x := sumR l) (y := lo)
            have g2 := cmpR_le (x := sumR l) (y := hi)
            conv => whnf
            (repeat' (first | ((refine DecB.mk (fun h => ?_) (fun h => ?_)) <;> first | (exfalso; omega) | (conv => whnf)) | ((refine BoolB.mk (fun h => ?_) (fun h => ?_)) <;> first | (exact absurd h (by decide)) | (conv => whnf)) | (refine ⟨_, wrap_ok (by omega) (by omega), ?_⟩; conv => whnf) | (refine and_idx (by omega) (by omega) ?_; conv => whnf) | (refine reg_ok (by decide +kernel) ?_; conv => whnf) | (refine bar_ok (by decide +kernel) (by decide +kernel) ?_; conv => whnf) | (refine late_ok rfl rfl ?_; conv => whnf) | (refine src_ok rfl ?_; conv => whnf) | (refine .inl ⟨_, _, qcall_pure (iv) rfl rfl, ?_⟩; conv => whnf) | (refine .inl ⟨_, _, qcall_pure (c1) rfl rfl, ?_⟩; conv => whnf) | (refine .inl ⟨_, _, qcall_pure (c2) rfl rfl, ?_⟩; conv => whnf) | (refine .inl ⟨_, _, qcall_pure (2) rfl rfl, ?_⟩; conv => whnf) | (refine .inl ⟨_, _, qcall_pure (pkM) rfl rfl, ?_⟩; conv => whnf) | (refine .inl ⟨_, _, qcall_pure (readE) rfl rfl, ?_⟩; conv => whnf) | (refine .inr ⟨_, _, acall_freeze [2] ms ⟨vs_t, vs_c (vc_all (by simp) rfl (by intro h; cases h) rfl rfl (by simp [pkM])), trivial⟩ rfl, ?_⟩; conv => whnf) | (refine ⟨_, hrow2, ?_⟩; conv => whnf) | (refine and_idx (by omega) (by omega) ?_; conv => whnf) | (refine .inl ⟨_, _, qcall_view hco ⟨vs_readE (e := e) rfl rfl (by intro h; cases h) rfl rfl (by simp [readE]), vs_t, trivial⟩ rfl, ?_⟩; conv => whnf) | (refine LitB.data ?_; conv => whnf) | (refine BoxB.own ?_; conv => whnf)))
            all_goals first
              | (exfalso; omega)
              | exact fin_bool rfl
              | (exfalso; simp_all; done)
        · rw [if_neg hsc] at hco
          cases hiv : interval e.certs e.recalls x.scale reading x.day with
          | none =>
            rw [hiv] at iv hco
            have hco : ACall Try.prog 10 [evS (readE e k x reading), histS (hz G)] [] (intS .i64 0) [] := hco
            conv => whnf
            (repeat' (first | ((refine DecB.mk (fun h => ?_) (fun h => ?_)) <;> first | (exfalso; omega) | (conv => whnf)) | ((refine BoolB.mk (fun h => ?_) (fun h => ?_)) <;> first | (exact absurd h (by decide)) | (conv => whnf)) | (refine ⟨_, wrap_ok (by omega) (by omega), ?_⟩; conv => whnf) | (refine and_idx (by omega) (by omega) ?_; conv => whnf) | (refine reg_ok (by decide +kernel) ?_; conv => whnf) | (refine bar_ok (by decide +kernel) (by decide +kernel) ?_; conv => whnf) | (refine late_ok rfl rfl ?_; conv => whnf) | (refine src_ok rfl ?_; conv => whnf) | (refine .inl ⟨_, _, qcall_pure (iv) rfl rfl, ?_⟩; conv => whnf) | (refine .inl ⟨_, _, qcall_pure (2) rfl rfl, ?_⟩; conv => whnf) | (refine .inl ⟨_, _, qcall_pure (pkM) rfl rfl, ?_⟩; conv => whnf) | (refine .inl ⟨_, _, qcall_pure (readE) rfl rfl, ?_⟩; conv => whnf) | (refine .inr ⟨_, _, acall_freeze [2] ms ⟨vs_t, vs_c (vc_all (by simp) rfl (by intro h; cases h) rfl rfl (by simp [pkM])), trivial⟩ rfl, ?_⟩; conv => whnf) | (refine ⟨_, hrow2, ?_⟩; conv => whnf) | (refine and_idx (by omega) (by omega) ?_; conv => whnf) | (refine .inl ⟨_, _, qcall_view hco ⟨vs_readE (e := e) rfl rfl (by intro h; cases h) rfl rfl (by simp [readE]), vs_t, trivial⟩ rfl, ?_⟩; conv => whnf) | (refine LitB.data ?_; conv => whnf) | (refine BoxB.own ?_; conv => whnf)))
            all_goals first
              | (exfalso; omega)
              | exact fin_bool rfl
              | (exfalso; simp_all; done)
          | some p =>
            obtain ⟨lo, hi⟩ := p
            obtain ⟨r1, r2⟩ := rl_interval hiv
            rw [hiv] at iv hco
            have c1 := z_fCompare (sumR l) lo (by omega) (by omega)
            have c2 := z_fCompare (sumR l) hi (by omega) (by omega)
            have g1 := cmpR_ge (x := sumR l) (y := lo)
            have g2 := cmpR_le (x := sumR l) (y := hi)
            by_cases hin : lo ≤ sumR l ∧ sumR l ≤ hi
            · have hib : inB (some (lo, hi)) (sumR l) = true := by simp [inB, hin]
              rw [hib, if_pos rfl] at hco
              have g3 := g1.2 hin.1
              have g4 := g2.2 hin.2
              conv => whnf
              (repeat' (first | ((refine DecB.mk (fun h => ?_) (fun h => ?_)) <;> first | (exfalso; omega) | (conv => whnf)) | ((refine BoolB.mk (fun h => ?_) (fun h => ?_)) <;> first | (exact absurd h (by decide)) | (conv => whnf)) | (refine ⟨_, wrap_ok (by omega) (by omega), ?_⟩; conv => whnf) | (refine and_idx (by omega) (by omega) ?_; conv => whnf) | (refine reg_ok (by decide +kernel) ?_; conv => whnf) | (refine bar_ok (by decide +kernel) (by decide +kernel) ?_; conv => whnf) | (refine late_ok rfl rfl ?_; conv => whnf) | (refine src_ok rfl ?_; conv => whnf) | (refine .inl ⟨_, _, qcall_pure (iv) rfl rfl, ?_⟩; conv => whnf) | (refine .inl ⟨_, _, qcall_pure (c1) rfl rfl, ?_⟩; conv => whnf) | (refine .inl ⟨_, _, qcall_pure (c2) rfl rfl, ?_⟩; conv => whnf) | (refine .inl ⟨_, _, qcall_pure (2) rfl rfl, ?_⟩; conv => whnf) | (refine .inl ⟨_, _, qcall_pure (pkM) rfl rfl, ?_⟩; conv => whnf) | (refine .inl ⟨_, _, qcall_pure (readE) rfl rfl, ?_⟩; conv => whnf) | (refine .inr ⟨_, _, acall_freeze [2] ms ⟨vs_t, vs_c (vc_all (by simp) rfl (by intro h; cases h) rfl rfl (by simp [pkM])), trivial⟩ rfl, ?_⟩; conv => whnf) | (refine ⟨_, hrow2, ?_⟩; conv => whnf) | (refine and_idx (by omega) (by omega) ?_; conv => whnf) | (refine .inl ⟨_, _, qcall_view hco ⟨vs_readE (e := e) rfl rfl (by intro h; cases h) rfl rfl (by simp [readE]), vs_t, trivial⟩ rfl, ?_⟩; conv => whnf) | (refine LitB.data ?_; conv => whnf) | (refine BoxB.own ?_; conv => whnf)))
              all_goals first
                | (exfalso; omega)
                | exact fin_bool rfl
                | (exfalso; simp_all; done)
            · have hib : inB (some (lo, hi)) (sumR l) = false := by
                cases h : inB (some (lo, hi)) (sumR l) with
                | false => rfl
                | true => simp [inB] at h; exact absurd h hin
              rw [hib, if_neg (by simp)] at hco
              have g3 : ¬ (cmpR (sumR l) lo ≥ 0 ∧ cmpR (sumR l) hi ≤ 0) := fun h => hin ⟨g1.1 h.1, g2.1 h.2⟩
              conv => whnf
              (repeat' (first | ((refine DecB.mk (fun h => ?_) (fun h => ?_)) <;> first | (exfalso; omega) | (conv => whnf)) | ((refine BoolB.mk (fun h => ?_) (fun h => ?_)) <;> first | (exact absurd h (by decide)) | (conv => whnf)) | (refine ⟨_, wrap_ok (by omega) (by omega), ?_⟩; conv => whnf) | (refine and_idx (by omega) (by omega) ?_; conv => whnf) | (refine reg_ok (by decide +kernel) ?_; conv => whnf) | (refine bar_ok (by decide +kernel) (by decide +kernel) ?_; conv => whnf) | (refine late_ok rfl rfl ?_; conv => whnf) | (refine src_ok rfl ?_; conv => whnf) | (refine .inl ⟨_, _, qcall_pure (iv) rfl rfl, ?_⟩; conv => whnf) | (refine .inl ⟨_, _, qcall_pure (c1) rfl rfl, ?_⟩; conv => whnf) | (refine .inl ⟨_, _, qcall_pure (c2) rfl rfl, ?_⟩; conv => whnf) | (refine .inl ⟨_, _, qcall_pure (2) rfl rfl, ?_⟩; conv => whnf) | (refine .inl ⟨_, _, qcall_pure (pkM) rfl rfl, ?_⟩; conv => whnf) | (refine .inl ⟨_, _, qcall_pure (readE) rfl rfl, ?_⟩; conv => whnf) | (refine .inr ⟨_, _, acall_freeze [2] ms ⟨vs_t, vs_c (vc_all (by simp) rfl (by intro h; cases h) rfl rfl (by simp [pkM])), trivial⟩ rfl, ?_⟩; conv => whnf) | (refine ⟨_, hrow2, ?_⟩; conv => whnf) | (refine and_idx (by omega) (by omega) ?_; conv => whnf) | (refine .inl ⟨_, _, qcall_view hco ⟨vs_readE (e := e) rfl rfl (by intro h; cases h) rfl rfl (by simp [readE]), vs_t, trivial⟩ rfl, ?_⟩; conv => whnf) | (refine LitB.data ?_; conv => whnf) | (refine BoxB.own ?_; conv => whnf)))
              all_goals first
                | (exfalso; omega)
                | exact fin_bool rfl
                | (exfalso; simp_all; done)
    · (refine acall_of tab_ok Try.func6 rfl (by decide) ?_; (conv => whnf); repeat (first | (refine LitB.data ?_; conv => whnf) | (refine BoxB.data ?_; conv => whnf)))
      (repeat' (first | ((refine DecB.mk (fun h => ?_) (fun h => ?_)) <;> first | (exfalso; omega) | (conv => whnf)) | ((refine BoolB.mk (fun h => ?_) (fun h => ?_)) <;> first | (exact absurd h (by decide)) | (conv => whnf)) | (refine ⟨_, wrap_ok (by omega) (by omega), ?_⟩; conv => whnf) | (refine and_idx (by omega) (by omega) ?_; conv => whnf) | (refine reg_ok (by decide +kernel) ?_; conv => whnf) | (refine bar_ok (by decide +kernel) (by decide +kernel) ?_; conv => whnf) | (refine late_ok rfl rfl ?_; conv => whnf) | (refine src_ok rfl ?_; conv => whnf) | (refine .inl ⟨_, _, qcall_pure (sm) rfl rfl, ?_⟩; conv => whnf) | (refine .inl ⟨_, _, qcall_pure (fw) rfl rfl, ?_⟩; conv => whnf) | (refine .inl ⟨_, _, qcall_pure (hc) rfl rfl, ?_⟩; conv => whnf) | (refine LitB.data ?_; conv => whnf) | (refine BoxB.own ?_; conv => whnf)))
      all_goals first
        | (exfalso; omega)
        | exact fin_bool rfl
end Go.Proofs.Ythinjkjhiembgaa
/- Laws on appending to a slice that the call itself made, in the form that my walks use. Over any program. -/
namespace Go.Proofs.Ythinjkjhiembgaa
open Go.RowKit

/-- what an append leaves of older worlds -/
def Later (base : Nat) (w w' : World) : Prop := w.heap.size ≤ w'.heap.size ∧ ∀ (w0 : World) (B : Nat), Below B w0 w → B ≤ base → Below B w0 w'
theorem Later.below {base B : Nat} {w w' w0 : World} (h : Later base w w') (hb : Below B w0 w) (hB : B ≤ base) : Below B w0 w' := h.2 w0 B hb hB
theorem Later.size {base : Nat} {w w' : World} (h : Later base w w') : w.heap.size ≤ w'.heap.size := h.1

/-- 'append(s, x)': one element, s of the call's own -/
theorem wpList_app1 {P : Program} {w : World} {ops : Array Oper} {rest : List Oper} {o : Oper} {a : Act} {Q : Exit → Act → World → Prop} (hgd : o.guard = none) (s x : Operand) (t e : TypeId)
    (ho : o.op = .call { callee := .builtin .append, args := #[s, x], argTypes := #[t, t] })
    {z : Value} {size bytes : Nat} (ht : P.underlying t = some (.slice e)) (hinfo : (P.info? e).map (fun i => (i.zero, i.size, i.bytes)) = some (some z, size, bytes)) (hzs : z.cells.size = size) (hsz : 0 < size) (hby : bytes ≤ 1000)
    {base : Nat} {v : Value} {n : Nat} {xs : List Value} (hown : w.ownsRow base e size v n xs) (hs : a.eval s = v)
    {us : Array Value} (hus : us.size = size) (h1 : ∀ u ∈ us.toList, u.oneCell' = true) (hx : a.eval x = .slice (some ⟨w.heap.size, 0, none⟩) 1 1) (hbase : base ≤ w.heap.size) (hn : n ≤ 100000000)
    (h : ∀ v' w', w'.ownsRow base e size v' (n + 1) (xs ++ us.toList) → Later base w w' → v' ≠ .slice none 0 0 → wpList P ops Q rest (a.put o.dst v') w') :
    wpList P ops Q (o :: rest) a (w.alloc (.cells us e)) := by
  obtain ⟨i0, hi, hz0, hz1, hz2⟩ := info_parts hinfo
  refine wpList_append_own _ hgd s x t ho base e i0 z size bytes ht hi hz0 hz1 hz2 hzs hsz v n xs hs (hown.alloc _) ⟨w.heap.size, 0, none⟩ 1 1 us.toList hx ?_ ?_ h1 ?_ ?_ ?_ ?_
  · simp [hus]
  · intro j u hj
    have hadd : (⟨w.heap.size, 0, none⟩ : Addr).add j = ⟨w.heap.size, j, none⟩ := by unfold Addr.add; split <;> simp_all
    rw [hadd, cell_of_row _ _ j us e (0, 0) (heap_alloc_new w _)]
    simpa using hj
  · unfold maxLen; omega
  · have : (n + 1) * bytes ≤ 100000001 * 1000 := Nat.mul_le_mul (by omega) hby
    omega
  · simp; omega
  · intro v' w' hown' hgrow hne
    refine h v' w' hown' ⟨?_, ?_⟩ (fun e => by simp [e] at hne)
    · have := hgrow.size; simp at this; omega
    · intro w0 B hb hB
      refine (hb.alloc (by omega) _).grown hgrow (by simp; omega) ?_
      intro k hk
      have := hown.lt k hk
      omega

theorem quiet_left {P : Program} {f : FuncId} {args : Array Value} {w : World} {n : Nat} {v : Value}
    (h : Calls P f args (w.drewN n) fun e w' => e = .returned v ∧ w.drewN n = w') : Calls P f args (w.drewN n) fun e w'' => e = .returned v ∧ ∃ m, w'' = w.drewN m :=
  h.mono fun _ _ ⟨he, hm⟩ => ⟨he, n, hm.symm⟩
theorem quiet_add_left {P : Program} {f : FuncId} {args : Array Value} {w : World} {a n : Nat} {v : Value}
    (h : Calls P f args (w.drewN (a + n)) fun e w' => e = .returned v ∧ w.drewN (a + n) = w') : Calls P f args (w.drewN (a + n)) fun e w'' => e = .returned v ∧ ∃ m, w'' = w.drewN (a + m) :=
  h.mono fun _ _ ⟨he, hm⟩ => ⟨he, n, hm.symm⟩
theorem below_drewN {B : Nat} {a w : World} (h : Below B a w) (n : Nat) : Below B a (w.drewN n) := ⟨h.os, h.tape, h.output, h.size, h.block⟩

end Go.Proofs.Ythinjkjhiembgaa
/- More words on memory: boxes of evidence; an append whose value is written out. -/
namespace Go.Proofs.Ythinjkjhiembgaa
open Go.RowKit

/-- 'append(s, x)': one element, s of the call's own; the new slice written out -/
theorem wpList_app1s {P : Program} {w : World} {ops : Array Oper} {rest : List Oper} {o : Oper} {a : Act} {Q : Exit → Act → World → Prop} (hgd : o.guard = none) (s x : Operand) (t e : TypeId)
    (ho : o.op = .call { callee := .builtin .append, args := #[s, x], argTypes := #[t, t] })
    {z : Value} {size bytes : Nat} (ht : P.underlying t = some (.slice e)) (hinfo : (P.info? e).map (fun i => (i.zero, i.size, i.bytes)) = some (some z, size, bytes)) (hzs : z.cells.size = size) (hsz : 0 < size) (hby : bytes ≤ 1000)
    {base : Nat} {v : Value} {n : Nat} {xs : List Value} (hown : w.ownsRow base e size v n xs) (hs : a.eval s = v)
    {us : Array Value} (hus : us.size = size) (h1 : ∀ u ∈ us.toList, u.oneCell' = true) {b0 : Nat} (hx : a.eval x = .slice (some ⟨b0, 0, none⟩) 1 1) (hb0 : b0 = w.heap.size) (hbase : base ≤ w.heap.size) (hn : n ≤ 100000000)
    (h : ∀ g cap w', w'.ownsRow base e size (.slice (some ⟨g, 0, none⟩) (n + 1) cap) (n + 1) (xs ++ us.toList) → (∀ b, b < w.heap.size → some b ≠ v.ownBlock → w'.heap[b]? = w.heap[b]?) → Later base w w' → base ≤ g → g < w'.heap.size → wpList P ops Q rest (a.put o.dst (.slice (some ⟨g, 0, none⟩) (n + 1) cap)) w') :
    wpList P ops Q (o :: rest) a (w.alloc (.cells us e)) := by
  subst hb0
  obtain ⟨i0, hi, hz0, hz1, hz2⟩ := info_parts hinfo
  refine wpList_append_own _ hgd s x t ho base e i0 z size bytes ht hi hz0 hz1 hz2 hzs hsz v n xs hs (hown.alloc _) ⟨w.heap.size, 0, none⟩ 1 1 us.toList hx ?_ ?_ h1 ?_ ?_ ?_ ?_
  · simp [hus]
  · intro j u hj
    have hadd : (⟨w.heap.size, 0, none⟩ : Addr).add j = ⟨w.heap.size, j, none⟩ := by unfold Addr.add; split <;> simp_all
    rw [hadd, cell_of_row _ _ j us e (0, 0) (heap_alloc_new w _)]
    simpa using hj
  · unfold maxLen; omega
  · have : (n + 1) * bytes ≤ 100000001 * 1000 := Nat.mul_le_mul (by omega) hby
    omega
  · simp; omega
  · intro v' w' hown' hgrow hne
    obtain ⟨g, cap, hv, hb, hlt⟩ := hown'.form (by omega)
    subst hv
    refine h g cap w' hown' ?_ ⟨?_, ?_⟩ hb hlt
    · intro b hlb hne2
      exact (hgrow.block b (by simp; omega) hne2).trans (Below.heap_alloc w _ b hlb)
    · have := hgrow.size; simp at this; omega
    · intro w0 B hb0 hB
      refine (hb0.alloc (by omega) _).grown hgrow (by simp; omega) ?_
      intro k hk
      have := hown.lt k hk
      omega

/-- Block b holds evidence of these parts. -/
structure EvBox (w : World) (b : Nat) (m h s : Int) (A1 : Option Addr) (n1 c1 : Nat) (A2 : Option Addr) (n2 c2 : Nat) (A3 : Option Addr) (n3 c3 : Nat) (A4 : Option Addr) (n4 c4 : Nat) (A5 : Option Addr) (n5 c5 : Nat) : Prop where
  b0 : w.cell? ⟨b, 0, none⟩ = some (vi m)
  b1 : w.cell? ⟨b, 1, none⟩ = some (vi h)
  b2 : w.cell? ⟨b, 2, none⟩ = some (vi s)
  b3 : w.cell? ⟨b, 3, none⟩ = some (.slice A1 n1 c1)
  b4 : w.cell? ⟨b, 4, none⟩ = some (.slice A2 n2 c2)
  b5 : w.cell? ⟨b, 5, none⟩ = some (.slice A3 n3 c3)
  b6 : w.cell? ⟨b, 6, none⟩ = some (.slice A4 n4 c4)
  b7 : w.cell? ⟨b, 7, none⟩ = some (.slice A5 n5 c5)
section
variable {w w' : World} {b : Nat} {m h s : Int} {A1 A2 A3 A4 A5 : Option Addr} {n1 n2 n3 n4 n5 c1 c2 c3 c4 c5 : Nat}
theorem EvBox.lt (h0 : EvBox w b m h s A1 n1 c1 A2 n2 c2 A3 n3 c3 A4 n4 c4 A5 n5 c5) : b < w.heap.size := lt_of_cell h0.b0
theorem EvBox.keep {B : Nat} (h0 : EvBox w b m h s A1 n1 c1 A2 n2 c2 A3 n3 c3 A4 n4 c4 A5 n5 c5) (hb : Below B w w') (hB : b < B) : EvBox w' b m h s A1 n1 c1 A2 n2 c2 A3 n3 c3 A4 n4 c4 A5 n5 c5 :=
  ⟨(hb.cell (p := ⟨b, 0, none⟩) hB).trans h0.b0, (hb.cell (p := ⟨b, 1, none⟩) hB).trans h0.b1, (hb.cell (p := ⟨b, 2, none⟩) hB).trans h0.b2, (hb.cell (p := ⟨b, 3, none⟩) hB).trans h0.b3,
   (hb.cell (p := ⟨b, 4, none⟩) hB).trans h0.b4, (hb.cell (p := ⟨b, 5, none⟩) hB).trans h0.b5, (hb.cell (p := ⟨b, 6, none⟩) hB).trans h0.b6, (hb.cell (p := ⟨b, 7, none⟩) hB).trans h0.b7⟩
theorem EvBox.later (h0 : EvBox w b m h s A1 n1 c1 A2 n2 c2 A3 n3 c3 A4 n4 c4 A5 n5 c5) (hb : Below w.heap.size w w') : EvBox w' b m h s A1 n1 c1 A2 n2 c2 A3 n3 c3 A4 n4 c4 A5 n5 c5 := h0.keep hb h0.lt
theorem EvBox.new (w : World) (m h s : Int) (A1 : Option Addr) (n1 c1 : Nat) (A2 : Option Addr) (n2 c2 : Nat) (A3 : Option Addr) (n3 c3 : Nat) (A4 : Option Addr) (n4 c4 : Nat) (A5 : Option Addr) (n5 c5 : Nat) (t : TypeId) :
    EvBox (w.alloc (.cells #[.int .i64 m, .int .i64 h, .int .i64 s, .slice A1 n1 c1, .slice A2 n2 c2, .slice A3 n3 c3, .slice A4 n4 c4, .slice A5 n5 c5] t)) w.heap.size m h s A1 n1 c1 A2 n2 c2 A3 n3 c3 A4 n4 c4 A5 n5 c5 := by
  have hc := fun i => cell_of_row (w.alloc (.cells #[.int .i64 m, .int .i64 h, .int .i64 s, .slice A1 n1 c1, .slice A2 n2 c2, .slice A3 n3 c3, .slice A4 n4 c4, .slice A5 n5 c5] t)) w.heap.size i _ t (0, 0) (heap_alloc_new w _)
  exact ⟨hc 0, hc 1, hc 2, hc 3, hc 4, hc 5, hc 6, hc 7⟩
end
/-- a block known whole reads as a list -/
theorem Rd.of_block {α : Type} {k : Nat} {f : α → List Value} {w : World} {g : Nat} {cs : Array Value} {t : TypeId} {xs : List α} {n : Nat} (hk : ∀ x, (f x).length = k) (h : w.heap[g]? = some (.cells cs t (0, 0))) (hn : n = xs.length) (hcs : cs.toList = xs.flatMap f) :
    Rd k f w (some ⟨g, 0, none⟩) n xs := by
  refine ⟨hn, fun _ => ⟨g, 0, rfl, fun i x hx j u hu => ?_⟩⟩
  rw [cell_of_row w g _ cs t (0, 0) h]
  have := flat_at hk xs i x hx j u hu
  rw [← hcs] at this
  simpa using this
theorem own_of_block {w : World} {base g : Nat} {cs : Array Value} {t : TypeId} {size n : Nat} (hb : base ≤ g) (h : w.heap[g]? = some (.cells cs t (0, 0))) (hcs : cs.size = n * size) (hn : n ≤ maxLen) :
    w.ownsRow base t size (.slice (some ⟨g, 0, none⟩) n n) n cs.toList :=
  ⟨by simp [hcs], .inr ⟨g, n, cs, rfl, hb, h, Nat.le_refl _, hn, hcs, by rw [List.take_of_length_le (by simp [hcs])]⟩⟩
theorem heap_a3 (w : World) (o o2 o3 : Obj) : (((w.alloc o).alloc o2).alloc o3).heap[w.heap.size + 2]? = some o3 := by
  have := heap_alloc_new ((w.alloc o).alloc o2) o3
  rwa [size_a, size_a] at this
theorem heap_a1 (w : World) (o : Obj) : (w.alloc o).heap[w.heap.size]? = some o := heap_alloc_new w o
theorem heap_later (w : World) (o : Obj) {g : Nat} {x : Obj} (h : w.heap[g]? = some x) : (w.alloc o).heap[g]? = some x :=
  (Below.heap_alloc w o g (Array.getElem?_eq_some_iff.1 h).1).trans h

theorem blk_lt {w : World} {g : Nat} {o : Obj} (h : w.heap[g]? = some o) : g < w.heap.size := (Array.getElem?_eq_some_iff.1 h).1
theorem blk_cell {w : World} {g : Nat} {cs : Array Value} {t : TypeId} (h : w.heap[g]? = some (.cells cs t (0, 0))) (i : Nat) : w.cell? ⟨g, i, none⟩ = cs[i]? := cell_of_row w g i cs t (0, 0) h
theorem blk_frozen {w : World} {g : Nat} {cs : Array Value} {t : TypeId} (h : w.heap[g]? = some (.cells cs t (0, 0))) (i : Nat) : w.frozen? ⟨g, i, none⟩ = false := by simp [World.frozen?, h]
theorem blk_set {w : World} {g : Nat} {cs : Array Value} {t : TypeId} (h : w.heap[g]? = some (.cells cs t (0, 0))) (i : Nat) (u : Value) : (w.setCell ⟨g, i, none⟩ u).heap[g]? = some (.cells (cs.setIfInBounds i u) t (0, 0)) := by
  simp [World.setCell, Array.getElem?_modify, h]
theorem blk_far {w : World} {g b i : Nat} {o : Obj} (h : w.heap[g]? = some o) (hne : g ≠ b) (u : Value) : (w.setCell ⟨b, i, none⟩ u).heap[g]? = some o := (Below.heap_setCell w ⟨b, i, none⟩ u g hne).trans h
theorem blk_later {w w' : World} {g : Nat} {o : Obj} (h : w.heap[g]? = some o) (hb : Below w.heap.size w w') : w'.heap[g]? = some o := (hb.block g (blk_lt h)).trans h
theorem size_set (w : World) (p : Addr) (u : Value) : (w.setCell p u).heap.size = w.heap.size := by simp [World.setCell]
theorem own_set {w : World} {base : Nat} {e : TypeId} {size : Nat} {v : Value} {n b i : Nat} {xs : List Value} (h : w.ownsRow base e size v n xs) (hne : v.ownBlock ≠ some b) (u : Value) : (w.setCell ⟨b, i, none⟩ u).ownsRow base e size v n xs := by
  refine ⟨h.1, ?_⟩
  rcases h.2 with hn | ⟨g, cap, cur, rfl, hb0, hgg, rest⟩
  · exact .inl hn
  · exact .inr ⟨g, cap, cur, rfl, hb0, blk_far hgg (by simpa [Value.ownBlock] using hne) u, rest⟩
theorem own_ne {w : World} {base : Nat} {e t : TypeId} {size : Nat} {v : Value} {n b : Nat} {xs : List Value} {cs : Array Value} (h : w.ownsRow base e size v n xs) (hb : w.heap[b]? = some (.cells cs t (0, 0))) (hne : e ≠ t) : v.ownBlock ≠ some b := by
  rcases h.2 with ⟨rfl, _⟩ | ⟨g, cap, cur, rfl, hb0, hgg, rest⟩
  · simp [Value.ownBlock]
  · intro e1
    simp [Value.ownBlock] at e1
    subst e1
    rw [hgg] at hb
    injection hb with hb
    injection hb with _ hb
    exact hne hb
theorem EvBox.of_blk {w : World} {b : Nat} {m h s : Int} {A1 A2 A3 A4 A5 : Option Addr} {n1 n2 n3 n4 n5 c1 c2 c3 c4 c5 : Nat} {t : TypeId} (hb : w.heap[b]? = some (.cells #[.int .i64 m, .int .i64 h, .int .i64 s, .slice A1 n1 c1, .slice A2 n2 c2, .slice A3 n3 c3, .slice A4 n4 c4, .slice A5 n5 c5] t (0, 0))) :
    EvBox w b m h s A1 n1 c1 A2 n2 c2 A3 n3 c3 A4 n4 c4 A5 n5 c5 :=
  ⟨blk_cell hb 0, blk_cell hb 1, blk_cell hb 2, blk_cell hb 3, blk_cell hb 4, blk_cell hb 5, blk_cell hb 6, blk_cell hb 7⟩

end Go.Proofs.Ythinjkjhiembgaa
/- From a walk to a row: every law of the seat is closed by these, over any program. And: arguments opened to cells. -/
namespace Go.Proofs.Ythinjkjhiembgaa
open Go.RowKit Go.ChangeShapes Go.WideShapes Go.Deep

section
variable {H : Type} {enc : TypeId × Value → H} {P : Program}
theorem trodAll_stays (hl : laidOutB P = true) {W W' : World} {sp : Nat → Bool} : ∀ {ts : List TypeId} {vs : List Value} {ds : List (DataW H)} {ps : List MemPlace}, (∀ t ∈ ts, P.readableRec t = true ∧ t < P.types.size) →
    DataW.TrodAll enc P W 0 (fun _ => true) true ts vs ds ps → (∀ p ∈ ps, W.sameAt W' p) → (∀ p ∈ ps, sp p.block = true) → DataW.TrodAll enc P W' 0 sp true ts vs ds ps := by
  intro ts
  induction ts with
  | nil =>
    intro vs ds ps _ h _ _
    obtain ⟨rfl, rfl, rfl⟩ := trodAll_nil h
    exact trodAll_mk0
  | cons t ts ih =>
    intro vs ds ps hr h hsame hs
    obtain ⟨v, vs', d, ds', p, q, rfl, rfl, rfl, h1, h2⟩ := trodAll_cons h
    obtain ⟨ht, hlt⟩ := hr t (by simp)
    exact trodAll_cons_mk (WideElems.Trod_stays hl ht hlt h1 (fun x hx => hsame x (by simp [hx])) (fun x hx => hs x (by simp [hx]))) (ih (fun t ht => hr t (by simp [ht])) h2 (fun x hx => hsame x (by simp [hx])) (fun x hx => hs x (by simp [hx])))

/-- A law's post: it returned true, and old memory is as it was. -/
theorem law_post {f : Func} {s : ChangeSpec} {fresh handsOn : Bool} {W W' : World} {args : Array Value} {ds gs : List (DataW H)} {before : List MemPlace} {tb : TypeId}
    (hW : DataW.Whole enc P f.params.toList s.vars false W args.toList ds gs before) (hl : laidOutB P = true) (hr : ∀ t ∈ f.params.toList, P.readableRec t = true ∧ t < P.types.size) (hv : s.vars = [])
    (hfn : s.fn H (ds ++ gs) = { results := [.lit (.bool true)], args := ds }) (hres : f.resultTypes = #[tb]) (hbool : P.underlying tb = some .bool) (hb : Below W.heap.size W W') :
    s.post enc P f false fresh handsOn false W args (.bool true) W' := by
  have hW' := hW
  obtain ⟨p, q, hA, hV, rfl, hfz, hnd⟩ := hW
  rw [hv] at hV
  obtain ⟨rfl, rfl⟩ := trodVars_none hV
  have hlt : ∀ x ∈ p, x.block < W.heap.size := fun x hx => by have := hW'.lt x (by simpa using hx); simpa using this
  refine ⟨ds, [], p ++ [], [], p, [], hW', ?_, ?_, ?_, hb.frame _, fun h => by cases h⟩
  · rw [hfn, hres]
    exact trodAll_mk1 (shut_bool hbool true)
  · rw [hfn]
    exact trodAll_stays hl hr hA (fun x hx => hb.same (hlt x hx)) (fun x hx => by simpa using hlt x hx)
  · rw [hv, hfn]
    exact rfl

/-- lists out of cells that can be read one by one -/
theorem Rd.of_each {α : Type} {k : Nat} {f : α → List Value} {w : World} {b off : Nat} : ∀ (n : Nat), (∀ i, i < n → ∃ x : α, ∀ j u, (f x)[j]? = some u → w.cell? ⟨b, off + (i * k + j), none⟩ = some u) → ∃ xs, Rd k f w (some ⟨b, off, none⟩) n xs := by
  intro n
  induction n with
  | zero => intro _; exact ⟨[], Rd.nil _⟩
  | succ n ih =>
    intro h
    obtain ⟨xs, hx⟩ := ih (fun i hi => h i (by omega))
    obtain ⟨x, hxn⟩ := h n (by omega)
    have hl := hx.len
    refine ⟨xs ++ [x], by simp [← hl], fun _ => ⟨b, off, rfl, fun i y hy j u hu => ?_⟩⟩
    by_cases hi : i < xs.length
    · rw [List.getElem?_append_left hi] at hy
      obtain ⟨b', off', e, hc⟩ := hx.2 (by omega)
      injection e with e
      injection e with e1 e2
      subst e1 e2
      exact hc i y hy j u hu
    · have hi2 : i = n := by
        have := (List.getElem?_eq_some_iff.1 hy).1
        simp at this
        omega
      subst hi2
      have hy2 : x = y := by
        rw [List.getElem?_append_right (by omega), ← hl] at hy
        simpa using hy
      subst hy2
      exact hxn j u hu

variable {w : World} {base : Nat} {spare : Nat → Bool} {held : Bool}
/-- a slice of structs whose fields are one cell each -/
theorem open_structs {α : Type} (f : α → List Value) {t e : TypeId} {fs : Array Field} {fuel : Nat} {v : Value} {x : DataW H × List MemPlace} (ht : P.underlying t = some (.slice e)) (he : P.underlying e = some (.struct fs))
    (hone : oneCellFields P fs = true) (hC : P.cellsOf e = fs.size) (hpos : 0 < fs.size)
    (hdec : ∀ vs : Nat → Value, (∀ j fld, fs[j]? = some fld → ∃ y n, DataW.trod enc P w base spare held n fld.type [vs j] = some y) → ∃ x : α, ∀ j u, (f x)[j]? = some u → vs j = u ∧ j < fs.size)
    (h : DataW.trod enc P w base spare held fuel t [v] = some x) : ∃ A n c xs, v = .slice A n c ∧ Rd fs.size f w A n xs ∧ n ≤ c ∧ c ≤ maxLen := by
  rcases open_slice ht h with ⟨h0, _⟩ | ⟨a, len, cap, m, n, D, Pl, hcs, hb, hl, hm, hmm, hx, hi⟩
  · injection h0 with h0
    exact ⟨none, 0, 0, [], h0, Rd.nil _, Nat.le_refl _, by unfold maxLen; omega⟩
  · injection hcs with hv
    by_cases hz : len = 0
    · subst hz
      exact ⟨some a, 0, cap, [], hv, Rd.nil _, hl, hm⟩
    have hlm : len ≤ m := by rw [hmm]; split <;> omega
    have key : ∀ i, i < m → ∀ j fld, fs[j]? = some fld → ∃ u y n, w.cell? (a.add (i * fs.size + j)) = some u ∧ DataW.trod enc P w base spare held n fld.type [u] = some y := by
      intro i him j fld hj
      obtain ⟨cs', hc, ht'⟩ := hi i him
      rw [hC] at hc
      obtain ⟨ys, n', hn', hy, hlen, hyl, hf⟩ := DataW.trod_struct he ht'
      obtain ⟨_, hcl, hat⟩ := World.cells?_some hc
      obtain ⟨ho, hk⟩ := hone_of hone j fld hj
      have hjl : j < fs.size := (Array.getElem?_eq_some_iff.1 hj).1
      have hcell := hat j hjl
      have hv : cs'[j]? = some (cs'[j]'(by omega)) := List.getElem?_eq_getElem (by omega)
      have h1 := hf j fld hj
      rw [ho, hk] at h1
      have hone' : (cs'.drop j).take 1 = [cs'[j]'(by omega)] := by
        rw [List.drop_eq_getElem_cons (by omega)]
        rfl
      rw [hone'] at h1
      have hys : ys[j]? = some (ys[j]'(by omega)) := List.getElem?_eq_getElem (by omega)
      exact ⟨_, _, _, by rw [← Go.Deep.add_add, hcell, hv], h1.trans hys⟩
    obtain ⟨f0, hf0⟩ : ∃ f0, fs[0]? = some f0 := ⟨_, Array.getElem?_eq_getElem hpos⟩
    obtain ⟨u0, _, _, hu0, _⟩ := key 0 (by omega) 0 f0 hf0
    have hspot : a.spot = none := by
      have := World.cell?_spot hu0
      simpa [Addr.add] using this
    obtain ⟨b, off, sp⟩ := a
    simp only at hspot
    subst hspot
    have hadd : ∀ k, (⟨b, off, none⟩ : Addr).add k = ⟨b, off + k, none⟩ := by
      intro k
      unfold Addr.add
      split
      · subst_vars; rfl
      · rfl
    obtain ⟨xs, hxs⟩ := Rd.of_each (k := fs.size) (f := f) (w := w) (b := b) (off := off) len (fun i hil => by
      have hsel : ∀ j, ∃ u, ∀ fld, fs[j]? = some fld → w.cell? ⟨b, off + (i * fs.size + j), none⟩ = some u ∧ ∃ y n, DataW.trod enc P w base spare held n fld.type [u] = some y := by
        intro j
        by_cases hj : j < fs.size
        · obtain ⟨u, y, n, hu, hy⟩ := key i (by omega) j fs[j] (Array.getElem?_eq_getElem hj)
          rw [hadd] at hu
          refine ⟨u, fun fld hfld => ?_⟩
          rw [Array.getElem?_eq_getElem hj] at hfld
          injection hfld with hfld
          subst hfld
          exact ⟨hu, y, n, hy⟩
        · exact ⟨.nilFunc, fun fld hfld => absurd (Array.getElem?_eq_some_iff.1 hfld).1 hj⟩
      let vs : Nat → Value := fun j => Classical.choose (hsel j)
      obtain ⟨x, hx⟩ := hdec vs (fun j fld hj => (Classical.choose_spec (hsel j) fld hj).2)
      refine ⟨x, fun j u hu => ?_⟩
      obtain ⟨hvu, hjl⟩ := hx j u hu
      rw [← hvu]
      exact (Classical.choose_spec (hsel j) fs[j] (Array.getElem?_eq_getElem hjl)).1)
    exact ⟨_, len, cap, xs, hv, hxs, hl, hm⟩
/-- a slice whose elements are one cell each -/
theorem open_ones {α : Type} (f : α → Value) {t e : TypeId} {fuel : Nat} {v : Value} {x : DataW H × List MemPlace} (ht : P.underlying t = some (.slice e)) (hC : P.cellsOf e = 1)
    (hdec : ∀ (u : Value) y n, DataW.trod enc P w base spare held n e [u] = some y → ∃ x : α, u = f x)
    (h : DataW.trod enc P w base spare held fuel t [v] = some x) : ∃ A n c xs, v = .slice A n c ∧ Rd 1 (fun x => [f x]) w A n xs ∧ n ≤ c ∧ c ≤ maxLen := by
  rcases open_slice ht h with ⟨h0, _⟩ | ⟨a, len, cap, m, n, D, Pl, hcs, hb, hl, hm, hmm, hx, hi⟩
  · injection h0 with h0
    exact ⟨none, 0, 0, [], h0, Rd.nil _, Nat.le_refl _, by unfold maxLen; omega⟩
  · injection hcs with hv
    by_cases hz : len = 0
    · subst hz
      exact ⟨some a, 0, cap, [], hv, Rd.nil _, hl, hm⟩
    have hlm : len ≤ m := by rw [hmm]; split <;> omega
    have key : ∀ i, i < m → ∃ x : α, w.cell? (a.add i) = some (f x) := by
      intro i him
      obtain ⟨cs', hc, ht'⟩ := hi i him
      rw [hC, Nat.mul_one] at hc
      obtain ⟨_, hcl, hat⟩ := World.cells?_some hc
      match cs', hcl with
      | [u], _ =>
        obtain ⟨x, rfl⟩ := hdec u _ _ ht'
        exact ⟨x, by have := hat 0 (by omega); rw [Go.Deep.add_add, Nat.add_zero] at this; simpa using this⟩
    obtain ⟨x0, hu0⟩ := key 0 (by omega)
    have hspot : a.spot = none := by
      have := World.cell?_spot hu0
      simpa [Addr.add] using this
    obtain ⟨b, off, sp⟩ := a
    simp only at hspot
    subst hspot
    have hadd : ∀ k, (⟨b, off, none⟩ : Addr).add k = ⟨b, off + k, none⟩ := by
      intro k
      unfold Addr.add
      split
      · subst_vars; rfl
      · rfl
    obtain ⟨xs, hxs⟩ := Rd.of_each (k := 1) (f := fun x => [f x]) (w := w) (b := b) (off := off) len (fun i hil => by
      obtain ⟨x, hx⟩ := key i (by omega)
      rw [hadd] at hx
      refine ⟨x, fun j u hu => ?_⟩
      match j, hu with
      | 0, hu => simp at hu; subst hu; simpa using hx)
    exact ⟨_, len, cap, xs, hv, hxs, hl, hm⟩
end
end Go.Proofs.Ythinjkjhiembgaa
/- An argument 'e api.Evidence' opened to its parts. -/
namespace Go.Proofs.Ythinjkjhiembgaa
open Go.RowKit Go.ChangeShapes Go.WideShapes Go.Deep

set_option maxRecDepth 100000
section
variable {H : Type} {enc : TypeId × Value → H} {w : World} {base : Nat} {spare : Nat → Bool} {held : Bool}
theorem dec_int {k : TypeId} (hk : Try.prog.underlying k = some (.int .i64)) {u : Value} (h : ∃ y n, DataW.trod enc Try.prog w base spare held n k [u] = some y) : ∃ a : Int, u = .int .i64 a := by
  obtain ⟨y, n, h⟩ := h
  obtain ⟨a, e, _, _⟩ := DataW.trod_int hk h
  injection e with e
  exact ⟨a, e⟩
theorem dec_bool {k : TypeId} (hk : Try.prog.underlying k = some .bool) {u : Value} (h : ∃ y n, DataW.trod enc Try.prog w base spare held n k [u] = some y) : ∃ a : Bool, u = .bool a := by
  obtain ⟨y, n, h⟩ := h
  obtain ⟨a, e, _⟩ := DataW.trod_bool hk h
  injection e with e
  exact ⟨a, e⟩

theorem open_ev {r : Reach} {b0 : Nat} {v : Value} {d : DataW H} {p : List MemPlace} (hv : Value.okWide Try.prog w r b0 28 v) (h : DataW.Trod enc Try.prog w base spare held 28 v d p) :
    ∃ m h s A1 n1 c1 A2 n2 c2 A3 n3 c3 A4 n4 c4 A5 n5 c5 e, v = .agg #[.int .i64 m, .int .i64 h, .int .i64 s, .slice A1 n1 c1, .slice A2 n2 c2, .slice A3 n3 c3, .slice A4 n4 c4, .slice A5 n5 c5] ∧ EvR w m h s A1 n1 A2 n2 A3 n3 A4 n4 A5 n5 e ∧ n1 ≤ c1 ∧ n2 ≤ c2 ∧ n3 ≤ c3 ∧ n4 ≤ c4 ∧ n5 ≤ c5 ∧ c1 ≤ maxLen ∧ c2 ≤ maxLen ∧ c3 ≤ maxLen ∧ c4 ≤ maxLen ∧ c5 ≤ maxLen := by
  obtain ⟨fs, hs, hone, hC, hty⟩ : ∃ fs : Array Field, Try.prog.underlying 28 = some (.struct fs) ∧ oneCellFields Try.prog fs = true ∧ Try.prog.cellsOf 28 = 8 ∧ fs.map (·.type) = #[3, 3, 3, 22, 23, 24, 25, 26] :=
    ⟨_, Try.underlying28, by kernel_rfl, by kernel_rfl, by kernel_rfl⟩
  obtain ⟨cs, rfl, hsz⟩ := okWide_struct hs hv
  obtain ⟨l⟩ := cs
  obtain ⟨fuel, hf⟩ := h
  obtain ⟨xs, n, _, hx, _, hlen, hg⟩ := DataW.trod_struct hs hf
  have hl8 : l.length = 8 := by simpa [hC] using hsz
  have hfs : fs.size = 8 := by have := congrArg Array.size hty; simpa using this
  have hfld : ∀ j, j < 8 → ∃ u y m, l[j]? = some u ∧ DataW.trod enc Try.prog w base spare held m ((#[3, 3, 3, 22, 23, 24, 25, 26] : Array TypeId).getD j 0) [u] = some y := by
    intro j hj
    have hjf : fs[j]? = some (fs[j]'(by omega)) := Array.getElem?_eq_getElem (by omega)
    obtain ⟨ho, hk⟩ := hone_of hone j _ hjf
    have h1 := hg j _ hjf
    rw [ho, hk] at h1
    have hone' : ((Value.agg ⟨l⟩).cells.toList.drop j).take 1 = [l[j]'(by omega)] := by
      show (l.drop j).take 1 = _
      rw [List.drop_eq_getElem_cons (by omega)]
      rfl
    rw [hone'] at h1
    have hxl : j < xs.length := by omega
    rw [List.getElem?_eq_getElem hxl] at h1
    have htj : (#[3, 3, 3, 22, 23, 24, 25, 26] : Array TypeId).getD j 0 = (fs[j]'(by omega)).type := by
      rw [← hty, Array.getD_eq_getD_getElem?, Array.getElem?_map, hjf]
      rfl
    rw [htj]
    exact ⟨_, _, n, List.getElem?_eq_getElem (by omega), h1⟩
  match l, hl8 with
  | [v0, v1, v2, v3, v4, v5, v6, v7], _ =>
    obtain ⟨u0, y0, m0, e0, t0⟩ := hfld 0 (by omega)
    obtain ⟨u1, y1, m1, e1, t1⟩ := hfld 1 (by omega)
    obtain ⟨u2, y2, m2, e2, t2⟩ := hfld 2 (by omega)
    obtain ⟨u3, y3, m3, e3, t3⟩ := hfld 3 (by omega)
    obtain ⟨u4, y4, m4, e4, t4⟩ := hfld 4 (by omega)
    obtain ⟨u5, y5, m5, e5, t5⟩ := hfld 5 (by omega)
    obtain ⟨u6, y6, m6, e6, t6⟩ := hfld 6 (by omega)
    obtain ⟨u7, y7, m7, e7, t7⟩ := hfld 7 (by omega)
    simp at e0 e1 e2 e3 e4 e5 e6 e7
    subst e0 e1 e2 e3 e4 e5 e6 e7
    obtain ⟨a0, rfl⟩ := dec_int Try.underlying3 ⟨_, _, t0⟩
    obtain ⟨a1, rfl⟩ := dec_int Try.underlying3 ⟨_, _, t1⟩
    obtain ⟨a2, rfl⟩ := dec_int Try.underlying3 ⟨_, _, t2⟩
    obtain ⟨A1, n1, c1, ps, rfl, r1, l1, g1⟩ := open_structs Place.cells Try.underlying22 Try.underlying69 (by kernel_rfl) (by kernel_rfl) (by decide)
      (fun vs hd => by
        obtain ⟨b0, h0⟩ := dec_int Try.underlying3 (hd 0 _ rfl)
        obtain ⟨b1, h1⟩ := dec_int Try.underlying3 (hd 1 _ rfl)
        obtain ⟨b2, h2⟩ := dec_int Try.underlying3 (hd 2 _ rfl)
        refine ⟨⟨b0, b1, b2⟩, fun j u hu => ?_⟩
        match j, hu with
        | 0, hu => exact ⟨h0.trans (by simpa [Place.cells] using hu), by decide⟩
        | 1, hu => exact ⟨h1.trans (by simpa [Place.cells] using hu), by decide⟩
        | 2, hu => exact ⟨h2.trans (by simpa [Place.cells] using hu), by decide⟩
        | n + 3, hu => simp [Place.cells] at hu) t3
    obtain ⟨A2, n2, c2, ms, rfl, r2, l2, g2⟩ := open_structs Move.cells Try.underlying23 Try.underlying40 (by kernel_rfl) (by kernel_rfl) (by decide)
      (fun vs hd => by
        obtain ⟨b0, h0⟩ := dec_int Try.underlying3 (hd 0 _ rfl)
        obtain ⟨b1, h1⟩ := dec_int Try.underlying3 (hd 1 _ rfl)
        obtain ⟨b2, h2⟩ := dec_int Try.underlying3 (hd 2 _ rfl)
        obtain ⟨b3, h3⟩ := dec_int Try.underlying3 (hd 3 _ rfl)
        obtain ⟨b4, h4⟩ := dec_int Try.underlying3 (hd 4 _ rfl)
        obtain ⟨b5, h5⟩ := dec_bool Try.underlying4 (hd 5 _ rfl)
        refine ⟨⟨b0, b1, b2, b3, b4, b5⟩, fun j u hu => ?_⟩
        match j, hu with
        | 0, hu => exact ⟨h0.trans (by simpa [Move.cells] using hu), by decide⟩
        | 1, hu => exact ⟨h1.trans (by simpa [Move.cells] using hu), by decide⟩
        | 2, hu => exact ⟨h2.trans (by simpa [Move.cells] using hu), by decide⟩
        | 3, hu => exact ⟨h3.trans (by simpa [Move.cells] using hu), by decide⟩
        | 4, hu => exact ⟨h4.trans (by simpa [Move.cells] using hu), by decide⟩
        | 5, hu => exact ⟨h5.trans (by simpa [Move.cells] using hu), by decide⟩
        | n + 6, hu => simp [Move.cells] at hu) t4
    obtain ⟨A3, n3, c3, cts, rfl, r3, l3, g3⟩ := open_structs Cert.cells Try.underlying24 Try.underlying99 (by kernel_rfl) (by kernel_rfl) (by decide)
      (fun vs hd => by
        obtain ⟨b0, h0⟩ := dec_int Try.underlying3 (hd 0 _ rfl)
        obtain ⟨b1, h1⟩ := dec_int Try.underlying3 (hd 1 _ rfl)
        obtain ⟨b2, h2⟩ := dec_int Try.underlying3 (hd 2 _ rfl)
        obtain ⟨b3, h3⟩ := dec_int Try.underlying3 (hd 3 _ rfl)
        obtain ⟨b4, h4⟩ := dec_int Try.underlying3 (hd 4 _ rfl)
        obtain ⟨b5, h5⟩ := dec_int Try.underlying3 (hd 5 _ rfl)
        refine ⟨⟨b0, b1, b2, b3, b4, b5⟩, fun j u hu => ?_⟩
        match j, hu with
        | 0, hu => exact ⟨h0.trans (by simpa [Cert.cells] using hu), by decide⟩
        | 1, hu => exact ⟨h1.trans (by simpa [Cert.cells] using hu), by decide⟩
        | 2, hu => exact ⟨h2.trans (by simpa [Cert.cells] using hu), by decide⟩
        | 3, hu => exact ⟨h3.trans (by simpa [Cert.cells] using hu), by decide⟩
        | 4, hu => exact ⟨h4.trans (by simpa [Cert.cells] using hu), by decide⟩
        | 5, hu => exact ⟨h5.trans (by simpa [Cert.cells] using hu), by decide⟩
        | n + 6, hu => simp [Cert.cells] at hu) t5
    obtain ⟨A4, n4, c4, rcs, rfl, r4, l4, g4⟩ := open_structs Recall.cells Try.underlying25 Try.underlying60 (by kernel_rfl) (by kernel_rfl) (by decide)
      (fun vs hd => by
        obtain ⟨b0, h0⟩ := dec_int Try.underlying3 (hd 0 _ rfl)
        obtain ⟨b1, h1⟩ := dec_int Try.underlying3 (hd 1 _ rfl)
        refine ⟨⟨b0, b1⟩, fun j u hu => ?_⟩
        match j, hu with
        | 0, hu => exact ⟨h0.trans (by simpa [Recall.cells] using hu), by decide⟩
        | 1, hu => exact ⟨h1.trans (by simpa [Recall.cells] using hu), by decide⟩
        | n + 2, hu => simp [Recall.cells] at hu) t6
    obtain ⟨A5, n5, c5, pus, rfl, r5, l5, g5⟩ := open_structs Purity.cells Try.underlying26 Try.underlying85 (by kernel_rfl) (by kernel_rfl) (by decide)
      (fun vs hd => by
        obtain ⟨b0, h0⟩ := dec_int Try.underlying3 (hd 0 _ rfl)
        obtain ⟨b1, h1⟩ := dec_int Try.underlying3 (hd 1 _ rfl)
        obtain ⟨b2, h2⟩ := dec_int Try.underlying3 (hd 2 _ rfl)
        obtain ⟨b3, h3⟩ := dec_int Try.underlying3 (hd 3 _ rfl)
        refine ⟨⟨b0, b1, b2, b3⟩, fun j u hu => ?_⟩
        match j, hu with
        | 0, hu => exact ⟨h0.trans (by simpa [Purity.cells] using hu), by decide⟩
        | 1, hu => exact ⟨h1.trans (by simpa [Purity.cells] using hu), by decide⟩
        | 2, hu => exact ⟨h2.trans (by simpa [Purity.cells] using hu), by decide⟩
        | 3, hu => exact ⟨h3.trans (by simpa [Purity.cells] using hu), by decide⟩
        | n + 4, hu => simp [Purity.cells] at hu) t7
    exact ⟨a0, a1, a2, A1, n1, c1, A2, n2, c2, A3, n3, c3, A4, n4, c4, A5, n5, c5, ⟨a0, a1, a2, ps, ms, cts, rcs, pus⟩, rfl, ⟨rfl, rfl, rfl, r1, r2, r3, r4, r5⟩, l1, l2, l3, l4, l5, g1, g2, g3, g4, g5⟩
end
theorem law_own : ownKnob Try.prog.godebug = none := by kernel_rfl
theorem law_laid : laidOutB Try.prog = true := by kernel_rfl
end Go.Proofs.Ythinjkjhiembgaa
/- From a call's contract to what a law's row asks for. -/
namespace Go.Proofs.Ythinjkjhiembgaa
open Go.RowKit
set_option linter.unusedVariables false
set_option linter.unusedSimpArgs false

/-- a list that is read from the outside -/
theorem rt_of_rd {α : Type} {k : Nat} {f : α → List Value} {row : α → List T} (hrow : ∀ x, row x = (f x).map T.atm) (hone : ∀ x, ∀ v ∈ f x, v.oneCell' = true) (hk : ∀ x, (f x).length = k)
    {w : World} {A : Option Addr} {n c : Nat} {xs : List α} (h : Rd k f w A n xs) (h1 : n ≤ c) (h2 : c ≤ maxLen) : RT w (fun _ => False) (.sl k .any (xs.map row)) (.slice A n c) := by
  obtain ⟨hn, hc⟩ := h
  have hlen : (xs.map row).length = n := by simp [hn]
  rw [← hlen]
  have hat : ∀ i j t, at2 (xs.map row) i j = some t → ∃ x v, xs[i]? = some x ∧ (f x)[j]? = some v ∧ t = .atm v := fun i j t ht => by
    obtain ⟨r, q1, q2⟩ := at2_inv ht
    rw [List.getElem?_map] at q1
    cases hx : xs[i]? with
    | none => rw [hx] at q1; cases q1
    | some x =>
      rw [hx] at q1
      injection q1 with q1
      subst q1
      rw [hrow, List.getElem?_map] at q2
      cases hv : (f x)[j]? with
      | none => rw [hv] at q2; cases q2
      | some v => rw [hv] at q2; injection q2 with q2; exact ⟨x, v, rfl, hv, q2.symm⟩
  rcases Nat.eq_zero_or_pos n with h0 | h0
  · have hx : xs = [] := List.eq_nil_of_length_eq_zero (by omega)
    subst hx
    exact .sl (b := 0) (off := 0) (fun _ _ => undef) (by simp) (by simp) h2 (by intro h; cases h) (by intro h; cases h) (by simp) (by simp [at2]) (by simp [at2])
  · obtain ⟨b, off, hA, hcell⟩ := hc h0
    refine .sl (b := b) (off := off) (fun i j => ((xs[i]?).bind fun x => (f x)[j]?).getD undef) ?_ (by omega) h2 (by intro h; cases h) (by intro h; cases h) (fun _ => hA) ?_ ?_
    · intro r hr
      obtain ⟨x, _, rfl⟩ := List.mem_map.1 hr
      rw [hrow, List.length_map, hk]
    · intro i j t ht
      obtain ⟨x, v, hx, hv, rfl⟩ := hat i j t ht
      exact ⟨by rw [hcell i x hx j v hv]; simp [hx, hv], fun h => h⟩
    · intro i j t ht
      obtain ⟨x, v, hx, hv, rfl⟩ := hat i j t ht
      have : ((xs[i]?).bind fun x => (f x)[j]?).getD undef = v := by simp [hx, hv]
      rw [this]
      exact .atm (hone x v (List.mem_of_getElem? hv))

theorem rs_ev {w : World} {m h s : Int} {A1 A2 A3 A4 A5 : Option Addr} {n1 n2 n3 n4 n5 c1 c2 c3 c4 c5 : Nat} {e : Ev} (hr : EvR w m h s A1 n1 A2 n2 A3 n3 A4 n4 A5 n5 e)
    (hb : n1 ≤ c1 ∧ n2 ≤ c2 ∧ n3 ≤ c3 ∧ n4 ≤ c4 ∧ n5 ≤ c5 ∧ c1 ≤ maxLen ∧ c2 ≤ maxLen ∧ c3 ≤ maxLen ∧ c4 ≤ maxLen ∧ c5 ≤ maxLen) :
    RS w (fun _ => none) (fun _ => False) (evS e) (.agg #[.int .i64 m, .int .i64 h, .int .i64 s, .slice A1 n1 c1, .slice A2 n2 c2, .slice A3 n3 c3, .slice A4 n4 c4, .slice A5 n5 c5]) := by
  obtain ⟨rfl, rfl, rfl, r1, r2, r3, r4, r5⟩ := hr
  obtain ⟨b1, b2, b3, b4, b5, d1, d2, d3, d4, d5⟩ := hb
  have t1 := rt_of_rd (k := 3) (f := Place.cells) (row := Place.row) (fun _ => rfl) (by intro x v hv; simp [Place.cells] at hv; rcases hv with rfl | rfl | rfl <;> rfl) (fun _ => rfl) r1 b1 d1
  have t2 := rt_of_rd (k := 6) (f := Move.cells) (row := Move.row) (fun _ => rfl) (by intro x v hv; simp [Move.cells] at hv; rcases hv with rfl | rfl | rfl | rfl | rfl | rfl <;> rfl) (fun _ => rfl) r2 b2 d2
  have t3 := rt_of_rd (k := 6) (f := Cert.cells) (row := Cert.row) (fun _ => rfl) (by intro x v hv; simp [Cert.cells] at hv; rcases hv with rfl | rfl | rfl | rfl | rfl | rfl <;> rfl) (fun _ => rfl) r3 b3 d3
  have t4 := rt_of_rd (k := 2) (f := Recall.cells) (row := Recall.row) (fun _ => rfl) (by intro x v hv; simp [Recall.cells] at hv; rcases hv with rfl | rfl <;> rfl) (fun _ => rfl) r4 b4 d4
  have t5 := rt_of_rd (k := 4) (f := Purity.cells) (row := Purity.row) (fun _ => rfl) (by intro x v hv; simp [Purity.cells] at hv; rcases hv with rfl | rfl | rfl | rfl <;> rfl) (fun _ => rfl) r5 b5 d5
  refine .agg [.int .i64 e.mats, .int .i64 e.hhs, .int .i64 e.scs, .slice A1 n1 c1, .slice A2 n2 c2, .slice A3 n3 c3, .slice A4 n4 c4, .slice A5 n5 c5] rfl fun j c hj => ?_
  match j, hj with
  | 0, hj => injection hj with hj; subst hj; exact .t (.atm rfl)
  | 1, hj => injection hj with hj; subst hj; exact .t (.atm rfl)
  | 2, hj => injection hj with hj; subst hj; exact .t (.atm rfl)
  | 3, hj => injection hj with hj; subst hj; exact .t t1
  | 4, hj => injection hj with hj; subst hj; exact .t t2
  | 5, hj => injection hj with hj; subst hj; exact .t t3
  | 6, hj => injection hj with hj; subst hj; exact .t t4
  | 7, hj => injection hj with hj; subst hj; exact .t t5
  | j + 8, hj => simp [evC] at hj

theorem wf_rangeU {n : Int} (h : (Lit.int .u8 n).wf = true) : 0 ≤ n ∧ n ≤ 255 := by
  simp only [Lit.wf, Bool.and_eq_true, decide_eq_true_eq] at h
  exact h
theorem rs_u8 {w : World} {n : Int} : RS w (fun _ => none) (fun _ => False) (intS .u8 n) (.int .u8 n) := RS.int
theorem rs_bool {w : World} {b : Bool} : RS w (fun _ => none) (fun _ => False) (boolS b) (.bool b) := RS.bool
theorem wf_range {n : Int} (h : (Lit.int .i64 n).wf = true) : -9223372036854775808 ≤ n ∧ n ≤ 9223372036854775807 := by
  simp only [Lit.wf, Bool.and_eq_true, decide_eq_true_eq] at h
  exact h
theorem rs_int {w : World} {n : Int} : RS w (fun _ => none) (fun _ => False) (intS .i64 n) (.int .i64 n) := RS.int

/-- arguments one by one -/
inductive RArgs (w : World) : List S → List Value → Prop
  | nil : RArgs w [] []
  | cons {s : S} {v : Value} {ss : List S} {vs : List Value} (h : RS w (fun _ => none) (fun _ => False) s v) (hs : RArgs w ss vs) : RArgs w (s :: ss) (v :: vs)
theorem RArgs.get {w : World} {ss : List S} {vs : List Value} (h : RArgs w ss vs) : vs.length = ss.length ∧ ∀ (j : Nat) (s : S), ss[j]? = some s → RS w (fun _ => none) (fun _ => False) s (vs.getD j undef) := by
  induction h with
  | nil => exact ⟨rfl, by simp⟩
  | cons h hs ih =>
    refine ⟨by simp [ih.1], fun j s hj => ?_⟩
    cases j with
    | zero => simp at hj; subst hj; exact h
    | succ j => simpa using ih.2 j s (by simpa using hj)

theorem law_of_acall {P : Program} {g : FuncId} {ss : List S} {b : Bool} (h : ACall P g ss [] (boolS b) []) {w : World} {vs : List Value} (ha : RArgs w ss vs) :
    Calls P g vs.toArray w fun e w' => e = .returned (.bool b) ∧ Below w.heap.size w w' := by
  obtain ⟨h1, h2⟩ := ha.get
  refine Calls.mono (h.2 w (fun _ => none) (fun _ => False) vs h1 h2 ⟨by simp, by simp, by simp, by simp, by simp⟩ (fun _ h => h.elim) (fun _ _ => rfl)) ?_
  rintro e w' ⟨v, rfl, ι', M', q1, q2, q3, q4, q5⟩
  rw [q1.inv_atm]
  exact ⟨rfl, q5.os, q5.tape, q5.output, q5.size, fun k hk => q5.keep k hk (by rintro ⟨id, k, _, _, hk, _⟩; simp at hk)⟩
end Go.Proofs.Ythinjkjhiembgaa
/- Arguments opened by the shape of their type: integers, truth values, structs and slices, however nested. -/
namespace Go.Proofs.Ythinjkjhiembgaa
open Go.RowKit Go.ChangeShapes Go.WideShapes Go.Deep
set_option linter.unusedVariables false

inductive Sh where
  | int (k : IntKind)
  | bool
  | sl (row : List Sh)
inductive Fit : Sh → T → Prop
  | int {k : IntKind} {n : Int} (h : (Lit.int k n).wf = true) : Fit (.int k) (.atm (.int k n))
  | bool {b : Bool} : Fit .bool (.atm (.bool b))
  | sl {row : List Sh} {rows : List (List T)} (hl : ∀ r ∈ rows, r.length = row.length) (h : ∀ r ∈ rows, ∀ (j : Nat) (s : Sh) (t : T), row[j]? = some s → r[j]? = some t → Fit s t) : Fit (.sl row) (.sl row.length .any rows)
inductive HasSh (P : Program) : TypeId → List Sh → Prop
  | int {t : TypeId} {k : IntKind} (h : P.underlying t = some (.int k)) : HasSh P t [.int k]
  | bool {t : TypeId} (h : P.underlying t = some .bool) : HasSh P t [.bool]
  | sl {t e : TypeId} {row : List Sh} (h : P.underlying t = some (.slice e)) (hc : P.cellsOf e = row.length) (hp : 0 < row.length) (he : HasSh P e row) : HasSh P t [.sl row]
  | struct {t : TypeId} {fs : Array Field} (parts : List (List Sh)) (h : P.underlying t = some (.struct fs)) (hl : parts.length = fs.size)
      (ho : ∀ (i : Nat) (f : Field) (p : List Sh), fs[i]? = some f → parts[i]? = some p → f.offset = (parts.take i).flatten.length ∧ P.cellsOf f.type = p.length)
      (hc : P.cellsOf t = parts.flatten.length)
      (he : ∀ (i : Nat) (f : Field) (p : List Sh), fs[i]? = some f → parts[i]? = some p → HasSh P f.type p) : HasSh P t parts.flatten

section
variable {H : Type} {enc : TypeId × Value → H} {P : Program} {w : World} {base : Nat} {spare : Nat → Bool} {held : Bool}
/-- cells that read as trees of these shapes -/
def OpenAs (w : World) (shs : List Sh) (cs : List Value) : Prop :=
  cs.length = shs.length ∧ ∃ ts : List T, ts.length = shs.length ∧ ∀ (j : Nat) (s : Sh), shs[j]? = some s → ∃ u t, cs[j]? = some u ∧ ts[j]? = some t ∧ RT w (fun _ => False) t u ∧ Fit s t
theorem flatten_at {α : Type} : ∀ (parts : List (List α)) (j : Nat) (x : α), parts.flatten[j]? = some x → ∃ i p k, parts[i]? = some p ∧ p[k]? = some x ∧ j = (parts.take i).flatten.length + k
  | [], j, x, h => by simp at h
  | p :: r, j, x, h => by
    rw [List.flatten_cons] at h
    by_cases hj : j < p.length
    · rw [List.getElem?_append_left hj] at h
      exact ⟨0, p, j, rfl, h, by simp⟩
    · rw [List.getElem?_append_right (by omega)] at h
      obtain ⟨i, q, k, h1, h2, h3⟩ := flatten_at r _ x h
      exact ⟨i + 1, q, k, by simpa using h1, h2, by rw [List.take_succ_cons, List.flatten_cons, List.length_append]; omega⟩
theorem lists_choose {α : Type} {p : Nat → α → Prop} : ∀ (n : Nat), (∀ i, i < n → ∃ x, p i x) → ∃ xs : List α, xs.length = n ∧ ∀ i x, xs[i]? = some x → p i x
  | 0, _ => ⟨[], rfl, by simp⟩
  | n + 1, h => by
    obtain ⟨xs, h1, h2⟩ := lists_choose n fun i hi => h i (by omega)
    obtain ⟨x, hx⟩ := h n (by omega)
    refine ⟨xs ++ [x], by simp [h1], fun i y hy => ?_⟩
    by_cases hi : i < xs.length
    · rw [List.getElem?_append_left hi] at hy; exact h2 i y hy
    · rw [List.getElem?_append_right (by omega)] at hy
      have : i = n := by
        have := (List.getElem?_eq_some_iff.1 hy).1
        simp at this; omega
      subst this
      rw [h1] at hy
      simp at hy
      subst hy
      exact hx
theorem open_sh {t : TypeId} {shs : List Sh} (h : HasSh P t shs) : ∀ (n : Nat) (cs : List Value) (x : DataW H × List MemPlace), DataW.trod enc P w base spare held n t cs = some x → OpenAs w shs cs := by
  induction h with
  | int h =>
    intro n cs x hx
    obtain ⟨a, rfl, _, hw⟩ := DataW.trod_int h hx
    exact ⟨rfl, [.atm (.int _ a)], rfl, fun j s hj => by
      match j, hj with
      | 0, hj => simp at hj; subst hj; exact ⟨_, _, rfl, rfl, .atm rfl, .int hw⟩⟩
  | bool h =>
    intro n cs x hx
    obtain ⟨a, rfl, _⟩ := DataW.trod_bool h hx
    exact ⟨rfl, [.atm (.bool a)], rfl, fun j s hj => by
      match j, hj with
      | 0, hj => simp at hj; subst hj; exact ⟨_, _, rfl, rfl, .atm rfl, .bool⟩⟩
  | @sl t e row h hc hp he ih =>
    intro n cs x hx
    have key : ∀ (rows : List (List T)) (u : Value), cs = [u] → RT w (fun _ => False) (.sl row.length .any rows) u → (∀ r ∈ rows, r.length = row.length) → (∀ r ∈ rows, ∀ (j : Nat) (s : Sh) (t : T), row[j]? = some s → r[j]? = some t → Fit s t) → OpenAs w [.sl row] cs := by
      rintro rows u rfl hu h1 h2
      exact ⟨rfl, [.sl row.length .any rows], rfl, fun j s hj => by
        match j, hj with
        | 0, hj => simp at hj; subst hj; exact ⟨_, _, rfl, rfl, hu, .sl h1 h2⟩⟩
    rcases open_slice h hx with ⟨h0, _⟩ | ⟨a, len, cap, m, n, D, Pl, hcs, hb, hl, hm, hmm, hx, hi⟩
    · exact key [] _ h0 (.sl (b := 0) (off := 0) (fun _ _ => undef) (by simp) (by simp) (by unfold maxLen; omega) (by intro h; cases h) (by intro h; cases h) (by simp) (by simp [at2]) (by simp [at2])) (by simp) (by simp)
    · by_cases hz : len = 0
      · subst hz
        exact key [] _ hcs (.sl (b := 0) (off := 0) (fun _ _ => undef) (by simp) (by simp) hm (by intro h; cases h) (by intro h; cases h) (by simp) (by simp [at2]) (by simp [at2])) (by simp) (by simp)
      have hlm : len ≤ m := by rw [hmm]; split <;> omega
      have each : ∀ i, i < len → ∃ cs' : List Value, (∀ j, j < row.length → w.cell? (a.add (i * row.length + j)) = cs'[j]?) ∧ OpenAs w row cs' := by
        intro i hil
        obtain ⟨cs', hc', ht'⟩ := hi i (by omega)
        rw [hc] at hc'
        obtain ⟨_, hcl, hat⟩ := World.cells?_some hc'
        exact ⟨cs', fun j hj => by rw [← Go.Deep.add_add]; exact hat j hj, ih n cs' _ ht'⟩
      obtain ⟨css, hcl, hcs2⟩ := lists_choose len each
      obtain ⟨rows, hrl, hrows⟩ := lists_choose (α := List T) (p := fun i ts => ts.length = row.length ∧ ∀ (j : Nat) (s : Sh), row[j]? = some s → ∃ u t, (css.getD i [])[j]? = some u ∧ ts[j]? = some t ∧ RT w (fun _ => False) t u ∧ Fit s t) len (fun i hi => by
        have hg : css[i]? = some (css[i]'(by omega)) := List.getElem?_eq_getElem (by omega)
        obtain ⟨_, _, ts, h1, h2⟩ := hcs2 i _ hg
        refine ⟨ts, h1, ?_⟩
        rw [List.getD_eq_getElem?_getD, hg]
        exact h2)
      have hcell : ∀ i j, i < len → j < row.length → w.cell? (a.add (i * row.length + j)) = some ((css.getD i []).getD j undef) := by
        intro i j hi hj
        have hg : css[i]? = some (css[i]'(by omega)) := List.getElem?_eq_getElem (by omega)
        obtain ⟨h1, h2, _⟩ := hcs2 i _ hg
        rw [h1 j hj]
        have hgd : css.getD i [] = css[i]'(by omega) := by rw [List.getD_eq_getElem?_getD, hg]; rfl
        rw [hgd, List.getD_eq_getElem?_getD, List.getElem?_eq_getElem (by omega)]; rfl
      have hspot : a.spot = none := by
        have := World.cell?_spot (hcell 0 0 (by omega) hp)
        simpa [Addr.add] using this
      obtain ⟨b, off, sp⟩ := a
      simp only at hspot
      subst hspot
      have hadd : ∀ k, (⟨b, off, none⟩ : Addr).add k = ⟨b, off + k, none⟩ := by
        intro k
        unfold Addr.add
        split
        · subst_vars; rfl
        · rfl
      have hat : ∀ i j c, at2 rows i j = some c → i < len ∧ j < row.length ∧ ∃ r s, rows[i]? = some r ∧ r[j]? = some c ∧ row[j]? = some s := by
        intro i j c hc
        obtain ⟨r, q1, q2⟩ := at2_inv hc
        have hil : i < len := by rw [← hrl]; exact (List.getElem?_eq_some_iff.1 q1).1
        have hjl : j < row.length := by rw [← (hrows i r q1).1]; exact (List.getElem?_eq_some_iff.1 q2).1
        exact ⟨hil, hjl, r, _, q1, q2, List.getElem?_eq_getElem hjl⟩
      refine key rows (.slice (some ⟨b, off, none⟩) len cap) hcs ?_ ?_ ?_
      · rw [← hrl]
        refine .sl (b := b) (off := off) (fun i j => (css.getD i []).getD j undef) ?_ (by omega) hm (by intro h; cases h) (by intro h; cases h) (fun _ => rfl) ?_ ?_
        · intro r hr
          obtain ⟨i, hi⟩ := List.mem_iff_getElem?.1 hr
          exact (hrows i r hi).1
        · intro i j c hc
          obtain ⟨hil, hjl, _⟩ := hat i j c hc
          have := hcell i j hil hjl
          rw [hadd] at this
          exact ⟨this, fun h => h⟩
        · intro i j c hc
          obtain ⟨hil, hjl, r, s, q1, q2, q3⟩ := hat i j c hc
          obtain ⟨u, t, h1, h2, h3, h4⟩ := (hrows i r q1).2 j s q3
          rw [q2] at h2
          injection h2 with h2
          subst h2
          rw [List.getD_eq_getElem?_getD (l := css.getD i []), h1]
          exact h3
      · intro r hr
        obtain ⟨i, hi⟩ := List.mem_iff_getElem?.1 hr
        exact (hrows i r hi).1
      · intro r hr j s t hs ht
        obtain ⟨i, hi⟩ := List.mem_iff_getElem?.1 hr
        obtain ⟨u, t', h1, h2, h3, h4⟩ := (hrows i r hi).2 j s hs
        rw [ht] at h2
        injection h2 with h2
        subst h2
        exact h4
  | @struct t fs parts h hl ho hc he ih =>
    intro n cs x hx
    obtain ⟨xs, n', hn', hy, hlen, hyl, hf⟩ := DataW.trod_struct h hx
    have hlen' : cs.length = parts.flatten.length := by rw [hlen, hc]
    have each : ∀ j, j < parts.flatten.length → ∃ t, ∀ s, parts.flatten[j]? = some s → ∃ u, cs[j]? = some u ∧ RT w (fun _ => False) t u ∧ Fit s t := by
      intro j hj
      obtain ⟨i, p, k, q1, q2, q3⟩ := flatten_at parts j _ (List.getElem?_eq_getElem hj)
      have hi : i < fs.size := by rw [← hl]; exact (List.getElem?_eq_some_iff.1 q1).1
      have hfi : fs[i]? = some fs[i] := Array.getElem?_eq_getElem hi
      obtain ⟨o1, o2⟩ := ho i _ p hfi q1
      have h1 := hf i _ hfi
      have hxi : xs[i]? = some (xs[i]'(by omega)) := List.getElem?_eq_getElem (by omega)
      obtain ⟨r1, ts, r2, r3⟩ := ih i _ p hfi q1 n' _ _ (h1.trans hxi)
      obtain ⟨u, t, e1, e2, e3, e4⟩ := r3 k _ q2
      refine ⟨t, fun s hs => ⟨u, ?_, e3, ?_⟩⟩
      · have hk : k < p.length := (List.getElem?_eq_some_iff.1 q2).1
        rw [List.getElem?_take, o2, if_pos hk, List.getElem?_drop, o1, ← q3] at e1
        exact e1
      · rw [List.getElem?_eq_getElem hj] at hs
        injection hs with hs
        rw [← hs]; exact e4
    obtain ⟨ts, t1, t2⟩ := lists_choose parts.flatten.length each
    refine ⟨hlen', ts, t1, fun j s hj => ?_⟩
    have hjl := (List.getElem?_eq_some_iff.1 hj).1
    have htj : ts[j]? = some (ts[j]'(by omega)) := List.getElem?_eq_getElem (by omega)
    obtain ⟨u, h1, h2, h3⟩ := t2 j _ htj s hj
    exact ⟨u, _, h1, htj, h2, h3⟩
end
theorem Fit.int_inv {k : IntKind} {t : T} (h : Fit (.int k) t) : ∃ n, t = .atm (.int k n) ∧ (Lit.int k n).wf = true := by cases h with | int h => exact ⟨_, rfl, h⟩
theorem Fit.bool_inv {t : T} (h : Fit .bool t) : ∃ b, t = .atm (.bool b) := by cases h with | bool => exact ⟨_, rfl⟩
/-- rows that are each the row of something -/
theorem rows_map {α : Type} {f : α → List T} {p : α → Prop} : ∀ {rows : List (List T)}, (∀ r ∈ rows, ∃ x, r = f x ∧ p x) → ∃ xs : List α, rows = xs.map f ∧ ∀ x ∈ xs, p x
  | [], _ => ⟨[], rfl, by simp⟩
  | r :: rs, h => by
    obtain ⟨x, rfl, hx⟩ := h r (by simp)
    obtain ⟨xs, rfl, hxs⟩ := rows_map (rows := rs) (f := f) (p := p) fun r hr => h r (List.mem_cons_of_mem _ hr)
    exact ⟨x :: xs, rfl, fun y hy => by rcases List.mem_cons.1 hy with rfl | hy; exact hx; exact hxs y hy⟩
theorem Fit.sl_inv {α : Type} (f : α → List T) (p : α → Prop) {row : List Sh} {t : T} (h : Fit (.sl row) t)
    (hrow : ∀ r : List T, r.length = row.length → (∀ (j : Nat) (s : Sh) (t : T), row[j]? = some s → r[j]? = some t → Fit s t) → ∃ x, r = f x ∧ p x) :
    ∃ xs : List α, t = .sl row.length .any (xs.map f) ∧ ∀ x ∈ xs, p x := by
  cases h with
  | sl hl h =>
    obtain ⟨xs, rfl, hx⟩ := rows_map (f := f) (p := p) (fun r hr => hrow r (hl r hr) (h r hr))
    exact ⟨xs, rfl, hx⟩
end Go.Proofs.Ythinjkjhiembgaa
/- Arguments of the histories: lists of fractions, picks, fractions, recalls. -/
namespace Go.Proofs.Ythinjkjhiembgaa
open Go.RowKit Go.ChangeShapes Go.WideShapes Go.Deep
set_option linter.unusedVariables false
set_option linter.unusedSimpArgs false
set_option maxRecDepth 100000

abbrev shInt : Sh := .int .i64
abbrev shBig : List Sh := [shInt, .sl [shInt]]
abbrev shFrac : List Sh := [shInt, .sl [shInt], shInt, .sl [shInt]]
theorem has_int : HasSh Try.prog 3 [shInt] := .int Try.underlying3
theorem has_ints : HasSh Try.prog 42 [.sl [shInt]] := .sl Try.underlying42 (by kernel_rfl) (by decide) has_int
theorem has_struct2 {P : Program} {t : TypeId} {fs : Array Field} {p0 p1 : List Sh} (h : P.underlying t = some (.struct fs)) (hl : fs.size = 2)
    (h0 : ∃ f, fs[0]? = some f ∧ f.offset = 0 ∧ P.cellsOf f.type = p0.length ∧ HasSh P f.type p0) (h1 : ∃ f, fs[1]? = some f ∧ f.offset = p0.length ∧ P.cellsOf f.type = p1.length ∧ HasSh P f.type p1)
    (hc : P.cellsOf t = p0.length + p1.length) : HasSh P t (p0 ++ p1) := by
  obtain ⟨f0, a1, a2, a3, a4⟩ := h0
  obtain ⟨f1, b1, b2, b3, b4⟩ := h1
  have := HasSh.struct (P := P) (t := t) (fs := fs) [p0, p1] h (by simp [hl]) (fun i f p hf hp => by
    match i, hp with
    | 0, hp => simp at hp; subst hp; rw [a1] at hf; injection hf with hf; subst hf; exact ⟨by simp [a2], a3⟩
    | 1, hp => simp at hp; subst hp; rw [b1] at hf; injection hf with hf; subst hf; exact ⟨by simp [b2], b3⟩
    | n + 2, hp => simp at hp) (by simp [hc]) (fun i f p hf hp => by
    match i, hp with
    | 0, hp => simp at hp; subst hp; rw [a1] at hf; injection hf with hf; subst hf; exact a4
    | 1, hp => simp at hp; subst hp; rw [b1] at hf; injection hf with hf; subst hf; exact b4
    | n + 2, hp => simp at hp)
  simpa using this
theorem has_big : HasSh Try.prog 44 shBig :=
  has_struct2 (p0 := [shInt]) (p1 := [.sl [shInt]]) Try.underlying44 (by kernel_rfl) ⟨_, rfl, rfl, by kernel_rfl, has_int⟩ ⟨_, rfl, rfl, by kernel_rfl, has_ints⟩ (by kernel_rfl)
theorem has_frac : HasSh Try.prog 46 shFrac :=
  has_struct2 (p0 := shBig) (p1 := shBig) Try.underlying46 (by kernel_rfl) ⟨_, rfl, rfl, by kernel_rfl, has_big⟩ ⟨_, rfl, rfl, by kernel_rfl, has_big⟩ (by kernel_rfl)
theorem has_fracs : HasSh Try.prog 37 [.sl shFrac] := .sl Try.underlying37 (by kernel_rfl) (by decide) has_frac
theorem has_hist : HasSh Try.prog 29 [.sl [.sl shFrac]] := .sl Try.underlying29 (by kernel_rfl) (by decide) has_fracs
theorem has_recall : HasSh Try.prog 60 [shInt, shInt] :=
  has_struct2 (p0 := [shInt]) (p1 := [shInt]) Try.underlying60 (by kernel_rfl) ⟨_, rfl, rfl, by kernel_rfl, has_int⟩ ⟨_, rfl, rfl, by kernel_rfl, has_int⟩ (by kernel_rfl)
theorem has_pick : HasSh Try.prog 63 [shInt, shInt] :=
  has_struct2 (p0 := [shInt]) (p1 := [shInt]) Try.underlying63 (by kernel_rfl) ⟨_, rfl, rfl, by kernel_rfl, has_int⟩ ⟨_, rfl, rfl, by kernel_rfl, has_int⟩ (by kernel_rfl)
theorem has_picks : HasSh Try.prog 48 [.sl [shInt, shInt]] := .sl Try.underlying48 (by kernel_rfl) (by decide) has_pick
theorem fit_ints {t : T} (h : Fit (.sl [shInt]) t) : ∃ l : List Int, t = intsT l := by
  obtain ⟨xs, rfl, _⟩ := h.sl_inv intRow (fun _ => True) (fun r hl hr => by
    match r, hl with
    | [u], _ =>
      obtain ⟨n, rfl, _⟩ := (hr 0 _ _ rfl rfl).int_inv
      exact ⟨n, rfl, trivial⟩)
  exact ⟨xs, rfl⟩
theorem fit_fracrow {r : List T} (hl : r.length = 4) (hr : ∀ (j : Nat) (s : Sh) (t : T), shFrac[j]? = some s → r[j]? = some t → Fit s t) : ∃ f : Fr, r = frRow f := by
  match r, hl with
  | [a, b, c, d], _ =>
    obtain ⟨n, rfl, _⟩ := (hr 0 _ _ rfl rfl).int_inv
    obtain ⟨l, rfl⟩ := fit_ints (hr 1 _ _ rfl rfl)
    obtain ⟨m, rfl, _⟩ := (hr 2 _ _ rfl rfl).int_inv
    obtain ⟨k, rfl⟩ := fit_ints (hr 3 _ _ rfl rfl)
    exact ⟨⟨⟨n, l⟩, ⟨m, k⟩⟩, rfl⟩
theorem fit_fracs {t : T} (h : Fit (.sl shFrac) t) : ∃ l : List Fr, t = fracsT l := by
  obtain ⟨xs, rfl, _⟩ := h.sl_inv frRow (fun _ => True) (fun r hl hr => by
    obtain ⟨f, rfl⟩ := fit_fracrow hl hr
    exact ⟨f, rfl, trivial⟩)
  exact ⟨xs, rfl⟩
theorem fit_hist {t : T} (h : Fit (.sl [.sl shFrac]) t) : ∃ l : List (List Fr), t = histT l := by
  obtain ⟨xs, rfl, _⟩ := h.sl_inv fracsRow (fun _ => True) (fun r hl hr => by
    match r, hl with
    | [u], _ =>
      obtain ⟨l, rfl⟩ := fit_fracs (hr 0 _ _ rfl rfl)
      exact ⟨l, rfl, trivial⟩)
  exact ⟨xs, rfl⟩
theorem fit_picks {t : T} (h : Fit (.sl [shInt, shInt]) t) : ∃ l : List Pick, t = picksT l := by
  obtain ⟨xs, rfl, _⟩ := h.sl_inv Pick.row (fun _ => True) (fun r hl hr => by
    match r, hl with
    | [u, v], _ =>
      obtain ⟨n, rfl, _⟩ := (hr 0 _ _ rfl rfl).int_inv
      obtain ⟨m, rfl, _⟩ := (hr 1 _ _ rfl rfl).int_inv
      exact ⟨⟨n, m⟩, rfl, trivial⟩)
  exact ⟨xs, rfl⟩
section
variable {H : Type} {enc : TypeId × Value → H} {w : World} {base : Nat} {spare : Nat → Bool} {held : Bool}
theorem open_hist {v : Value} {d : DataW H} {p : List MemPlace} {r : Reach} {b0 : Nat} (hv : Value.okWide Try.prog w r b0 29 v) (h : DataW.Trod enc Try.prog w base spare held 29 v d p) : ∃ hh, RS w (fun _ => none) (fun _ => False) (histS hh) v := by
  obtain ⟨a, len, cap, rfl⟩ := okWide_slice Try.underlying29 hv
  obtain ⟨fuel, hf⟩ := h
  obtain ⟨_, ts, h1, h2⟩ := open_sh has_hist fuel _ _ hf
  obtain ⟨u, t, e1, e2, e3, e4⟩ := h2 0 _ rfl
  obtain ⟨hh, rfl⟩ := fit_hist e4
  injection e1 with e1
  subst e1
  exact ⟨hh, .c (.t e3)⟩
theorem open_picks {v : Value} {d : DataW H} {p : List MemPlace} {r : Reach} {b0 : Nat} (hv : Value.okWide Try.prog w r b0 48 v) (h : DataW.Trod enc Try.prog w base spare held 48 v d p) : ∃ hh, RS w (fun _ => none) (fun _ => False) (picksS hh) v := by
  obtain ⟨a, len, cap, rfl⟩ := okWide_slice Try.underlying48 hv
  obtain ⟨fuel, hf⟩ := h
  obtain ⟨_, ts, h1, h2⟩ := open_sh has_picks fuel _ _ hf
  obtain ⟨u, t, e1, e2, e3, e4⟩ := h2 0 _ rfl
  obtain ⟨hh, rfl⟩ := fit_picks e4
  injection e1 with e1
  subst e1
  exact ⟨hh, .c (.t e3)⟩
theorem rs_cells {shs : List Sh} {l : List Value} (h : OpenAs w shs l) : ∃ ts : List T, ts.length = shs.length ∧ (∀ (j : Nat) (s : Sh) (t : T), shs[j]? = some s → ts[j]? = some t → Fit s t) ∧ RS w (fun _ => none) (fun _ => False) (.agg (ts.map C.t)) (.agg ⟨l⟩) := by
  obtain ⟨h0, ts, h1, h2⟩ := h
  refine ⟨ts, h1, fun j s t hs ht => ?_, ?_⟩
  · obtain ⟨u, t', e1, e2, e3, e4⟩ := h2 j s hs
    rw [ht] at e2; injection e2 with e2; subst e2; exact e4
  · refine .agg l (by simp [h0, h1]) fun j c hc => ?_
    rw [List.getElem?_map] at hc
    obtain ⟨t, ht, rfl⟩ := Option.map_eq_some_iff.1 hc
    have hj : j < shs.length := by rw [← h1]; exact (List.getElem?_eq_some_iff.1 ht).1
    obtain ⟨u, t', e1, e2, e3, e4⟩ := h2 j _ (List.getElem?_eq_getElem hj)
    rw [ht] at e2; injection e2 with e2; subst e2
    rw [List.getD_eq_getElem?_getD, e1]
    exact .t e3
theorem open_recall {v : Value} {d : DataW H} {p : List MemPlace} {r : Reach} {b0 : Nat} (hv : Value.okWide Try.prog w r b0 60 v) (h : DataW.Trod enc Try.prog w base spare held 60 v d p) : ∃ x : Recall, RS w (fun _ => none) (fun _ => False) (.agg (x.row.map .t)) v := by
  obtain ⟨⟨l⟩, rfl, _⟩ := okWide_struct Try.underlying60 hv
  obtain ⟨fuel, hf⟩ := h
  obtain ⟨ts, h1, h2, h3⟩ := rs_cells (open_sh has_recall fuel _ _ hf)
  match ts, h1 with
  | [a, b], _ =>
    obtain ⟨n, rfl, _⟩ := (h2 0 _ _ rfl rfl).int_inv
    obtain ⟨m, rfl, _⟩ := (h2 1 _ _ rfl rfl).int_inv
    exact ⟨⟨n, m⟩, h3⟩
theorem open_frac {v : Value} {d : DataW H} {p : List MemPlace} {r : Reach} {b0 : Nat} (hv : Value.okWide Try.prog w r b0 46 v) (h : DataW.Trod enc Try.prog w base spare held 46 v d p) : ∃ f : Fr, RS w (fun _ => none) (fun _ => False) (.agg ((frRow f).map .t)) v := by
  obtain ⟨⟨l⟩, rfl, _⟩ := okWide_struct Try.underlying46 hv
  obtain ⟨fuel, hf⟩ := h
  obtain ⟨ts, h1, h2, h3⟩ := rs_cells (open_sh has_frac fuel _ _ hf)
  obtain ⟨f, rfl⟩ := fit_fracrow h1 h2
  exact ⟨f, h3⟩
end
end Go.Proofs.Ythinjkjhiembgaa
/- HistoryScales: at every input the law returns true, and its arguments read as before. Conditions: none. -/
namespace Go.Proofs.Ythinjkjhiembgaa
open Go.RowKit Go.ChangeShapes Go.WideShapes Go.ChangeAt

set_option maxRecDepth 100000 in
theorem historyScales_lifted (os : Os) (started : os.Started) (H : Type) (enc : TypeId × Value → H) :
    ReturnsInHanded {} Try.checked os 6 .any (Rows.historyScalesSpec.pre6 enc Try.prog Try.f6 Rows.historyScalesRow.domain false) (Rows.historyScalesSpec.post enc Try.prog Try.f6 false true false false) := by
  refine returnsInHanded_of_change (C := Try.checked) law_own started (by kernel_rfl) Try.func6
    (ChangeSpec.witness6 (enc := enc) (C := Try.checked) false ⟨#[], #[.agg #[.int .i64 0, .int .i64 0, .int .i64 0, .slice none 0 0, .slice none 0 0, .slice none 0 0, .slice none 0 0, .slice none 0 0], .slice none 0 0, .int .u8 0, .int .i64 0], []⟩ 12 (by kernel_rfl) (by kernel_rfl) (by kernel_rfl) (by kernel_rfl)) ?_
  intro W base args ds gs before hval0 hW hcnd _
  have hval : ∀ (j : Nat) t v, Try.f6.params[j]? = some t → args[j]? = some v → Value.okWide Try.prog W .any base t v := hval0
  have hW' := hW
  obtain ⟨p, q, hA0, hV, rfl, hfz, hnd⟩ := hW
  have hA : DataW.TrodAll enc Try.prog W 0 (fun _ => true) true Try.f6.params.toList args.toList ds p := hA0
  rw [Try.params6] at hA hval
  obtain ⟨v0, vs0, d0, ds0, p0, q0, hargs, rfl, rfl, h0, r0⟩ := trodAll_cons hA
  obtain ⟨v1, vs1, d1, ds1, p1, q1, rfl, rfl, rfl, h1, r1⟩ := trodAll_cons r0
  obtain ⟨v2, vs2, d2, ds2, p2, q2, rfl, rfl, rfl, h2, r2⟩ := trodAll_cons r1
  obtain ⟨v3, vs3, d3, ds3, p3, q3, rfl, rfl, rfl, h3, r3⟩ := trodAll_cons r2
  obtain ⟨rfl, rfl, rfl⟩ := trodAll_nil r3
  obtain rfl : args = #[v0, v1, v2, v3] := by cases args; simp_all
  obtain ⟨rfl, rfl⟩ := trodVars_none hV
  obtain ⟨m, h, s, A1, n1, c1, A2, n2, c2, A3, n3, c3, A4, n4, c4, A5, n5, c5, e, rfl, hr, hb⟩ := open_ev (hval 0 28 v0 rfl rfl) h0
  obtain ⟨a1, t1⟩ := Go.Proofs.Ythinjkjhiembgaa.open_hist (hval 1 29 v1 rfl rfl) h1
  obtain ⟨a2, rfl, rfl, rfl, w2⟩ := open_int Try.underlying5 (hval 2 5 v2 rfl rfl) h2
  obtain ⟨a3, rfl, rfl, rfl, w3⟩ := open_int Try.underlying3 (hval 3 3 v3 rfl rfl) h3
  refine (law_of_acall (a_HistoryScales e a1 a2 a3 (wf_rangeU w2).1 (wf_rangeU w2).2) (.cons (rs_ev hr hb) (.cons (t1) (.cons (rs_u8) (.cons (rs_int) (.nil)))))).mono fun ee W' ⟨he, hg⟩ => ?_
  subst he
  exact ⟨_, rfl, law_post hW' law_laid (by rw [Try.params6]; intro t ht; simp at ht; rcases ht with rfl | rfl | rfl | rfl <;> exact ⟨by kernel_rfl, of_decide_eq_true (by kernel_rfl)⟩) rfl rfl (by kernel_rfl) Try.underlying4 hg⟩

theorem historyScales_holds : Rows.HistoryScalesSaid :=
  OpenClaim.holds_of_wide 6 Try.f6 rfl rfl rfl rfl rfl rfl rfl ⟨rfl, rfl, rfl, rfl, rfl⟩ rfl rfl rfl rfl rfl (by kernel_rfl) Try.func6 (by kernel_rfl)
    (of_decide_eq_true (by kernel_rfl)) (by unfold Func.isWrapper; first | (rw [if_pos (by decide +kernel)]; kernel_rfl) | (rw [if_neg (by decide +kernel)]; exact ⟨rfl, rfl⟩))
    (fun os started H enc _ => historyScales_lifted os started H enc)
end Go.Proofs.Ythinjkjhiembgaa
/- Chapter 15 in plain Lean: mixtures of histories; what is conserved. No program is in sight. -/
namespace Go.Proofs.Ythinjkjhiembgaa
set_option linter.unusedVariables false
set_option linter.unusedSimpArgs false

/-- sums of the first numbers -/
def sumN (f : Nat → Rat) : Nat → Rat
  | 0 => ((0 : Int) : Rat)
  | n + 1 => sumN f n + f n
theorem zero_eq : ((0 : Int) : Rat) = 0 := rfl
theorem sumR_get (l : List Rat) : ∀ n, n ≤ l.length → sumR (l.take n) = sumN (fun m => l.getD m 0) n
  | 0, _ => rfl
  | n + 1, h => by
    have hg : l[n]? = some (l.getD n 0) := by rw [List.getD_eq_getElem?_getD, List.getElem?_eq_getElem (by omega)]; rfl
    rw [List.take_add_one, hg]
    show sumR (l.take n ++ [l.getD n 0]) = _
    rw [sumR_snoc, sumR_get l n (by omega)]; rfl
theorem sumR_all (l : List Rat) : sumR l = sumN (fun m => l.getD m 0) l.length := by
  have := sumR_get l l.length (Nat.le_refl _)
  rwa [List.take_of_length_le (Nat.le_refl _)] at this
theorem sumN_mix (a b : Nat → Rat) (t : Rat) : ∀ n, sumN (fun m => a m + t * (b m - a m)) n = sumN a n + t * (sumN b n - sumN a n)
  | 0 => by simp only [sumN, zero_eq]; grind
  | n + 1 => by simp only [sumN]; rw [sumN_mix a b t n]; grind
theorem sumN_congr {f g : Nat → Rat} : ∀ {n : Nat}, (∀ m, m < n → f m = g m) → sumN f n = sumN g n
  | 0, _ => rfl
  | n + 1, h => by simp only [sumN]; rw [sumN_congr fun m hm => h m (by omega), h n (by omega)]
/-- a sum in which one place gives what another one gets -/
theorem sumN_add (f : Nat → Rat) (v : Rat) (d : Nat) : ∀ n, sumN (fun p => if p = d then f p + v else f p) n = sumN f n + (if d < n then v else 0)
  | 0 => by simp only [sumN, zero_eq]; rw [if_neg (by omega)]; grind
  | n + 1 => by
    simp only [sumN]
    rw [sumN_add f v d n]
    rcases Nat.lt_trichotomy d n with h | h | h
    · rw [if_pos h, if_neg (by omega), if_pos (by omega)]; grind
    · subst h; rw [if_neg (by omega), if_pos rfl, if_pos (by omega)]; grind
    · rw [if_neg (by omega), if_neg (by omega), if_neg (by omega)]; grind
theorem sumN_move (f : Nat → Rat) (v : Rat) {s d n : Nat} (hs : s < n) (hd : d < n) (hsd : s ≠ d) : sumN (fun p => if p = s then f p - v else if p = d then f p + v else f p) n = sumN f n := by
  have e : ∀ m, m < n → (if m = s then f m - v else if m = d then f m + v else f m) = (if m = s then (if m = d then f m + v else f m) + -v else (if m = d then f m + v else f m)) := fun m _ => by
    by_cases h : m = s
    · subst h; rw [if_pos rfl, if_pos rfl, if_neg hsd]; grind
    · rw [if_neg h, if_neg h]
  rw [sumN_congr e, sumN_add (fun p => if p = d then f p + v else f p) (-v) s n, sumN_add f v d n, if_pos hs, if_pos hd]
  grind
/-- of each material all that has left the bins is at the other places -/
theorem stk_sum {e : Ev} (h0 : check e = 0) (G : List (List Rat)) (m : Nat) : ∀ k, sumN (fun p => stk e G k p m) e.places.length = 0
  | 0 => by
    have : ∀ n, sumN (fun p => stk e G 0 p m) n = 0 := fun n => by
      induction n with
      | zero => rfl
      | succ n ih => simp only [sumN]; rw [ih]; simp only [stk, zero_eq]; grind
    exact this _
  | k + 1 => by
    cases hx : e.moves[k]? with
    | none =>
      have : stk e G (k + 1) = stk e G k := by conv => lhs; unfold stk
                                               rw [hx]
      rw [this]; exact stk_sum h0 G m k
    | some x =>
      have hm := check_move h0 (List.mem_of_getElem? hx)
      have ms := moveOk_src hm
      have md := moveOk_dst hm
      have hne : x.src ≠ x.dst := by unfold moveOk at hm; simp only [Bool.and_eq_true, decide_eq_true_eq] at hm; exact hm.1.1.1.1.1.2
      have : stk e G (k + 1) = carryF x (hAt G k) (stk e G k) := by conv => lhs; unfold stk
                                                                    rw [hx]
      rw [this, ← stk_sum h0 G m k]
      rw [← sumN_move (fun p => stk e G k p m) (hAt G k m) (s := x.src.toNat) (d := x.dst.toNat) (n := e.places.length) (by omega) (by omega) (by omega)]
      refine sumN_congr fun p _ => ?_
      unfold carryF
      have c1 : (x.src = (p : Int)) ↔ p = x.src.toNat := by omega
      have c2 : (x.dst = (p : Int)) ↔ p = x.dst.toNat := by omega
      simp only [c1, c2]
end Go.Proofs.Ythinjkjhiembgaa
/- Chapter 15 in plain Lean: mixtures of two histories. No program is in sight. -/
namespace Go.Proofs.Ythinjkjhiembgaa
set_option linter.unusedVariables false
set_option linter.unusedSimpArgs false

def mixL (a b : List Rat) (t : Rat) : List Rat := (List.range a.length).map fun m => a.getD m 0 + t * (b.getD m 0 - a.getD m 0)
def mixG (A B : List (List Rat)) (t : Rat) : List (List Rat) := (List.range A.length).map fun i => mixL (A.getD i []) (B.getD i []) t
theorem mixL_get {a b : List Rat} {t : Rat} (h : b.length = a.length) (m : Nat) : (mixL a b t).getD m 0 = a.getD m 0 + t * (b.getD m 0 - a.getD m 0) := by
  unfold mixL
  rw [List.getD_eq_getElem?_getD, List.getElem?_map]
  by_cases hm : m < a.length
  · rw [List.getElem?_range hm]; rfl
  · rw [List.getElem?_eq_none (by simp; omega)]
    rw [List.getD_eq_getElem?_getD (l := a), List.getD_eq_getElem?_getD (l := b), List.getElem?_eq_none (l := a) (by omega), List.getElem?_eq_none (l := b) (by omega)]
    simp only [Option.map_none, Option.getD_none]
    grind
theorem mixG_get {A B : List (List Rat)} {t : Rat} {i : Nat} (h : i < A.length) : (mixG A B t).getD i [] = mixL (A.getD i []) (B.getD i []) t := by
  unfold mixG
  rw [List.getD_eq_getElem?_getD, List.getElem?_map, List.getElem?_range h]; rfl
theorem sumR_mix {a b : List Rat} {t : Rat} (h : b.length = a.length) : sumR (mixL a b t) = sumR a + t * (sumR b - sumR a) := by
  have hl : (mixL a b t).length = a.length := by simp [mixL]
  rw [sumR_all, sumR_all a, sumR_all b, hl, h, ← sumN_mix]
  exact sumN_congr fun m _ => mixL_get h m
/-- the stocks are mixed as the histories are -/
theorem stk_mix {e : Ev} {A B : List (List Rat)} {t : Rat} (hA : Shape e A) (hB : Shape e B) : ∀ k p m, stk e (mixG A B t) k p m = stk e A k p m + t * (stk e B k p m - stk e A k p m)
  | 0, p, m => by simp only [stk, zero_eq]; grind
  | k + 1, p, m => by
    have ih := stk_mix hA hB (t := t) k p m
    unfold stk
    cases hx : e.moves[k]? with
    | none => exact ih
    | some x =>
      have hk : k < e.moves.length := (List.getElem?_eq_some_iff.1 hx).1
      have hl : (B.getD k []).length = (A.getD k []).length := by
        have h1 : A[k]? = some (A[k]'(by rw [hA.len]; exact hk)) := List.getElem?_eq_getElem _
        have h2 : B[k]? = some (B[k]'(by rw [hB.len]; exact hk)) := List.getElem?_eq_getElem _
        rw [List.getD_eq_getElem?_getD, List.getD_eq_getElem?_getD, h1, h2]
        have := hA.wid _ (List.mem_of_getElem? h1)
        have := hB.wid _ (List.mem_of_getElem? h2)
        simp only [Option.getD_some]
        omega
      have hv : hAt (mixG A B t) k m = hAt A k m + t * (hAt B k m - hAt A k m) := by
        unfold hAt
        rw [mixG_get (by rw [hA.len]; exact hk), mixL_get hl]
      simp only
      unfold carryF
      rw [ih, hv]
      split
      · grind
      · split
        · grind
        · rfl
end Go.Proofs.Ythinjkjhiembgaa
/- Chapter 15 in plain Lean: a mixture of two histories that the evidence allows is one that it allows. No program is in sight. -/
namespace Go.Proofs.Ythinjkjhiembgaa
set_option linter.unusedVariables false
set_option linter.unusedSimpArgs false

theorem mix_le {a b c d t : Rat} (h1 : a ≤ c) (h2 : b ≤ d) (t0 : 0 ≤ t) (t1 : t ≤ 1) : a + t * (b - a) ≤ c + t * (d - c) := by
  have h3 : 0 ≤ (1 - t) * (c - a) := Rat.mul_nonneg (by grind) (by grind)
  have h4 : 0 ≤ t * (d - b) := Rat.mul_nonneg t0 (by grind)
  grind
theorem mix_same {a b t : Rat} (h : a = b) : a + t * (b - a) = a := by subst h; grind
theorem inB_mix {iv : Option (Rat × Rat)} {a b t : Rat} (ha : inB iv a = true) (hb : inB iv b = true) (t0 : 0 ≤ t) (t1 : t ≤ 1) : inB iv (a + t * (b - a)) = true := by
  cases iv with
  | none => rfl
  | some p =>
    obtain ⟨lo, hi⟩ := p
    simp only [inB, Bool.and_eq_true, decide_eq_true_eq] at *
    have h1 := mix_le (a := lo) (b := lo) (c := a) (d := b) ha.1 hb.1 t0 t1
    have h2 := mix_le (a := a) (b := b) (c := hi) (d := hi) ha.2 hb.2 t0 t1
    rw [mix_same rfl] at h1 h2
    exact ⟨h1, h2⟩
theorem weighed_mix {e : Ev} {x : Move} {a b t : Rat} (ha : weighedB e x a = true) (hb : weighedB e x b = true) (t0 : 0 ≤ t) (t1 : t ≤ 1) : weighedB e x (a + t * (b - a)) = true := by
  unfold weighedB at *
  by_cases h : x.scale = -1
  · rw [if_pos h]
  · rw [if_neg h] at *; exact inB_mix ha hb t0 t1
theorem pure_mix {ps : List Purity} {i : Nat} {a b : List Rat} {s u t : Rat} (hl : b.length = a.length) (ha : pureB ps i a s = true) (hb : pureB ps i b u = true) (t0 : 0 ≤ t) (t1 : t ≤ 1) : pureB ps i (mixL a b t) (s + t * (u - s)) = true := by
  unfold pureB at *
  rw [List.all_eq_true] at *
  intro p hp
  have h1 := ha p hp
  have h2 := hb p hp
  by_cases hm : p.move = (i : Int)
  · simp only [hm, ne_eq, not_true_eq_false, decide_false, Bool.false_or] at *
    unfold pureOne at *
    simp only [Bool.and_eq_true, decide_eq_true_eq] at *
    rw [mixL_get hl]
    have q1 := mix_le h1.1 h2.1 t0 t1
    have q2 := mix_le h1.2 h2.2 t0 t1
    constructor <;> grind
  · simp [hm]
theorem mixL_at {a b : List Rat} {t : Rat} {m : Nat} {v : Rat} (h : (mixL a b t)[m]? = some v) : m < a.length ∧ v = a.getD m 0 + t * (b.getD m 0 - a.getD m 0) := by
  unfold mixL at h
  rw [List.getElem?_map] at h
  by_cases hm : m < a.length
  · rw [List.getElem?_range hm] at h
    injection h with h
    exact ⟨hm, h.symm⟩
  · rw [List.getElem?_eq_none (by simp; omega)] at h; cases h
theorem getD_some {l : List Rat} {m : Nat} (h : m < l.length) : l[m]? = some (l.getD m 0) := by rw [List.getD_eq_getElem?_getD, List.getElem?_eq_getElem h]; rfl
theorem takenF_mix {f g : Nat → Rat} {all : Bool} {a b : List Rat} {t : Rat} (hl : b.length = a.length) (ha : takenF f all a 0 false = 0) (hb : takenF g all b 0 false = 0) (t0 : 0 ≤ t) (t1 : t ≤ 1) :
    takenF (fun m => f m + t * (g m - f m)) all (mixL a b t) 0 false = 0 := by
  rw [takenF_zero] at *
  obtain ⟨a1, a2⟩ := ha
  obtain ⟨b1, b2⟩ := hb
  refine ⟨fun m v hv => ?_, fun hall => ⟨rfl, fun m v hv => ?_⟩⟩
  · obtain ⟨hm, rfl⟩ := mixL_at hv
    have h1 := a1 m _ (getD_some hm)
    have h2 := b1 m _ (getD_some (by omega))
    have := mix_le (a := a.getD m 0) (b := b.getD m 0) (c := f (0 + m)) (d := g (0 + m)) (by grind) (by grind) t0 t1
    grind
  · obtain ⟨hm, rfl⟩ := mixL_at hv
    have h1 := (a2 hall).2 m _ (getD_some hm)
    have h2 := (b2 hall).2 m _ (getD_some (by omega))
    have := mix_le (a := f (0 + m)) (b := g (0 + m)) (c := a.getD m 0) (d := b.getD m 0) (by grind) (by grind) t0 t1
    grind
theorem hist_mix {e : Ev} {A B : List (List Rat)} {t : Rat} (hA : histCheck e (hz A) = 0) (hB : histCheck e (hz B) = 0) (sA : Shape e A) (sB : Shape e B) (t0 : 0 ≤ t) (t1 : t ≤ 1) : histCheck e (hz (mixG A B t)) = 0 := by
  obtain ⟨q1, _, q3⟩ := histCheck_zero hA
  obtain ⟨_, _, r3⟩ := histCheck_zero hB
  rw [unhz, histE_zero] at q3 r3
  have sM : Shape e (mixG A B t) := ⟨by simp [mixG, sA.len], fun l hl => by
    unfold mixG at hl
    obtain ⟨i, hi, rfl⟩ := List.mem_map.1 hl
    have hi := List.mem_range.1 hi
    have : A[i]? = some (A[i]'hi) := List.getElem?_eq_getElem hi
    rw [List.getD_eq_getElem?_getD, this]
    have := sA.wid _ (List.mem_of_getElem? this)
    simpa [mixL] using this⟩
  rw [histCheck_ok q1, shape_ok sM, if_pos rfl, unhz, histE_zero]
  intro k x hx
  have hk : k < e.moves.length := (List.getElem?_eq_some_iff.1 hx).1
  have ha := q3 k x hx
  have hb := r3 k x hx
  have hl : (B.getD k []).length = (A.getD k []).length := by
    have h1 : A[k]? = some (A[k]'(by rw [sA.len]; exact hk)) := List.getElem?_eq_getElem _
    have h2 : B[k]? = some (B[k]'(by rw [sB.len]; exact hk)) := List.getElem?_eq_getElem _
    rw [List.getD_eq_getElem?_getD, List.getD_eq_getElem?_getD, h1, h2]
    have := sA.wid _ (List.mem_of_getElem? h1)
    have := sB.wid _ (List.mem_of_getElem? h2)
    simp only [Option.getD_some]
    omega
  unfold stepAt at *
  rw [mixG_get (by rw [sA.len]; exact hk)]
  rw [stepE_zero] at *
  obtain ⟨a1, a2, a3, a4⟩ := ha
  obtain ⟨b1, b2, b3, b4⟩ := hb
  refine ⟨fun v hv => ?_, ?_, ?_, ?_⟩
  · obtain ⟨m, hm⟩ := List.mem_iff_getElem?.1 hv
    obtain ⟨hml, rfl⟩ := mixL_at hm
    have h1 := a1 _ (List.mem_of_getElem? (getD_some hml))
    have h2 := b1 _ (List.mem_of_getElem? (getD_some (l := B.getD k []) (m := m) (by omega)))
    have := mix_le (a := 0) (b := 0) (c := (A.getD k []).getD m 0) (d := (B.getD k []).getD m 0) (by grind) (by grind) t0 t1
    grind
  · unfold takenE at *
    by_cases hkd : kindAt e x.src = 0
    · rw [if_pos hkd]
    · rw [if_neg hkd] at *
      have : stk e (mixG A B t) k x.src.toNat = fun m => stk e A k x.src.toNat m + t * (stk e B k x.src.toNat m - stk e A k x.src.toNat m) := by
        funext m; exact stk_mix sA sB k _ m
      rw [this]
      exact takenF_mix hl a2 b2 t0 t1
  · rw [sumR_mix hl]; exact weighed_mix a3 b3 t0 t1
  · rw [sumR_mix hl]; exact pure_mix hl a4 b4 t0 t1
end Go.Proofs.Ythinjkjhiembgaa
/- Chapter 15 in plain Lean: no place but a bin has less than nothing; at a buyer there is never less later on. No program is in sight. -/
namespace Go.Proofs.Ythinjkjhiembgaa
set_option linter.unusedVariables false
set_option linter.unusedSimpArgs false

theorem stk_succ {e : Ev} {G : List (List Rat)} {k : Nat} {x : Move} (hx : e.moves[k]? = some x) : stk e G (k + 1) = carryF x (hAt G k) (stk e G k) := by
  conv => lhs; unfold stk
  rw [hx]
theorem stk_end {e : Ev} {G : List (List Rat)} {k : Nat} (hx : e.moves[k]? = none) : stk e G (k + 1) = stk e G k := by
  conv => lhs; unfold stk
  rw [hx]
theorem hAt_pos {e : Ev} {G : List (List Rat)} (h : histE e G = 0) (sG : Shape e G) (k m : Nat) (hk : k < e.moves.length) : 0 ≤ hAt G k m := by
  obtain ⟨x, hx⟩ : ∃ x, e.moves[k]? = some x := ⟨_, List.getElem?_eq_getElem hk⟩
  have := histE_zero.1 h k x hx
  unfold stepAt at this
  rw [stepE_zero] at this
  unfold hAt
  by_cases hm : m < (G.getD k []).length
  · have := this.pos _ (List.mem_of_getElem? (getD_some hm))
    grind
  · rw [List.getD_eq_getElem?_getD, List.getElem?_eq_none (by omega)]; exact Rat.le_refl
theorem stk_sign {e : Ev} {G : List (List Rat)} (h0 : check e = 0) (h : histE e G = 0) (sG : Shape e G) : ∀ (k p m : Nat), (kindAt e p ≠ 0 → 0 ≤ stk e G k p m) ∧ (kindAt e p = 0 → stk e G k p m ≤ 0)
  | 0, p, m => ⟨fun _ => Rat.le_refl, fun _ => Rat.le_refl⟩
  | k + 1, p, m => by
    have ih := stk_sign h0 h sG k p m
    cases hx : e.moves[k]? with
    | none => rw [stk_end hx]; exact ih
    | some x =>
      have hk : k < e.moves.length := (List.getElem?_eq_some_iff.1 hx).1
      have hm := check_move h0 (List.mem_of_getElem? hx)
      have hp := hAt_pos h sG k m hk
      have st := histE_zero.1 h k x hx
      unfold stepAt at st
      rw [stepE_zero] at st
      rw [stk_succ hx]
      unfold carryF
      by_cases c1 : x.src = (p : Int)
      · rw [if_pos c1]
        refine ⟨fun hkd => ?_, fun hkd => by have := ih.2 hkd; grind⟩
        have ht := st.tak
        unfold takenE at ht
        rw [c1, if_neg hkd, takenF_zero] at ht
        have hi := ih.1 hkd
        unfold hAt at *
        by_cases hml : m < (G.getD k []).length
        · have := ht.1 m _ (getD_some hml)
          rw [Nat.zero_add, show ((p : Int)).toNat = p by omega] at this
          grind
        · have e0 : (G.getD k []).getD m 0 = 0 := by rw [List.getD_eq_getElem?_getD, List.getElem?_eq_none (by omega)]; rfl
          rw [e0]; grind
      · rw [if_neg c1]
        by_cases c2 : x.dst = (p : Int)
        · rw [if_pos c2]
          have hd := moveOk_dstKind hm
          rw [c2] at hd
          exact ⟨fun hkd => by have := ih.1 hkd; grind, fun hkd => absurd hkd hd⟩
        · rw [if_neg c2]; exact ih
end Go.Proofs.Ythinjkjhiembgaa
/- Chapter 15 in plain Lean: at a buyer there is never less later on; after a move with All nothing is left; masses of mixtures. No program is in sight. -/
namespace Go.Proofs.Ythinjkjhiembgaa
set_option linter.unusedVariables false
set_option linter.unusedSimpArgs false

theorem moveOk_sink {e : Ev} {x : Move} (h : moveOk e x = true) : kindAt e x.src ≠ 5 ∧ kindAt e x.src ≠ 6 := by
  unfold moveOk at h
  simp only [Bool.and_eq_true, decide_eq_true_eq] at h
  exact ⟨h.1.1.1.1.2, h.1.1.1.2⟩
theorem moveOk_all {e : Ev} {x : Move} (h : moveOk e x = true) (ha : x.all = true) : kindAt e x.src ≠ 0 := by
  unfold moveOk at h
  simp only [Bool.and_eq_true, decide_eq_true_eq] at h
  have := h.1.1.2
  rw [ha] at this
  simpa using this
theorem stk_sink {e : Ev} {G : List (List Rat)} (h0 : check e = 0) (h : histE e G = 0) (sG : Shape e G) {p : Nat} (hp : kindAt e p = 5 ∨ kindAt e p = 6) (m k : Nat) : ∀ j, stk e G k p m ≤ stk e G (k + j) p m
  | 0 => Rat.le_refl
  | j + 1 => by
    refine Rat.le_trans (stk_sink h0 h sG hp m k j) ?_
    rw [show k + (j + 1) = k + j + 1 by omega]
    cases hx : e.moves[k + j]? with
    | none => rw [stk_end hx]; exact Rat.le_refl
    | some x =>
      have hk : k + j < e.moves.length := (List.getElem?_eq_some_iff.1 hx).1
      have hm := moveOk_sink (check_move h0 (List.mem_of_getElem? hx))
      have hz := hAt_pos h sG (k + j) m hk
      rw [stk_succ hx]
      unfold carryF
      by_cases c1 : x.src = (p : Int)
      · rw [c1] at hm
        rcases hp with hp | hp
        · exact absurd hp hm.1
        · exact absurd hp hm.2
      · rw [if_neg c1]
        split
        · grind
        · exact Rat.le_refl
theorem stk_allZ {e : Ev} {G : List (List Rat)} (h0 : check e = 0) (h : histE e G = 0) (sG : Shape e G) {i m : Nat} {x : Move} (hx : e.moves[i]? = some x) (ha : x.all = true) (hm : m < e.mats.toNat) : stk e G (i + 1) x.src.toNat m = 0 := by
  have hi : i < e.moves.length := (List.getElem?_eq_some_iff.1 hx).1
  have hmo := check_move h0 (List.mem_of_getElem? hx)
  have hs := moveOk_src hmo
  have st := histE_zero.1 h i x hx
  unfold stepAt at st
  rw [stepE_zero] at st
  have ht := st.tak
  unfold takenE at ht
  rw [if_neg (moveOk_all hmo ha), takenF_zero] at ht
  have hl : m < (G.getD i []).length := by
    have h1 : G[i]? = some (G[i]'(by rw [sG.len]; exact hi)) := List.getElem?_eq_getElem _
    rw [List.getD_eq_getElem?_getD, h1]
    have := sG.wid _ (List.mem_of_getElem? h1)
    simp only [Option.getD_some]
    omega
  have t1 := ht.1 m _ (getD_some hl)
  have t2 := (ht.2 ha).2 m _ (getD_some hl)
  rw [Nat.zero_add] at t1 t2
  rw [stk_succ hx]
  unfold carryF
  rw [if_pos (by omega)]
  unfold hAt
  grind
theorem hz_getD (G : List (List Rat)) (i : Nat) : (hz G).getD i [] = (G.getD i []).map fz := by
  unfold hz
  rw [List.getD_eq_getElem?_getD, List.getD_eq_getElem?_getD, List.getElem?_map]
  cases G[i]? <;> rfl
theorem mixG_getD {e : Ev} {A B : List (List Rat)} {t : Rat} (sA : Shape e A) (sB : Shape e B) (i : Nat) : (mixG A B t).getD i [] = mixL (A.getD i []) (B.getD i []) t ∧ (B.getD i []).length = (A.getD i []).length := by
  by_cases h : i < A.length
  · refine ⟨mixG_get h, ?_⟩
    have h1 : A[i]? = some (A[i]'h) := List.getElem?_eq_getElem _
    have h2 : B[i]? = some (B[i]'(by rw [sB.len, ← sA.len]; exact h)) := List.getElem?_eq_getElem _
    rw [List.getD_eq_getElem?_getD, List.getD_eq_getElem?_getD, h1, h2]
    have := sA.wid _ (List.mem_of_getElem? h1)
    have := sB.wid _ (List.mem_of_getElem? h2)
    simp only [Option.getD_some]
    omega
  · have hl : B.length = A.length := by rw [sB.len, sA.len]
    rw [List.getD_eq_getElem?_getD, List.getD_eq_getElem?_getD, List.getD_eq_getElem?_getD, List.getElem?_eq_none (l := mixG A B t) (by simp [mixG]; omega), List.getElem?_eq_none (l := A) (by omega), List.getElem?_eq_none (l := B) (by omega)]
    exact ⟨rfl, rfl⟩
theorem mix_shape {e : Ev} {A B : List (List Rat)} {t : Rat} (sA : Shape e A) : Shape e (mixG A B t) := ⟨by simp [mixG, sA.len], fun l hl => by
    unfold mixG at hl
    obtain ⟨i, hi, rfl⟩ := List.mem_map.1 hl
    have hi := List.mem_range.1 hi
    have : A[i]? = some (A[i]'hi) := List.getElem?_eq_getElem hi
    rw [List.getD_eq_getElem?_getD, this]
    have := sA.wid _ (List.mem_of_getElem? this)
    simpa [mixL] using this⟩
end Go.Proofs.Ythinjkjhiembgaa
/- HistoryCuts: its walk. -/
namespace Go.Proofs.Ythinjkjhiembgaa
open Go.RowKit
set_option linter.unusedVariables false
set_option linter.unusedSimpArgs false
set_option maxRecDepth 100000

theorem take_snoc {α : Type} {l : List α} {k : Nat} {x : α} (h : l[k]? = some x) : l.take (k + 1) = l.take k ++ [x] := by
  rw [List.take_add_one, h]; rfl
def purTo (e : Ev) (n k : Nat) : List Purity := (e.purities.take k).filter fun q => decide (q.move < (n : Int))
theorem purTo_yes {e : Ev} {n k : Nat} {x : Purity} (h : e.purities[k]? = some x) (hx : x.move < (n : Int)) : purTo e n (k + 1) = purTo e n k ++ [x] := by
  unfold purTo; rw [take_snoc h, List.filter_append]; simp [hx]
theorem purTo_no {e : Ev} {n k : Nat} {x : Purity} (h : e.purities[k]? = some x) (hx : ¬ x.move < (n : Int)) : purTo e n (k + 1) = purTo e n k := by
  unfold purTo; rw [take_snoc h, List.filter_append]; simp [hx]
abbrev zeroEvB : Blk := newBlk 28 8 (toC [[ti 0, ti 0, ti 0, .sl 0 .nil [], .sl 0 .nil [], .sl 0 .nil [], .sl 0 .nil [], .sl 0 .nil []]]) true
abbrev cutB (e : Ev) (n : Nat) (m : Nat) : Blk := newBlk 28 8 [[.t (ti e.mats), .t (ti e.hhs), .t (ti e.scs), .t (placesT e.places), .t (.sl 6 .any ((e.moves.map Move.row).take n)), .t (certsT e.certs), .t (recallsT e.recalls), .own 2 0 m true]] true
abbrev purB (l : List Purity) : Blk := { mode := .live, elem := 85, size := 4, rows := toC (l.map Purity.row), box := false }
theorem entc_own {ρ : List (Option Nat)} {H : Hp} {id len : Nat} {app : Bool} {size : Nat} {k : Blk} {rows : List (List T)} (hn : notIn ρ id = true) (hk : H[id]? = some k) (hd : ¬ k.mode.gone) (hs : k.size = size) (hc : k.rows = toC rows) (hl : len = rows.length) :
    EntC ρ H (.own id 0 len app) (.t (.sl size .any rows)) := show VC H _ _ _ from vc_all hn hk hd hs hc hl
set_option maxHeartbeats 4000000 in
theorem a_cut (e : Ev) (n : Nat) (hs : e.Sized) (hn : n ≤ e.moves.length) : ACall Try.prog 11 [evS e, intS .i64 n] [] (evS (cutE e n)) [] := by
  have l8 : (e.moves.map Move.row).length = e.moves.length := by simp
  have l9 : (e.purities.map Purity.row).length = e.purities.length := by simp
  have l7 := hs.s2
  (refine acall_of tab_ok Try.func11 rfl (by decide) ?_; (conv => whnf); repeat (first | (refine LitB.data ?_; conv => whnf) | (refine BoxB.data ?_; conv => whnf)))
  (repeat' (first | ((refine DecB.mk (fun h => ?_) (fun h => ?_)) <;> first | (exfalso; omega) | (conv => whnf)) | ((refine BoolB.mk (fun h => ?_) (fun h => ?_)) <;> first | (exact absurd h (by decide)) | (conv => whnf)) | (refine ⟨_, wrap_ok (by omega) (by omega), ?_⟩; conv => whnf) | (refine and_idx (by omega) (by omega) ?_; conv => whnf) | (refine reg_ok (by decide +kernel) ?_; conv => whnf) | (refine bar_ok (by decide +kernel) (by decide +kernel) ?_; conv => whnf) | (refine late_ok rfl rfl ?_; conv => whnf) | (refine src_ok rfl ?_; conv => whnf) | (refine sl_ok (by omega) (by omega) (by omega) ?_; conv => whnf) | (refine LitB.data ?_; conv => whnf) | (refine BoxB.own ?_; conv => whnf)))
  refine awp_for tab_ok (fun k => ([S.junk, intS .i64 n, S.c (C.t (T.ptr (evT e))), S.junk, S.c (C.ptr 0 0 0), S.c (C.ptr 1 0 0), intS .i64 k, S.junk, S.junk, S.junk, S.junk, S.junk, S.junk, S.junk, S.junk, S.junk, S.junk, S.junk, S.junk, S.junk, S.junk, S.junk, S.junk, S.junk, S.junk, S.junk, S.junk, S.junk, S.junk, S.junk, S.junk, S.junk, S.junk, S.junk, S.junk, S.junk, S.junk, S.junk, S.junk, S.junk], [zeroEvB, cutB e n (purTo e n k).length, purB (purTo e n k)])) e.purities.length (fun k => True) [some 0, some 1, none] trivial
    ⟨rfl, rfl, ⟨⟨rfl, rfl, rfl, .inr ⟨⟨rfl, rfl, rfl, rfl, rfl, rfl, rfl, rfl, trivial⟩, trivial⟩⟩, ⟨rfl, rfl, rfl, .inr ⟨⟨rfl, rfl, rfl, rfl, rfl, rfl, rfl, ⟨rfl, rfl, rfl⟩, trivial⟩, trivial⟩⟩, ⟨rfl, rfl⟩, trivial⟩, ⟨rfl, rfl, ⟨rfl, rfl, rfl⟩, ⟨rfl, rfl, rfl⟩, rfl, trivial⟩⟩ ?_
  intro k hk hI
  have hpl : (purTo e n k).length ≤ e.purities.length := by
    unfold purTo
    exact Nat.le_trans (List.length_filter_le _ _) (by simp; omega)
  have hs5 := hs.s5
  conv => whnf
  (repeat' (first | ((refine DecB.mk (fun h => ?_) (fun h => ?_)) <;> first | (exfalso; omega) | (conv => whnf)) | ((refine BoolB.mk (fun h => ?_) (fun h => ?_)) <;> first | (exact absurd h (by decide)) | (conv => whnf)) | (refine ⟨_, wrap_ok (by omega) (by omega), ?_⟩; conv => whnf) | (refine and_idx (by omega) (by omega) ?_; conv => whnf) | (refine reg_ok (by decide +kernel) ?_; conv => whnf) | (refine bar_ok (by decide +kernel) (by decide +kernel) ?_; conv => whnf) | (refine late_ok rfl rfl ?_; conv => whnf) | (refine src_ok rfl ?_; conv => whnf) | (refine LitB.data ?_; conv => whnf) | (refine BoxB.own ?_; conv => whnf)))
  · have hlt : k < e.purities.length := by omega
    obtain ⟨x, hx⟩ : ∃ x, e.purities[k]? = some x := ⟨_, List.getElem?_eq_getElem hlt⟩
    (repeat' (first | ((refine DecB.mk (fun h => ?_) (fun h => ?_)) <;> first | (exfalso; omega) | (conv => whnf)) | ((refine BoolB.mk (fun h => ?_) (fun h => ?_)) <;> first | (exact absurd h (by decide)) | (conv => whnf)) | (refine ⟨_, wrap_ok (by omega) (by omega), ?_⟩; conv => whnf) | (refine and_idx (by omega) (by omega) ?_; conv => whnf) | (refine reg_ok (by decide +kernel) ?_; conv => whnf) | (refine bar_ok (by decide +kernel) (by decide +kernel) ?_; conv => whnf) | (refine late_ok rfl rfl ?_; conv => whnf) | (refine src_ok rfl ?_; conv => whnf) | (refine .inl ⟨_, _, qcall_pure (toC, newBlk) rfl rfl, ?_⟩; conv => whnf) | (refine .inl ⟨_, _, qcall_pure (toC) rfl rfl, ?_⟩; conv => whnf) | (refine ex_row hx ?_; conv => whnf) | (refine app_ok (by simp [toC, newBlk]) (by simp [toC] at *; omega) ?_; conv => whnf) | (refine LitB.data ?_; conv => whnf) | (refine BoxB.own ?_; conv => whnf)))
    · have hb : x.move < (n : Int) := by omega
      refine ⟨hlt, trivial, [some 0, some 1, some 3], rfl, rfl, ⟨⟨rfl, rfl, rfl, .inr ⟨⟨rfl, rfl, rfl, rfl, rfl, rfl, rfl, rfl, trivial⟩, trivial⟩⟩, ⟨rfl, rfl, rfl, .inr ⟨⟨rfl, rfl, rfl, rfl, rfl, rfl, rfl, ⟨rfl, rfl, ?_, fun h => h⟩, trivial⟩, trivial⟩⟩, entB_rows rfl rfl rfl ?_ rfl, trivial⟩, ⟨rfl, rfl, ⟨rfl, rfl, rfl⟩, ⟨rfl, rfl, rfl⟩, rfl, trivial⟩⟩
      · rw [purTo_yes hx hb]; simp [toC]
      · rw [purTo_yes hx hb, List.map_append]
        exact (congrArg (fun n' => List.take n' (toC ((purTo e n k).map Purity.row)) ++ toC [x.row]) (by simp)).trans toC_snoc
    · have hb : ¬ x.move < (n : Int) := by omega
      refine ⟨hlt, trivial, [some 0, some 1, some 2], rfl, rfl, ⟨⟨rfl, rfl, rfl, .inr ⟨⟨rfl, rfl, rfl, rfl, rfl, rfl, rfl, rfl, trivial⟩, trivial⟩⟩, ⟨rfl, rfl, rfl, .inr ⟨⟨rfl, rfl, rfl, rfl, rfl, rfl, rfl, ⟨rfl, rfl, ?_, fun h => h⟩, trivial⟩, trivial⟩⟩, entB_rows rfl rfl rfl ?_ rfl, trivial⟩, ⟨rfl, rfl, ⟨rfl, rfl, rfl⟩, ⟨rfl, rfl, rfl⟩, rfl, trivial⟩⟩
      · rw [purTo_no hx hb]
      · rw [purTo_no hx hb]
  · have hkk : purTo e n k = (cutE e n).purities := by
      unfold purTo cutE
      rw [List.take_of_length_le (by omega)]
    (repeat' (first | ((refine DecB.mk (fun h => ?_) (fun h => ?_)) <;> first | (exfalso; omega) | (conv => whnf)) | ((refine BoolB.mk (fun h => ?_) (fun h => ?_)) <;> first | (exact absurd h (by decide)) | (conv => whnf)) | (refine ⟨_, wrap_ok (by omega) (by omega), ?_⟩; conv => whnf) | (refine and_idx (by omega) (by omega) ?_; conv => whnf) | (refine reg_ok (by decide +kernel) ?_; conv => whnf) | (refine bar_ok (by decide +kernel) (by decide +kernel) ?_; conv => whnf) | (refine late_ok rfl rfl ?_; conv => whnf) | (refine src_ok rfl ?_; conv => whnf) | (refine LitB.data ?_; conv => whnf) | (refine BoxB.own ?_; conv => whnf)))
    refine fin_t ⟨rfl, rfl, rfl, rfl, ?_, rfl, rfl, ?_, trivial⟩
    · exact congrArg (T.sl 6 .any) (by simp [cutE])
    · exact entc_own (k := purB (purTo e n k)) rfl rfl (by intro h; cases h) rfl (by rw [← hkk]) (by rw [← hkk]; simp)
theorem stockL_ok {e : Ev} {G : List (List Rat)} (h0 : check e = 0) (sG : Shape e G) {p u : Nat} (hp : p < e.places.length) (hu : u ≤ e.moves.length) : stockL e (hz G) p u = rowF e.mats.toNat (stk e G u p) := by
  unfold stockL
  rw [if_pos ⟨h0, shape_ok sG, by omega, by omega, by omega, by have := sG.len; simp [hz]; omega⟩, unz_hz]
  rfl
theorem rl_stk_small {e : Ev} {G : List (List Rat)} (hS : SmallH 200 (hz G)) {k : Nat} (hk : k ≤ 200) (p m : Nat) : rl (stk e G k p m) ≤ 50000 := by
  have := rl_stk (e := e) (small_rats hS) (by decide) k p m
  have h2 := Nat.mul_le_mul_right (200 + 1) hk
  omega
theorem rowF_small {w : Nat} {g : Nat → Rat} (h : ∀ m, rl (g m) ≤ 50000) : ∀ f ∈ rowF w g, f.p.dl.length ≤ 1000000 ∧ f.q.dl.length ≤ 1000000 := fun f hf => by
  obtain ⟨m, _, rfl⟩ := List.mem_map.1 hf
  exact fz_len (h m)
theorem cut_shape {e : Ev} {G : List (List Rat)} (sG : Shape e G) (n : Nat) : Shape (cutE e n) (G.take n) := ⟨by simp [cutE, sG.len], fun l hl => sG.wid l (List.mem_of_mem_take hl)⟩
theorem take_small {n k : Nat} {G : List (List Rat)} (h : SmallH n (hz G)) : SmallH n (hz (G.take k)) := by
  have e1 : hz (G.take k) = (hz G).take k := by simp [hz, List.map_take]
  rw [e1]
  exact ⟨Nat.le_trans (by simp; omega) h.l1, fun l hl => h.l2 l (List.mem_of_mem_take hl), fun l hl => h.l3 l (List.mem_of_mem_take hl)⟩
set_option maxHeartbeats 4000000 in
theorem a_HistoryCuts (e : Ev) (hh : List (List Fr)) (x : Int) (hx0 : 0 ≤ x) (hx1 : x ≤ 255) :
    ACall Try.prog 3 [evS e, histS hh, intS .u8 x] [] (boolS true) [] := by
  have sm := a_small15
  have fw := a_few e hh
  have m1 : (hh.map fracsRow).length = hh.length := by simp
  cases hf : (little e && fewH hh) with
  | false =>
    rw [hf] at fw
    (refine acall_of tab_ok Try.func3 rfl (by decide) ?_; (conv => whnf); repeat (first | (refine LitB.data ?_; conv => whnf) | (refine BoxB.data ?_; conv => whnf)))
    (repeat' (first | ((refine DecB.mk (fun h => ?_) (fun h => ?_)) <;> first | (exfalso; omega) | (conv => whnf)) | ((refine BoolB.mk (fun h => ?_) (fun h => ?_)) <;> first | (exact absurd h (by decide)) | (conv => whnf)) | (refine ⟨_, wrap_ok (by omega) (by omega), ?_⟩; conv => whnf) | (refine and_idx (by omega) (by omega) ?_; conv => whnf) | (refine reg_ok (by decide +kernel) ?_; conv => whnf) | (refine bar_ok (by decide +kernel) (by decide +kernel) ?_; conv => whnf) | (refine late_ok rfl rfl ?_; conv => whnf) | (refine src_ok rfl ?_; conv => whnf) | (refine .inl ⟨_, _, qcall_pure (sm) rfl rfl, ?_⟩; conv => whnf) | (refine .inl ⟨_, _, qcall_pure (fw) rfl rfl, ?_⟩; conv => whnf) | (refine LitB.data ?_; conv => whnf) | (refine BoxB.own ?_; conv => whnf)))
    all_goals first
      | (exfalso; simp_all; done)
      | exact fin_bool rfl
  | true =>
    rw [hf] at fw
    simp only [Bool.and_eq_true] at hf
    have hs := little_sized hf.1
    obtain ⟨hS, hS2, hS3⟩ := few_small hf.2
    have hS := hS.mono (show 3 ≤ 200 by decide)
    have hc := a_hCheck e hh hs hS
    by_cases hok : histCheck e hh = 0
    · rw [hok] at hc
      obtain ⟨q1, q2, q3⟩ := histCheck_zero hok
      obtain ⟨G, rfl, hG⟩ := shaped_rats q2
      rw [unhz] at q3
      have m2 : (e.moves.map Move.row).length = e.moves.length := by simp
      have m4 : (e.places.map Place.row).length = e.places.length := by simp
      have gl : (hz G).length = e.moves.length := by simp [hz, hG.len]
      obtain ⟨b1, b2, b3, b4⟩ := check_bounds q1
      have hmod : 0 ≤ x.tmod ((((hz G).map fracsRow).length : Nat) + 1) ∧ x.tmod ((((hz G).map fracsRow).length : Nat) + 1) < e.moves.length + 1 := by
        rw [m1, gl, Int.tmod_eq_emod_of_nonneg hx0]
        exact ⟨Int.emod_nonneg _ (by omega), Int.emod_lt_of_pos _ (by omega)⟩
      obtain ⟨n, hn⟩ := Int.eq_ofNat_of_zero_le hmod.1
      rw [hn] at hmod
      have hn1 : n ≤ e.moves.length := by omega
      have hcu := a_cut e n hs hn1
      have hsz : (cutE e n).Sized := ⟨hs.s1, by have := hs.s2; simp [cutE]; omega, hs.s3, hs.s4, Nat.le_trans (List.length_filter_le _ _) hs.s5⟩
      have hbb : e.mats ≤ 6 ∧ e.hhs ≤ 100 ∧ e.scs ≤ 30 := by
        have := (check_zero q1).1
        simp [fullB] at this
        omega
      have hc1 : check (cutE e n) = 0 := check_mono (n := n) q1 rfl (Int.le_refl _) hbb.1 (Int.le_refl _) hbb.2.1 (Int.le_refl _) hbb.2.2 rfl (.inl rfl) (.inl rfl) (fun q hq => by
            have := List.mem_filter.1 hq
            refine ⟨this.1, ?_⟩
            have h2 := this.2
            simp [cutE] at h2 ⊢
            omega) (List.length_filter_le _ _)
      have ck1 := a_Check (cutE e n) hsz
      rw [hc1] at ck1
      have hSt := take_small (k := n) hS
      have hck := a_hCheck (cutE e n) (hz (G.take n)) hsz hSt
      rw [hist_cut hok hc1] at hck
      have eT : (hz (G.take n)).map fracsRow = ((hz G).map fracsRow).take n := by simp [hz, List.map_take]
      have hck : ACall Try.prog 10 [evS (cutE e n), .c (.t (.sl 1 .any (((hz G).map fracsRow).take n)))] [] (intS .i64 0) [] := by rw [← eT]; exact hck
      (refine acall_of tab_ok Try.func3 rfl (by decide) ?_; (conv => whnf); repeat (first | (refine LitB.data ?_; conv => whnf) | (refine BoxB.data ?_; conv => whnf)))
      (repeat' (first | ((refine DecB.mk (fun h => ?_) (fun h => ?_)) <;> first | (exfalso; omega) | (conv => whnf)) | ((refine BoolB.mk (fun h => ?_) (fun h => ?_)) <;> first | (exact absurd h (by decide)) | (conv => whnf)) | (refine ⟨_, wrap_ok (by omega) (by omega), ?_⟩; conv => whnf) | (refine and_idx (by omega) (by omega) ?_; conv => whnf) | (refine reg_ok (by decide +kernel) ?_; conv => whnf) | (refine bar_ok (by decide +kernel) (by decide +kernel) ?_; conv => whnf) | (refine late_ok rfl rfl ?_; conv => whnf) | (refine src_ok rfl ?_; conv => whnf) | (refine .inl ⟨_, _, qcall_pure (sm) rfl rfl, ?_⟩; conv => whnf) | (refine .inl ⟨_, _, qcall_pure (fw) rfl rfl, ?_⟩; conv => whnf) | (refine .inl ⟨_, _, qcall_pure (hc) rfl rfl, ?_⟩; conv => whnf) | (refine .inl ⟨_, _, qcall_pure (hcu) rfl rfl, ?_⟩; conv => whnf) | (refine .inl ⟨_, _, qcall_pure (ck1) rfl rfl, ?_⟩; conv => whnf) | (refine .inl ⟨_, _, qcall_pure (hck) rfl rfl, ?_⟩; conv => whnf) | (refine .inl ⟨_, _, qcall_pure (hn) rfl rfl, ?_⟩; conv => whnf) | (refine ne_ok (by omega) ?_; rw [hn]; conv => whnf) | (refine sl_ok (by omega) (by omega) (by omega) ?_; conv => whnf) | (refine LitB.data ?_; conv => whnf) | (refine BoxB.own ?_; conv => whnf)))
      all_goals first
        | (exfalso; omega)
        | skip
      refine awp_for tab_ok (fun p => ([S.junk, histS (hz G), S.junk, S.c (C.t (T.ptr (evT e))), S.junk, S.junk, S.junk, boolS true, intS .i64 n, S.c (C.ptr 0 0 0), intS .i64 p, S.junk, S.junk, S.junk, S.junk, S.junk, S.junk, S.junk, S.junk, S.junk, S.junk, S.junk, S.junk, S.junk, S.junk, S.junk, S.junk, S.junk, S.junk, S.junk, S.junk, S.junk, S.junk, S.junk, S.junk, S.junk, S.junk, S.junk, S.junk, S.junk, S.junk, S.junk, S.junk, S.junk, S.junk, S.junk, S.junk, S.junk, S.junk, S.junk, S.junk, S.junk, S.junk, S.junk, S.junk, S.junk, S.junk, S.junk, S.junk, S.junk, S.junk, S.junk, S.junk, S.junk, S.junk, S.junk, S.junk, S.junk, S.junk, S.junk, S.junk, S.junk, S.junk, S.junk, S.junk, S.junk, S.junk, S.junk, S.junk, S.junk, S.junk, S.junk, S.junk, S.junk, S.junk, S.junk, S.junk, S.junk, S.junk, S.junk, S.junk, S.junk, S.junk, S.junk, S.junk, S.junk, S.junk, S.junk, S.junk, S.junk, S.junk, S.junk, S.junk, S.junk, S.junk, S.junk, S.junk, S.junk, S.junk], [evB (cutE e n)])) e.places.length (fun _ => True) [some 0] trivial
        ⟨rfl, rfl, ⟨⟨rfl, rfl, rfl, .inl ⟨rfl, rowsT_ev _⟩⟩, trivial⟩, ⟨rfl, rfl, rfl, rfl, ⟨rfl, rfl, rfl⟩, rfl, trivial⟩⟩ ?_
      intro p hp _
      by_cases hlt : p < e.places.length
      · have st1 := a_hStock (cutE e n) (hz (G.take n)) p n hsz hSt
        have st2 := a_hStock e (hz G) p n hs hS
        rw [stockL_ok hc1 (cut_shape hG n) hlt (by simp [cutE]; omega), stk_cut (Nat.le_refl n)] at st1
        rw [stockL_ok q1 hG hlt hn1] at st2
        have st1 : ACall Try.prog 14 [evS (cutE e n), .c (.t (.sl 1 .any (((hz G).map fracsRow).take n))), intS .i64 p, intS .i64 n] [] (fracsS (rowF e.mats.toNat (stk e G n p))) [] := by rw [← eT]; exact st1
        have sa := a_SameL (rowF e.mats.toNat (stk e G n p)) (by simp [rowF]; omega) (rowF_small (rl_stk_small hS (by omega) p))
        conv => whnf
        (repeat' (first | ((refine DecB.mk (fun h => ?_) (fun h => ?_)) <;> first | (exfalso; omega) | (conv => whnf)) | ((refine BoolB.mk (fun h => ?_) (fun h => ?_)) <;> first | (exact absurd h (by decide)) | (conv => whnf)) | (refine ⟨_, wrap_ok (by omega) (by omega), ?_⟩; conv => whnf) | (refine and_idx (by omega) (by omega) ?_; conv => whnf) | (refine reg_ok (by decide +kernel) ?_; conv => whnf) | (refine bar_ok (by decide +kernel) (by decide +kernel) ?_; conv => whnf) | (refine late_ok rfl rfl ?_; conv => whnf) | (refine src_ok rfl ?_; conv => whnf) | (refine .inl ⟨_, _, qcall_pure (st1) rfl rfl, ?_⟩; conv => whnf) | (refine .inl ⟨_, _, qcall_pure (st2) rfl rfl, ?_⟩; conv => whnf) | (refine .inl ⟨_, _, qcall_pure (sa) rfl rfl, ?_⟩; conv => whnf) | (refine sl_ok (by omega) (by omega) (by omega) ?_; conv => whnf) | (refine LitB.data ?_; conv => whnf) | (refine BoxB.own ?_; conv => whnf)))
        all_goals first
          | (exfalso; omega)
          | (exfalso; simp_all; done)
          | skip
        exact ⟨hlt, trivial, [some 0], rfl, rfl, ⟨⟨rfl, rfl, rfl, .inl ⟨rfl, rowsT_ev _⟩⟩, trivial⟩, ⟨rfl, rfl, rfl, rfl, ⟨rfl, rfl, rfl⟩, rfl, trivial⟩⟩
      · conv => whnf
        (repeat' (first | ((refine DecB.mk (fun h => ?_) (fun h => ?_)) <;> first | (exfalso; omega) | (conv => whnf)) | ((refine BoolB.mk (fun h => ?_) (fun h => ?_)) <;> first | (exact absurd h (by decide)) | (conv => whnf)) | (refine ⟨_, wrap_ok (by omega) (by omega), ?_⟩; conv => whnf) | (refine and_idx (by omega) (by omega) ?_; conv => whnf) | (refine reg_ok (by decide +kernel) ?_; conv => whnf) | (refine bar_ok (by decide +kernel) (by decide +kernel) ?_; conv => whnf) | (refine late_ok rfl rfl ?_; conv => whnf) | (refine src_ok rfl ?_; conv => whnf) | (refine LitB.data ?_; conv => whnf) | (refine BoxB.own ?_; conv => whnf)))
        all_goals try (exfalso; omega)
        refine awp_for tab_ok (fun i => ([S.junk, histS (hz G), S.junk, S.c (C.t (T.ptr (evT e))), S.junk, S.junk, S.junk, boolS true, S.junk, S.junk, S.junk, intS .i64 i, S.junk, S.junk, S.junk, S.junk, S.junk, S.junk, S.junk, S.junk, S.junk, S.junk, S.junk, S.junk, S.junk, S.junk, S.junk, S.junk, S.junk, S.junk, S.junk, S.junk, S.junk, S.junk, S.junk, S.junk, S.junk, S.junk, S.junk, S.junk, S.junk, S.junk, S.junk, S.junk, S.junk, S.junk, S.junk, S.junk, S.junk, S.junk, S.junk, S.junk, S.junk, S.junk, S.junk, S.junk, S.junk, S.junk, S.junk, S.junk, S.junk, S.junk, S.junk, S.junk, S.junk, S.junk, S.junk, S.junk, S.junk, S.junk, S.junk, S.junk, S.junk, S.junk, S.junk, S.junk, S.junk, S.junk, S.junk, S.junk, S.junk, S.junk, S.junk, S.junk, S.junk, S.junk, S.junk, S.junk, S.junk, S.junk, S.junk, S.junk, S.junk, S.junk, S.junk, S.junk, S.junk, S.junk, S.junk, S.junk, S.junk, S.junk, S.junk, S.junk, S.junk, S.junk, S.junk, S.junk, S.junk], [])) e.moves.length (fun _ => True) [] trivial
          ⟨rfl, rfl, trivial, ⟨rfl, rfl, rfl, rfl, trivial⟩⟩ ?_
        intro i hi _
        by_cases hlt : i < e.moves.length
        · obtain ⟨y, hy⟩ : ∃ y, e.moves[i]? = some y := ⟨_, List.getElem?_eq_getElem hlt⟩
          have hmo := check_move q1 (List.mem_of_getElem? hy)
          have hsrc := moveOk_src hmo
          cases ha : y.all with
          | false =>
            conv => whnf
            (repeat' (first | ((refine DecB.mk (fun h => ?_) (fun h => ?_)) <;> first | (exfalso; omega) | (conv => whnf)) | ((refine BoolB.mk (fun h => ?_) (fun h => ?_)) <;> first | (exact absurd h (by decide)) | (conv => whnf)) | (refine ⟨_, wrap_ok (by omega) (by omega), ?_⟩; conv => whnf) | (refine and_idx (by omega) (by omega) ?_; conv => whnf) | (refine reg_ok (by decide +kernel) ?_; conv => whnf) | (refine bar_ok (by decide +kernel) (by decide +kernel) ?_; conv => whnf) | (refine late_ok rfl rfl ?_; conv => whnf) | (refine src_ok rfl ?_; conv => whnf) | (refine ex_row hy ?_; conv => whnf) | (refine LitB.data ?_; conv => whnf) | (refine BoxB.own ?_; conv => whnf)))
            all_goals first
              | (exfalso; omega)
              | (exfalso; simp_all; done)
              | skip
            exact ⟨hlt, trivial, [], rfl, rfl, trivial, ⟨rfl, rfl, rfl, rfl, trivial⟩⟩
          | true =>
            have st := a_hStock e (hz G) y.src ((i : Int) + 1) hs hS
            have e1 : stockL e (hz G) y.src ((i : Int) + 1) = rowF e.mats.toNat (stk e G (i + 1) y.src.toNat) := by
              have := stockL_ok q1 hG (p := y.src.toNat) (u := i + 1) (by omega) (by omega)
              rw [← this, show ((y.src.toNat : Nat) : Int) = y.src by omega]; rfl
            rw [e1] at st
            have rl2 : ((rowF e.mats.toNat (stk e G (i + 1) y.src.toNat)).map frRow).length = e.mats.toNat := by simp [rowF]
            conv => whnf
            (repeat' (first | ((refine DecB.mk (fun h => ?_) (fun h => ?_)) <;> first | (exfalso; omega) | (conv => whnf)) | ((refine BoolB.mk (fun h => ?_) (fun h => ?_)) <;> first | (exact absurd h (by decide)) | (conv => whnf)) | (refine ⟨_, wrap_ok (by omega) (by omega), ?_⟩; conv => whnf) | (refine and_idx (by omega) (by omega) ?_; conv => whnf) | (refine reg_ok (by decide +kernel) ?_; conv => whnf) | (refine bar_ok (by decide +kernel) (by decide +kernel) ?_; conv => whnf) | (refine late_ok rfl rfl ?_; conv => whnf) | (refine src_ok rfl ?_; conv => whnf) | (refine .inl ⟨_, _, qcall_pure (st) rfl rfl, ?_⟩; conv => whnf) | (refine ex_row hy ?_; conv => whnf) | (refine LitB.data ?_; conv => whnf) | (refine BoxB.own ?_; conv => whnf)))
            all_goals first
              | (exfalso; omega)
              | (exfalso; simp_all; done)
              | skip
            refine awp_for tab_ok (fun m => ([S.junk, histS (hz G), S.junk, S.c (C.t (T.ptr (evT e))), S.junk, S.junk, S.junk, boolS true, S.junk, S.junk, S.junk, intS .i64 i, fracsS (rowF e.mats.toNat (stk e G (i + 1) y.src.toNat)), intS .i64 m, S.junk, S.junk, S.junk, S.junk, S.junk, S.junk, S.junk, S.junk, S.junk, S.junk, S.junk, S.junk, S.junk, S.junk, S.junk, S.junk, S.junk, S.junk, S.junk, S.junk, S.junk, S.junk, S.junk, S.junk, S.junk, S.junk, S.junk, S.junk, S.junk, S.junk, S.junk, S.junk, S.junk, S.junk, S.junk, S.junk, S.junk, S.junk, S.junk, S.junk, S.junk, S.junk, S.junk, S.junk, S.junk, S.junk, S.junk, S.junk, S.junk, S.junk, S.junk, S.junk, S.junk, S.junk, S.junk, S.junk, S.junk, S.junk, S.junk, S.junk, S.junk, S.junk, S.junk, S.junk, S.junk, S.junk, S.junk, S.junk, S.junk, S.junk, S.junk, S.junk, S.junk, S.junk, S.junk, S.junk, S.junk, S.junk, S.junk, S.junk, S.junk, S.junk, S.junk, S.junk, S.junk, S.junk, S.junk, S.junk, S.junk, S.junk, S.junk, S.junk, S.junk, S.junk, S.junk], [])) e.mats.toNat (fun _ => True) [] trivial
              ⟨rfl, rfl, trivial, ⟨rfl, rfl, rfl, rfl, rfl, rfl, trivial⟩⟩ ?_
            intro m hm _
            by_cases hmt : m < e.mats.toNat
            · have sg := z_fSign (stk e G (i + 1) y.src.toNat m) (by have := rl_stk_small (e := e) hS (k := i + 1) (by omega) y.src.toNat m; omega)
              have z0 := stk_allZ q1 q3 hG hy ha hmt
              have sg : ACall Try.prog 15 [frS (fz (stk e G (i + 1) y.src.toNat m))] [] (intS .i64 0) [] := by
                have e2 : sgR (stk e G (i + 1) y.src.toNat m) = 0 := by rw [z0]; rfl
                rw [e2] at sg; exact sg
              conv => whnf
              (repeat' (first | ((refine DecB.mk (fun h => ?_) (fun h => ?_)) <;> first | (exfalso; omega) | (conv => whnf)) | ((refine BoolB.mk (fun h => ?_) (fun h => ?_)) <;> first | (exact absurd h (by decide)) | (conv => whnf)) | (refine ⟨_, wrap_ok (by omega) (by omega), ?_⟩; conv => whnf) | (refine and_idx (by omega) (by omega) ?_; conv => whnf) | (refine reg_ok (by decide +kernel) ?_; conv => whnf) | (refine bar_ok (by decide +kernel) (by decide +kernel) ?_; conv => whnf) | (refine late_ok rfl rfl ?_; conv => whnf) | (refine src_ok rfl ?_; conv => whnf) | (refine .inl ⟨_, _, qcall_pure (sg) rfl rfl, ?_⟩; conv => whnf) | (refine ex_row (rowF_get hmt) ?_; conv => whnf) | (refine LitB.data ?_; conv => whnf) | (refine BoxB.own ?_; conv => whnf)))
              all_goals first
                | (exfalso; omega)
                | skip
              exact ⟨hmt, trivial, [], rfl, rfl, trivial, ⟨rfl, rfl, rfl, rfl, rfl, rfl, trivial⟩⟩
            · conv => whnf
              (repeat' (first | ((refine DecB.mk (fun h => ?_) (fun h => ?_)) <;> first | (exfalso; omega) | (conv => whnf)) | ((refine BoolB.mk (fun h => ?_) (fun h => ?_)) <;> first | (exact absurd h (by decide)) | (conv => whnf)) | (refine ⟨_, wrap_ok (by omega) (by omega), ?_⟩; conv => whnf) | (refine and_idx (by omega) (by omega) ?_; conv => whnf) | (refine reg_ok (by decide +kernel) ?_; conv => whnf) | (refine bar_ok (by decide +kernel) (by decide +kernel) ?_; conv => whnf) | (refine late_ok rfl rfl ?_; conv => whnf) | (refine src_ok rfl ?_; conv => whnf) | (refine LitB.data ?_; conv => whnf) | (refine BoxB.own ?_; conv => whnf)))
              all_goals try (exfalso; omega)
              exact ⟨hlt, trivial, [], rfl, rfl, trivial, ⟨rfl, rfl, rfl, rfl, trivial⟩⟩
        · conv => whnf
          (repeat' (first | ((refine DecB.mk (fun h => ?_) (fun h => ?_)) <;> first | (exfalso; omega) | (conv => whnf)) | ((refine BoolB.mk (fun h => ?_) (fun h => ?_)) <;> first | (exact absurd h (by decide)) | (conv => whnf)) | (refine ⟨_, wrap_ok (by omega) (by omega), ?_⟩; conv => whnf) | (refine and_idx (by omega) (by omega) ?_; conv => whnf) | (refine reg_ok (by decide +kernel) ?_; conv => whnf) | (refine bar_ok (by decide +kernel) (by decide +kernel) ?_; conv => whnf) | (refine late_ok rfl rfl ?_; conv => whnf) | (refine src_ok rfl ?_; conv => whnf) | (refine LitB.data ?_; conv => whnf) | (refine BoxB.own ?_; conv => whnf)))
          all_goals first
            | (exfalso; omega)
            | exact fin_bool rfl
    · (refine acall_of tab_ok Try.func3 rfl (by decide) ?_; (conv => whnf); repeat (first | (refine LitB.data ?_; conv => whnf) | (refine BoxB.data ?_; conv => whnf)))
      (repeat' (first | ((refine DecB.mk (fun h => ?_) (fun h => ?_)) <;> first | (exfalso; omega) | (conv => whnf)) | ((refine BoolB.mk (fun h => ?_) (fun h => ?_)) <;> first | (exact absurd h (by decide)) | (conv => whnf)) | (refine ⟨_, wrap_ok (by omega) (by omega), ?_⟩; conv => whnf) | (refine and_idx (by omega) (by omega) ?_; conv => whnf) | (refine reg_ok (by decide +kernel) ?_; conv => whnf) | (refine bar_ok (by decide +kernel) (by decide +kernel) ?_; conv => whnf) | (refine late_ok rfl rfl ?_; conv => whnf) | (refine src_ok rfl ?_; conv => whnf) | (refine .inl ⟨_, _, qcall_pure (sm) rfl rfl, ?_⟩; conv => whnf) | (refine .inl ⟨_, _, qcall_pure (fw) rfl rfl, ?_⟩; conv => whnf) | (refine .inl ⟨_, _, qcall_pure (hc) rfl rfl, ?_⟩; conv => whnf) | (refine LitB.data ?_; conv => whnf) | (refine BoxB.own ?_; conv => whnf)))
      all_goals first
        | (exfalso; omega)
        | exact fin_bool rfl
end Go.Proofs.Ythinjkjhiembgaa
/- HistoryCuts: at every input the law returns true, and its arguments read as before. Conditions: none. -/
namespace Go.Proofs.Ythinjkjhiembgaa
open Go.RowKit Go.ChangeShapes Go.WideShapes Go.ChangeAt

set_option maxRecDepth 100000 in
theorem historyCuts_lifted (os : Os) (started : os.Started) (H : Type) (enc : TypeId × Value → H) :
    ReturnsInHanded {} Try.checked os 3 .any (Rows.historyCutsSpec.pre6 enc Try.prog Try.f3 Rows.historyCutsRow.domain false) (Rows.historyCutsSpec.post enc Try.prog Try.f3 false true false false) := by
  refine returnsInHanded_of_change (C := Try.checked) law_own started (by kernel_rfl) Try.func3
    (ChangeSpec.witness6 (enc := enc) (C := Try.checked) false ⟨#[], #[.agg #[.int .i64 0, .int .i64 0, .int .i64 0, .slice none 0 0, .slice none 0 0, .slice none 0 0, .slice none 0 0, .slice none 0 0], .slice none 0 0, .int .u8 0], []⟩ 12 (by kernel_rfl) (by kernel_rfl) (by kernel_rfl) (by kernel_rfl)) ?_
  intro W base args ds gs before hval0 hW hcnd _
  have hval : ∀ (j : Nat) t v, Try.f3.params[j]? = some t → args[j]? = some v → Value.okWide Try.prog W .any base t v := hval0
  have hW' := hW
  obtain ⟨p, q, hA0, hV, rfl, hfz, hnd⟩ := hW
  have hA : DataW.TrodAll enc Try.prog W 0 (fun _ => true) true Try.f3.params.toList args.toList ds p := hA0
  rw [Try.params3] at hA hval
  obtain ⟨v0, vs0, d0, ds0, p0, q0, hargs, rfl, rfl, h0, r0⟩ := trodAll_cons hA
  obtain ⟨v1, vs1, d1, ds1, p1, q1, rfl, rfl, rfl, h1, r1⟩ := trodAll_cons r0
  obtain ⟨v2, vs2, d2, ds2, p2, q2, rfl, rfl, rfl, h2, r2⟩ := trodAll_cons r1
  obtain ⟨rfl, rfl, rfl⟩ := trodAll_nil r2
  obtain rfl : args = #[v0, v1, v2] := by cases args; simp_all
  obtain ⟨rfl, rfl⟩ := trodVars_none hV
  obtain ⟨m, h, s, A1, n1, c1, A2, n2, c2, A3, n3, c3, A4, n4, c4, A5, n5, c5, e, rfl, hr, hb⟩ := open_ev (hval 0 28 v0 rfl rfl) h0
  obtain ⟨a1, t1⟩ := Go.Proofs.Ythinjkjhiembgaa.open_hist (hval 1 29 v1 rfl rfl) h1
  obtain ⟨a2, rfl, rfl, rfl, w2⟩ := open_int Try.underlying5 (hval 2 5 v2 rfl rfl) h2
  refine (law_of_acall (a_HistoryCuts e a1 a2 (wf_rangeU w2).1 (wf_rangeU w2).2) (.cons (rs_ev hr hb) (.cons (t1) (.cons (rs_u8) (.nil))))).mono fun ee W' ⟨he, hg⟩ => ?_
  subst he
  exact ⟨_, rfl, law_post hW' law_laid (by rw [Try.params3]; intro t ht; simp at ht; rcases ht with rfl | rfl | rfl <;> exact ⟨by kernel_rfl, of_decide_eq_true (by kernel_rfl)⟩) rfl rfl (by kernel_rfl) Try.underlying4 hg⟩

theorem historyCuts_holds : Rows.HistoryCutsSaid :=
  OpenClaim.holds_of_wide 3 Try.f3 rfl rfl rfl rfl rfl rfl rfl ⟨rfl, rfl, rfl, rfl, rfl⟩ rfl rfl rfl rfl rfl (by kernel_rfl) Try.func3 (by kernel_rfl)
    (of_decide_eq_true (by kernel_rfl)) (by unfold Func.isWrapper; first | (rw [if_pos (by decide +kernel)]; kernel_rfl) | (rw [if_neg (by decide +kernel)]; exact ⟨rfl, rfl⟩))
    (fun os started H enc _ => historyCuts_lifted os started H enc)
end Go.Proofs.Ythinjkjhiembgaa
/- Chapter 15: masses of mixtures. No program is in sight. -/
namespace Go.Proofs.Ythinjkjhiembgaa
set_option linter.unusedVariables false
set_option linter.unusedSimpArgs false

theorem pick_hz (G : List (List Rat)) (p : Pick) : pickVal (hz G) p = if 0 ≤ p.mv ∧ 0 ≤ p.mat ∧ p.mat.toNat < (G.getD p.mv.toNat []).length then some ((G.getD p.mv.toNat []).getD p.mat.toNat 0) else none := by
  unfold pickVal
  by_cases h1 : 0 ≤ p.mv ∧ 0 ≤ p.mat
  · rw [if_pos h1, hz_getD]
    by_cases h2 : p.mat.toNat < (G.getD p.mv.toNat []).length
    · rw [if_pos ⟨h1.1, h1.2, h2⟩, List.getElem?_map, getD_some h2]
      simp [fz_right, fv_fz]
    · rw [if_neg (fun h => h2 h.2.2), List.getElem?_eq_none (by simp; simpa using h2)]
  · rw [if_neg h1, if_neg (fun h => h1 ⟨h.1, h.2.1⟩)]
theorem pick_mix {e : Ev} {A B : List (List Rat)} {t : Rat} (sA : Shape e A) (sB : Shape e B) (p : Pick) :
    (pickVal (hz A) p = none ∧ pickVal (hz B) p = none ∧ pickVal (hz (mixG A B t)) p = none) ∨ ∃ x y, pickVal (hz A) p = some x ∧ pickVal (hz B) p = some y ∧ pickVal (hz (mixG A B t)) p = some (x + t * (y - x)) := by
  obtain ⟨h1, h2⟩ := mixG_getD (t := t) sA sB p.mv.toNat
  have h3 : (mixL (A.getD p.mv.toNat []) (B.getD p.mv.toNat []) t).length = (A.getD p.mv.toNat []).length := by simp [mixL]
  rw [pick_hz, pick_hz, pick_hz, h1, h3, h2]
  by_cases h : 0 ≤ p.mv ∧ 0 ≤ p.mat ∧ p.mat.toNat < (A.getD p.mv.toNat []).length
  · rw [if_pos h, if_pos h, if_pos h]
    exact .inr ⟨_, _, rfl, rfl, by rw [mixL_get h2]⟩
  · rw [if_neg h, if_neg h, if_neg h]
    exact .inl ⟨rfl, rfl, rfl⟩
theorem mass_mix {e : Ev} {A B : List (List Rat)} {t : Rat} (sA : Shape e A) (sB : Shape e B) : ∀ (ps : List Pick) (a b : Rat),
    (massF (hz A) a ps = none ∧ massF (hz B) b ps = none ∧ massF (hz (mixG A B t)) (a + t * (b - a)) ps = none) ∨ ∃ x y, massF (hz A) a ps = some x ∧ massF (hz B) b ps = some y ∧ massF (hz (mixG A B t)) (a + t * (b - a)) ps = some (x + t * (y - x))
  | [], a, b => .inr ⟨a, b, rfl, rfl, rfl⟩
  | p :: ps, a, b => by
    unfold massF
    rcases pick_mix (t := t) sA sB p with ⟨h1, h2, h3⟩ | ⟨x, y, h1, h2, h3⟩
    · rw [h1, h2, h3]; exact .inl ⟨rfl, rfl, rfl⟩
    · rw [h1, h2, h3]
      have := mass_mix sA sB ps (a + x) (b + y) (t := t)
      rw [show a + x + t * (b + y - (a + x)) = a + t * (b - a) + (x + t * (y - x)) by grind] at this
      exact this
theorem mass_mix0 {e : Ev} {A B : List (List Rat)} {t : Rat} (sA : Shape e A) (sB : Shape e B) (ps : List Pick) :
    (massF (hz A) zR ps = none ∧ massF (hz B) zR ps = none ∧ massF (hz (mixG A B t)) zR ps = none) ∨ ∃ x y, massF (hz A) zR ps = some x ∧ massF (hz B) zR ps = some y ∧ massF (hz (mixG A B t)) zR ps = some (x + t * (y - x)) := by
  have := mass_mix sA sB ps zR zR (t := t)
  rwa [show zR + t * (zR - zR) = zR by unfold zR; rw [zero_eq]; grind] at this
theorem rl_mix {a b t : Rat} {n : Nat} (ha : rl a ≤ n) (hb : rl b ≤ n) (ht : rl t ≤ n) : rl (a + t * (b - a)) ≤ 4 * n + 2 := by
  have h1 := rl_sub b a
  have h2 := rl_mul t (b - a)
  have h3 := rl_add a (t * (b - a))
  omega
theorem mix_small {e : Ev} {A B : List (List Rat)} {t : Rat} (sA : Shape e A) (sB : Shape e B) (hA : SmallH 3 (hz A)) (hB : SmallH 3 (hz B)) (ht : rl t ≤ 3) : SmallH 200 (hz (mixG A B t)) := by
  have bA := small_rats hA
  have bB := small_rats hB
  have key : ∀ l ∈ mixG A B t, ∀ x ∈ l, rl x ≤ 14 := fun l hl x hx => by
    unfold mixG at hl
    obtain ⟨i, hi, rfl⟩ := List.mem_map.1 hl
    unfold mixL at hx
    obtain ⟨m, hm, rfl⟩ := List.mem_map.1 hx
    exact rl_mix (n := 3) (rl_hAt bA (by decide) i m) (rl_hAt bB (by decide) i m) ht
  have hw : (hz (mixG A B t)).length = (hz A).length := by simp [hz, mixG]
  refine ⟨by rw [hw]; exact hA.l1, fun l hl => ?_, fun l hl f hf => ?_⟩
  · obtain ⟨L, hL, rfl⟩ := List.mem_map.1 hl
    have := (mix_shape (B := B) (t := t) sA).wid L hL
    unfold mixG at hL
    obtain ⟨i, hi, rfl⟩ := List.mem_map.1 hL
    have hi := List.mem_range.1 hi
    have h1 : A[i]? = some (A[i]'hi) := List.getElem?_eq_getElem hi
    have h2 := hA.l2 ((A[i]'hi).map fz) (List.mem_map.2 ⟨_, List.mem_of_getElem? h1, rfl⟩)
    simp only [List.length_map, mixL, List.length_range] at h2 ⊢
    rw [List.getD_eq_getElem?_getD, h1]
    exact h2
  · obtain ⟨L, hL, rfl⟩ := List.mem_map.1 hl
    obtain ⟨x, hx, rfl⟩ := List.mem_map.1 hf
    have h3 := key L hL x hx
    have h4 := rl_num x
    have h5 := rl_den x
    exact ⟨show bl x.num ≤ 200 by omega, show bl x.den ≤ 200 by omega⟩
end Go.Proofs.Ythinjkjhiembgaa
/- HistoryMixes: its walk. -/
namespace Go.Proofs.Ythinjkjhiembgaa
open Go.RowKit
set_option linter.unusedVariables false
set_option linter.unusedSimpArgs false
set_option maxRecDepth 100000

theorem a_btwn (a b t : Rat) (la : rl a ≤ 5000) (lb : rl b ≤ 5000) (lt : rl t ≤ 5000) : ACall Try.prog 21 [frS (fz a), frS (fz b), frS (fz t)] [] (frS (fz (a + t * (b - a)))) [] := by
  have h1 := rl_sub b a
  have h2 := rl_mul t (b - a)
  have c1 := z_fSub b a (by omega) (by omega)
  have c2 := z_fMul t (b - a) (by omega) (by omega)
  have c3 := z_fAdd a (t * (b - a)) (by omega) (by omega)
  (refine acall_of tab_ok Try.func21 rfl (by decide) ?_; (conv => whnf); repeat (first | (refine LitB.data ?_; conv => whnf) | (refine BoxB.data ?_; conv => whnf)))
  (repeat' (first | ((refine DecB.mk (fun h => ?_) (fun h => ?_)) <;> first | (exfalso; omega) | (conv => whnf)) | ((refine BoolB.mk (fun h => ?_) (fun h => ?_)) <;> first | (exact absurd h (by decide)) | (conv => whnf)) | (refine ⟨_, wrap_ok (by omega) (by omega), ?_⟩; conv => whnf) | (refine and_idx (by omega) (by omega) ?_; conv => whnf) | (refine reg_ok (by decide +kernel) ?_; conv => whnf) | (refine bar_ok (by decide +kernel) (by decide +kernel) ?_; conv => whnf) | (refine late_ok rfl rfl ?_; conv => whnf) | (refine src_ok rfl ?_; conv => whnf) | (refine .inl ⟨_, _, qcall_pure (c1) rfl rfl, ?_⟩; conv => whnf) | (refine .inl ⟨_, _, qcall_pure (c2) rfl rfl, ?_⟩; conv => whnf) | (refine .inl ⟨_, _, qcall_pure (c3) rfl rfl, ?_⟩; conv => whnf) | (refine .inl ⟨_, _, qcall_pure (5) rfl rfl, ?_⟩; conv => whnf) | (refine bar_late [5] (by decide +kernel) (by decide +kernel) ?_; conv => whnf) | (refine LitB.data ?_; conv => whnf) | (refine BoxB.own ?_; conv => whnf)))
  all_goals exact fin_t ⟨rfl, rfl, rfl, rfl, trivial⟩
abbrev histB (hh : List (List Fr)) : Blk := { mode := .live, elem := 37, size := 1, rows := toC (hh.map fracsRow), box := false }
abbrev fracsB (l : List Fr) : Blk := { mode := .live, elem := 46, size := 4, rows := toC (l.map frRow), box := false }
theorem take_snoc' {α : Type} {l : List α} {k : Nat} {x : α} (h : l[k]? = some x) : l.take (k + 1) = l.take k ++ [x] := by
  rw [List.take_add_one, h]; rfl
theorem entL_tx {ρ : List (Option Nat)} {H : Hp} : ∀ l : List T, EntL ρ H (l.map C.t) (l.map C.t)
  | [] => trivial
  | x :: r => ⟨weak_refl x, entL_tx r⟩
theorem entR_app {ρ : List (Option Nat)} {H : Hp} {x y : C} (h : EntC ρ H x y) : ∀ {A : List (List T)}, EntR ρ H (toC A ++ [[x]]) (toC A ++ [[y]])
  | [] => ⟨⟨h, trivial⟩, trivial⟩
  | a :: A => ⟨entL_tx a, entR_app h⟩
theorem rl_mass {G : List (List Rat)} {B : Nat} (hB : ∀ l ∈ G, ∀ x ∈ l, rl x ≤ B) : ∀ {ps : List Pick} {a x : Rat}, massF (hz G) a ps = some x → rl x ≤ rl a + ps.length * (B + 1)
  | [], a, x, h => by
    have h : some a = some x := h
    injection h with h
    subst h; omega
  | p :: ps, a, x, h => by
    unfold massF at h
    cases hp : pickVal (hz G) p with
    | none => rw [hp] at h; cases h
    | some v =>
      rw [hp] at h
      have ih := rl_mass hB (ps := ps) h
      have hv : rl v ≤ B := by
        rw [pick_hz] at hp
        split at hp
        · rename_i hc
          injection hp with hp
          subst hp
          have h1 := getD_some hc.2.2
          by_cases hm : p.mv.toNat < G.length
          · have h2 : G[p.mv.toNat]? = some (G[p.mv.toNat]'hm) := List.getElem?_eq_getElem _
            have h3 : G.getD p.mv.toNat [] = G[p.mv.toNat]'hm := by rw [List.getD_eq_getElem?_getD, h2]; rfl
            rw [h3] at h1 ⊢
            exact hB _ (List.mem_of_getElem? h2) _ (List.mem_of_getElem? h1)
          · have h3 : G.getD p.mv.toNat [] = [] := by rw [List.getD_eq_getElem?_getD, List.getElem?_eq_none (by omega)]; rfl
            rw [h3] at h1; cases h1
        · cases hp
      have := rl_add a v
      simp only [List.length_cons, Nat.succ_mul]
      omega
set_option maxHeartbeats 4000000 in
theorem a_HistoryMixes (e : Ev) (hh gg : List (List Fr)) (k : Fr) (ps : List Pick) :
    ACall Try.prog 4 [evS e, histS hh, histS gg, frS k, picksS ps] [] (boolS true) [] := by
  have sm := a_small15
  have fw := a_few e hh
  have fg := a_FewH gg
  have fk := a_FewF k 2
  have m1 : (hh.map fracsRow).length = hh.length := by simp
  have m2 : (ps.map Pick.row).length = ps.length := by simp
  by_cases h1 : ¬ ((little e && fewH hh) = true)
  · have h1 : (little e && fewH hh) = false := by simpa using h1
    rw [h1] at fw
    (refine acall_of tab_ok Try.func4 rfl (by decide) ?_; (conv => whnf); repeat (first | (refine LitB.data ?_; conv => whnf) | (refine BoxB.data ?_; conv => whnf)))
    (repeat' (first | ((refine DecB.mk (fun h => ?_) (fun h => ?_)) <;> first | (exfalso; omega) | (conv => whnf)) | ((refine BoolB.mk (fun h => ?_) (fun h => ?_)) <;> first | (exact absurd h (by decide)) | (conv => whnf)) | (refine ⟨_, wrap_ok (by omega) (by omega), ?_⟩; conv => whnf) | (refine and_idx (by omega) (by omega) ?_; conv => whnf) | (refine reg_ok (by decide +kernel) ?_; conv => whnf) | (refine bar_ok (by decide +kernel) (by decide +kernel) ?_; conv => whnf) | (refine late_ok rfl rfl ?_; conv => whnf) | (refine src_ok rfl ?_; conv => whnf) | (refine .inl ⟨_, _, qcall_pure (sm) rfl rfl, ?_⟩; conv => whnf) | (refine .inl ⟨_, _, qcall_pure (fw) rfl rfl, ?_⟩; conv => whnf) | (refine LitB.data ?_; conv => whnf) | (refine BoxB.own ?_; conv => whnf)))
    all_goals first
      | (exfalso; simp_all; done)
      | exact fin_bool rfl
  have h1 : (little e && fewH hh) = true := by simpa using h1
  rw [h1] at fw
  by_cases h2 : ¬ (fewH gg = true)
  · have h2 : fewH gg = false := by simpa using h2
    rw [h2] at fg
    (refine acall_of tab_ok Try.func4 rfl (by decide) ?_; (conv => whnf); repeat (first | (refine LitB.data ?_; conv => whnf) | (refine BoxB.data ?_; conv => whnf)))
    (repeat' (first | ((refine DecB.mk (fun h => ?_) (fun h => ?_)) <;> first | (exfalso; omega) | (conv => whnf)) | ((refine BoolB.mk (fun h => ?_) (fun h => ?_)) <;> first | (exact absurd h (by decide)) | (conv => whnf)) | (refine ⟨_, wrap_ok (by omega) (by omega), ?_⟩; conv => whnf) | (refine and_idx (by omega) (by omega) ?_; conv => whnf) | (refine reg_ok (by decide +kernel) ?_; conv => whnf) | (refine bar_ok (by decide +kernel) (by decide +kernel) ?_; conv => whnf) | (refine late_ok rfl rfl ?_; conv => whnf) | (refine src_ok rfl ?_; conv => whnf) | (refine .inl ⟨_, _, qcall_pure (sm) rfl rfl, ?_⟩; conv => whnf) | (refine .inl ⟨_, _, qcall_pure (fw) rfl rfl, ?_⟩; conv => whnf) | (refine .inl ⟨_, _, qcall_pure (fg) rfl rfl, ?_⟩; conv => whnf) | (refine LitB.data ?_; conv => whnf) | (refine BoxB.own ?_; conv => whnf)))
    all_goals first
      | (exfalso; simp_all; done)
      | exact fin_bool rfl
  have h2 : fewH gg = true := by simpa using h2
  rw [h2] at fg
  by_cases h3 : ¬ (fewF 2 k = true)
  · have h3 : fewF 2 k = false := by simpa using h3
    rw [h3] at fk
    (refine acall_of tab_ok Try.func4 rfl (by decide) ?_; (conv => whnf); repeat (first | (refine LitB.data ?_; conv => whnf) | (refine BoxB.data ?_; conv => whnf)))
    (repeat' (first | ((refine DecB.mk (fun h => ?_) (fun h => ?_)) <;> first | (exfalso; omega) | (conv => whnf)) | ((refine BoolB.mk (fun h => ?_) (fun h => ?_)) <;> first | (exact absurd h (by decide)) | (conv => whnf)) | (refine ⟨_, wrap_ok (by omega) (by omega), ?_⟩; conv => whnf) | (refine and_idx (by omega) (by omega) ?_; conv => whnf) | (refine reg_ok (by decide +kernel) ?_; conv => whnf) | (refine bar_ok (by decide +kernel) (by decide +kernel) ?_; conv => whnf) | (refine late_ok rfl rfl ?_; conv => whnf) | (refine src_ok rfl ?_; conv => whnf) | (refine .inl ⟨_, _, qcall_pure (sm) rfl rfl, ?_⟩; conv => whnf) | (refine .inl ⟨_, _, qcall_pure (fw) rfl rfl, ?_⟩; conv => whnf) | (refine .inl ⟨_, _, qcall_pure (fg) rfl rfl, ?_⟩; conv => whnf) | (refine .inl ⟨_, _, qcall_pure (fk) rfl rfl, ?_⟩; conv => whnf) | (refine LitB.data ?_; conv => whnf) | (refine BoxB.own ?_; conv => whnf)))
    all_goals first
      | (exfalso; simp_all; done)
      | exact fin_bool rfl
  have h3 : fewF 2 k = true := by simpa using h3
  rw [h3] at fk
  have h3' : k.p.dl.length ≤ 2 ∧ k.q.dl.length ≤ 2 := by unfold fewF at h3; simp at h3; omega
  by_cases h4 : 20 < ps.length
  · (refine acall_of tab_ok Try.func4 rfl (by decide) ?_; (conv => whnf); repeat (first | (refine LitB.data ?_; conv => whnf) | (refine BoxB.data ?_; conv => whnf)))
    (repeat' (first | ((refine DecB.mk (fun h => ?_) (fun h => ?_)) <;> first | (exfalso; omega) | (conv => whnf)) | ((refine BoolB.mk (fun h => ?_) (fun h => ?_)) <;> first | (exact absurd h (by decide)) | (conv => whnf)) | (refine ⟨_, wrap_ok (by omega) (by omega), ?_⟩; conv => whnf) | (refine and_idx (by omega) (by omega) ?_; conv => whnf) | (refine reg_ok (by decide +kernel) ?_; conv => whnf) | (refine bar_ok (by decide +kernel) (by decide +kernel) ?_; conv => whnf) | (refine late_ok rfl rfl ?_; conv => whnf) | (refine src_ok rfl ?_; conv => whnf) | (refine .inl ⟨_, _, qcall_pure (sm) rfl rfl, ?_⟩; conv => whnf) | (refine .inl ⟨_, _, qcall_pure (fw) rfl rfl, ?_⟩; conv => whnf) | (refine .inl ⟨_, _, qcall_pure (fg) rfl rfl, ?_⟩; conv => whnf) | (refine .inl ⟨_, _, qcall_pure (fk) rfl rfl, ?_⟩; conv => whnf) | (refine LitB.data ?_; conv => whnf) | (refine BoxB.own ?_; conv => whnf)))
    all_goals first
      | (exfalso; omega)
      | exact fin_bool rfl
  have fr := a_fRight k (by omega) (by omega)
  by_cases h5 : ¬ (rightF k = true)
  · have h5 : rightF k = false := by simpa using h5
    rw [h5] at fr
    (refine acall_of tab_ok Try.func4 rfl (by decide) ?_; (conv => whnf); repeat (first | (refine LitB.data ?_; conv => whnf) | (refine BoxB.data ?_; conv => whnf)))
    (repeat' (first | ((refine DecB.mk (fun h => ?_) (fun h => ?_)) <;> first | (exfalso; omega) | (conv => whnf)) | ((refine BoolB.mk (fun h => ?_) (fun h => ?_)) <;> first | (exact absurd h (by decide)) | (conv => whnf)) | (refine ⟨_, wrap_ok (by omega) (by omega), ?_⟩; conv => whnf) | (refine and_idx (by omega) (by omega) ?_; conv => whnf) | (refine reg_ok (by decide +kernel) ?_; conv => whnf) | (refine bar_ok (by decide +kernel) (by decide +kernel) ?_; conv => whnf) | (refine late_ok rfl rfl ?_; conv => whnf) | (refine src_ok rfl ?_; conv => whnf) | (refine .inl ⟨_, _, qcall_pure (sm) rfl rfl, ?_⟩; conv => whnf) | (refine .inl ⟨_, _, qcall_pure (fw) rfl rfl, ?_⟩; conv => whnf) | (refine .inl ⟨_, _, qcall_pure (fg) rfl rfl, ?_⟩; conv => whnf) | (refine .inl ⟨_, _, qcall_pure (fk) rfl rfl, ?_⟩; conv => whnf) | (refine .inl ⟨_, _, qcall_pure (fr) rfl rfl, ?_⟩; conv => whnf) | (refine LitB.data ?_; conv => whnf) | (refine BoxB.own ?_; conv => whnf)))
    all_goals first
      | (exfalso; omega)
      | (exfalso; simp_all; done)
      | exact fin_bool rfl
  have h5 : rightF k = true := by simpa using h5
  rw [h5] at fr
  have ht := rl_fv h5 (n := 2) (by omega) (by omega)
  obtain ⟨t, rfl⟩ : ∃ t, k = fz t := ⟨_, fz_fv h5⟩
  rw [fv_fz] at ht
  have sg := z_fSign t (by omega)
  have i1 := r5Int 1 (by decide) (by decide)
  have b1 : rl ((1 : Int) : Rat) ≤ 1 := rl_ir (by decide)
  have cm := z_fCompare t ((1 : Int) : Rat) (by omega) (by omega)
  by_cases h6 : ¬ (¬ sgR t < 0 ∧ ¬ cmpR t ((1 : Int) : Rat) > 0)
  · (refine acall_of tab_ok Try.func4 rfl (by decide) ?_; (conv => whnf); repeat (first | (refine LitB.data ?_; conv => whnf) | (refine BoxB.data ?_; conv => whnf)))
    (repeat' (first | ((refine DecB.mk (fun h => ?_) (fun h => ?_)) <;> first | (exfalso; omega) | (conv => whnf)) | ((refine BoolB.mk (fun h => ?_) (fun h => ?_)) <;> first | (exact absurd h (by decide)) | (conv => whnf)) | (refine ⟨_, wrap_ok (by omega) (by omega), ?_⟩; conv => whnf) | (refine and_idx (by omega) (by omega) ?_; conv => whnf) | (refine reg_ok (by decide +kernel) ?_; conv => whnf) | (refine bar_ok (by decide +kernel) (by decide +kernel) ?_; conv => whnf) | (refine late_ok rfl rfl ?_; conv => whnf) | (refine src_ok rfl ?_; conv => whnf) | (refine .inl ⟨_, _, qcall_pure (sm) rfl rfl, ?_⟩; conv => whnf) | (refine .inl ⟨_, _, qcall_pure (fw) rfl rfl, ?_⟩; conv => whnf) | (refine .inl ⟨_, _, qcall_pure (fg) rfl rfl, ?_⟩; conv => whnf) | (refine .inl ⟨_, _, qcall_pure (fk) rfl rfl, ?_⟩; conv => whnf) | (refine .inl ⟨_, _, qcall_pure (fr) rfl rfl, ?_⟩; conv => whnf) | (refine .inl ⟨_, _, qcall_pure (sg) rfl rfl, ?_⟩; conv => whnf) | (refine .inl ⟨_, _, qcall_pure (i1) rfl rfl, ?_⟩; conv => whnf) | (refine .inl ⟨_, _, qcall_pure (cm) rfl rfl, ?_⟩; conv => whnf) | (refine LitB.data ?_; conv => whnf) | (refine BoxB.own ?_; conv => whnf)))
    all_goals first
      | (exfalso; omega)
      | exact fin_bool rfl
  have h6 : ¬ sgR t < 0 ∧ ¬ cmpR t ((1 : Int) : Rat) > 0 := Decidable.not_not.1 h6
  have t0 : 0 ≤ t := by have := h6.1; rw [sgR_neg] at this; exact Rat.not_lt.1 this
  have t1 : t ≤ 1 := by have := h6.2; rw [cmpR_lt'] at this; exact Rat.not_lt.1 this
  simp only [Bool.and_eq_true] at h1
  have hs := little_sized h1.1
  obtain ⟨hS3, hS2, _⟩ := few_small h1.2
  have hS := hS3.mono (show 3 ≤ 200 by decide)
  obtain ⟨gS3, gS2, _⟩ := few_small h2
  have gS := gS3.mono (show 3 ≤ 200 by decide)
  have hc := a_hCheck e hh hs hS
  have gc := a_hCheck e gg hs gS
  by_cases h7 : ¬ (histCheck e hh = 0 ∧ histCheck e gg = 0)
  · (refine acall_of tab_ok Try.func4 rfl (by decide) ?_; (conv => whnf); repeat (first | (refine LitB.data ?_; conv => whnf) | (refine BoxB.data ?_; conv => whnf)))
    (repeat' (first | ((refine DecB.mk (fun h => ?_) (fun h => ?_)) <;> first | (exfalso; omega) | (conv => whnf)) | ((refine BoolB.mk (fun h => ?_) (fun h => ?_)) <;> first | (exact absurd h (by decide)) | (conv => whnf)) | (refine ⟨_, wrap_ok (by omega) (by omega), ?_⟩; conv => whnf) | (refine and_idx (by omega) (by omega) ?_; conv => whnf) | (refine reg_ok (by decide +kernel) ?_; conv => whnf) | (refine bar_ok (by decide +kernel) (by decide +kernel) ?_; conv => whnf) | (refine late_ok rfl rfl ?_; conv => whnf) | (refine src_ok rfl ?_; conv => whnf) | (refine .inl ⟨_, _, qcall_pure (sm) rfl rfl, ?_⟩; conv => whnf) | (refine .inl ⟨_, _, qcall_pure (fw) rfl rfl, ?_⟩; conv => whnf) | (refine .inl ⟨_, _, qcall_pure (fg) rfl rfl, ?_⟩; conv => whnf) | (refine .inl ⟨_, _, qcall_pure (fk) rfl rfl, ?_⟩; conv => whnf) | (refine .inl ⟨_, _, qcall_pure (fr) rfl rfl, ?_⟩; conv => whnf) | (refine .inl ⟨_, _, qcall_pure (sg) rfl rfl, ?_⟩; conv => whnf) | (refine .inl ⟨_, _, qcall_pure (i1) rfl rfl, ?_⟩; conv => whnf) | (refine .inl ⟨_, _, qcall_pure (cm) rfl rfl, ?_⟩; conv => whnf) | (refine .inl ⟨_, _, qcall_pure (hc) rfl rfl, ?_⟩; conv => whnf) | (refine .inl ⟨_, _, qcall_pure (gc) rfl rfl, ?_⟩; conv => whnf) | (refine LitB.data ?_; conv => whnf) | (refine BoxB.own ?_; conv => whnf)))
    all_goals first
      | (exfalso; omega)
      | exact fin_bool rfl
  have h7 : histCheck e hh = 0 ∧ histCheck e gg = 0 := by simpa using h7
  rw [h7.1] at hc
  rw [h7.2] at gc
  obtain ⟨q1, q2, q3⟩ := histCheck_zero h7.1
  obtain ⟨_, g2, g3⟩ := histCheck_zero h7.2
  obtain ⟨A, rfl, sA⟩ := shaped_rats q2
  obtain ⟨B, rfl, sB⟩ := shaped_rats g2
  obtain ⟨b1, b2, b3, b4⟩ := check_bounds q1
  have gl : (hz A).length = e.moves.length := by simp [hz, sA.len]
  have rA := small_rats hS3
  have rB := small_rats gS3
  (refine acall_of tab_ok Try.func4 rfl (by decide) ?_; (conv => whnf); repeat (first | (refine LitB.data ?_; conv => whnf) | (refine BoxB.data ?_; conv => whnf)))
  (repeat' (first | ((refine DecB.mk (fun h => ?_) (fun h => ?_)) <;> first | (exfalso; omega) | (conv => whnf)) | ((refine BoolB.mk (fun h => ?_) (fun h => ?_)) <;> first | (exact absurd h (by decide)) | (conv => whnf)) | (refine ⟨_, wrap_ok (by omega) (by omega), ?_⟩; conv => whnf) | (refine and_idx (by omega) (by omega) ?_; conv => whnf) | (refine reg_ok (by decide +kernel) ?_; conv => whnf) | (refine bar_ok (by decide +kernel) (by decide +kernel) ?_; conv => whnf) | (refine late_ok rfl rfl ?_; conv => whnf) | (refine src_ok rfl ?_; conv => whnf) | (refine .inl ⟨_, _, qcall_pure (sm) rfl rfl, ?_⟩; conv => whnf) | (refine .inl ⟨_, _, qcall_pure (fw) rfl rfl, ?_⟩; conv => whnf) | (refine .inl ⟨_, _, qcall_pure (fg) rfl rfl, ?_⟩; conv => whnf) | (refine .inl ⟨_, _, qcall_pure (fk) rfl rfl, ?_⟩; conv => whnf) | (refine .inl ⟨_, _, qcall_pure (fr) rfl rfl, ?_⟩; conv => whnf) | (refine .inl ⟨_, _, qcall_pure (sg) rfl rfl, ?_⟩; conv => whnf) | (refine .inl ⟨_, _, qcall_pure (i1) rfl rfl, ?_⟩; conv => whnf) | (refine .inl ⟨_, _, qcall_pure (cm) rfl rfl, ?_⟩; conv => whnf) | (refine .inl ⟨_, _, qcall_pure (hc) rfl rfl, ?_⟩; conv => whnf) | (refine .inl ⟨_, _, qcall_pure (gc) rfl rfl, ?_⟩; conv => whnf) | (refine LitB.own ?_; conv => whnf) | (refine LitB.data ?_; conv => whnf) | (refine BoxB.own ?_; conv => whnf)))
  all_goals first
    | (exfalso; omega)
    | skip
  have cl : (hz (mixG A B t)).length = e.moves.length := by simp [hz, mixG, sA.len]
  have hC := a_hCheck e (hz (mixG A B t)) hs (mix_small sA sB hS3 gS3 (by omega))
  rw [hist_mix h7.1 h7.2 sA sB t0 t1] at hC
  have mA := a_hMass (hz A) ps hS (by omega)
  have mB := a_hMass (hz B) ps gS (by omega)
  have mC := a_hMass (hz (mixG A B t)) ps (mix_small sA sB hS3 gS3 (by omega)) (by omega)
  refine awp_weak ?_
  refine awp_for tab_ok (fun i => ([S.junk, histS (hz A), histS (hz B), S.junk, picksS ps, S.c (C.t (T.ptr (evT e))), S.junk, S.junk, S.c (C.t (T.ptr (frRow (fz t)))), S.junk, S.junk, boolS true, S.c (C.own 0 0 i true), intS .i64 i, S.junk, S.junk, S.junk, S.junk, S.junk, S.junk, S.junk, S.junk, S.junk, S.junk, S.junk, S.junk, S.junk, S.junk, S.junk, S.junk, S.junk, S.junk, S.junk, S.junk, S.junk, S.junk, S.junk, S.junk, S.junk, S.junk, S.junk, S.junk, S.junk, S.junk, S.junk, S.junk, S.junk, S.junk, S.junk, S.junk, S.junk, S.junk, S.junk, S.junk, S.junk, S.junk, S.junk, S.junk, S.junk, S.junk, S.junk, S.junk, S.junk, S.junk, S.junk, S.junk, S.junk, S.junk, S.junk, S.junk, S.junk, S.junk, S.junk, S.junk, S.junk, S.junk, S.junk, S.junk, S.junk, S.junk, S.junk, S.junk, S.junk, S.junk, S.junk, S.junk, S.junk, S.junk, S.junk, S.junk, S.junk, S.junk, S.junk, S.junk, S.junk, S.junk, S.junk, S.junk, S.junk, S.junk, S.junk, S.junk, S.junk, S.junk, S.junk, S.junk, S.junk, S.junk, S.junk, S.junk, S.junk, S.junk, S.junk, S.junk, S.junk, S.junk, S.junk, S.junk, S.junk, S.junk, S.junk, S.junk, S.junk, S.junk, S.junk, S.junk, S.junk, S.junk, S.junk, S.junk, S.junk, S.junk, S.junk, S.junk, S.junk, S.junk, S.junk, S.junk, S.junk, S.junk, S.junk, S.junk, S.junk, S.junk, S.junk, S.junk, S.junk, S.junk, S.junk, S.junk, S.junk, S.junk, S.junk, S.junk, S.junk], [histB ((hz (mixG A B t)).take i)])) e.moves.length (fun _ => True) [some 0] trivial
    ⟨rfl, rfl, ⟨entB_rows (rows := []) rfl rfl rfl rfl rfl, trivial⟩, ⟨rfl, rfl, rfl, rfl, rfl, rfl, ⟨rfl, rfl, rfl, fun h => h⟩, rfl, trivial⟩⟩ ?_
  intro i hi _
  by_cases hlt : i < e.moves.length
  · obtain ⟨la, hla⟩ : ∃ l, A[i]? = some l := ⟨_, List.getElem?_eq_getElem (by rw [sA.len]; exact hlt)⟩
    obtain ⟨lb, hlb⟩ : ∃ l, B[i]? = some l := ⟨_, List.getElem?_eq_getElem (by rw [sB.len]; exact hlt)⟩
    have wa := sA.wid la (List.mem_of_getElem? hla)
    have wb := sB.wid lb (List.mem_of_getElem? hlb)
    have hml : (mixL la lb t).length = la.length := by simp [mixL]
    have m3 : ((la.map fz).map frRow).length = la.length := by simp
    have hmi : (hz (mixG A B t))[i]? = some ((mixL la lb t).map fz) := by
      refine hz_get ?_
      unfold mixG
      rw [List.getElem?_map, List.getElem?_range (by rw [sA.len]; exact hlt)]
      simp only [Option.map_some]
      rw [List.getD_eq_getElem?_getD, hla, List.getD_eq_getElem?_getD, hlb]; rfl
    conv => whnf
    (repeat' (first | ((refine DecB.mk (fun h => ?_) (fun h => ?_)) <;> first | (exfalso; omega) | (conv => whnf)) | ((refine BoolB.mk (fun h => ?_) (fun h => ?_)) <;> first | (exact absurd h (by decide)) | (conv => whnf)) | (refine ⟨_, wrap_ok (by omega) (by omega), ?_⟩; conv => whnf) | (refine and_idx (by omega) (by omega) ?_; conv => whnf) | (refine reg_ok (by decide +kernel) ?_; conv => whnf) | (refine bar_ok (by decide +kernel) (by decide +kernel) ?_; conv => whnf) | (refine late_ok rfl rfl ?_; conv => whnf) | (refine src_ok rfl ?_; conv => whnf) | (refine LitB.own ?_; conv => whnf) | (refine LitB.data ?_; conv => whnf) | (refine BoxB.own ?_; conv => whnf)))
    all_goals try (exfalso; omega)
    refine awp_for tab_ok (fun m => ([S.junk, histS (hz A), histS (hz B), S.junk, picksS ps, S.c (C.t (T.ptr (evT e))), S.junk, S.junk, S.c (C.t (T.ptr (frRow (fz t)))), S.junk, S.junk, boolS true, S.c (C.own 0 0 i true), intS .i64 i, S.c (C.own 1 0 m true), intS .i64 m, S.junk, S.junk, S.junk, S.junk, S.junk, S.junk, S.junk, S.junk, S.junk, S.junk, S.junk, S.junk, S.junk, S.junk, S.junk, S.junk, S.junk, S.junk, S.junk, S.junk, S.junk, S.junk, S.junk, S.junk, S.junk, S.junk, S.junk, S.junk, S.junk, S.junk, S.junk, S.junk, S.junk, S.junk, S.junk, S.junk, S.junk, S.junk, S.junk, S.junk, S.junk, S.junk, S.junk, S.junk, S.junk, S.junk, S.junk, S.junk, S.junk, S.junk, S.junk, S.junk, S.junk, S.junk, S.junk, S.junk, S.junk, S.junk, S.junk, S.junk, S.junk, S.junk, S.junk, S.junk, S.junk, S.junk, S.junk, S.junk, S.junk, S.junk, S.junk, S.junk, S.junk, S.junk, S.junk, S.junk, S.junk, S.junk, S.junk, S.junk, S.junk, S.junk, S.junk, S.junk, S.junk, S.junk, S.junk, S.junk, S.junk, S.junk, S.junk, S.junk, S.junk, S.junk, S.junk, S.junk, S.junk, S.junk, S.junk, S.junk, S.junk, S.junk, S.junk, S.junk, S.junk, S.junk, S.junk, S.junk, S.junk, S.junk, S.junk, S.junk, S.junk, S.junk, S.junk, S.junk, S.junk, S.junk, S.junk, S.junk, S.junk, S.junk, S.junk, S.junk, S.junk, S.junk, S.junk, S.junk, S.junk, S.junk, S.junk, S.junk, S.junk, S.junk, S.junk, S.junk, S.junk, S.junk, S.junk], [histB ((hz (mixG A B t)).take i), fracsB (((mixL la lb t).map fz).take m)])) la.length (fun _ => True) [some 0, some 1] trivial
      ⟨rfl, rfl, ⟨entB_rows rfl rfl rfl rfl rfl, entB_rows (rows := []) rfl rfl rfl rfl rfl, trivial⟩, ⟨rfl, rfl, rfl, rfl, rfl, rfl, ⟨rfl, rfl, rfl, fun h => h⟩, rfl, ⟨rfl, rfl, rfl, fun h => h⟩, rfl, trivial⟩⟩ ?_
    intro m hm _
    by_cases hmt : m < la.length
    · have ha : la[m]? = some (la.getD m 0) := getD_some hmt
      have hb : lb[m]? = some (lb.getD m 0) := getD_some (by omega)
      have ba := rA la (List.mem_of_getElem? hla) _ (List.mem_of_getElem? ha)
      have bb := rB lb (List.mem_of_getElem? hlb) _ (List.mem_of_getElem? hb)
      have bt := a_btwn (la.getD m 0) (lb.getD m 0) t (by omega) (by omega) (by omega)
      have hx : ((mixL la lb t).map fz)[m]? = some (fz (la.getD m 0 + t * (lb.getD m 0 - la.getD m 0))) := by
        rw [List.getElem?_map, getD_some (by omega), mixL_get (by omega)]; rfl
      have xa : (la.map fz)[m]? = some (fz (la.getD m 0)) := by rw [List.getElem?_map, ha]; rfl
      have xb : (lb.map fz)[m]? = some (fz (lb.getD m 0)) := by rw [List.getElem?_map, hb]; rfl
      have lt : (((mixL la lb t).map fz).take m).length = m := by simp; omega
      conv => whnf
      (repeat' (first | ((refine DecB.mk (fun h => ?_) (fun h => ?_)) <;> first | (exfalso; omega) | (conv => whnf)) | ((refine BoolB.mk (fun h => ?_) (fun h => ?_)) <;> first | (exact absurd h (by decide)) | (conv => whnf)) | (refine ⟨_, wrap_ok (by omega) (by omega), ?_⟩; conv => whnf) | (refine and_idx (by omega) (by omega) ?_; conv => whnf) | (refine reg_ok (by decide +kernel) ?_; conv => whnf) | (refine bar_ok (by decide +kernel) (by decide +kernel) ?_; conv => whnf) | (refine late_ok rfl rfl ?_; conv => whnf) | (refine src_ok rfl ?_; conv => whnf) | (refine .inl ⟨_, _, qcall_pure (bt) rfl rfl, ?_⟩; conv => whnf) | (refine .inl ⟨_, _, qcall_pure (toC, newBlk) rfl rfl, ?_⟩; conv => whnf) | (refine .inl ⟨_, _, qcall_pure (toC, newBlk) rfl rfl, ?_⟩; conv => whnf) | (refine ex_row (hz_get hla) ?_; conv => whnf) | (refine ex_row (hz_get hlb) ?_; conv => whnf) | (refine ex_row xa ?_; conv => whnf) | (refine ex_row xb ?_; conv => whnf) | (refine app_ok (by simp [toC, newBlk]; omega) (by simp [toC, newBlk]; omega) ?_; conv => whnf) | (refine LitB.data ?_; conv => whnf) | (refine BoxB.own ?_; conv => whnf)))
      all_goals try (exfalso; omega)
      refine ⟨hmt, trivial, [some 0, some 2], rfl, rfl, ⟨entB_rows rfl rfl rfl rfl rfl, entB_rows rfl rfl rfl ?_ rfl, trivial⟩, ⟨rfl, rfl, rfl, rfl, rfl, rfl, ⟨rfl, rfl, rfl, fun h => h⟩, rfl, ⟨rfl, rfl, ?_, fun h => h⟩, rfl, trivial⟩⟩
      · rw [take_snoc' hx, List.map_append]
        exact (congrArg (fun n' => List.take n' (toC ((((mixL la lb t).map fz).take m).map frRow)) ++ toC [frRow (fz (la.getD m 0 + t * (lb.getD m 0 - la.getD m 0)))]) (by rw [List.length_map]; exact lt.symm)).trans toC_snoc
      · rfl
    · conv => whnf
      (repeat' (first | ((refine DecB.mk (fun h => ?_) (fun h => ?_)) <;> first | (exfalso; omega) | (conv => whnf)) | ((refine BoolB.mk (fun h => ?_) (fun h => ?_)) <;> first | (exact absurd h (by decide)) | (conv => whnf)) | (refine ⟨_, wrap_ok (by omega) (by omega), ?_⟩; conv => whnf) | (refine and_idx (by omega) (by omega) ?_; conv => whnf) | (refine reg_ok (by decide +kernel) ?_; conv => whnf) | (refine bar_ok (by decide +kernel) (by decide +kernel) ?_; conv => whnf) | (refine late_ok rfl rfl ?_; conv => whnf) | (refine src_ok rfl ?_; conv => whnf) | (refine .inl ⟨_, _, qcall_pure (toC, newBlk) rfl rfl, ?_⟩; conv => whnf) | (refine .inl ⟨_, _, qcall_pure (toC, newBlk) rfl rfl, ?_⟩; conv => whnf) | (refine ex_row (hz_get hla) ?_; conv => whnf) | (refine ⟨Nat.le_refl _, ?_⟩; conv => whnf) | (refine app_ok (by simp [toC, newBlk]; omega) (by simp [toC, newBlk]; omega) ?_; conv => whnf) | (refine LitB.data ?_; conv => whnf) | (refine BoxB.own ?_; conv => whnf)))
      all_goals try (exfalso; omega)
      have hme : m = la.length := by omega
      refine ⟨hlt, trivial, [some 3], rfl, rfl, ⟨⟨rfl, rfl, rfl, .inr ?_⟩, trivial⟩, ⟨rfl, rfl, rfl, rfl, rfl, rfl, ⟨rfl, rfl, rfl, fun h => h⟩, rfl, trivial⟩⟩
      show EntR [some 3] _ (List.take i (toC (((hz (mixG A B t)).take i).map fracsRow)) ++ [[C.own 1 0 m true]]) (toC (((hz (mixG A B t)).take (i + 1)).map fracsRow))
      have e9 : List.take i (toC (((hz (mixG A B t)).take i).map fracsRow)) = toC (((hz (mixG A B t)).take i).map fracsRow) := List.take_of_length_le (by simp [toC]; omega)
      rw [take_snoc' hmi, List.map_append, e9]
      show EntR [some 3] _ _ (toC (((hz (mixG A B t)).take i).map fracsRow ++ [[fracsT ((mixL la lb t).map fz)]]))
      rw [show toC (((hz (mixG A B t)).take i).map fracsRow ++ [[fracsT ((mixL la lb t).map fz)]]) = toC (((hz (mixG A B t)).take i).map fracsRow) ++ [[C.t (fracsT ((mixL la lb t).map fz))]] by simp [toC]]
      refine entR_app ?_
      exact entc_own (k := fracsB (((mixL la lb t).map fz).take m)) rfl rfl (by intro h; cases h) rfl (by rw [List.take_of_length_le (by rw [List.length_map, hml]; omega)]) (by rw [List.length_map, List.length_map, hml]; exact hme)
  · have hie : i = e.moves.length := by omega
    subst hie
    have htk : (hz (mixG A B t)).take e.moves.length = hz (mixG A B t) := List.take_of_length_le (by omega)
    conv => whnf
    (repeat' (first | ((refine DecB.mk (fun h => ?_) (fun h => ?_)) <;> first | (exfalso; omega) | (conv => whnf)) | ((refine BoolB.mk (fun h => ?_) (fun h => ?_)) <;> first | (exact absurd h (by decide)) | (conv => whnf)) | (refine ⟨_, wrap_ok (by omega) (by omega), ?_⟩; conv => whnf) | (refine and_idx (by omega) (by omega) ?_; conv => whnf) | (refine reg_ok (by decide +kernel) ?_; conv => whnf) | (refine bar_ok (by decide +kernel) (by decide +kernel) ?_; conv => whnf) | (refine late_ok rfl rfl ?_; conv => whnf) | (refine src_ok rfl ?_; conv => whnf) | (refine LitB.data ?_; conv => whnf) | (refine BoxB.own ?_; conv => whnf)))
    all_goals try (exfalso; omega)
    refine .inr ⟨[], [S.junk, histS (hz A), histS (hz B), S.junk, picksS ps, S.c (C.t (T.ptr (evT e))), S.junk, S.junk, S.c (C.t (T.ptr (frRow (fz t)))), S.junk, S.junk, boolS true, histS (hz (mixG A B t)), S.junk, S.junk, S.junk, S.junk, S.junk, S.junk, S.junk, S.junk, S.junk, S.junk, S.junk, S.junk, S.junk, S.junk, S.junk, S.junk, S.junk, S.junk, S.junk, S.junk, S.junk, S.junk, S.junk, S.junk, S.junk, S.junk, S.junk, S.junk, S.junk, S.junk, S.junk, S.junk, S.junk, S.junk, S.junk, S.junk, S.junk, S.junk, S.junk, S.junk, S.junk, S.junk, S.junk, S.junk, S.junk, S.junk, S.junk, S.junk, S.junk, S.junk, S.junk, S.junk, S.junk, S.junk, S.junk, S.junk, S.junk, S.junk, S.junk, S.junk, S.junk, S.junk, S.junk, S.junk, S.junk, S.junk, S.junk, S.junk, S.junk, S.junk, S.junk, S.junk, S.junk, S.junk, S.junk, S.junk, S.junk, S.junk, S.junk, S.junk, S.junk, S.junk, S.junk, S.junk, S.junk, S.junk, S.junk, S.junk, S.junk, S.junk, S.junk, S.junk, S.junk, S.junk, S.junk, S.junk, S.junk, S.junk, S.junk, S.junk, S.junk, S.junk, S.junk, S.junk, S.junk, S.junk, S.junk, S.junk, S.junk, S.junk, S.junk, S.junk, S.junk, S.junk, S.junk, S.junk, S.junk, S.junk, S.junk, S.junk, S.junk, S.junk, S.junk, S.junk, S.junk, S.junk, S.junk, S.junk, S.junk, S.junk, S.junk, S.junk, S.junk, S.junk, S.junk, S.junk, S.junk, S.junk, S.junk, S.junk, S.junk, S.junk], [],
      ⟨rfl, rfl, trivial, ⟨rfl, rfl, rfl, rfl, rfl, rfl, ent_view rfl rfl (by intro h; cases h) (k := histB ((hz (mixG A B t)).take e.moves.length)) rfl (by rw [htk]) (by rw [List.length_map]; exact cl.symm), trivial⟩⟩, ?_⟩
    rcases mass_mix0 (t := t) sA sB ps with ⟨n1, n2, n3⟩ | ⟨x, y, n1, n2, n3⟩
    · rw [n1] at mA
      rw [n2] at mB
      rw [n3] at mC
      conv => whnf
      (repeat' (first | ((refine DecB.mk (fun h => ?_) (fun h => ?_)) <;> first | (exfalso; omega) | (conv => whnf)) | ((refine BoolB.mk (fun h => ?_) (fun h => ?_)) <;> first | (exact absurd h (by decide)) | (conv => whnf)) | (refine ⟨_, wrap_ok (by omega) (by omega), ?_⟩; conv => whnf) | (refine and_idx (by omega) (by omega) ?_; conv => whnf) | (refine reg_ok (by decide +kernel) ?_; conv => whnf) | (refine bar_ok (by decide +kernel) (by decide +kernel) ?_; conv => whnf) | (refine late_ok rfl rfl ?_; conv => whnf) | (refine src_ok rfl ?_; conv => whnf) | (refine .inl ⟨_, _, qcall_pure (mA) rfl rfl, ?_⟩; conv => whnf) | (refine .inl ⟨_, _, qcall_pure (mB) rfl rfl, ?_⟩; conv => whnf) | (refine .inl ⟨_, _, qcall_pure (mC) rfl rfl, ?_⟩; conv => whnf) | (refine .inl ⟨_, _, qcall_pure (hC) rfl rfl, ?_⟩; conv => whnf) | (refine LitB.data ?_; conv => whnf) | (refine BoxB.own ?_; conv => whnf)))
      all_goals first
        | (exfalso; omega)
        | exact fin_bool rfl
        | (exfalso; simp_all; done)
    · rw [n1] at mA
      rw [n2] at mB
      rw [n3] at mC
      have rx := rl_mass (small_rats hS) n1
      have ry := rl_mass (small_rats gS) n2
      rw [show rl zR = 1 from rl_zero] at rx ry
      have h2 := Nat.mul_le_mul_right (200 + 1) (show ps.length ≤ 20 by omega)
      have bt := a_btwn x y t (by omega) (by omega) (by omega)
      have k1 := rl_sub y x
      have k2 := rl_mul t (y - x)
      have k3 := rl_add x (t * (y - x))
      have sf := a_SameF (fz (x + t * (y - x))) (fz_len (show rl (x + t * (y - x)) ≤ 50000 by omega)).1 (fz_len (show rl (x + t * (y - x)) ≤ 50000 by omega)).2
      conv => whnf
      (repeat' (first | ((refine DecB.mk (fun h => ?_) (fun h => ?_)) <;> first | (exfalso; omega) | (conv => whnf)) | ((refine BoolB.mk (fun h => ?_) (fun h => ?_)) <;> first | (exact absurd h (by decide)) | (conv => whnf)) | (refine ⟨_, wrap_ok (by omega) (by omega), ?_⟩; conv => whnf) | (refine and_idx (by omega) (by omega) ?_; conv => whnf) | (refine reg_ok (by decide +kernel) ?_; conv => whnf) | (refine bar_ok (by decide +kernel) (by decide +kernel) ?_; conv => whnf) | (refine late_ok rfl rfl ?_; conv => whnf) | (refine src_ok rfl ?_; conv => whnf) | (refine .inl ⟨_, _, qcall_pure (mA) rfl rfl, ?_⟩; conv => whnf) | (refine .inl ⟨_, _, qcall_pure (mB) rfl rfl, ?_⟩; conv => whnf) | (refine .inl ⟨_, _, qcall_pure (mC) rfl rfl, ?_⟩; conv => whnf) | (refine .inl ⟨_, _, qcall_pure (hC) rfl rfl, ?_⟩; conv => whnf) | (refine .inl ⟨_, _, qcall_pure (bt) rfl rfl, ?_⟩; conv => whnf) | (refine .inl ⟨_, _, qcall_pure (sf) rfl rfl, ?_⟩; conv => whnf) | (refine LitB.data ?_; conv => whnf) | (refine BoxB.own ?_; conv => whnf)))
      all_goals first
        | (exfalso; omega)
        | exact fin_bool rfl
        | (exfalso; simp_all; done)
end Go.Proofs.Ythinjkjhiembgaa
/- HistoryMixes: at every input the law returns true, and its arguments read as before. Conditions: none. -/
namespace Go.Proofs.Ythinjkjhiembgaa
open Go.RowKit Go.ChangeShapes Go.WideShapes Go.ChangeAt

set_option maxRecDepth 100000 in
theorem historyMixes_lifted (os : Os) (started : os.Started) (H : Type) (enc : TypeId × Value → H) :
    ReturnsInHanded {} Try.checked os 4 .any (Rows.historyMixesSpec.pre6 enc Try.prog Try.f4 Rows.historyMixesRow.domain false) (Rows.historyMixesSpec.post enc Try.prog Try.f4 false true false false) := by
  refine returnsInHanded_of_change (C := Try.checked) law_own started (by kernel_rfl) Try.func4
    (ChangeSpec.witness6 (enc := enc) (C := Try.checked) false ⟨#[], #[.agg #[.int .i64 0, .int .i64 0, .int .i64 0, .slice none 0 0, .slice none 0 0, .slice none 0 0, .slice none 0 0, .slice none 0 0], .slice none 0 0, .slice none 0 0, .agg #[.int .i64 0, .slice none 0 0, .int .i64 0, .slice none 0 0], .slice none 0 0], []⟩ 12 (by kernel_rfl) (by kernel_rfl) (by kernel_rfl) (by kernel_rfl)) ?_
  intro W base args ds gs before hval0 hW hcnd _
  have hval : ∀ (j : Nat) t v, Try.f4.params[j]? = some t → args[j]? = some v → Value.okWide Try.prog W .any base t v := hval0
  have hW' := hW
  obtain ⟨p, q, hA0, hV, rfl, hfz, hnd⟩ := hW
  have hA : DataW.TrodAll enc Try.prog W 0 (fun _ => true) true Try.f4.params.toList args.toList ds p := hA0
  rw [Try.params4] at hA hval
  obtain ⟨v0, vs0, d0, ds0, p0, q0, hargs, rfl, rfl, h0, r0⟩ := trodAll_cons hA
  obtain ⟨v1, vs1, d1, ds1, p1, q1, rfl, rfl, rfl, h1, r1⟩ := trodAll_cons r0
  obtain ⟨v2, vs2, d2, ds2, p2, q2, rfl, rfl, rfl, h2, r2⟩ := trodAll_cons r1
  obtain ⟨v3, vs3, d3, ds3, p3, q3, rfl, rfl, rfl, h3, r3⟩ := trodAll_cons r2
  obtain ⟨v4, vs4, d4, ds4, p4, q4, rfl, rfl, rfl, h4, r4⟩ := trodAll_cons r3
  obtain ⟨rfl, rfl, rfl⟩ := trodAll_nil r4
  obtain rfl : args = #[v0, v1, v2, v3, v4] := by cases args; simp_all
  obtain ⟨rfl, rfl⟩ := trodVars_none hV
  obtain ⟨m, h, s, A1, n1, c1, A2, n2, c2, A3, n3, c3, A4, n4, c4, A5, n5, c5, e, rfl, hr, hb⟩ := open_ev (hval 0 28 v0 rfl rfl) h0
  obtain ⟨a1, t1⟩ := Go.Proofs.Ythinjkjhiembgaa.open_hist (hval 1 29 v1 rfl rfl) h1
  obtain ⟨a2, t2⟩ := Go.Proofs.Ythinjkjhiembgaa.open_hist (hval 2 29 v2 rfl rfl) h2
  obtain ⟨a3, t3⟩ := Go.Proofs.Ythinjkjhiembgaa.open_frac (hval 3 46 v3 rfl rfl) h3
  obtain ⟨a4, t4⟩ := Go.Proofs.Ythinjkjhiembgaa.open_picks (hval 4 48 v4 rfl rfl) h4
  refine (law_of_acall (a_HistoryMixes e a1 a2 a3 a4) (.cons (rs_ev hr hb) (.cons (t1) (.cons (t2) (.cons (t3) (.cons (t4) (.nil))))))).mono fun ee W' ⟨he, hg⟩ => ?_
  subst he
  exact ⟨_, rfl, law_post hW' law_laid (by rw [Try.params4]; intro t ht; simp at ht; rcases ht with rfl | rfl | rfl | rfl <;> exact ⟨by kernel_rfl, of_decide_eq_true (by kernel_rfl)⟩) rfl rfl (by kernel_rfl) Try.underlying4 hg⟩

theorem historyMixes_holds : Rows.HistoryMixesSaid :=
  OpenClaim.holds_of_wide 4 Try.f4 rfl rfl rfl rfl rfl rfl rfl ⟨rfl, rfl, rfl, rfl, rfl⟩ rfl rfl rfl rfl rfl (by kernel_rfl) Try.func4 (by kernel_rfl)
    (of_decide_eq_true (by kernel_rfl)) (by unfold Func.isWrapper; first | (rw [if_pos (by decide +kernel)]; kernel_rfl) | (rw [if_neg (by decide +kernel)]; exact ⟨rfl, rfl⟩))
    (fun os started H enc _ => historyMixes_lifted os started H enc)
end Go.Proofs.Ythinjkjhiembgaa
/- HistoryConserves: its walk. -/
namespace Go.Proofs.Ythinjkjhiembgaa
open Go.RowKit
set_option linter.unusedVariables false
set_option linter.unusedSimpArgs false
set_option maxRecDepth 100000

theorem a_srcP (e : Ev) (hs : e.Sized) (p : Int) : ACall Try.prog 25 [evS e, intS .i64 p] [] (boolS (source e p)) [] := by
  have l1 := hs.s1
  have l2 : (e.places.map Place.row).length = e.places.length := by simp
  by_cases hx : idx p e.places.length = true
  · obtain ⟨hp0, x, hx', kx⟩ := place_get hx
    (refine acall_of tab_ok Try.func25 rfl (by decide) ?_; (conv => whnf); repeat (first | (refine LitB.data ?_; conv => whnf) | (refine BoxB.own ?_; conv => whnf)))
    rw [← l2] at hx
    (repeat' (first | ((refine DecB.mk (fun h => ?_) (fun h => ?_)) <;> first | (exfalso; omega) | (conv => whnf)) | ((refine BoolB.mk (fun h => ?_) (fun h => ?_)) <;> first | (exact absurd h (by decide)) | (conv => whnf)) | (refine ⟨_, wrap_ok (by omega) (by omega), ?_⟩; conv => whnf) | (refine and_idx (by omega) (by omega) ?_; conv => whnf) | (refine reg_ok (by decide +kernel) ?_; conv => whnf) | (refine bar_ok (by decide +kernel) (by decide +kernel) ?_; conv => whnf) | (refine late_ok rfl rfl ?_; conv => whnf) | (refine src_ok rfl ?_; conv => whnf) | (refine .inl ⟨_, _, qcall_pure (a_Check _ hs) rfl rfl, ?_⟩; conv => whnf) | (refine .inl ⟨_, _, qcall_pure (a_index _ _) rfl rfl, ?_⟩; conv => whnf) | (refine ex_rowI hp0 hx' ?_; conv => whnf) | (refine LitB.data ?_; conv => whnf) | (refine BoxB.own ?_; conv => whnf)))
    all_goals (refine fin_bool ?_; simp_all [source]; done)
  · (refine acall_of tab_ok Try.func25 rfl (by decide) ?_; (conv => whnf); repeat (first | (refine LitB.data ?_; conv => whnf) | (refine BoxB.own ?_; conv => whnf)))
    rw [← l2] at hx
    (repeat' (first | ((refine DecB.mk (fun h => ?_) (fun h => ?_)) <;> first | (exfalso; omega) | (conv => whnf)) | ((refine BoolB.mk (fun h => ?_) (fun h => ?_)) <;> first | (exact absurd h (by decide)) | (conv => whnf)) | (refine ⟨_, wrap_ok (by omega) (by omega), ?_⟩; conv => whnf) | (refine and_idx (by omega) (by omega) ?_; conv => whnf) | (refine reg_ok (by decide +kernel) ?_; conv => whnf) | (refine bar_ok (by decide +kernel) (by decide +kernel) ?_; conv => whnf) | (refine late_ok rfl rfl ?_; conv => whnf) | (refine src_ok rfl ?_; conv => whnf) | (refine .inl ⟨_, _, qcall_pure (a_Check _ hs) rfl rfl, ?_⟩; conv => whnf) | (refine .inl ⟨_, _, qcall_pure (a_index _ _) rfl rfl, ?_⟩; conv => whnf) | (refine LitB.data ?_; conv => whnf) | (refine BoxB.own ?_; conv => whnf)))
    all_goals first | (exfalso; simp_all; done) | (refine fin_bool ?_; simp_all [source]; done)
theorem rl_sumN {f : Nat → Rat} {C : Nat} (h : ∀ p, rl (f p) ≤ C) : ∀ n, rl (sumN f n) ≤ n * (C + 1) + 1
  | 0 => by unfold sumN; rw [rl_zero]; omega
  | n + 1 => by
    have ih := rl_sumN h n
    have h1 := rl_add (sumN f n) (f n)
    have h2 := h n
    unfold sumN
    rw [Nat.succ_mul]; omega
/-- the sums over the first places, those of the first m materials having one more -/
def sumTo (e : Ev) (G : List (List Rat)) (u p m : Nat) : Nat → Rat := fun j => if j < m then sumN (fun q => stk e G u q j) (p + 1) else sumN (fun q => stk e G u q j) p
theorem sumTo_zero (e : Ev) (G : List (List Rat)) (u p w : Nat) : rowF w (sumTo e G u p w) = rowF w (sumTo e G u (p + 1) 0) := by
  unfold rowF
  refine List.map_congr_left fun m hm => ?_
  have := List.mem_range.1 hm
  unfold sumTo
  rw [if_pos this, if_neg (by omega)]
theorem sumTo_step (e : Ev) (G : List (List Rat)) (u p m w : Nat) (hm : m < w) : (rowF w (sumTo e G u p m)).set m (fz (sumTo e G u p m m + stk e G u p m)) = rowF w (sumTo e G u p (m + 1)) := by
  rw [rowF_set hm]
  unfold rowF
  refine List.map_congr_left fun j hj => ?_
  congr 1
  unfold sumTo
  dsimp only
  by_cases h : j = m
  · subst h
    rw [if_pos rfl, if_neg (by omega), if_pos (by omega)]; rfl
  · rw [if_neg h]
    by_cases h2 : j < m
    · rw [if_pos h2, if_pos (by omega)]
    · rw [if_neg h2, if_neg (by omega)]
theorem ex_ownF {l : List Fr} {n m : Nat} {f : Fr} {K : List C → Prop} (e : n = m) (hx : l[m]? = some f) (h : K ((frRow f).map C.t)) : ∃ row, (toC (l.map frRow))[n]? = some row ∧ K row := by
  subst e; exact ⟨_, by simp [toC, hx], h⟩
theorem toC_frac {l : List Fr} {k n : Nat} {y : Fr} (h : n = k) : (toC (l.map frRow)).set n ((frRow y).map C.t) = toC ((l.set k y).map frRow) := by
  subst h; simp [toC, List.map_set]
set_option maxHeartbeats 4000000 in
theorem a_HistoryConserves (e : Ev) (hh : List (List Fr)) (x y : Int) (hx0 : 0 ≤ x) (hx1 : x ≤ 255) (hy0 : 0 ≤ y) (hy1 : y ≤ 255) :
    ACall Try.prog 7 [evS e, histS hh, intS .u8 x, intS .u8 y] [] (boolS true) [] := by
  have sm := a_small15
  have fw := a_few e hh
  have m1 : (hh.map fracsRow).length = hh.length := by simp
  by_cases h1 : ¬ ((little e && fewH hh) = true)
  · have h1 : (little e && fewH hh) = false := by simpa using h1
    rw [h1] at fw
    (refine acall_of tab_ok Try.func7 rfl (by decide) ?_; (conv => whnf); repeat (first | (refine LitB.data ?_; conv => whnf) | (refine BoxB.data ?_; conv => whnf)))
    (repeat' (first | ((refine DecB.mk (fun h => ?_) (fun h => ?_)) <;> first | (exfalso; omega) | (conv => whnf)) | ((refine BoolB.mk (fun h => ?_) (fun h => ?_)) <;> first | (exact absurd h (by decide)) | (conv => whnf)) | (refine ⟨_, wrap_ok (by omega) (by omega), ?_⟩; conv => whnf) | (refine and_idx (by omega) (by omega) ?_; conv => whnf) | (refine reg_ok (by decide +kernel) ?_; conv => whnf) | (refine bar_ok (by decide +kernel) (by decide +kernel) ?_; conv => whnf) | (refine late_ok rfl rfl ?_; conv => whnf) | (refine src_ok rfl ?_; conv => whnf) | (refine .inl ⟨_, _, qcall_pure (sm) rfl rfl, ?_⟩; conv => whnf) | (refine .inl ⟨_, _, qcall_pure (fw) rfl rfl, ?_⟩; conv => whnf) | (refine LitB.data ?_; conv => whnf) | (refine BoxB.own ?_; conv => whnf)))
    all_goals first
      | (exfalso; simp_all; done)
      | exact fin_bool rfl
  have h1 : (little e && fewH hh) = true := by simpa using h1
  rw [h1] at fw
  simp only [Bool.and_eq_true] at h1
  have hs := little_sized h1.1
  have hli : e.moves.length ≤ 14 ∧ e.places.length ≤ 14 := by have := h1.1; unfold little at this; simp only [Bool.and_eq_true, decide_eq_true_eq] at this; omega
  obtain ⟨hS3, hS2, _⟩ := few_small h1.2
  have hS := hS3.mono (show 3 ≤ 200 by decide)
  have hc := a_hCheck e hh hs hS
  by_cases h7 : ¬ (histCheck e hh = 0)
  · (refine acall_of tab_ok Try.func7 rfl (by decide) ?_; (conv => whnf); repeat (first | (refine LitB.data ?_; conv => whnf) | (refine BoxB.data ?_; conv => whnf)))
    (repeat' (first | ((refine DecB.mk (fun h => ?_) (fun h => ?_)) <;> first | (exfalso; omega) | (conv => whnf)) | ((refine BoolB.mk (fun h => ?_) (fun h => ?_)) <;> first | (exact absurd h (by decide)) | (conv => whnf)) | (refine ⟨_, wrap_ok (by omega) (by omega), ?_⟩; conv => whnf) | (refine and_idx (by omega) (by omega) ?_; conv => whnf) | (refine reg_ok (by decide +kernel) ?_; conv => whnf) | (refine bar_ok (by decide +kernel) (by decide +kernel) ?_; conv => whnf) | (refine late_ok rfl rfl ?_; conv => whnf) | (refine src_ok rfl ?_; conv => whnf) | (refine .inl ⟨_, _, qcall_pure (sm) rfl rfl, ?_⟩; conv => whnf) | (refine .inl ⟨_, _, qcall_pure (fw) rfl rfl, ?_⟩; conv => whnf) | (refine .inl ⟨_, _, qcall_pure (hc) rfl rfl, ?_⟩; conv => whnf) | (refine LitB.data ?_; conv => whnf) | (refine BoxB.own ?_; conv => whnf)))
    all_goals first
      | (exfalso; omega)
      | exact fin_bool rfl
  have h7 : histCheck e hh = 0 := by simpa using h7
  rw [h7] at hc
  obtain ⟨q1, q2, q3⟩ := histCheck_zero h7
  obtain ⟨G, rfl, sG⟩ := shaped_rats q2
  rw [unhz] at q3
  obtain ⟨b1, b2, b3, b4⟩ := check_bounds q1
  have gl : (hz G).length = e.moves.length := by simp [hz, sG.len]
  have m4 : (e.places.map Place.row).length = e.places.length := by simp
  have rG := small_rats hS3
  have hmod : 0 ≤ x.tmod ((((hz G).map fracsRow).length : Nat) + 1) ∧ x.tmod ((((hz G).map fracsRow).length : Nat) + 1) < e.moves.length + 1 := by
    rw [m1, gl, Int.tmod_eq_emod_of_nonneg hx0]
    exact ⟨Int.emod_nonneg _ (by omega), Int.emod_lt_of_pos _ (by omega)⟩
  obtain ⟨n, hn⟩ := Int.eq_ofNat_of_zero_le hmod.1
  rw [hn] at hmod
  have hmod2 : 0 ≤ y.tmod ((((hz G).map fracsRow).length : Nat) + 1 - (n : Int)) ∧ y.tmod ((((hz G).map fracsRow).length : Nat) + 1 - (n : Int)) < e.moves.length + 1 - n := by
    rw [m1, gl, Int.tmod_eq_emod_of_nonneg hy0]
    exact ⟨Int.emod_nonneg _ (by omega), Int.emod_lt_of_pos _ (by omega)⟩
  obtain ⟨j, hj⟩ := Int.eq_ofNat_of_zero_le hmod2.1
  rw [hj] at hmod2
  have hw : ((e.mats.toNat : Nat) : Int) = e.mats := by omega
  have rS : ∀ k p m, k ≤ 14 → rl (stk e G k p m) ≤ 57 := fun k p m hk => by
    have := rl_stk (e := e) rG (by decide) k p m
    omega
  have i0 : ACall Try.prog 20 [intS .i64 0] [] (frS (fz zR)) [] := r5Int 0 (by decide) (by decide)
  (refine acall_of tab_ok Try.func7 rfl (by decide) ?_; (conv => whnf); repeat (first | (refine LitB.data ?_; conv => whnf) | (refine BoxB.data ?_; conv => whnf)))
  (repeat' (first | ((refine DecB.mk (fun h => ?_) (fun h => ?_)) <;> first | (exfalso; omega) | (conv => whnf)) | ((refine BoolB.mk (fun h => ?_) (fun h => ?_)) <;> first | (exact absurd h (by decide)) | (conv => whnf)) | (refine ⟨_, wrap_ok (by omega) (by omega), ?_⟩; conv => whnf) | (refine and_idx (by omega) (by omega) ?_; conv => whnf) | (refine reg_ok (by decide +kernel) ?_; conv => whnf) | (refine bar_ok (by decide +kernel) (by decide +kernel) ?_; conv => whnf) | (refine late_ok rfl rfl ?_; conv => whnf) | (refine src_ok rfl ?_; conv => whnf) | (refine .inl ⟨_, _, qcall_pure (sm) rfl rfl, ?_⟩; conv => whnf) | (refine .inl ⟨_, _, qcall_pure (fw) rfl rfl, ?_⟩; conv => whnf) | (refine .inl ⟨_, _, qcall_pure (hc) rfl rfl, ?_⟩; conv => whnf) | (refine .inl ⟨_, _, qcall_pure (hn) rfl rfl, ?_⟩; conv => whnf) | (refine .inl ⟨_, _, qcall_pure (hj) rfl rfl, ?_⟩; conv => whnf) | (refine ne_ok (by omega) ?_; rw [hn]; conv => whnf) | (refine ne_ok (by omega) ?_; rw [hj]; conv => whnf) | (refine LitB.own ?_; conv => whnf) | (refine LitB.data ?_; conv => whnf) | (refine BoxB.own ?_; conv => whnf)))
  all_goals try (exfalso; omega)
  refine awp_for tab_ok (fun m => ([S.junk, histS (hz G), S.junk, S.junk, S.c (C.t (T.ptr (evT e))), S.junk, S.junk, S.junk, S.junk, boolS true, intS .i64 n, intS .i64 ((n + j : Nat) : Int), S.c (C.own 0 0 m true), intS .i64 m, S.junk, S.junk, S.junk, S.junk, S.junk, S.junk, S.junk, S.junk, S.junk, S.junk, S.junk, S.junk, S.junk, S.junk, S.junk, S.junk, S.junk, S.junk, S.junk, S.junk, S.junk, S.junk, S.junk, S.junk, S.junk, S.junk, S.junk, S.junk, S.junk, S.junk, S.junk, S.junk, S.junk, S.junk, S.junk, S.junk, S.junk, S.junk, S.junk, S.junk, S.junk, S.junk, S.junk, S.junk, S.junk, S.junk, S.junk, S.junk, S.junk, S.junk, S.junk, S.junk, S.junk, S.junk, S.junk, S.junk, S.junk, S.junk, S.junk, S.junk, S.junk, S.junk, S.junk, S.junk, S.junk, S.junk, S.junk, S.junk, S.junk, S.junk, S.junk, S.junk, S.junk, S.junk, S.junk, S.junk, S.junk, S.junk, S.junk, S.junk, S.junk, S.junk, S.junk, S.junk, S.junk, S.junk, S.junk, S.junk, S.junk, S.junk, S.junk, S.junk, S.junk, S.junk, S.junk, S.junk, S.junk, S.junk, S.junk, S.junk, S.junk, S.junk, S.junk, S.junk, S.junk, S.junk, S.junk, S.junk, S.junk, S.junk, S.junk, S.junk, S.junk, S.junk, S.junk, S.junk, S.junk, S.junk, S.junk, S.junk, S.junk, S.junk, S.junk, S.junk, S.junk, S.junk, S.junk, S.junk, S.junk, S.junk, S.junk, S.junk, S.junk, S.junk, S.junk, S.junk, S.junk, S.junk, S.junk, S.junk, S.junk, S.junk, S.junk, S.junk, S.junk, S.junk, S.junk, S.junk, S.junk, S.junk, S.junk, S.junk, S.junk, S.junk, S.junk, S.junk, S.junk, S.junk, S.junk, S.junk, S.junk, S.junk, S.junk, S.junk, S.junk, S.junk, S.junk, S.junk, S.junk, S.junk, S.junk, S.junk, S.junk, S.junk, S.junk], [fracsB (rowF m (fun _ => zR))])) e.mats.toNat (fun _ => True) [some 0] trivial
    ⟨rfl, rfl, ⟨entB_rows (rows := []) rfl rfl rfl rfl rfl, trivial⟩, ⟨rfl, rfl, rfl, rfl, ent_i (by omega), ⟨rfl, rfl, rfl, fun h => h⟩, rfl, trivial⟩⟩ ?_
  intro m hm _
  by_cases hmt : m < e.mats.toNat
  · have lw : (rowF m (fun _ => zR)).length = m := rowF_len _ _
    have lw2 : m ≤ (fracsB (rowF m (fun _ => zR))).rows.length := by simp only [toC, List.length_map]; omega
    conv => whnf
    (repeat' (first | ((refine DecB.mk (fun h => ?_) (fun h => ?_)) <;> first | (exfalso; omega) | (conv => whnf)) | ((refine BoolB.mk (fun h => ?_) (fun h => ?_)) <;> first | (exact absurd h (by decide)) | (conv => whnf)) | (refine ⟨_, wrap_ok (by omega) (by omega), ?_⟩; conv => whnf) | (refine and_idx (by omega) (by omega) ?_; conv => whnf) | (refine reg_ok (by decide +kernel) ?_; conv => whnf) | (refine bar_ok (by decide +kernel) (by decide +kernel) ?_; conv => whnf) | (refine late_ok rfl rfl ?_; conv => whnf) | (refine src_ok rfl ?_; conv => whnf) | (refine .inl ⟨_, _, qcall_pure (i0) rfl rfl, ?_⟩; conv => whnf) | (refine .inl ⟨_, _, qcall_pure (toC, newBlk) rfl rfl, ?_⟩; conv => whnf) | (refine app_ok lw2 (by simp [toC, newBlk]; omega) ?_; conv => whnf) | (refine LitB.data ?_; conv => whnf) | (refine BoxB.own ?_; conv => whnf)))
    all_goals try (exfalso; omega)
    refine ⟨hmt, trivial, [some 1], rfl, rfl, ⟨entB_rows rfl rfl rfl ?_ rfl, trivial⟩, ⟨rfl, rfl, rfl, rfl, rfl, ⟨rfl, rfl, rfl, fun h => h⟩, rfl, trivial⟩⟩
    have : rowF (m + 1) (fun _ => zR) = rowF m (fun _ => zR) ++ [fz zR] := by unfold rowF; rw [List.range_succ, List.map_append]; rfl
    rw [this, List.map_append]
    exact (congrArg (fun n' => List.take n' (toC ((rowF m (fun _ => zR)).map frRow)) ++ toC [frRow (fz zR)]) (by rw [List.length_map]; exact lw.symm)).trans toC_snoc
  · have hme : m = e.mats.toNat := by omega
    subst hme
    conv => whnf
    (repeat' (first | ((refine DecB.mk (fun h => ?_) (fun h => ?_)) <;> first | (exfalso; omega) | (conv => whnf)) | ((refine BoolB.mk (fun h => ?_) (fun h => ?_)) <;> first | (exact absurd h (by decide)) | (conv => whnf)) | (refine ⟨_, wrap_ok (by omega) (by omega), ?_⟩; conv => whnf) | (refine and_idx (by omega) (by omega) ?_; conv => whnf) | (refine reg_ok (by decide +kernel) ?_; conv => whnf) | (refine bar_ok (by decide +kernel) (by decide +kernel) ?_; conv => whnf) | (refine late_ok rfl rfl ?_; conv => whnf) | (refine src_ok rfl ?_; conv => whnf) | (refine LitB.data ?_; conv => whnf) | (refine BoxB.own ?_; conv => whnf)))
    all_goals try (exfalso; omega)
    have e0 : rowF e.mats.toNat (fun _ => zR) = rowF e.mats.toNat (sumTo e G n 0 0) := by
      unfold rowF
      refine List.map_congr_left fun q hq => ?_
      unfold sumTo
      rw [if_neg (by omega)]; rfl
    refine awp_for tab_ok (fun p => ([S.junk, histS (hz G), S.junk, S.junk, S.c (C.t (T.ptr (evT e))), S.junk, S.junk, S.junk, S.junk, boolS true, intS .i64 n, intS .i64 ((n + j : Nat) : Int), S.c (C.own 0 0 e.mats.toNat true), S.junk, intS .i64 p, S.junk, S.junk, S.junk, S.junk, S.junk, S.junk, S.junk, S.junk, S.junk, S.junk, S.junk, S.junk, S.junk, S.junk, S.junk, S.junk, S.junk, S.junk, S.junk, S.junk, S.junk, S.junk, S.junk, S.junk, S.junk, S.junk, S.junk, S.junk, S.junk, S.junk, S.junk, S.junk, S.junk, S.junk, S.junk, S.junk, S.junk, S.junk, S.junk, S.junk, S.junk, S.junk, S.junk, S.junk, S.junk, S.junk, S.junk, S.junk, S.junk, S.junk, S.junk, S.junk, S.junk, S.junk, S.junk, S.junk, S.junk, S.junk, S.junk, S.junk, S.junk, S.junk, S.junk, S.junk, S.junk, S.junk, S.junk, S.junk, S.junk, S.junk, S.junk, S.junk, S.junk, S.junk, S.junk, S.junk, S.junk, S.junk, S.junk, S.junk, S.junk, S.junk, S.junk, S.junk, S.junk, S.junk, S.junk, S.junk, S.junk, S.junk, S.junk, S.junk, S.junk, S.junk, S.junk, S.junk, S.junk, S.junk, S.junk, S.junk, S.junk, S.junk, S.junk, S.junk, S.junk, S.junk, S.junk, S.junk, S.junk, S.junk, S.junk, S.junk, S.junk, S.junk, S.junk, S.junk, S.junk, S.junk, S.junk, S.junk, S.junk, S.junk, S.junk, S.junk, S.junk, S.junk, S.junk, S.junk, S.junk, S.junk, S.junk, S.junk, S.junk, S.junk, S.junk, S.junk, S.junk, S.junk, S.junk, S.junk, S.junk, S.junk, S.junk, S.junk, S.junk, S.junk, S.junk, S.junk, S.junk, S.junk, S.junk, S.junk, S.junk, S.junk, S.junk, S.junk, S.junk, S.junk, S.junk, S.junk, S.junk, S.junk, S.junk, S.junk, S.junk, S.junk, S.junk, S.junk, S.junk, S.junk, S.junk, S.junk, S.junk, S.junk], [fracsB (rowF e.mats.toNat (sumTo e G n p 0))])) e.places.length (fun _ => True) [some 0] trivial
      ⟨rfl, rfl, ⟨entB_rows rfl rfl rfl rfl (by rw [← e0]), trivial⟩, ⟨rfl, rfl, rfl, rfl, rfl, ⟨rfl, rfl, rfl, fun h => h⟩, rfl, trivial⟩⟩ ?_
    intro p hp _
    by_cases hpt : p < e.places.length
    · have st1 := a_hStock e (hz G) p n hs hS
      rw [stockL_ok q1 sG hpt (by omega)] at st1
      have st2 := a_hStock e (hz G) p ((n + j : Nat) : Int) hs hS
      rw [stockL_ok q1 sG hpt (by omega)] at st2
      obtain ⟨pl, hpl⟩ : ∃ x, e.places[p]? = some x := ⟨_, List.getElem?_eq_getElem hpt⟩
      have hkd := kindAt_of hpl
      have sr := a_srcP e hs p
      have es : source e p = decide (pl.kind = 0) := by
        unfold source
        rw [hkd, show decide (check e = 0) = true by simp [q1], show idx (p : Int) e.places.length = true from idx_iff.2 (by omega)]; rfl
      rw [es] at sr
      have r1 : ((rowF e.mats.toNat (stk e G n p)).map frRow).length = e.mats.toNat := by simp [rowF]
      have r2 : ((rowF e.mats.toNat (stk e G (n + j) p)).map frRow).length = e.mats.toNat := by simp [rowF]
      conv => whnf
      (repeat' (first | ((refine DecB.mk (fun h => ?_) (fun h => ?_)) <;> first | (exfalso; omega) | (conv => whnf)) | ((refine BoolB.mk (fun h => ?_) (fun h => ?_)) <;> first | (exact absurd h (by decide)) | (conv => whnf)) | (refine ⟨_, wrap_ok (by omega) (by omega), ?_⟩; conv => whnf) | (refine and_idx (by omega) (by omega) ?_; conv => whnf) | (refine reg_ok (by decide +kernel) ?_; conv => whnf) | (refine bar_ok (by decide +kernel) (by decide +kernel) ?_; conv => whnf) | (refine late_ok rfl rfl ?_; conv => whnf) | (refine src_ok rfl ?_; conv => whnf) | (refine .inl ⟨_, _, qcall_pure (st1) rfl rfl, ?_⟩; conv => whnf) | (refine .inl ⟨_, _, qcall_pure (st2) rfl rfl, ?_⟩; conv => whnf) | (refine .inl ⟨_, _, qcall_pure (sr) rfl rfl, ?_⟩; conv => whnf) | (refine ex_row hpl ?_; conv => whnf) | (refine LitB.data ?_; conv => whnf) | (refine BoxB.own ?_; conv => whnf)))
      all_goals first
        | (exfalso; omega)
        | (exfalso; simp_all; done)
        | skip
      all_goals
        refine awp_for tab_ok (fun m => ([S.junk, histS (hz G), S.junk, S.junk, S.c (C.t (T.ptr (evT e))), S.junk, S.junk, S.junk, S.junk, boolS true, intS .i64 n, intS .i64 ((n + j : Nat) : Int), S.c (C.own 0 0 e.mats.toNat true), S.junk, intS .i64 p, fracsS (rowF e.mats.toNat (stk e G n p)), fracsS (rowF e.mats.toNat (stk e G (n + j) p)), intS .i64 pl.kind, intS .i64 m, S.junk, S.junk, S.junk, S.junk, S.junk, S.junk, S.junk, S.junk, S.junk, S.junk, S.junk, S.junk, S.junk, S.junk, S.junk, S.junk, S.junk, S.junk, S.junk, S.junk, S.junk, S.junk, S.junk, S.junk, S.junk, S.junk, S.junk, S.junk, S.junk, S.junk, S.junk, S.junk, S.junk, S.junk, S.junk, S.junk, S.junk, S.junk, S.junk, S.junk, S.junk, S.junk, S.junk, S.junk, S.junk, S.junk, S.junk, S.junk, S.junk, S.junk, S.junk, S.junk, S.junk, S.junk, S.junk, S.junk, S.junk, S.junk, S.junk, S.junk, S.junk, S.junk, S.junk, S.junk, S.junk, S.junk, S.junk, S.junk, S.junk, S.junk, S.junk, S.junk, S.junk, S.junk, S.junk, S.junk, S.junk, S.junk, S.junk, S.junk, S.junk, S.junk, S.junk, S.junk, S.junk, S.junk, S.junk, S.junk, S.junk, S.junk, S.junk, S.junk, S.junk, S.junk, S.junk, S.junk, S.junk, S.junk, S.junk, S.junk, S.junk, S.junk, S.junk, S.junk, S.junk, S.junk, S.junk, S.junk, S.junk, S.junk, S.junk, S.junk, S.junk, S.junk, S.junk, S.junk, S.junk, S.junk, S.junk, S.junk, S.junk, S.junk, S.junk, S.junk, S.junk, S.junk, S.junk, S.junk, S.junk, S.junk, S.junk, S.junk, S.junk, S.junk, S.junk, S.junk, S.junk, S.junk, S.junk, S.junk, S.junk, S.junk, S.junk, S.junk, S.junk, S.junk, S.junk, S.junk, S.junk, S.junk, S.junk, S.junk, S.junk, S.junk, S.junk, S.junk, S.junk, S.junk, S.junk, S.junk, S.junk, S.junk, S.junk, S.junk, S.junk, S.junk, S.junk, S.junk, S.junk, S.junk], [fracsB (rowF e.mats.toNat (sumTo e G n p m))])) e.mats.toNat (fun _ => True) [some 0] trivial
          ⟨rfl, rfl, ⟨entB_rows rfl rfl rfl rfl rfl, trivial⟩, ⟨rfl, rfl, rfl, rfl, rfl, ⟨rfl, rfl, rfl, fun h => h⟩, rfl, rfl, rfl, rfl, rfl, trivial⟩⟩ ?_
        intro m hm _
        by_cases hmt : m < e.mats.toNat
        · have rs1 := rS n p m (by omega)
          have rs2 := rS (n + j) p m (by omega)
          have rs0 : rl (sumTo e G n p m m) ≤ 814 := by
            unfold sumTo
            rw [if_neg (by omega)]
            have := rl_sumN (f := fun q => stk e G n q m) (C := 57) (fun q => rS n q m (by omega)) p
            omega
          have ad := z_fAdd (sumTo e G n p m m) (stk e G n p m) (by omega) (by omega)
          have sg := z_fSign (stk e G n p m) (by omega)
          have cm := z_fCompare (stk e G (n + j) p m) (stk e G n p m) (by omega) (by omega)
          have f1 : pl.kind ≠ 0 → ¬ sgR (stk e G n p m) < 0 := fun hk => by
            rw [sgR_neg]
            have := (stk_sign q1 q3 sG n p m).1 (by rw [hkd]; exact hk)
            exact Rat.not_lt.2 this
          have f2 : pl.kind = 0 → ¬ sgR (stk e G n p m) > 0 := fun hk => by
            have := (stk_sign q1 q3 sG n p m).2 (by rw [hkd]; exact hk)
            unfold sgR
            split
            · omega
            · rw [if_neg (Rat.not_lt.2 this)]; omega
          have f3 : pl.kind = 5 ∨ pl.kind = 6 → ¬ cmpR (stk e G (n + j) p m) (stk e G n p m) < 0 := fun hk => by
            rw [cmpR_lt]
            exact Rat.not_lt.2 (stk_sink q1 q3 sG (by rw [hkd]; exact hk) m n j)
          have xs : (rowF e.mats.toNat (sumTo e G n p m))[0 + (m : Int).toNat]? = some (fz (sumTo e G n p m m)) := by rw [show 0 + (m : Int).toNat = m by omega]; exact rowF_get hmt
          conv => whnf
          (repeat' (first | ((refine DecB.mk (fun h => ?_) (fun h => ?_)) <;> first | (exfalso; omega) | (conv => whnf)) | ((refine BoolB.mk (fun h => ?_) (fun h => ?_)) <;> first | (exact absurd h (by decide)) | (conv => whnf)) | (refine ⟨_, wrap_ok (by omega) (by omega), ?_⟩; conv => whnf) | (refine and_idx (by omega) (by omega) ?_; conv => whnf) | (refine reg_ok (by decide +kernel) ?_; conv => whnf) | (refine bar_ok (by decide +kernel) (by decide +kernel) ?_; conv => whnf) | (refine late_ok rfl rfl ?_; conv => whnf) | (refine src_ok rfl ?_; conv => whnf) | (refine .inl ⟨_, _, qcall_pure (ad) rfl rfl, ?_⟩; conv => whnf) | (refine .inl ⟨_, _, qcall_pure (sg) rfl rfl, ?_⟩; conv => whnf) | (refine .inl ⟨_, _, qcall_pure (cm) rfl rfl, ?_⟩; conv => whnf) | (refine .inl ⟨_, _, qcall_pure (13) rfl rfl, ?_⟩; conv => whnf) | (refine ex_row (rowF_get hmt) ?_; conv => whnf) | (refine ex_own xs ?_; conv => whnf) | (refine bar_late [13] (by decide +kernel) (by decide +kernel) ?_; conv => whnf) | (refine LitB.data ?_; conv => whnf) | (refine BoxB.own ?_; conv => whnf)))
          all_goals first
            | (exfalso; omega)
            | skip
          all_goals
            refine ⟨hmt, trivial, [some 0], rfl, rfl, ⟨entB_rows rfl rfl rfl ?_ rfl, trivial⟩, ⟨rfl, rfl, rfl, rfl, rfl, ⟨rfl, rfl, rfl, fun h => h⟩, rfl, rfl, rfl, rfl, rfl, trivial⟩⟩
            rw [← sumTo_step e G n p m _ hmt]
            exact toC_frac (by omega)
        · have hme : m = e.mats.toNat := by omega
          subst hme
          conv => whnf
          (repeat' (first | ((refine DecB.mk (fun h => ?_) (fun h => ?_)) <;> first | (exfalso; omega) | (conv => whnf)) | ((refine BoolB.mk (fun h => ?_) (fun h => ?_)) <;> first | (exact absurd h (by decide)) | (conv => whnf)) | (refine ⟨_, wrap_ok (by omega) (by omega), ?_⟩; conv => whnf) | (refine and_idx (by omega) (by omega) ?_; conv => whnf) | (refine reg_ok (by decide +kernel) ?_; conv => whnf) | (refine bar_ok (by decide +kernel) (by decide +kernel) ?_; conv => whnf) | (refine late_ok rfl rfl ?_; conv => whnf) | (refine src_ok rfl ?_; conv => whnf) | (refine LitB.data ?_; conv => whnf) | (refine BoxB.own ?_; conv => whnf)))
          all_goals try (exfalso; omega)
          exact ⟨hpt, trivial, [some 0], rfl, rfl, ⟨entB_rows rfl rfl rfl rfl (by rw [sumTo_zero]), trivial⟩, ⟨rfl, rfl, rfl, rfl, rfl, ⟨rfl, rfl, rfl, fun h => h⟩, rfl, trivial⟩⟩
    · have hpe : p = e.places.length := by omega
      subst hpe
      have z0 : ∀ m, sumTo e G n e.places.length 0 m = 0 := fun m => by
        unfold sumTo
        rw [if_neg (by omega)]
        exact stk_sum q1 G m n
      conv => whnf
      (repeat' (first | ((refine DecB.mk (fun h => ?_) (fun h => ?_)) <;> first | (exfalso; omega) | (conv => whnf)) | ((refine BoolB.mk (fun h => ?_) (fun h => ?_)) <;> first | (exact absurd h (by decide)) | (conv => whnf)) | (refine ⟨_, wrap_ok (by omega) (by omega), ?_⟩; conv => whnf) | (refine and_idx (by omega) (by omega) ?_; conv => whnf) | (refine reg_ok (by decide +kernel) ?_; conv => whnf) | (refine bar_ok (by decide +kernel) (by decide +kernel) ?_; conv => whnf) | (refine late_ok rfl rfl ?_; conv => whnf) | (refine src_ok rfl ?_; conv => whnf) | (refine LitB.data ?_; conv => whnf) | (refine BoxB.own ?_; conv => whnf)))
      all_goals try (exfalso; omega)
      refine awp_for tab_ok (fun m => ([S.junk, S.junk, S.junk, S.junk, S.junk, S.junk, S.junk, S.junk, S.junk, boolS true, S.junk, S.junk, S.c (C.own 0 0 e.mats.toNat true), S.junk, S.junk, S.junk, S.junk, S.junk, S.junk, intS .i64 m, S.junk, S.junk, S.junk, S.junk, S.junk, S.junk, S.junk, S.junk, S.junk, S.junk, S.junk, S.junk, S.junk, S.junk, S.junk, S.junk, S.junk, S.junk, S.junk, S.junk, S.junk, S.junk, S.junk, S.junk, S.junk, S.junk, S.junk, S.junk, S.junk, S.junk, S.junk, S.junk, S.junk, S.junk, S.junk, S.junk, S.junk, S.junk, S.junk, S.junk, S.junk, S.junk, S.junk, S.junk, S.junk, S.junk, S.junk, S.junk, S.junk, S.junk, S.junk, S.junk, S.junk, S.junk, S.junk, S.junk, S.junk, S.junk, S.junk, S.junk, S.junk, S.junk, S.junk, S.junk, S.junk, S.junk, S.junk, S.junk, S.junk, S.junk, S.junk, S.junk, S.junk, S.junk, S.junk, S.junk, S.junk, S.junk, S.junk, S.junk, S.junk, S.junk, S.junk, S.junk, S.junk, S.junk, S.junk, S.junk, S.junk, S.junk, S.junk, S.junk, S.junk, S.junk, S.junk, S.junk, S.junk, S.junk, S.junk, S.junk, S.junk, S.junk, S.junk, S.junk, S.junk, S.junk, S.junk, S.junk, S.junk, S.junk, S.junk, S.junk, S.junk, S.junk, S.junk, S.junk, S.junk, S.junk, S.junk, S.junk, S.junk, S.junk, S.junk, S.junk, S.junk, S.junk, S.junk, S.junk, S.junk, S.junk, S.junk, S.junk, S.junk, S.junk, S.junk, S.junk, S.junk, S.junk, S.junk, S.junk, S.junk, S.junk, S.junk, S.junk, S.junk, S.junk, S.junk, S.junk, S.junk, S.junk, S.junk, S.junk, S.junk, S.junk, S.junk, S.junk, S.junk, S.junk, S.junk, S.junk, S.junk, S.junk, S.junk, S.junk, S.junk, S.junk, S.junk, S.junk, S.junk], [fracsB (rowF e.mats.toNat (sumTo e G n e.places.length 0))])) e.mats.toNat (fun _ => True) [some 0] trivial
        ⟨rfl, rfl, ⟨entB_rows rfl rfl rfl rfl rfl, trivial⟩, ⟨rfl, ⟨rfl, rfl, rfl, fun h => h⟩, rfl, trivial⟩⟩ ?_
      intro m hm _
      by_cases hmt : m < e.mats.toNat
      · have sg := z_fSign (sumTo e G n e.places.length 0 m) (by rw [z0]; decide)
        have sg : ACall Try.prog 15 [frS (fz (sumTo e G n e.places.length 0 m))] [] (intS .i64 0) [] := by
          have e2 : sgR (sumTo e G n e.places.length 0 m) = 0 := by rw [z0]; rfl
          rw [e2] at sg; exact sg
        have rt := z_fRight (sumTo e G n e.places.length 0 m) (by rw [z0]; decide)
        have xs : (rowF e.mats.toNat (sumTo e G n e.places.length 0))[0 + (m : Int).toNat]? = some (fz (sumTo e G n e.places.length 0 m)) := by rw [show 0 + (m : Int).toNat = m by omega]; exact rowF_get hmt
        conv => whnf
        (repeat' (first | ((refine DecB.mk (fun h => ?_) (fun h => ?_)) <;> first | (exfalso; omega) | (conv => whnf)) | ((refine BoolB.mk (fun h => ?_) (fun h => ?_)) <;> first | (exact absurd h (by decide)) | (conv => whnf)) | (refine ⟨_, wrap_ok (by omega) (by omega), ?_⟩; conv => whnf) | (refine and_idx (by omega) (by omega) ?_; conv => whnf) | (refine reg_ok (by decide +kernel) ?_; conv => whnf) | (refine bar_ok (by decide +kernel) (by decide +kernel) ?_; conv => whnf) | (refine late_ok rfl rfl ?_; conv => whnf) | (refine src_ok rfl ?_; conv => whnf) | (refine .inl ⟨_, _, qcall_pure (sg) rfl rfl, ?_⟩; conv => whnf) | (refine .inl ⟨_, _, qcall_pure (rt) rfl rfl, ?_⟩; conv => whnf) | (refine ex_own xs ?_; conv => whnf) | (refine LitB.data ?_; conv => whnf) | (refine BoxB.own ?_; conv => whnf)))
        all_goals first
          | (exfalso; omega)
          | skip
        exact ⟨hmt, trivial, [some 0], rfl, rfl, ⟨entB_rows rfl rfl rfl rfl rfl, trivial⟩, ⟨rfl, ⟨rfl, rfl, rfl, fun h => h⟩, rfl, trivial⟩⟩
      · conv => whnf
        (repeat' (first | ((refine DecB.mk (fun h => ?_) (fun h => ?_)) <;> first | (exfalso; omega) | (conv => whnf)) | ((refine BoolB.mk (fun h => ?_) (fun h => ?_)) <;> first | (exact absurd h (by decide)) | (conv => whnf)) | (refine ⟨_, wrap_ok (by omega) (by omega), ?_⟩; conv => whnf) | (refine and_idx (by omega) (by omega) ?_; conv => whnf) | (refine reg_ok (by decide +kernel) ?_; conv => whnf) | (refine bar_ok (by decide +kernel) (by decide +kernel) ?_; conv => whnf) | (refine late_ok rfl rfl ?_; conv => whnf) | (refine src_ok rfl ?_; conv => whnf) | (refine LitB.data ?_; conv => whnf) | (refine BoxB.own ?_; conv => whnf)))
        all_goals first
          | (exfalso; omega)
          | exact fin_bool rfl
end Go.Proofs.Ythinjkjhiembgaa
/- HistoryConserves: at every input the law returns true, and its arguments read as before. Conditions: none. -/
namespace Go.Proofs.Ythinjkjhiembgaa
open Go.RowKit Go.ChangeShapes Go.WideShapes Go.ChangeAt

set_option maxRecDepth 100000 in
theorem historyConserves_lifted (os : Os) (started : os.Started) (H : Type) (enc : TypeId × Value → H) :
    ReturnsInHanded {} Try.checked os 7 .any (Rows.historyConservesSpec.pre6 enc Try.prog Try.f7 Rows.historyConservesRow.domain false) (Rows.historyConservesSpec.post enc Try.prog Try.f7 false true false false) := by
  refine returnsInHanded_of_change (C := Try.checked) law_own started (by kernel_rfl) Try.func7
    (ChangeSpec.witness6 (enc := enc) (C := Try.checked) false ⟨#[], #[.agg #[.int .i64 0, .int .i64 0, .int .i64 0, .slice none 0 0, .slice none 0 0, .slice none 0 0, .slice none 0 0, .slice none 0 0], .slice none 0 0, .int .u8 0, .int .u8 0], []⟩ 12 (by kernel_rfl) (by kernel_rfl) (by kernel_rfl) (by kernel_rfl)) ?_
  intro W base args ds gs before hval0 hW hcnd _
  have hval : ∀ (j : Nat) t v, Try.f7.params[j]? = some t → args[j]? = some v → Value.okWide Try.prog W .any base t v := hval0
  have hW' := hW
  obtain ⟨p, q, hA0, hV, rfl, hfz, hnd⟩ := hW
  have hA : DataW.TrodAll enc Try.prog W 0 (fun _ => true) true Try.f7.params.toList args.toList ds p := hA0
  rw [Try.params7] at hA hval
  obtain ⟨v0, vs0, d0, ds0, p0, q0, hargs, rfl, rfl, h0, r0⟩ := trodAll_cons hA
  obtain ⟨v1, vs1, d1, ds1, p1, q1, rfl, rfl, rfl, h1, r1⟩ := trodAll_cons r0
  obtain ⟨v2, vs2, d2, ds2, p2, q2, rfl, rfl, rfl, h2, r2⟩ := trodAll_cons r1
  obtain ⟨v3, vs3, d3, ds3, p3, q3, rfl, rfl, rfl, h3, r3⟩ := trodAll_cons r2
  obtain ⟨rfl, rfl, rfl⟩ := trodAll_nil r3
  obtain rfl : args = #[v0, v1, v2, v3] := by cases args; simp_all
  obtain ⟨rfl, rfl⟩ := trodVars_none hV
  obtain ⟨m, h, s, A1, n1, c1, A2, n2, c2, A3, n3, c3, A4, n4, c4, A5, n5, c5, e, rfl, hr, hb⟩ := open_ev (hval 0 28 v0 rfl rfl) h0
  obtain ⟨a1, t1⟩ := Go.Proofs.Ythinjkjhiembgaa.open_hist (hval 1 29 v1 rfl rfl) h1
  obtain ⟨a2, rfl, rfl, rfl, w2⟩ := open_int Try.underlying5 (hval 2 5 v2 rfl rfl) h2
  obtain ⟨a3, rfl, rfl, rfl, w3⟩ := open_int Try.underlying5 (hval 3 5 v3 rfl rfl) h3
  refine (law_of_acall (a_HistoryConserves e a1 a2 a3 (wf_rangeU w2).1 (wf_rangeU w2).2 (wf_rangeU w3).1 (wf_rangeU w3).2) (.cons (rs_ev hr hb) (.cons (t1) (.cons (rs_u8) (.cons (rs_u8) (.nil)))))).mono fun ee W' ⟨he, hg⟩ => ?_
  subst he
  exact ⟨_, rfl, law_post hW' law_laid (by rw [Try.params7]; intro t ht; simp at ht; rcases ht with rfl | rfl | rfl <;> exact ⟨by kernel_rfl, of_decide_eq_true (by kernel_rfl)⟩) rfl rfl (by kernel_rfl) Try.underlying4 hg⟩

theorem historyConserves_holds : Rows.HistoryConservesSaid :=
  OpenClaim.holds_of_wide 7 Try.f7 rfl rfl rfl rfl rfl rfl rfl ⟨rfl, rfl, rfl, rfl, rfl⟩ rfl rfl rfl rfl rfl (by kernel_rfl) Try.func7 (by kernel_rfl)
    (of_decide_eq_true (by kernel_rfl)) (by unfold Func.isWrapper; first | (rw [if_pos (by decide +kernel)]; kernel_rfl) | (rw [if_neg (by decide +kernel)]; exact ⟨rfl, rfl⟩))
    (fun os started H enc _ => historyConserves_lifted os started H enc)
end Go.Proofs.Ythinjkjhiembgaa

