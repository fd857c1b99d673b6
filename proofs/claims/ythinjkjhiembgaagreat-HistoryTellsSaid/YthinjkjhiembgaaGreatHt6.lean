/- history: Stock, Mass. -/
import Derived.Test.YthinjkjhiembgaaGreatHt5
namespace Go.Proofs.YthinjkjhiembgaaGreat
open Go.RowKit
set_option linter.unusedVariables false
set_option linter.unusedSimpArgs false
set_option maxRecDepth 100000

def unz (hh : List (List Fr)) : List (List Rat) := hh.map (·.map fv)
theorem unz_hz (G : List (List Rat)) : unz (hz G) = G := unhz G
def stockL (e : Ev) (hh : List (List Fr)) (place upto : Int) : List Fr :=
  if check e = 0 ∧ shapedB e hh = true ∧ 0 ≤ place ∧ place < e.places.length ∧ 0 ≤ upto ∧ upto ≤ hh.length then rowF e.mats.toNat (stk e (unz hh) upto.toNat place.toNat) else []
/-- one move performed -/
theorem a_step (e : Ev) (G : List (List Rat)) (hG : Shape e G) (h0 : check e = 0) (hB : ∀ l ∈ G, ∀ x ∈ l, rl x ≤ 200) {N w k : Nat} (hN : e.places.length = N) (hw : e.mats = w) {x : Move} {l : List Rat} (hx : e.moves[k]? = some x) (hl : G[k]? = some l) :
    ACall Tryz.prog 33 [.c (.own 0 0 N true), moveS x, fracsS (l.map fz)] (matH N w (stk e G k)) (.tup []) (matH N w (stk e G (k + 1))) := by
  obtain ⟨b1, b2, b3, b4⟩ := check_bounds h0
  have hlt : k < e.moves.length := (List.getElem?_eq_some_iff.1 hx).1
  have hmem := List.mem_of_getElem? hl
  have hlB := hB l hmem
  have hlw : l.length = w := by have := hG.wid l hmem; omega
  have hgd : G.getD k [] = l := by rw [List.getD_eq_getElem?_getD, hl]; rfl
  have hm := check_move h0 (List.mem_of_getElem? hx)
  have ms := moveOk_src hm
  have md := moveOk_dst hm
  have hsd : x.src ≠ x.dst := by unfold moveOk at hm; simp only [Bool.and_eq_true, decide_eq_true_eq] at hm; exact hm.1.1.1.1.1.2
  have hF : ∀ p m, rl (stk e G k p m) ≤ 50000 := fun p m => by
    have := rl_stk (e := e) hB (by decide) k p m
    have h2 := Nat.mul_le_mul_right (200 + 1) (show k ≤ 200 by omega)
    omega
  have ca := a_carry N w (stk e G k) x l hlw (by omega) x.src.toNat x.dst.toNat (by omega) (by omega) (by omega) (by omega) (by omega) hlB hF
  have hst : stk e G (k + 1) = carryF x (fun m => l.getD m 0) (stk e G k) := by
    conv => lhs; unfold stk
    rw [hx]
    simp only
    congr 1
    funext m
    show (G.getD k []).getD m 0 = _
    rw [hgd]
  rw [hst]
  exact ca
theorem ok_carry {N n : Nat} {x : Move} {l : List Fr} : [S.c (.own 0 0 N true), moveS x, fracsS l].all (okS (n + 1)) = true := by
  simp [okS, okC, okL, Move.cs, Move.row]
set_option maxHeartbeats 4000000 in
theorem a_hStock (e : Ev) (hh : List (List Fr)) (place upto : Int) (hs : e.Sized) (hS : SmallH 200 hh) : ACall Tryz.prog 12 [evS e, histS hh, intS .i64 place, intS .i64 upto] [] (fracsS (stockL e hh place upto)) [] := by
  have ck := a_Check e hs
  have sh := a_shaped e hh ⟨hS.l1, hS.l2, fun l hl f hf => by have := hS.l3 l hl f hf; omega⟩ (by have := hs.s2; omega)
  have m3 : (hh.map fracsRow).length = hh.length := by simp
  have m4 : (e.places.map Place.row).length = e.places.length := by simp
  by_cases h0 : check e ≠ 0
  · have e1 : stockL e hh place upto = [] := by unfold stockL; rw [if_neg (fun h => h0 h.1)]
    rw [e1]
    (refine acall_of tab_ok Tryz.func12 rfl (by decide) ?_; (conv => whnf); repeat (first | (refine LitB.data ?_; conv => whnf) | (refine BoxB.data ?_; conv => whnf)))
    (repeat' (first | ((refine DecB.mk (fun h => ?_) (fun h => ?_)) <;> first | (exfalso; omega) | (conv => whnf)) | ((refine BoolB.mk (fun h => ?_) (fun h => ?_)) <;> first | (exact absurd h (by decide)) | (conv => whnf)) | (refine ⟨_, wrap_ok (by omega) (by omega), ?_⟩; conv => whnf) | (refine and_idx (by omega) (by omega) ?_; conv => whnf) | (refine reg_ok (by decide +kernel) ?_; conv => whnf) | (refine bar_ok (by decide +kernel) (by decide +kernel) ?_; conv => whnf) | (refine late_ok rfl rfl ?_; conv => whnf) | (refine src_ok rfl ?_; conv => whnf) | (refine .inl ⟨_, _, qcall_pure (ck) rfl rfl, ?_⟩; conv => whnf) | (refine LitB.data ?_; conv => whnf) | (refine BoxB.own ?_; conv => whnf)))
    all_goals first
      | (exfalso; omega)
      | exact fin_t rfl
  have h0 : check e = 0 := by omega
  cases hsb : shapedB e hh with
  | false =>
    have e1 : stockL e hh place upto = [] := by unfold stockL; rw [if_neg (fun h => by rw [hsb] at h; exact absurd h.2.1 (by simp))]
    rw [e1]
    rw [hsb] at sh
    (refine acall_of tab_ok Tryz.func12 rfl (by decide) ?_; (conv => whnf); repeat (first | (refine LitB.data ?_; conv => whnf) | (refine BoxB.data ?_; conv => whnf)))
    (repeat' (first | ((refine DecB.mk (fun h => ?_) (fun h => ?_)) <;> first | (exfalso; omega) | (conv => whnf)) | ((refine BoolB.mk (fun h => ?_) (fun h => ?_)) <;> first | (exact absurd h (by decide)) | (conv => whnf)) | (refine ⟨_, wrap_ok (by omega) (by omega), ?_⟩; conv => whnf) | (refine and_idx (by omega) (by omega) ?_; conv => whnf) | (refine reg_ok (by decide +kernel) ?_; conv => whnf) | (refine bar_ok (by decide +kernel) (by decide +kernel) ?_; conv => whnf) | (refine late_ok rfl rfl ?_; conv => whnf) | (refine src_ok rfl ?_; conv => whnf) | (refine .inl ⟨_, _, qcall_pure (ck) rfl rfl, ?_⟩; conv => whnf) | (refine .inl ⟨_, _, qcall_pure (sh) rfl rfl, ?_⟩; conv => whnf) | (refine LitB.data ?_; conv => whnf) | (refine BoxB.own ?_; conv => whnf)))
    all_goals first
      | (exfalso; omega)
      | (exfalso; simp_all; done)
      | exact fin_t rfl
  | true =>
    rw [hsb] at sh
    by_cases hr : 0 ≤ place ∧ place < e.places.length ∧ 0 ≤ upto ∧ upto ≤ hh.length
    · obtain ⟨G, rfl, hG⟩ := shaped_rats hsb
      have e1 : stockL e (hz G) place upto = rowF e.mats.toNat (stk e G upto.toNat place.toNat) := by unfold stockL; rw [if_pos ⟨h0, hsb, hr⟩, unz_hz]
      rw [e1]
      have hB := small_rats hS
      obtain ⟨b1, b2, b3, b4⟩ := check_bounds h0
      obtain ⟨w, hw⟩ : ∃ w : Nat, e.mats = w := ⟨e.mats.toNat, by omega⟩
      obtain ⟨p, rfl⟩ : ∃ p : Nat, place = p := ⟨place.toNat, by omega⟩
      obtain ⟨u, rfl⟩ : ∃ u : Nat, upto = u := ⟨upto.toNat, by omega⟩
      have hu : u ≤ e.moves.length := by have := hG.len; simp [hz] at hr; omega
      generalize hN : e.places.length = N at b3 hr
      have no := a_none e N w hN hw (by omega) (by omega)
      have m2 : (e.moves.map Move.row).length = e.moves.length := by simp
      have hwn : e.mats.toNat = w := by omega
      rw [hwn]
      (refine acall_of tab_ok Tryz.func12 rfl (by decide) ?_; (conv => whnf); repeat (first | (refine LitB.data ?_; conv => whnf) | (refine BoxB.data ?_; conv => whnf)))
      (repeat' (first | ((refine DecB.mk (fun h => ?_) (fun h => ?_)) <;> first | (exfalso; omega) | (conv => whnf)) | ((refine BoolB.mk (fun h => ?_) (fun h => ?_)) <;> first | (exact absurd h (by decide)) | (conv => whnf)) | (refine ⟨_, wrap_ok (by omega) (by omega), ?_⟩; conv => whnf) | (refine and_idx (by omega) (by omega) ?_; conv => whnf) | (refine reg_ok (by decide +kernel) ?_; conv => whnf) | (refine bar_ok (by decide +kernel) (by decide +kernel) ?_; conv => whnf) | (refine late_ok rfl rfl ?_; conv => whnf) | (refine src_ok rfl ?_; conv => whnf) | (refine .inl ⟨_, _, qcall_pure (ck) rfl rfl, ?_⟩; conv => whnf) | (refine .inl ⟨_, _, qcall_pure (sh) rfl rfl, ?_⟩; conv => whnf) | (refine .inr ⟨_, _, no, ?_⟩; conv => whnf) | (refine appK_nil ?_; conv => whnf) | (refine sl_ok (by omega) (by omega) (by omega) ?_; conv => whnf) | (refine LitB.data ?_; conv => whnf) | (refine BoxB.own ?_; conv => whnf)))
      all_goals first
        | (exfalso; omega)
        | (exfalso; simp_all; done)
        | skip
      refine awp_for tab_ok (fun k => ([S.junk, histS (hz G), intS .i64 p, S.junk, S.junk, S.junk, S.junk, S.junk, S.junk, S.c (C.own 0 0 N true), S.junk, S.junk, S.junk, S.junk, S.junk, S.junk, S.junk, S.junk, S.junk, S.junk, S.junk, S.junk, S.junk, S.junk, S.junk, S.junk, S.junk, S.junk, S.junk, S.junk, S.junk, S.junk, S.junk, S.junk, S.junk, S.junk, S.junk, S.junk, S.junk, S.junk, S.junk, S.junk, S.junk, S.junk, S.junk, S.junk, S.junk, S.c (C.t (T.sl 6 .any ((e.moves.take u).map Move.row))), intS .i64 u, intS .i64 k, S.junk, S.junk, S.junk, S.junk, S.junk, S.junk, S.junk, S.junk, S.junk, S.junk, S.junk, S.junk, S.junk, S.junk, S.junk, S.junk], matH N w (stk e G k))) u (fun _ => True) (idR (N + 1)) trivial ?_ ?_
      · refine ent_first matH_len (by simp) ok_matH (fun i _ => rfl) ?_
        exact ⟨rfl, rfl, ⟨idR_get (by omega), rfl, rfl, fun h => h⟩, ent_t (by simp [sliceKind, List.map_take]), ent_i (by simp; omega), rfl, trivial⟩
      intro k hk _
      by_cases hlt : k < u
      · obtain ⟨x, hx⟩ : ∃ x, e.moves[k]? = some x := ⟨_, List.getElem?_eq_getElem (by omega)⟩
        obtain ⟨l, hl⟩ : ∃ l, G[k]? = some l := ⟨_, List.getElem?_eq_getElem (by rw [hG.len]; omega)⟩
        have hxt : (e.moves.take u)[k]? = some x := by rw [List.getElem?_take, if_pos hlt]; exact hx
        have ca := a_step e G hG h0 hB hN hw hx hl
        have hok := ok_carry (N := N) (n := N) (x := x) (l := l.map fz)
        conv => whnf
        (repeat' (first | ((refine DecB.mk (fun h => ?_) (fun h => ?_)) <;> first | (exfalso; omega) | (conv => whnf)) | ((refine BoolB.mk (fun h => ?_) (fun h => ?_)) <;> first | (exact absurd h (by decide)) | (conv => whnf)) | (refine ⟨_, wrap_ok (by omega) (by omega), ?_⟩; conv => whnf) | (refine and_idx (by omega) (by omega) ?_; conv => whnf) | (refine reg_ok (by decide +kernel) ?_; conv => whnf) | (refine bar_ok (by decide +kernel) (by decide +kernel) ?_; conv => whnf) | (refine late_ok rfl rfl ?_; conv => whnf) | (refine src_ok rfl ?_; conv => whnf) | (refine .inr ⟨_, _, acall_first _ ca matH_len matH_len hok live_matH old_matH rfl rfl, ?_⟩; conv => whnf) | (refine ex_row hxt ?_; conv => whnf) | (refine ex_row (hz_get hl) ?_; conv => whnf) | (refine lenK_mapA (matF_len _ _ _) ?_; conv => whnf) | (refine lenK_map (matF_len _ _ _) ?_; conv => whnf) | (refine appK_nil ?_; conv => whnf) | (refine appK_mapA ?_; conv => whnf) | (refine appK_ok ?_; conv => whnf) | (refine getK_map0 (matF_len _ _ _) ?_; conv => whnf) | (refine getK_mapT (matF_len _ _ _) ?_; conv => whnf) | (refine setK_map0 (matF_len _ _ _) ?_; conv => whnf) | (refine setK_mapT (matF_len _ _ _) ?_; conv => whnf) | (refine LitB.data ?_; conv => whnf) | (refine BoxB.own ?_; conv => whnf)))
        all_goals try (exfalso; omega)
        refine ⟨hlt, trivial, idR (N + 1), ent_firstA matH_len (by simp) ok_matH ?_⟩
        exact ⟨rfl, rfl, ⟨idR_get (by omega), rfl, rfl, fun h => h⟩, rfl, rfl, rfl, trivial⟩
      · have hke : k = u := by omega
        subst hke
        have eP : 0 + (p : Int).toNat = p := by omega
        have eU : (k : Int).toNat = k := by omega
        have eQ : (p : Int).toNat = p := by omega
        rw [eU, eQ]
        conv => whnf
        (repeat' (first | ((refine DecB.mk (fun h => ?_) (fun h => ?_)) <;> first | (exfalso; omega) | (conv => whnf)) | ((refine BoolB.mk (fun h => ?_) (fun h => ?_)) <;> first | (exact absurd h (by decide)) | (conv => whnf)) | (refine ⟨_, wrap_ok (by omega) (by omega), ?_⟩; conv => whnf) | (refine and_idx (by omega) (by omega) ?_; conv => whnf) | (refine reg_ok (by decide +kernel) ?_; conv => whnf) | (refine bar_ok (by decide +kernel) (by decide +kernel) ?_; conv => whnf) | (refine late_ok rfl rfl ?_; conv => whnf) | (refine src_ok rfl ?_; conv => whnf) | (refine appK_nil ?_; conv => whnf) | (refine ex_ownRowE eP (by omega) ?_; conv => whnf) | (refine LitB.data ?_; conv => whnf) | (refine BoxB.own ?_; conv => whnf)))
        all_goals try (exfalso; omega)
        refine fin_own (k := rowB (rowF w (stk e G k p))) ?_ (by intro h; cases h) rfl rfl (by simp [rowF_len])
        show (matH N w (stk e G k))[p + 1]? = _
        rw [List.getElem?_cons_succ, List.getElem?_map, matF_get (by omega)]; rfl
    · have e1 : stockL e hh place upto = [] := by unfold stockL; rw [if_neg (fun h => hr h.2.2)]
      rw [e1]
      (refine acall_of tab_ok Tryz.func12 rfl (by decide) ?_; (conv => whnf); repeat (first | (refine LitB.data ?_; conv => whnf) | (refine BoxB.data ?_; conv => whnf)))
      (repeat' (first | ((refine DecB.mk (fun h => ?_) (fun h => ?_)) <;> first | (exfalso; omega) | (conv => whnf)) | ((refine BoolB.mk (fun h => ?_) (fun h => ?_)) <;> first | (exact absurd h (by decide)) | (conv => whnf)) | (refine ⟨_, wrap_ok (by omega) (by omega), ?_⟩; conv => whnf) | (refine and_idx (by omega) (by omega) ?_; conv => whnf) | (refine reg_ok (by decide +kernel) ?_; conv => whnf) | (refine bar_ok (by decide +kernel) (by decide +kernel) ?_; conv => whnf) | (refine late_ok rfl rfl ?_; conv => whnf) | (refine src_ok rfl ?_; conv => whnf) | (refine .inl ⟨_, _, qcall_pure (ck) rfl rfl, ?_⟩; conv => whnf) | (refine .inl ⟨_, _, qcall_pure (sh) rfl rfl, ?_⟩; conv => whnf) | (refine .inr ⟨_, _, no, ?_⟩; conv => whnf) | (refine LitB.data ?_; conv => whnf) | (refine BoxB.own ?_; conv => whnf)))
      all_goals first
        | (exfalso; omega)
        | (exfalso; simp_all; done)
        | exact fin_t rfl
end Go.Proofs.YthinjkjhiembgaaGreat
/- history: Mass. -/
namespace Go.Proofs.YthinjkjhiembgaaGreat
open Go.RowKit
set_option linter.unusedVariables false
set_option linter.unusedSimpArgs false
set_option maxRecDepth 100000

structure Pick where
  mv : Int
  mat : Int
def Pick.row (p : Pick) : List T := [ti p.mv, ti p.mat]
abbrev picksT (l : List Pick) : T := .sl 2 .any (l.map Pick.row)
abbrev picksS (l : List Pick) : S := .c (.t (picksT l))
def pickVal (hh : List (List Fr)) (p : Pick) : Option Rat :=
  if 0 ≤ p.mv ∧ 0 ≤ p.mat then match (hh.getD p.mv.toNat [])[p.mat.toNat]? with
    | some f => if rightF f then some (fv f) else none
    | none => none
  else none
def massF (hh : List (List Fr)) : Rat → List Pick → Option Rat
  | a, [] => some a
  | a, p :: r => match pickVal hh p with
    | none => none
    | some v => massF hh (a + v) r
abbrev massL (o : Option Rat) : List S := match o with
  | some x => [frS (fz x), boolS true]
  | none => [frS zeroF, boolS false]
theorem rl_fv {f : Fr} {n : Nat} (h : rightF f = true) (l1 : f.p.dl.length ≤ n) (l2 : f.q.dl.length ≤ n) : rl (fv f) ≤ n := by
  have e := fz_fv h
  have h1 : (fz (fv f)).p.dl.length ≤ n := by rw [← e]; exact l1
  have h2 : (fz (fv f)).q.dl.length ≤ n := by rw [← e]; exact l2
  exact Nat.max_le.2 ⟨h1, h2⟩
set_option maxHeartbeats 4000000 in
theorem a_hMass (hh : List (List Fr)) (ps : List Pick) (hS : SmallH 200 hh) (hp : ps.length ≤ 200) : ACall Tryz.prog 6 [histS hh, picksS ps] [] (.tup (massL (massF hh zR ps))) [] := by
  have m1 : (ps.map Pick.row).length = ps.length := by simp
  have m2 : (hh.map fracsRow).length = hh.length := by simp
  have i0 := z_fInt 0 (by decide) (by decide)
  have h1 := hS.l1
  (refine acall_of tab_ok Tryz.func6 rfl (by decide) ?_; (conv => whnf); repeat (first | (refine LitB.data ?_; conv => whnf) | (refine BoxB.data ?_; conv => whnf)))
  (repeat' (first | ((refine DecB.mk (fun h => ?_) (fun h => ?_)) <;> first | (exfalso; omega) | (conv => whnf)) | ((refine BoolB.mk (fun h => ?_) (fun h => ?_)) <;> first | (exact absurd h (by decide)) | (conv => whnf)) | (refine ⟨_, wrap_ok (by omega) (by omega), ?_⟩; conv => whnf) | (refine and_idx (by omega) (by omega) ?_; conv => whnf) | (refine reg_ok (by decide +kernel) ?_; conv => whnf) | (refine bar_ok (by decide +kernel) (by decide +kernel) ?_; conv => whnf) | (refine late_ok rfl rfl ?_; conv => whnf) | (refine src_ok rfl ?_; conv => whnf) | (refine .inl ⟨_, _, qcall_pure (i0) rfl rfl, ?_⟩; conv => whnf) | (refine LitB.data ?_; conv => whnf) | (refine BoxB.own ?_; conv => whnf)))
  refine awp_while tab_ok (σ := Nat × Rat) (fun | (k, a) => ([histS hh, S.junk, S.junk, S.junk, S.c (C.ptr 0 0 0), S.junk, S.c (C.ptr 1 0 0), S.junk, S.junk, S.junk, picksS ps, intS .i64 ps.length, intS .i64 k, S.junk, S.junk, S.junk, S.junk, S.junk, S.junk, S.junk, S.junk, S.junk, S.junk, S.junk, S.junk, S.junk, S.junk, S.junk, S.junk, S.junk, S.junk, S.junk, S.junk, S.junk, S.junk, S.junk, S.junk, S.junk, S.junk, S.junk, S.junk, S.junk, S.junk, S.junk, S.junk, S.junk, S.junk, S.junk, S.junk, S.junk, S.junk, S.junk, S.junk, S.junk, S.junk, S.junk, S.junk, S.junk, S.junk, S.junk, S.junk, S.junk, S.junk, S.junk, S.junk, S.junk, S.junk, S.junk, S.junk, S.junk, S.junk, S.junk], [frB zeroF, frB (fz a)])) (fun s => s.1 ≤ ps.length ∧ massF hh s.2 (ps.drop s.1) = massF hh zR ps ∧ rl s.2 ≤ s.1 * 201 + 1) (fun s => ps.length - s.1) (0, zR) [some 0, some 1]
    ⟨Nat.zero_le _, rfl, by rw [rl_zero]; omega⟩ ⟨rfl, rfl, ⟨⟨rfl, rfl, rfl, .inr ⟨⟨rfl, rfl, rfl, rfl, trivial⟩, trivial⟩⟩, ⟨rfl, rfl, rfl, .inl ⟨rfl, rowsT_fr _⟩⟩, trivial⟩, ⟨rfl, ⟨rfl, rfl, rfl⟩, ⟨rfl, rfl, rfl⟩, ent_t rfl, ent_i (by simp), rfl, trivial⟩⟩ ?_
  rintro ⟨k, a⟩ ⟨hk, hI, hr⟩
  have hk : k ≤ ps.length := hk
  have hI : massF hh a (ps.drop k) = massF hh zR ps := hI
  have hr : rl a ≤ k * 201 + 1 := hr
  by_cases hlt : k < ps.length
  · obtain ⟨p, hpk⟩ : ∃ p, ps[k]? = some p := ⟨_, List.getElem?_eq_getElem hlt⟩
    rw [drop_get hpk] at hI
    have hI : (match pickVal hh p with | none => none | some v => massF hh (a + v) (ps.drop (k + 1))) = massF hh zR ps := hI
    by_cases hmv : 0 ≤ p.mv ∧ p.mv < hh.length
    · obtain ⟨l, hl⟩ : ∃ l, hh[p.mv.toNat]? = some l := ⟨_, List.getElem?_eq_getElem (by omega)⟩
      have m3 : (l.map frRow).length = l.length := by simp
      have hgd : hh.getD p.mv.toNat [] = l := by rw [List.getD_eq_getElem?_getD, hl]; rfl
      by_cases hmt : 0 ≤ p.mat ∧ p.mat < l.length
      · obtain ⟨f, hf⟩ : ∃ f, l[p.mat.toNat]? = some f := ⟨_, List.getElem?_eq_getElem (by omega)⟩
        obtain ⟨q1, q2⟩ := hS.l3 l (List.mem_of_getElem? hl) f (List.mem_of_getElem? hf)
        have r := a_fRight f (by omega) (by omega)
        cases hrf : rightF f with
        | false =>
          have hv : pickVal hh p = none := by unfold pickVal; rw [if_pos ⟨hmv.1, hmt.1⟩, hgd, hf]; simp [hrf]
          rw [hv] at hI
          rw [hrf] at r
          conv => whnf
          (repeat' (first | ((refine DecB.mk (fun h => ?_) (fun h => ?_)) <;> first | (exfalso; omega) | (conv => whnf)) | ((refine BoolB.mk (fun h => ?_) (fun h => ?_)) <;> first | (exact absurd h (by decide)) | (conv => whnf)) | (refine ⟨_, wrap_ok (by omega) (by omega), ?_⟩; conv => whnf) | (refine and_idx (by omega) (by omega) ?_; conv => whnf) | (refine reg_ok (by decide +kernel) ?_; conv => whnf) | (refine bar_ok (by decide +kernel) (by decide +kernel) ?_; conv => whnf) | (refine late_ok rfl rfl ?_; conv => whnf) | (refine src_ok rfl ?_; conv => whnf) | (refine .inl ⟨_, _, qcall_pure (r) rfl rfl, ?_⟩; conv => whnf) | (refine ex_row hpk ?_; conv => whnf) | (refine ex_rowI (by omega) hl ?_; conv => whnf) | (refine ex_rowI (by omega) hf ?_; conv => whnf) | (refine LitB.data ?_; conv => whnf) | (refine BoxB.own ?_; conv => whnf)))
          all_goals first
            | (exfalso; omega)
            | (rw [← hI]; exact fin_t ⟨⟨rfl, rfl, rfl, rfl, trivial⟩, rfl, trivial⟩)
        | true =>
          have hv : pickVal hh p = some (fv f) := by unfold pickVal; rw [if_pos ⟨hmv.1, hmt.1⟩, hgd, hf]; simp [hrf]
          rw [hv] at hI
          have hI : massF hh (a + fv f) (ps.drop (k + 1)) = massF hh zR ps := hI
          rw [hrf] at r
          have bf := rl_fv hrf q1 q2
          have ba := rl_add a (fv f)
          have ad := z_fAdd a (fv f) (by omega) (by omega)
          rw [← fz_fv hrf] at ad
          conv => whnf
          (repeat' (first | ((refine DecB.mk (fun h => ?_) (fun h => ?_)) <;> first | (exfalso; omega) | (conv => whnf)) | ((refine BoolB.mk (fun h => ?_) (fun h => ?_)) <;> first | (exact absurd h (by decide)) | (conv => whnf)) | (refine ⟨_, wrap_ok (by omega) (by omega), ?_⟩; conv => whnf) | (refine and_idx (by omega) (by omega) ?_; conv => whnf) | (refine reg_ok (by decide +kernel) ?_; conv => whnf) | (refine bar_ok (by decide +kernel) (by decide +kernel) ?_; conv => whnf) | (refine late_ok rfl rfl ?_; conv => whnf) | (refine src_ok rfl ?_; conv => whnf) | (refine .inl ⟨_, _, qcall_pure (r) rfl rfl, ?_⟩; conv => whnf) | (refine .inl ⟨_, _, qcall_pure (ad) rfl rfl, ?_⟩; conv => whnf) | (refine .inl ⟨_, _, qcall_pure (13) rfl rfl, ?_⟩; conv => whnf) | (refine ex_row hpk ?_; conv => whnf) | (refine ex_rowI (by omega) hl ?_; conv => whnf) | (refine ex_rowI (by omega) hf ?_; conv => whnf) | (refine bar_late [13] (by decide +kernel) (by decide +kernel) ?_; conv => whnf) | (refine LitB.data ?_; conv => whnf) | (refine BoxB.own ?_; conv => whnf)))
          all_goals first
            | (exfalso; omega)
            | exact ⟨[some 0, some 1], (k + 1, a + fv f), ⟨rfl, rfl, ⟨⟨rfl, rfl, rfl, .inl ⟨rfl, rowsT_fr _⟩⟩, ⟨rfl, rfl, rfl, .inl ⟨rfl, rowsT_fr _⟩⟩, trivial⟩, ⟨rfl, ⟨rfl, rfl, rfl⟩, ⟨rfl, rfl, rfl⟩, rfl, rfl, ent_i (by omega), trivial⟩⟩, ⟨hlt, hI, by show rl (a + fv f) ≤ (k + 1) * 201 + 1; omega⟩, by show ps.length - (k + 1) < ps.length - k; omega⟩
      · have hv : pickVal hh p = none := by
          unfold pickVal
          by_cases hc : 0 ≤ p.mv ∧ 0 ≤ p.mat
          · rw [if_pos hc, hgd, List.getElem?_eq_none (by omega)]
          · rw [if_neg hc]
        rw [hv] at hI
        conv => whnf
        (repeat' (first | ((refine DecB.mk (fun h => ?_) (fun h => ?_)) <;> first | (exfalso; omega) | (conv => whnf)) | ((refine BoolB.mk (fun h => ?_) (fun h => ?_)) <;> first | (exact absurd h (by decide)) | (conv => whnf)) | (refine ⟨_, wrap_ok (by omega) (by omega), ?_⟩; conv => whnf) | (refine and_idx (by omega) (by omega) ?_; conv => whnf) | (refine reg_ok (by decide +kernel) ?_; conv => whnf) | (refine bar_ok (by decide +kernel) (by decide +kernel) ?_; conv => whnf) | (refine late_ok rfl rfl ?_; conv => whnf) | (refine src_ok rfl ?_; conv => whnf) | (refine ex_row hpk ?_; conv => whnf) | (refine ex_rowI (by omega) hl ?_; conv => whnf) | (refine LitB.data ?_; conv => whnf) | (refine BoxB.own ?_; conv => whnf)))
        all_goals first
          | (exfalso; omega)
          | (rw [← hI]; exact fin_t ⟨⟨rfl, rfl, rfl, rfl, trivial⟩, rfl, trivial⟩)
    · have hv : pickVal hh p = none := by
        unfold pickVal
        by_cases hc : 0 ≤ p.mv ∧ 0 ≤ p.mat
        · rw [if_pos hc, List.getD_eq_getElem?_getD, List.getElem?_eq_none (l := hh) (i := p.mv.toNat) (by omega)]; rfl
        · rw [if_neg hc]
      rw [hv] at hI
      conv => whnf
      (repeat' (first | ((refine DecB.mk (fun h => ?_) (fun h => ?_)) <;> first | (exfalso; omega) | (conv => whnf)) | ((refine BoolB.mk (fun h => ?_) (fun h => ?_)) <;> first | (exact absurd h (by decide)) | (conv => whnf)) | (refine ⟨_, wrap_ok (by omega) (by omega), ?_⟩; conv => whnf) | (refine and_idx (by omega) (by omega) ?_; conv => whnf) | (refine reg_ok (by decide +kernel) ?_; conv => whnf) | (refine bar_ok (by decide +kernel) (by decide +kernel) ?_; conv => whnf) | (refine late_ok rfl rfl ?_; conv => whnf) | (refine src_ok rfl ?_; conv => whnf) | (refine ex_row hpk ?_; conv => whnf) | (refine LitB.data ?_; conv => whnf) | (refine BoxB.own ?_; conv => whnf)))
      all_goals first
        | (exfalso; omega)
        | (rw [← hI]; exact fin_t ⟨⟨rfl, rfl, rfl, rfl, trivial⟩, rfl, trivial⟩)
  · have hke : k = ps.length := by omega
    subst hke
    rw [List.drop_of_length_le (Nat.le_refl _)] at hI
    have hI : some a = massF hh zR ps := hI
    rw [← hI]
    conv => whnf
    (repeat' (first | ((refine DecB.mk (fun h => ?_) (fun h => ?_)) <;> first | (exfalso; omega) | (conv => whnf)) | ((refine BoolB.mk (fun h => ?_) (fun h => ?_)) <;> first | (exact absurd h (by decide)) | (conv => whnf)) | (refine ⟨_, wrap_ok (by omega) (by omega), ?_⟩; conv => whnf) | (refine and_idx (by omega) (by omega) ?_; conv => whnf) | (refine reg_ok (by decide +kernel) ?_; conv => whnf) | (refine bar_ok (by decide +kernel) (by decide +kernel) ?_; conv => whnf) | (refine late_ok rfl rfl ?_; conv => whnf) | (refine src_ok rfl ?_; conv => whnf) | (refine LitB.data ?_; conv => whnf) | (refine BoxB.own ?_; conv => whnf)))
    all_goals first
      | (exfalso; omega)
      | exact fin_t ⟨⟨rfl, rfl, rfl, rfl, trivial⟩, rfl, trivial⟩
end Go.Proofs.YthinjkjhiembgaaGreat
/- The reference's history: add, sub, times, Form, Moved, at, Interval, pure. -/
namespace Go.Proofs.YthinjkjhiembgaaGreat
open Go.RowKit
set_option linter.unusedVariables false
set_option linter.unusedSimpArgs false
set_option maxRecDepth 100000

theorem r15add (x y : Rat) (lx : rl x ≤ 60000) (ly : rl y ≤ 60000) : ACall Tryz.prog 23 [frS (fz x), frS (fz y)] [] (frS (fz (x + y))) [] := by
  have a := r5Add x y lx ly
  (refine acall_of tab_ok Tryz.func23 rfl (by decide) ?_; (conv => whnf); repeat (first | (refine LitB.data ?_; conv => whnf) | (refine BoxB.data ?_; conv => whnf)))
  (repeat' (first | ((refine DecB.mk (fun h => ?_) (fun h => ?_)) <;> first | (exfalso; omega) | (conv => whnf)) | ((refine BoolB.mk (fun h => ?_) (fun h => ?_)) <;> first | (exact absurd h (by decide)) | (conv => whnf)) | (refine ⟨_, wrap_ok (by omega) (by omega), ?_⟩; conv => whnf) | (refine and_idx (by omega) (by omega) ?_; conv => whnf) | (refine reg_ok (by decide +kernel) ?_; conv => whnf) | (refine bar_ok (by decide +kernel) (by decide +kernel) ?_; conv => whnf) | (refine late_ok rfl rfl ?_; conv => whnf) | (refine src_ok rfl ?_; conv => whnf) | (refine .inl ⟨_, _, qcall_pure (a) rfl rfl, ?_⟩; conv => whnf) | (refine .inl ⟨_, _, qcall_pure (5) rfl rfl, ?_⟩; conv => whnf) | (refine bar_late [5] (by decide +kernel) (by decide +kernel) ?_; conv => whnf) | (refine LitB.data ?_; conv => whnf) | (refine BoxB.own ?_; conv => whnf)))
  all_goals exact fin_f rfl
theorem r15sub (x y : Rat) (lx : rl x ≤ 60000) (ly : rl y ≤ 60000) : ACall Tryz.prog 70 [frS (fz x), frS (fz y)] [] (frS (fz (x - y))) [] := by
  have a := r5Sub x y lx ly
  (refine acall_of tab_ok Tryz.func70 rfl (by decide) ?_; (conv => whnf); repeat (first | (refine LitB.data ?_; conv => whnf) | (refine BoxB.data ?_; conv => whnf)))
  (repeat' (first | ((refine DecB.mk (fun h => ?_) (fun h => ?_)) <;> first | (exfalso; omega) | (conv => whnf)) | ((refine BoolB.mk (fun h => ?_) (fun h => ?_)) <;> first | (exact absurd h (by decide)) | (conv => whnf)) | (refine ⟨_, wrap_ok (by omega) (by omega), ?_⟩; conv => whnf) | (refine and_idx (by omega) (by omega) ?_; conv => whnf) | (refine reg_ok (by decide +kernel) ?_; conv => whnf) | (refine bar_ok (by decide +kernel) (by decide +kernel) ?_; conv => whnf) | (refine late_ok rfl rfl ?_; conv => whnf) | (refine src_ok rfl ?_; conv => whnf) | (refine .inl ⟨_, _, qcall_pure (a) rfl rfl, ?_⟩; conv => whnf) | (refine .inl ⟨_, _, qcall_pure (5) rfl rfl, ?_⟩; conv => whnf) | (refine bar_late [5] (by decide +kernel) (by decide +kernel) ?_; conv => whnf) | (refine LitB.data ?_; conv => whnf) | (refine BoxB.own ?_; conv => whnf)))
  all_goals exact fin_f rfl
theorem r15times (n : Int) (y : Rat) (h0 : 0 ≤ n) (h1 : n ≤ 1000) (ly : rl y ≤ 60000) : ACall Tryz.prog 99 [intS .i64 n, frS (fz y)] [] (frS (fz ((n : Rat) * y))) [] := by
  have i := r5Int n (by omega) (by omega)
  have b : rl (n : Rat) ≤ 4 := by rw [rl_int]; have := bl_int (x := n) (by omega) (by omega); omega
  have a := r5Mul (n : Rat) y (by omega) ly
  (refine acall_of tab_ok Tryz.func99 rfl (by decide) ?_; (conv => whnf); repeat (first | (refine LitB.data ?_; conv => whnf) | (refine BoxB.data ?_; conv => whnf)))
  (repeat' (first | ((refine DecB.mk (fun h => ?_) (fun h => ?_)) <;> first | (exfalso; omega) | (conv => whnf)) | ((refine BoolB.mk (fun h => ?_) (fun h => ?_)) <;> first | (exact absurd h (by decide)) | (conv => whnf)) | (refine ⟨_, wrap_ok (by omega) (by omega), ?_⟩; conv => whnf) | (refine and_idx (by omega) (by omega) ?_; conv => whnf) | (refine reg_ok (by decide +kernel) ?_; conv => whnf) | (refine bar_ok (by decide +kernel) (by decide +kernel) ?_; conv => whnf) | (refine late_ok rfl rfl ?_; conv => whnf) | (refine src_ok rfl ?_; conv => whnf) | (refine .inl ⟨_, _, qcall_pure (i) rfl rfl, ?_⟩; conv => whnf) | (refine .inl ⟨_, _, qcall_pure (a) rfl rfl, ?_⟩; conv => whnf) | (refine .inl ⟨_, _, qcall_pure (6) rfl rfl, ?_⟩; conv => whnf) | (refine bar_late [6] (by decide +kernel) (by decide +kernel) ?_; conv => whnf) | (refine LitB.data ?_; conv => whnf) | (refine BoxB.own ?_; conv => whnf)))
  all_goals exact fin_f rfl
theorem r15Moved (l : List Rat) (hB : ∀ x ∈ l, rl x ≤ 200) (hl : l.length ≤ 200) : ACall Tryz.prog 68 [fracsS (l.map fz)] [] (frS (fz (sumR l))) [] := by
  have m1 : ((l.map fz).map frRow).length = l.length := by simp
  have i0 := r5Int 0 (by decide) (by decide)
  (refine acall_of tab_ok Tryz.func68 rfl (by decide) ?_; (conv => whnf); repeat (first | (refine LitB.data ?_; conv => whnf) | (refine BoxB.data ?_; conv => whnf)))
  (repeat' (first | ((refine DecB.mk (fun h => ?_) (fun h => ?_)) <;> first | (exfalso; omega) | (conv => whnf)) | ((refine BoolB.mk (fun h => ?_) (fun h => ?_)) <;> first | (exact absurd h (by decide)) | (conv => whnf)) | (refine ⟨_, wrap_ok (by omega) (by omega), ?_⟩; conv => whnf) | (refine and_idx (by omega) (by omega) ?_; conv => whnf) | (refine reg_ok (by decide +kernel) ?_; conv => whnf) | (refine bar_ok (by decide +kernel) (by decide +kernel) ?_; conv => whnf) | (refine late_ok rfl rfl ?_; conv => whnf) | (refine src_ok rfl ?_; conv => whnf) | (refine .inl ⟨_, _, qcall_pure (i0) rfl rfl, ?_⟩; conv => whnf) | (refine LitB.data ?_; conv => whnf) | (refine BoxB.own ?_; conv => whnf)))
  refine awp_for tab_ok (fun k => ([fracsS (l.map fz), S.junk, S.c (C.ptr 0 0 0), S.c (C.ptr 1 0 0), intS .i64 k, S.junk, S.junk, S.junk, S.junk, S.junk, S.junk, S.junk, S.junk, S.junk, S.junk, S.junk, S.junk, S.junk, S.junk], [frB zeroF, frB (fz (sumR (l.take k)))])) l.length (fun _ => True) [some 0, some 1] trivial
    ⟨rfl, rfl, ⟨⟨rfl, rfl, rfl, .inr ⟨⟨rfl, rfl, rfl, rfl, trivial⟩, trivial⟩⟩, ⟨rfl, rfl, rfl, .inl ⟨rfl, rowsT_fr _⟩⟩, trivial⟩, ⟨rfl, ⟨rfl, rfl, rfl⟩, ⟨rfl, rfl, rfl⟩, rfl, trivial⟩⟩ ?_
  intro k hk _
  by_cases hlt : k < l.length
  · obtain ⟨x, hx⟩ : ∃ x, l[k]? = some x := ⟨_, List.getElem?_eq_getElem hlt⟩
    have bx := hB x (List.mem_of_getElem? hx)
    have bs := rl_sumR (l := l.take k) (B := 200) fun y hy => hB y (List.mem_of_mem_take hy)
    have lt : (l.take k).length ≤ 200 := by simp; omega
    have bs2 : rl (sumR (l.take k)) ≤ 200 * 201 + 1 := Nat.le_trans bs (by have := Nat.mul_le_mul_right (200 + 1) lt; omega)
    have ad := r15add (sumR (l.take k)) x (by omega) (by omega)
    rw [← sumR_take hx] at ad
    conv => whnf
    (repeat' (first | ((refine DecB.mk (fun h => ?_) (fun h => ?_)) <;> first | (exfalso; omega) | (conv => whnf)) | ((refine BoolB.mk (fun h => ?_) (fun h => ?_)) <;> first | (exact absurd h (by decide)) | (conv => whnf)) | (refine ⟨_, wrap_ok (by omega) (by omega), ?_⟩; conv => whnf) | (refine and_idx (by omega) (by omega) ?_; conv => whnf) | (refine reg_ok (by decide +kernel) ?_; conv => whnf) | (refine bar_ok (by decide +kernel) (by decide +kernel) ?_; conv => whnf) | (refine late_ok rfl rfl ?_; conv => whnf) | (refine src_ok rfl ?_; conv => whnf) | (refine .inl ⟨_, _, qcall_pure (ad) rfl rfl, ?_⟩; conv => whnf) | (refine ex_row (zero_get l hx) ?_; conv => whnf) | (refine LitB.data ?_; conv => whnf) | (refine BoxB.own ?_; conv => whnf)))
    all_goals first
      | (exfalso; omega)
      | exact ⟨hlt, trivial, [some 0, some 1], rfl, rfl, ⟨⟨rfl, rfl, rfl, .inl ⟨rfl, rowsT_fr _⟩⟩, ⟨rfl, rfl, rfl, .inl ⟨rfl, rowsT_fr _⟩⟩, trivial⟩, ⟨rfl, ⟨rfl, rfl, rfl⟩, ⟨rfl, rfl, rfl⟩, rfl, trivial⟩⟩
  · have hke : k = l.length := by omega
    subst hke
    rw [List.take_of_length_le (Nat.le_refl _)]
    conv => whnf
    (repeat' (first | ((refine DecB.mk (fun h => ?_) (fun h => ?_)) <;> first | (exfalso; omega) | (conv => whnf)) | ((refine BoolB.mk (fun h => ?_) (fun h => ?_)) <;> first | (exact absurd h (by decide)) | (conv => whnf)) | (refine ⟨_, wrap_ok (by omega) (by omega), ?_⟩; conv => whnf) | (refine and_idx (by omega) (by omega) ?_; conv => whnf) | (refine reg_ok (by decide +kernel) ?_; conv => whnf) | (refine bar_ok (by decide +kernel) (by decide +kernel) ?_; conv => whnf) | (refine late_ok rfl rfl ?_; conv => whnf) | (refine src_ok rfl ?_; conv => whnf) | (refine LitB.data ?_; conv => whnf) | (refine BoxB.own ?_; conv => whnf)))
    all_goals first
      | (exfalso; omega)
      | exact fin_f rfl
theorem r15Form (e : Ev) (hh : List (List Fr)) (hs : SmallH 200000 hh) (hm : e.moves.length ≤ 1000000) : ACall Tryz.prog 35 [evS e, histS hh] [] (boolS (shapedB e hh)) [] := by
  have m1 : (hh.map fracsRow).length = hh.length := by simp
  have m2 : (e.moves.map Move.row).length = e.moves.length := by simp
  have l1 := hs.l1
  let P : List Fr → Bool := fun l => decide ((l.length : Int) = e.mats) && l.all rightF
  have hP : shapedB e hh = (decide (hh.length = e.moves.length) && hh.all P) := rfl
  (refine acall_of tab_ok Tryz.func35 rfl (by decide) ?_; (conv => whnf); repeat (first | (refine LitB.data ?_; conv => whnf) | (refine BoxB.data ?_; conv => whnf)))
  (repeat' (first | ((refine DecB.mk (fun h => ?_) (fun h => ?_)) <;> first | (exfalso; omega) | (conv => whnf)) | ((refine BoolB.mk (fun h => ?_) (fun h => ?_)) <;> first | (exact absurd h (by decide)) | (conv => whnf)) | (refine ⟨_, wrap_ok (by omega) (by omega), ?_⟩; conv => whnf) | (refine and_idx (by omega) (by omega) ?_; conv => whnf) | (refine reg_ok (by decide +kernel) ?_; conv => whnf) | (refine bar_ok (by decide +kernel) (by decide +kernel) ?_; conv => whnf) | (refine late_ok rfl rfl ?_; conv => whnf) | (refine src_ok rfl ?_; conv => whnf) | (refine LitB.data ?_; conv => whnf) | (refine BoxB.own ?_; conv => whnf)))
  refine awp_for tab_ok (fun k => ([S.junk, histS hh, S.c (C.t (evP e)), S.junk, S.junk, intS .i64 k, S.junk, S.junk, S.junk, S.junk, S.junk, S.junk, S.junk, S.junk, S.junk, S.junk, S.junk, S.junk, S.junk, S.junk, S.junk, S.junk, S.junk, S.junk, S.junk, S.junk, S.junk, S.junk, S.junk, S.junk, S.junk, S.junk, S.junk, S.junk, S.junk, S.junk, S.junk, S.junk, S.junk, S.junk, S.junk, S.junk, S.junk, S.junk, S.junk], [])) hh.length (fun k => (hh.take k).all P = true) [] rfl
    ⟨rfl, rfl, trivial, ⟨rfl, rfl, rfl, trivial⟩⟩ ?_
  intro k hk hI
  by_cases hlt : k < hh.length
  · obtain ⟨l, hl⟩ : ∃ l, hh[k]? = some l := ⟨_, List.getElem?_eq_getElem hlt⟩
    have hmem := List.mem_of_getElem? hl
    have l2 := hs.l2 l hmem
    have m3 : (l.map frRow).length = l.length := by simp
    have hall : (hh.take (k + 1)).all P = P l := by rw [all_take_succ hl, hI, Bool.true_and]
    conv => whnf
    (repeat' (first | ((refine DecB.mk (fun h => ?_) (fun h => ?_)) <;> first | (exfalso; omega) | (conv => whnf)) | ((refine BoolB.mk (fun h => ?_) (fun h => ?_)) <;> first | (exact absurd h (by decide)) | (conv => whnf)) | (refine ⟨_, wrap_ok (by omega) (by omega), ?_⟩; conv => whnf) | (refine and_idx (by omega) (by omega) ?_; conv => whnf) | (refine reg_ok (by decide +kernel) ?_; conv => whnf) | (refine bar_ok (by decide +kernel) (by decide +kernel) ?_; conv => whnf) | (refine late_ok rfl rfl ?_; conv => whnf) | (refine src_ok rfl ?_; conv => whnf) | (refine ex_row hl ?_; conv => whnf) | (refine LitB.data ?_; conv => whnf) | (refine BoxB.own ?_; conv => whnf)))
    all_goals try (exfalso; omega)
    refine awp_for tab_ok (fun j => ([S.junk, histS hh, S.c (C.t (evP e)), S.junk, S.junk, intS .i64 k, intS .i64 j, S.junk, S.junk, S.junk, S.junk, S.junk, S.junk, S.junk, S.junk, S.junk, S.junk, S.junk, S.junk, S.junk, S.junk, S.junk, S.junk, S.junk, S.junk, S.junk, S.junk, S.junk, S.junk, S.junk, S.junk, S.junk, S.junk, S.junk, S.junk, S.junk, S.junk, S.junk, S.junk, S.junk, S.junk, S.junk, S.junk, S.junk, S.junk], [])) l.length (fun j => (l.take j).all rightF = true) [] rfl
      ⟨rfl, rfl, trivial, ⟨rfl, rfl, rfl, rfl, trivial⟩⟩ ?_
    intro j hj hJ
    by_cases hjt : j < l.length
    · obtain ⟨f, hf⟩ : ∃ f, l[j]? = some f := ⟨_, List.getElem?_eq_getElem hjt⟩
      have l3 := hs.l3 l hmem f (List.mem_of_getElem? hf)
      have r := r5Right f l3.1 l3.2
      conv => whnf
      (repeat' (first | ((refine DecB.mk (fun h => ?_) (fun h => ?_)) <;> first | (exfalso; omega) | (conv => whnf)) | ((refine BoolB.mk (fun h => ?_) (fun h => ?_)) <;> first | (exact absurd h (by decide)) | (conv => whnf)) | (refine ⟨_, wrap_ok (by omega) (by omega), ?_⟩; conv => whnf) | (refine and_idx (by omega) (by omega) ?_; conv => whnf) | (refine reg_ok (by decide +kernel) ?_; conv => whnf) | (refine bar_ok (by decide +kernel) (by decide +kernel) ?_; conv => whnf) | (refine late_ok rfl rfl ?_; conv => whnf) | (refine src_ok rfl ?_; conv => whnf) | (refine .inl ⟨_, _, qcall_pure (r) rfl rfl, ?_⟩; conv => whnf) | (refine ex_row hl ?_; conv => whnf) | (refine ex_row hf ?_; conv => whnf) | (refine LitB.data ?_; conv => whnf) | (refine BoxB.own ?_; conv => whnf)))
      all_goals first
        | (exfalso; omega)
        | (have hr : rightF f = true := by assumption
           exact ⟨hjt, by rw [all_take_succ hf, hJ, hr]; rfl, [], rfl, rfl, trivial, ⟨rfl, rfl, rfl, rfl, trivial⟩⟩)
        | (have hr : rightF f = false := by assumption
           refine fin_bool ?_
           rw [hP, all_of_get hl (by simp only [P]; rw [all_of_get hf hr, Bool.and_false]), Bool.and_false])
    · have hje : j = l.length := by omega
      subst hje
      have hJ2 := all_take_full hJ
      conv => whnf
      (repeat' (first | ((refine DecB.mk (fun h => ?_) (fun h => ?_)) <;> first | (exfalso; omega) | (conv => whnf)) | ((refine BoolB.mk (fun h => ?_) (fun h => ?_)) <;> first | (exact absurd h (by decide)) | (conv => whnf)) | (refine ⟨_, wrap_ok (by omega) (by omega), ?_⟩; conv => whnf) | (refine and_idx (by omega) (by omega) ?_; conv => whnf) | (refine reg_ok (by decide +kernel) ?_; conv => whnf) | (refine bar_ok (by decide +kernel) (by decide +kernel) ?_; conv => whnf) | (refine late_ok rfl rfl ?_; conv => whnf) | (refine src_ok rfl ?_; conv => whnf) | (refine ex_row hl ?_; conv => whnf) | (refine LitB.data ?_; conv => whnf) | (refine BoxB.own ?_; conv => whnf)))
      all_goals first
        | (exfalso; omega)
        | (have hd : (l.length : Int) = e.mats := by omega
           exact ⟨hlt, by rw [hall]; simp only [P]; rw [hJ2]; simp [hd], [], rfl, rfl, trivial, ⟨rfl, rfl, rfl, trivial⟩⟩)
        | (have hd : ¬ (l.length : Int) = e.mats := by omega
           refine fin_bool ?_
           rw [hP, all_of_get hl (by simp [P, hd])]; simp)
  · have hke : k = hh.length := by omega
    subst hke
    have hI2 := all_take_full hI
    conv => whnf
    (repeat' (first | ((refine DecB.mk (fun h => ?_) (fun h => ?_)) <;> first | (exfalso; omega) | (conv => whnf)) | ((refine BoolB.mk (fun h => ?_) (fun h => ?_)) <;> first | (exact absurd h (by decide)) | (conv => whnf)) | (refine ⟨_, wrap_ok (by omega) (by omega), ?_⟩; conv => whnf) | (refine and_idx (by omega) (by omega) ?_; conv => whnf) | (refine reg_ok (by decide +kernel) ?_; conv => whnf) | (refine bar_ok (by decide +kernel) (by decide +kernel) ?_; conv => whnf) | (refine late_ok rfl rfl ?_; conv => whnf) | (refine src_ok rfl ?_; conv => whnf) | (refine LitB.data ?_; conv => whnf) | (refine BoxB.own ?_; conv => whnf)))
    all_goals first
      | (exfalso; omega)
      | (refine fin_bool ?_; rw [hP, hI2]; simp; omega)
theorem r15at (e : Ev) (G : List (List Rat)) (hG : Shape e G) (h0 : check e = 0) (hB : ∀ l ∈ G, ∀ x ∈ l, rl x ≤ 200) (p m u : Nat) (hm : (m : Int) < e.mats) (hu : u ≤ e.moves.length) :
    ACall Tryz.prog 37 [evS e, histS (hz G), intS .i64 p, intS .i64 m, intS .i64 u] [] (frS (fz (stk e G u p m))) [] := by
  have i0 := r5Int 0 (by decide) (by decide)
  obtain ⟨b1, b2, b3, b4⟩ := check_bounds h0
  have m2 : (e.moves.map Move.row).length = e.moves.length := by simp
  (refine acall_of tab_ok Tryz.func37 rfl (by decide) ?_; (conv => whnf); repeat (first | (refine LitB.data ?_; conv => whnf) | (refine BoxB.data ?_; conv => whnf)))
  (repeat' (first | ((refine DecB.mk (fun h => ?_) (fun h => ?_)) <;> first | (exfalso; omega) | (conv => whnf)) | ((refine BoolB.mk (fun h => ?_) (fun h => ?_)) <;> first | (exact absurd h (by decide)) | (conv => whnf)) | (refine ⟨_, wrap_ok (by omega) (by omega), ?_⟩; conv => whnf) | (refine and_idx (by omega) (by omega) ?_; conv => whnf) | (refine reg_ok (by decide +kernel) ?_; conv => whnf) | (refine bar_ok (by decide +kernel) (by decide +kernel) ?_; conv => whnf) | (refine late_ok rfl rfl ?_; conv => whnf) | (refine src_ok rfl ?_; conv => whnf) | (refine .inl ⟨_, _, qcall_pure (i0) rfl rfl, ?_⟩; conv => whnf) | (refine LitB.data ?_; conv => whnf) | (refine BoxB.own ?_; conv => whnf)))
  refine awp_for tab_ok (fun k => ([S.junk, histS (hz G), intS .i64 p, intS .i64 m, intS .i64 u, S.c (C.t (evP e)), S.junk, S.junk, S.junk, S.junk, S.c (C.ptr 0 0 0), S.c (C.ptr 1 0 0), intS .i64 k, S.junk, S.junk, S.junk, S.junk, S.junk, S.junk, S.junk, S.junk, S.junk, S.junk, S.junk, S.junk, S.junk, S.junk, S.junk, S.junk, S.junk, S.junk, S.junk, S.junk, S.junk, S.junk, S.junk, S.junk, S.junk, S.junk, S.junk, S.junk, S.junk, S.junk, S.junk, S.junk, S.junk, S.junk, S.junk, S.junk, S.junk, S.junk, S.junk, S.junk, S.junk], [frB zeroF, frB (fz (stk e G k p m))])) u (fun _ => True) [some 0, some 1] trivial
    ⟨rfl, rfl, ⟨⟨rfl, rfl, rfl, .inr ⟨⟨rfl, rfl, rfl, rfl, trivial⟩, trivial⟩⟩, ⟨rfl, rfl, rfl, .inl ⟨rfl, rowsT_fr _⟩⟩, trivial⟩, ⟨rfl, rfl, rfl, rfl, rfl, ⟨rfl, rfl, rfl⟩, ⟨rfl, rfl, rfl⟩, rfl, trivial⟩⟩ ?_
  intro k hk _
  by_cases hlt : k < u
  · obtain ⟨x, hx⟩ : ∃ x, e.moves[k]? = some x := ⟨_, List.getElem?_eq_getElem (by omega)⟩
    obtain ⟨l, hl⟩ : ∃ l, G[k]? = some l := ⟨_, List.getElem?_eq_getElem (by rw [hG.len]; omega)⟩
    have hmem := List.mem_of_getElem? hl
    have hw := hG.wid l hmem
    obtain ⟨v, hv⟩ : ∃ v, l[m]? = some v := ⟨_, List.getElem?_eq_getElem (by omega)⟩
    have hgd : hAt G k m = v := by unfold hAt; rw [show G.getD k [] = l by rw [List.getD_eq_getElem?_getD, hl]; rfl, List.getD_eq_getElem?_getD, hv]; rfl
    have hlB := hB l hmem v (List.mem_of_getElem? hv)
    have hF : rl (stk e G k p m) ≤ 50000 := by
      have := rl_stk (e := e) hB (by decide) k p m
      have h2 := Nat.mul_le_mul_right (200 + 1) (show k ≤ 200 by omega)
      omega
    have hmv := check_move h0 (List.mem_of_getElem? hx)
    have hsd : x.src ≠ x.dst := by unfold moveOk at hmv; simp only [Bool.and_eq_true, decide_eq_true_eq] at hmv; exact hmv.1.1.1.1.1.2
    have ad := r15add (stk e G k p m) v (by omega) (by omega)
    have su := r15sub (stk e G k p m) v (by omega) (by omega)
    have fin : ∀ z : Rat, z = stk e G (k + 1) p m → frB (fz z) = frB (fz (stk e G (k + 1) p m)) := fun z h => by rw [h]
    by_cases h1 : x.src = (p : Int)
    · have hst := stk_src (H := G) (m := m) hx h1
      rw [hgd] at hst
      rw [← hst] at su
      conv => whnf
      (repeat' (first | ((refine DecB.mk (fun h => ?_) (fun h => ?_)) <;> first | (exfalso; omega) | (conv => whnf)) | ((refine BoolB.mk (fun h => ?_) (fun h => ?_)) <;> first | (exact absurd h (by decide)) | (conv => whnf)) | (refine ⟨_, wrap_ok (by omega) (by omega), ?_⟩; conv => whnf) | (refine and_idx (by omega) (by omega) ?_; conv => whnf) | (refine reg_ok (by decide +kernel) ?_; conv => whnf) | (refine bar_ok (by decide +kernel) (by decide +kernel) ?_; conv => whnf) | (refine late_ok rfl rfl ?_; conv => whnf) | (refine src_ok rfl ?_; conv => whnf) | (refine .inl ⟨_, _, qcall_pure (ad) rfl rfl, ?_⟩; conv => whnf) | (refine .inl ⟨_, _, qcall_pure (su) rfl rfl, ?_⟩; conv => whnf) | (refine ex_row hx ?_; conv => whnf) | (refine ex_row (hz_get hl) ?_; conv => whnf) | (refine ex_row (zero_get l hv) ?_; conv => whnf) | (refine LitB.data ?_; conv => whnf) | (refine BoxB.own ?_; conv => whnf)))
      all_goals first
        | (exfalso; omega)
        | exact ⟨hlt, trivial, [some 0, some 1], rfl, rfl, ⟨⟨rfl, rfl, rfl, .inl ⟨rfl, rowsT_fr _⟩⟩, ⟨rfl, rfl, rfl, .inl ⟨rfl, rowsT_fr _⟩⟩, trivial⟩, ⟨rfl, rfl, rfl, rfl, rfl, ⟨rfl, rfl, rfl⟩, ⟨rfl, rfl, rfl⟩, rfl, trivial⟩⟩
    · by_cases h2 : x.dst = (p : Int)
      · have hst := stk_dst (H := G) (m := m) hx h1 h2
        rw [hgd] at hst
        rw [← hst] at ad
        conv => whnf
        (repeat' (first | ((refine DecB.mk (fun h => ?_) (fun h => ?_)) <;> first | (exfalso; omega) | (conv => whnf)) | ((refine BoolB.mk (fun h => ?_) (fun h => ?_)) <;> first | (exact absurd h (by decide)) | (conv => whnf)) | (refine ⟨_, wrap_ok (by omega) (by omega), ?_⟩; conv => whnf) | (refine and_idx (by omega) (by omega) ?_; conv => whnf) | (refine reg_ok (by decide +kernel) ?_; conv => whnf) | (refine bar_ok (by decide +kernel) (by decide +kernel) ?_; conv => whnf) | (refine late_ok rfl rfl ?_; conv => whnf) | (refine src_ok rfl ?_; conv => whnf) | (refine .inl ⟨_, _, qcall_pure (ad) rfl rfl, ?_⟩; conv => whnf) | (refine .inl ⟨_, _, qcall_pure (su) rfl rfl, ?_⟩; conv => whnf) | (refine ex_row hx ?_; conv => whnf) | (refine ex_row (hz_get hl) ?_; conv => whnf) | (refine ex_row (zero_get l hv) ?_; conv => whnf) | (refine LitB.data ?_; conv => whnf) | (refine BoxB.own ?_; conv => whnf)))
        all_goals first
          | (exfalso; omega)
          | exact ⟨hlt, trivial, [some 0, some 1], rfl, rfl, ⟨⟨rfl, rfl, rfl, .inl ⟨rfl, rowsT_fr _⟩⟩, ⟨rfl, rfl, rfl, .inl ⟨rfl, rowsT_fr _⟩⟩, trivial⟩, ⟨rfl, rfl, rfl, rfl, rfl, ⟨rfl, rfl, rfl⟩, ⟨rfl, rfl, rfl⟩, rfl, trivial⟩⟩
      · have hst := stk_same (H := G) (m := m) hx h1 h2
        rw [← hst]
        conv => whnf
        (repeat' (first | ((refine DecB.mk (fun h => ?_) (fun h => ?_)) <;> first | (exfalso; omega) | (conv => whnf)) | ((refine BoolB.mk (fun h => ?_) (fun h => ?_)) <;> first | (exact absurd h (by decide)) | (conv => whnf)) | (refine ⟨_, wrap_ok (by omega) (by omega), ?_⟩; conv => whnf) | (refine and_idx (by omega) (by omega) ?_; conv => whnf) | (refine reg_ok (by decide +kernel) ?_; conv => whnf) | (refine bar_ok (by decide +kernel) (by decide +kernel) ?_; conv => whnf) | (refine late_ok rfl rfl ?_; conv => whnf) | (refine src_ok rfl ?_; conv => whnf) | (refine ex_row hx ?_; conv => whnf) | (refine LitB.data ?_; conv => whnf) | (refine BoxB.own ?_; conv => whnf)))
        all_goals first
          | (exfalso; omega)
          | exact ⟨hlt, trivial, [some 0, some 1], rfl, rfl, ⟨⟨rfl, rfl, rfl, .inl ⟨rfl, rowsT_fr _⟩⟩, ⟨rfl, rfl, rfl, .inl ⟨rfl, rowsT_fr _⟩⟩, trivial⟩, ⟨rfl, rfl, rfl, rfl, rfl, ⟨rfl, rfl, rfl⟩, ⟨rfl, rfl, rfl⟩, rfl, trivial⟩⟩
  · have hke : k = u := by omega
    subst hke
    conv => whnf
    (repeat' (first | ((refine DecB.mk (fun h => ?_) (fun h => ?_)) <;> first | (exfalso; omega) | (conv => whnf)) | ((refine BoolB.mk (fun h => ?_) (fun h => ?_)) <;> first | (exact absurd h (by decide)) | (conv => whnf)) | (refine ⟨_, wrap_ok (by omega) (by omega), ?_⟩; conv => whnf) | (refine and_idx (by omega) (by omega) ?_; conv => whnf) | (refine reg_ok (by decide +kernel) ?_; conv => whnf) | (refine bar_ok (by decide +kernel) (by decide +kernel) ?_; conv => whnf) | (refine late_ok rfl rfl ?_; conv => whnf) | (refine src_ok rfl ?_; conv => whnf) | (refine LitB.data ?_; conv => whnf) | (refine BoxB.own ?_; conv => whnf)))
    all_goals first
      | (exfalso; omega)
      | exact fin_f rfl
theorem r15Interval (e : Ev) (hs : e.Sized) {k : Nat} {x : Move} (hx : e.moves[k]? = some x) : ACall Tryz.prog 67 [evS e, intS .i64 k] [] (.tup (ivL (ivOf e x))) [] := by
  have l1 := hs.s3
  have l2 := hs.s4
  have iv := r13Interval e.certs e.recalls (by omega) (by omega) x.scale x.reading x.day
  unfold ivOf
  by_cases hsc : x.scale = -1
  · rw [if_pos hsc]
    (refine acall_of tab_ok Tryz.func67 rfl (by decide) ?_; (conv => whnf); repeat (first | (refine LitB.data ?_; conv => whnf) | (refine BoxB.data ?_; conv => whnf)))
    (repeat' (first | ((refine DecB.mk (fun h => ?_) (fun h => ?_)) <;> first | (exfalso; omega) | (conv => whnf)) | ((refine BoolB.mk (fun h => ?_) (fun h => ?_)) <;> first | (exact absurd h (by decide)) | (conv => whnf)) | (refine ⟨_, wrap_ok (by omega) (by omega), ?_⟩; conv => whnf) | (refine and_idx (by omega) (by omega) ?_; conv => whnf) | (refine reg_ok (by decide +kernel) ?_; conv => whnf) | (refine bar_ok (by decide +kernel) (by decide +kernel) ?_; conv => whnf) | (refine late_ok rfl rfl ?_; conv => whnf) | (refine src_ok rfl ?_; conv => whnf) | (refine .inl ⟨_, _, qcall_pure (1) rfl rfl, ?_⟩; conv => whnf) | (refine ex_row hx ?_; conv => whnf) | (refine bar_late [1] (by decide +kernel) (by decide +kernel) ?_; conv => whnf) | (refine LitB.data ?_; conv => whnf) | (refine BoxB.own ?_; conv => whnf)))
    all_goals first
      | (exfalso; omega)
      | exact fin_t ⟨⟨rfl, rfl, rfl, rfl, trivial⟩, ⟨rfl, rfl, rfl, rfl, trivial⟩, rfl, trivial⟩
  · rw [if_neg hsc]
    cases hiv : interval e.certs e.recalls x.scale x.reading x.day with
    | none =>
      rw [hiv] at iv
      (refine acall_of tab_ok Tryz.func67 rfl (by decide) ?_; (conv => whnf); repeat (first | (refine LitB.data ?_; conv => whnf) | (refine BoxB.data ?_; conv => whnf)))
      (repeat' (first | ((refine DecB.mk (fun h => ?_) (fun h => ?_)) <;> first | (exfalso; omega) | (conv => whnf)) | ((refine BoolB.mk (fun h => ?_) (fun h => ?_)) <;> first | (exact absurd h (by decide)) | (conv => whnf)) | (refine ⟨_, wrap_ok (by omega) (by omega), ?_⟩; conv => whnf) | (refine and_idx (by omega) (by omega) ?_; conv => whnf) | (refine reg_ok (by decide +kernel) ?_; conv => whnf) | (refine bar_ok (by decide +kernel) (by decide +kernel) ?_; conv => whnf) | (refine late_ok rfl rfl ?_; conv => whnf) | (refine src_ok rfl ?_; conv => whnf) | (refine .inl ⟨_, _, qcall_pure (iv) rfl rfl, ?_⟩; conv => whnf) | (refine ex_row hx ?_; conv => whnf) | (refine LitB.data ?_; conv => whnf) | (refine BoxB.own ?_; conv => whnf)))
      all_goals first
        | (exfalso; omega)
        | exact fin_t ⟨⟨rfl, rfl, rfl, rfl, trivial⟩, ⟨rfl, rfl, rfl, rfl, trivial⟩, rfl, trivial⟩
    | some p =>
      obtain ⟨lo, hi⟩ := p
      rw [hiv] at iv
      (refine acall_of tab_ok Tryz.func67 rfl (by decide) ?_; (conv => whnf); repeat (first | (refine LitB.data ?_; conv => whnf) | (refine BoxB.data ?_; conv => whnf)))
      (repeat' (first | ((refine DecB.mk (fun h => ?_) (fun h => ?_)) <;> first | (exfalso; omega) | (conv => whnf)) | ((refine BoolB.mk (fun h => ?_) (fun h => ?_)) <;> first | (exact absurd h (by decide)) | (conv => whnf)) | (refine ⟨_, wrap_ok (by omega) (by omega), ?_⟩; conv => whnf) | (refine and_idx (by omega) (by omega) ?_; conv => whnf) | (refine reg_ok (by decide +kernel) ?_; conv => whnf) | (refine bar_ok (by decide +kernel) (by decide +kernel) ?_; conv => whnf) | (refine late_ok rfl rfl ?_; conv => whnf) | (refine src_ok rfl ?_; conv => whnf) | (refine .inl ⟨_, _, qcall_pure (iv) rfl rfl, ?_⟩; conv => whnf) | (refine ex_row hx ?_; conv => whnf) | (refine LitB.data ?_; conv => whnf) | (refine BoxB.own ?_; conv => whnf)))
      all_goals first
        | (exfalso; omega)
        | exact fin_t ⟨⟨rfl, rfl, rfl, rfl, trivial⟩, ⟨rfl, rfl, rfl, rfl, trivial⟩, rfl, trivial⟩
abbrev purS (p : Purity) : S := .agg (p.row.map .t)
theorem r15pure (p : Purity) (l : List Rat) (h0 : 0 ≤ p.mat) (h1 : p.mat < l.length) (h2 : 0 ≤ p.least) (h3 : p.least ≤ p.most) (h4 : p.most ≤ 1000) (hB : ∀ x ∈ l, rl x ≤ 200) (hl : l.length ≤ 200) : ACall Tryz.prog 69 [purS p, fracsS (l.map fz)] [] (boolS (pureOne p l (sumR l))) [] := by
  obtain ⟨x, hx⟩ : ∃ x, l[p.mat.toNat]? = some x := ⟨_, List.getElem?_eq_getElem (by omega)⟩
  have hxd : l.getD p.mat.toNat 0 = x := by rw [List.getD_eq_getElem?_getD, hx]; rfl
  have bx := hB x (List.mem_of_getElem? hx)
  have bs : rl (sumR l) ≤ 200 * 201 + 1 := Nat.le_trans (rl_sumR hB) (by have := Nat.mul_le_mul_right (200 + 1) hl; omega)
  have b1 : rl ((1000 : Int) : Rat) ≤ 4 := by rw [rl_int]; have := bl_int (x := 1000) (by decide) (by decide); omega
  have b2 : rl (p.least : Rat) ≤ 4 := by rw [rl_int]; have := bl_int (x := p.least) (by omega) (by omega); omega
  have b3 : rl (p.most : Rat) ≤ 4 := by rw [rl_int]; have := bl_int (x := p.most) (by omega) (by omega); omega
  have t1 := r15times 1000 x (by decide) (by decide) (by omega)
  have t2 := r15times p.least (sumR l) h2 (by omega) (by omega)
  have t3 := r15times p.most (sumR l) (by omega) h4 (by omega)
  have mv := r15Moved l hB hl
  have q1 := rl_mul ((1000 : Int) : Rat) x
  have q2 := rl_mul (p.least : Rat) (sumR l)
  have q3 := rl_mul (p.most : Rat) (sumR l)
  have c1 := r5Compare (((1000 : Int) : Rat) * x) ((p.least : Rat) * sumR l) (by omega) (by omega)
  have c2 := r5Compare (((1000 : Int) : Rat) * x) ((p.most : Rat) * sumR l) (by omega) (by omega)
  have k1 := cmpR_lt (x := ((1000 : Int) : Rat) * x) (y := (p.least : Rat) * sumR l)
  have k2 := cmpR_le (x := ((1000 : Int) : Rat) * x) (y := (p.most : Rat) * sumR l)
  have g1 : (p.least : Rat) * sumR l ≤ ((1000 : Int) : Rat) * x ↔ ¬ cmpR (((1000 : Int) : Rat) * x) ((p.least : Rat) * sumR l) < 0 := by rw [k1]; exact Rat.not_lt.symm
  unfold pureOne
  rw [hxd]
  have d1 : decide ((p.least : Rat) * sumR l ≤ ((1000 : Int) : Rat) * x) = decide (¬ cmpR (((1000 : Int) : Rat) * x) ((p.least : Rat) * sumR l) < 0) := decide_eq_decide.2 g1
  have d2 : decide (((1000 : Int) : Rat) * x ≤ (p.most : Rat) * sumR l) = decide (cmpR (((1000 : Int) : Rat) * x) ((p.most : Rat) * sumR l) ≤ 0) := decide_eq_decide.2 k2.symm
  rw [d1, d2]
  clear d1 d2 g1 k1 k2
  generalize cmpR (((1000 : Int) : Rat) * x) ((p.least : Rat) * sumR l) = U at c1 ⊢
  generalize cmpR (((1000 : Int) : Rat) * x) ((p.most : Rat) * sumR l) = V at c2 ⊢
  (refine acall_of tab_ok Tryz.func69 rfl (by decide) ?_; (conv => whnf); repeat (first | (refine LitB.data ?_; conv => whnf) | (refine BoxB.data ?_; conv => whnf)))
  (repeat' (first | ((refine DecB.mk (fun h => ?_) (fun h => ?_)) <;> first | (exfalso; omega) | (conv => whnf)) | ((refine BoolB.mk (fun h => ?_) (fun h => ?_)) <;> first | (exact absurd h (by decide)) | (conv => whnf)) | (refine ⟨_, wrap_ok (by omega) (by omega), ?_⟩; conv => whnf) | (refine and_idx (by omega) (by omega) ?_; conv => whnf) | (refine reg_ok (by decide +kernel) ?_; conv => whnf) | (refine bar_ok (by decide +kernel) (by decide +kernel) ?_; conv => whnf) | (refine late_ok rfl rfl ?_; conv => whnf) | (refine src_ok rfl ?_; conv => whnf) | (refine .inl ⟨_, _, qcall_pure (t1) rfl rfl, ?_⟩; conv => whnf) | (refine .inl ⟨_, _, qcall_pure (t2) rfl rfl, ?_⟩; conv => whnf) | (refine .inl ⟨_, _, qcall_pure (t3) rfl rfl, ?_⟩; conv => whnf) | (refine .inl ⟨_, _, qcall_pure (mv) rfl rfl, ?_⟩; conv => whnf) | (refine .inl ⟨_, _, qcall_pure (c1) rfl rfl, ?_⟩; conv => whnf) | (refine .inl ⟨_, _, qcall_pure (c2) rfl rfl, ?_⟩; conv => whnf) | (refine ex_rowI h0 (zero_get l hx) ?_; conv => whnf) | (refine LitB.data ?_; conv => whnf) | (refine BoxB.own ?_; conv => whnf)))
  all_goals (refine fin_bool ?_; simp; omega)
end Go.Proofs.YthinjkjhiembgaaGreat
/- The reference's history: one. -/
namespace Go.Proofs.YthinjkjhiembgaaGreat
open Go.RowKit
set_option linter.unusedVariables false
set_option linter.unusedSimpArgs false
set_option maxRecDepth 100000

abbrev moveB (x : Move) : Blk := { mode := .live, elem := 63, size := 6, rows := [x.row.map .t], box := true }
theorem rowsT_mv (x : Move) : rowsT [x.row.map C.t] := by simp [rowsT, Move.row, C.isT]
theorem cmpR_zero {x y : Rat} : cmpR x y = 0 ↔ x = y := by
  have h1 := cmpR_le (x := x) (y := y)
  have h2 := cmpR_lt (x := x) (y := y)
  constructor
  · intro h
    have q1 : x ≤ y := h1.1 (by omega)
    have q2 : ¬ x < y := fun h' => by have := h2.2 h'; omega
    grind
  · intro h
    have q1 : cmpR x y ≤ 0 := h1.2 (by grind)
    have q2 : ¬ cmpR x y < 0 := fun h' => by have := h2.1 h'; grind
    omega
theorem rl_ivOf {e : Ev} {x : Move} {lo hi : Rat} (h : ivOf e x = some (lo, hi)) : rl lo ≤ 20 ∧ rl hi ≤ 20 := by
  unfold ivOf at h
  by_cases hs : x.scale = -1
  · rw [if_pos hs] at h; cases h
  · rw [if_neg hs] at h; exact rl_interval h
set_option maxHeartbeats 4000000 in
theorem r15one_bin (e : Ev) (G : List (List Rat)) (hG : Shape e G) (h0 : check e = 0) (hs : e.Sized) (hB : ∀ l ∈ G, ∀ x ∈ l, rl x ≤ 200) {i s : Nat} {x : Move} {l : List Rat} {pl : Place} (hx : e.moves[i]? = some x) (hl : G[i]? = some l) (hsn : x.src = s) (hpl : e.places[s]? = some pl) (hbin : pl.kind = 0) :
    ACall Tryz.prog 36 [evS e, histS (hz G), intS .i64 i] [] (intS .i64 (stepE e x l (stk e G i) i)) [] := by
  obtain ⟨b1, b2, b3, b4⟩ := check_bounds h0
  have hmem := List.mem_of_getElem? hl
  have hB' := hB l hmem
  have hw := hG.wid l hmem
  have hik : i < e.moves.length := (List.getElem?_eq_some_iff.1 hx).1
  have m1 : ((l.map fz).map frRow).length = l.length := by simp
  have m2 : (e.purities.map Purity.row).length = e.purities.length := by simp
  have l5 := hs.s5
  have hkd : kindAt e x.src = pl.kind := by rw [hsn]; exact kindAt_of hpl
  have hss : x.src.toNat = s := by omega
  have hsaid := (check_zero h0).2.2.2.2.2.2
  have hF : ∀ p m, rl (stk e G i p m) ≤ 50000 := fun p m => by
    have := rl_stk (e := e) hB (by decide) i p m
    have h2 := Nat.mul_le_mul_right (200 + 1) (show i ≤ 200 by omega)
    omega
  have bs : rl (sumR l) ≤ 200 * 201 + 1 := Nat.le_trans (rl_sumR hB') (by have := Nat.mul_le_mul_right (200 + 1) (show l.length ≤ 200 by omega); omega)
  have iv := r15Interval e hs hx
  have mv := r15Moved l hB' (by omega)
  let P : Purity → Bool := fun p => decide (p.move ≠ (i : Int)) || pureOne p l (sumR l)
  have hP : pureB e.purities i l (sumR l) = e.purities.all P := rfl
  have hall : x.all = false := by
    have hm := check_move h0 (List.mem_of_getElem? hx)
    unfold moveOk at hm
    rw [hkd, hbin] at hm
    simp only [decide_true, Bool.true_and, Bool.and_eq_true, Bool.not_eq_true'] at hm
    exact hm.1.1.2
  (refine acall_of tab_ok Tryz.func36 rfl (by decide) ?_; (conv => whnf); repeat (first | (refine LitB.data ?_; conv => whnf) | (refine BoxB.data ?_; conv => whnf)))
  (repeat' (first | ((refine DecB.mk (fun h => ?_) (fun h => ?_)) <;> first | (exfalso; omega) | (conv => whnf)) | ((refine BoolB.mk (fun h => ?_) (fun h => ?_)) <;> first | (exact absurd h (by decide)) | (conv => whnf)) | (refine ⟨_, wrap_ok (by omega) (by omega), ?_⟩; conv => whnf) | (refine and_idx (by omega) (by omega) ?_; conv => whnf) | (refine reg_ok (by decide +kernel) ?_; conv => whnf) | (refine bar_ok (by decide +kernel) (by decide +kernel) ?_; conv => whnf) | (refine late_ok rfl rfl ?_; conv => whnf) | (refine src_ok rfl ?_; conv => whnf) | (refine ex_row hx ?_; conv => whnf) | (refine ex_row (hz_get hl) ?_; conv => whnf) | (refine LitB.data ?_; conv => whnf) | (refine BoxB.own ?_; conv => whnf)))
  refine awp_for tab_ok (fun k => ([S.junk, histS (hz G), intS .i64 i, S.c (C.t (evP e)), S.junk, S.junk, S.junk, S.c (C.ptr 0 0 0), fracsS (l.map fz), intS .i64 k, S.junk, S.junk, S.junk, S.junk, S.junk, S.junk, S.junk, S.junk, S.junk, S.junk, S.junk, S.junk, S.junk, S.junk, S.junk, S.junk, S.junk, S.junk, S.junk, S.junk, S.junk, S.junk, S.junk, S.junk, S.junk, S.junk, S.junk, S.junk, S.junk, S.junk, S.junk, S.junk, S.junk, S.junk, S.junk, S.junk, S.junk, S.junk, S.junk, S.junk, S.junk, S.junk, S.junk, S.junk, S.junk, S.junk, S.junk, S.junk, S.junk, S.junk, S.junk, S.junk, S.junk, S.junk, S.junk, S.junk, S.junk, S.junk, S.junk, S.junk, S.junk, S.junk, S.junk, S.junk, S.junk, S.junk, S.junk, S.junk, S.junk, S.junk, S.junk, S.junk, S.junk, S.junk, S.junk, S.junk, S.junk, S.junk, S.junk, S.junk, S.junk, S.junk, S.junk, S.junk, S.junk, S.junk, S.junk, S.junk, S.junk, S.junk, S.junk, S.junk, S.junk, S.junk, S.junk, S.junk, S.junk, S.junk, S.junk, S.junk, S.junk, S.junk, S.junk, S.junk, S.junk, S.junk, S.junk, S.junk, S.junk, S.junk, S.junk, S.junk, S.junk, S.junk, S.junk, S.junk, S.junk, S.junk, S.junk, S.junk, S.junk, S.junk, S.junk, S.junk, S.junk, S.junk, S.junk, S.junk, S.junk, S.junk], [moveB x])) l.length (fun k => (l.take k).any (fun v => decide (v < 0)) = false) [some 0] rfl
    ⟨rfl, rfl, ⟨⟨rfl, rfl, rfl, .inl ⟨rfl, rowsT_mv x⟩⟩, trivial⟩, ⟨rfl, rfl, rfl, ⟨rfl, rfl, rfl⟩, rfl, rfl, trivial⟩⟩ ?_
  intro k hk hI
  by_cases hlt : k < l.length
  · obtain ⟨v, hv⟩ : ∃ v, l[k]? = some v := ⟨_, List.getElem?_eq_getElem hlt⟩
    have bx := hB' v (List.mem_of_getElem? hv)
    have sg := r5Sign v (by omega)
    have sn := sgR_neg (x := v)
    conv => whnf
    (repeat' (first | ((refine DecB.mk (fun h => ?_) (fun h => ?_)) <;> first | (exfalso; omega) | (conv => whnf)) | ((refine BoolB.mk (fun h => ?_) (fun h => ?_)) <;> first | (exact absurd h (by decide)) | (conv => whnf)) | (refine ⟨_, wrap_ok (by omega) (by omega), ?_⟩; conv => whnf) | (refine and_idx (by omega) (by omega) ?_; conv => whnf) | (refine reg_ok (by decide +kernel) ?_; conv => whnf) | (refine bar_ok (by decide +kernel) (by decide +kernel) ?_; conv => whnf) | (refine late_ok rfl rfl ?_; conv => whnf) | (refine src_ok rfl ?_; conv => whnf) | (refine .inl ⟨_, _, qcall_pure (sg) rfl rfl, ?_⟩; conv => whnf) | (refine ex_row (zero_get l hv) ?_; conv => whnf) | (refine LitB.data ?_; conv => whnf) | (refine BoxB.own ?_; conv => whnf)))
    all_goals first
      | (exfalso; omega)
      | (have h0 : sgR v < 0 := by omega
         exact fin_int (by unfold stepE; rw [if_pos (any_of_get hv (by simpa using sn.1 h0))]))
      | (have h0 : ¬ sgR v < 0 := by omega
         exact ⟨hlt, by rw [any_take_succ hv, hI]; simpa using fun h => h0 (sn.2 h), [some 0], rfl, rfl, ⟨⟨rfl, rfl, rfl, .inl ⟨rfl, rowsT_mv x⟩⟩, trivial⟩, ⟨rfl, rfl, rfl, ⟨rfl, rfl, rfl⟩, rfl, rfl, trivial⟩⟩)
  have hneg : l.any (fun v => decide (v < 0)) = false := by rw [← hI, List.take_of_length_le (by omega)]
  conv => whnf
  (repeat' (first | ((refine DecB.mk (fun h => ?_) (fun h => ?_)) <;> first | (exfalso; omega) | (conv => whnf)) | ((refine BoolB.mk (fun h => ?_) (fun h => ?_)) <;> first | (exact absurd h (by decide)) | (conv => whnf)) | (refine ⟨_, wrap_ok (by omega) (by omega), ?_⟩; conv => whnf) | (refine and_idx (by omega) (by omega) ?_; conv => whnf) | (refine reg_ok (by decide +kernel) ?_; conv => whnf) | (refine bar_ok (by decide +kernel) (by decide +kernel) ?_; conv => whnf) | (refine late_ok rfl rfl ?_; conv => whnf) | (refine src_ok rfl ?_; conv => whnf) | (refine ex_rowE hsn hpl ?_; conv => whnf) | (refine LitB.data ?_; conv => whnf) | (refine BoxB.own ?_; conv => whnf)))
  all_goals try (exfalso; omega)
  clear hI hlt hk
  refine awp_for tab_ok (fun k => ([S.junk, histS (hz G), intS .i64 i, S.c (C.t (evP e)), S.junk, S.junk, S.junk, S.c (C.ptr 0 0 0), fracsS (l.map fz), S.junk, boolS true, intS .i64 k, S.junk, S.junk, S.junk, S.junk, S.junk, S.junk, S.junk, S.junk, S.junk, S.junk, S.junk, S.junk, S.junk, S.junk, S.junk, S.junk, S.junk, S.junk, S.junk, S.junk, S.junk, S.junk, S.junk, S.junk, S.junk, S.junk, S.junk, S.junk, S.junk, S.junk, S.junk, S.junk, S.junk, S.junk, S.junk, S.junk, S.junk, S.junk, S.junk, S.junk, S.junk, S.junk, S.junk, S.junk, S.junk, S.junk, S.junk, S.junk, S.junk, S.junk, S.junk, S.junk, S.junk, S.junk, S.junk, S.junk, S.junk, S.junk, S.junk, S.junk, S.junk, S.junk, S.junk, S.junk, S.junk, S.junk, S.junk, S.junk, S.junk, S.junk, S.junk, S.junk, S.junk, S.junk, S.junk, S.junk, S.junk, S.junk, S.junk, S.junk, S.junk, S.junk, S.junk, S.junk, S.junk, S.junk, S.junk, S.junk, S.junk, S.junk, S.junk, S.junk, S.junk, S.junk, S.junk, S.junk, S.junk, S.junk, S.junk, S.junk, S.junk, S.junk, S.junk, S.junk, S.junk, S.junk, S.junk, S.junk, S.junk, S.junk, S.junk, S.junk, S.junk, S.junk, S.junk, S.junk, S.junk, S.junk, S.junk, S.junk, S.junk, S.junk, S.junk, S.junk, S.junk, S.junk, S.junk, S.junk], [moveB x])) 0 (fun k => ∀ (j : Nat) (v : Rat), j < k → l[j]? = some v → ¬ stk e G i s j < v) [some 0] (fun j v h => absurd h (by omega))
    ⟨rfl, rfl, ⟨⟨rfl, rfl, rfl, .inl ⟨rfl, rowsT_mv x⟩⟩, trivial⟩, ⟨rfl, rfl, rfl, ⟨rfl, rfl, rfl⟩, rfl, rfl, rfl, trivial⟩⟩ ?_
  intro k hk hI
  conv => whnf
  (repeat' (first | ((refine DecB.mk (fun h => ?_) (fun h => ?_)) <;> first | (exfalso; omega) | (conv => whnf)) | ((refine BoolB.mk (fun h => ?_) (fun h => ?_)) <;> first | (exact absurd h (by decide)) | (conv => whnf)) | (refine ⟨_, wrap_ok (by omega) (by omega), ?_⟩; conv => whnf) | (refine and_idx (by omega) (by omega) ?_; conv => whnf) | (refine reg_ok (by decide +kernel) ?_; conv => whnf) | (refine bar_ok (by decide +kernel) (by decide +kernel) ?_; conv => whnf) | (refine late_ok rfl rfl ?_; conv => whnf) | (refine src_ok rfl ?_; conv => whnf) | (refine LitB.data ?_; conv => whnf) | (refine BoxB.own ?_; conv => whnf)))
  all_goals try (exfalso; omega)
  clear hI hk
  cases hiv : ivOf e x with
  | none =>
    rw [hiv] at iv
    have hwe : weighedB e x (sumR l) = true := by rw [weighed_iv, hiv]; rfl
    refine awp_for tab_ok (fun k => ([S.junk, histS (hz G), intS .i64 i, S.c (C.t (evP e)), S.junk, S.junk, S.junk, S.c (C.ptr 0 0 0), fracsS (l.map fz), S.junk, S.junk, S.junk, intS .i64 k, S.junk, S.junk, S.junk, S.junk, S.junk, S.junk, S.junk, S.junk, S.junk, S.junk, S.junk, S.junk, S.junk, S.junk, S.junk, S.junk, S.junk, S.junk, S.junk, S.junk, S.junk, S.junk, S.junk, S.junk, S.junk, S.junk, S.junk, S.junk, S.junk, S.junk, S.junk, S.junk, S.junk, S.junk, S.junk, S.junk, S.junk, S.junk, S.junk, S.junk, S.junk, S.junk, S.junk, S.junk, S.junk, S.junk, S.junk, S.junk, S.junk, S.junk, S.junk, S.junk, S.junk, S.junk, S.junk, S.junk, S.junk, S.junk, S.junk, S.junk, S.junk, S.junk, S.junk, S.junk, S.junk, S.junk, S.junk, S.junk, S.junk, S.junk, S.junk, S.junk, S.junk, S.junk, S.junk, S.junk, S.junk, S.junk, S.junk, S.junk, S.junk, S.junk, S.junk, S.junk, S.junk, S.junk, S.junk, S.junk, S.junk, S.junk, S.junk, S.junk, S.junk, S.junk, S.junk, S.junk, S.junk, S.junk, S.junk, S.junk, S.junk, S.junk, S.junk, S.junk, S.junk, S.junk, S.junk, S.junk, S.junk, S.junk, S.junk, S.junk, S.junk, S.junk, S.junk, S.junk, S.junk, S.junk, S.junk, S.junk, S.junk, S.junk, S.junk, S.junk, S.junk, S.junk, S.junk], [moveB x])) 0 (fun k => ∀ (j : Nat) (v : Rat), j < k → l[j]? = some v → v = stk e G i s j) [some 0] (fun j v h => absurd h (by omega))
      ⟨rfl, rfl, ⟨⟨rfl, rfl, rfl, .inl ⟨rfl, rowsT_mv x⟩⟩, trivial⟩, ⟨rfl, rfl, rfl, ⟨rfl, rfl, rfl⟩, rfl, rfl, trivial⟩⟩ ?_
    intro k hk hI
    have htk : takenE e (stk e G i) x l = 0 := by
      unfold takenE
      rw [if_pos (by rw [hkd]; exact hbin)]
    conv => whnf
    (repeat' (first | ((refine DecB.mk (fun h => ?_) (fun h => ?_)) <;> first | (exfalso; omega) | (conv => whnf)) | ((refine BoolB.mk (fun h => ?_) (fun h => ?_)) <;> first | (exact absurd h (by decide)) | (conv => whnf)) | (refine ⟨_, wrap_ok (by omega) (by omega), ?_⟩; conv => whnf) | (refine and_idx (by omega) (by omega) ?_; conv => whnf) | (refine reg_ok (by decide +kernel) ?_; conv => whnf) | (refine bar_ok (by decide +kernel) (by decide +kernel) ?_; conv => whnf) | (refine late_ok rfl rfl ?_; conv => whnf) | (refine src_ok rfl ?_; conv => whnf) | (refine .inl ⟨_, _, qcall_pure (iv) rfl rfl, ?_⟩; conv => whnf) | (refine .inl ⟨_, _, qcall_pure (5, 6) rfl rfl, ?_⟩; conv => whnf) | (refine bar_late [5, 6] (by decide +kernel) (by decide +kernel) ?_; conv => whnf) | (refine LitB.data ?_; conv => whnf) | (refine BoxB.own ?_; conv => whnf)))
    all_goals first
      | (exfalso; omega)
      | (exfalso; simp_all; done)
      | skip
    clear hI hk
    all_goals (repeat' (first | ((refine DecB.mk (fun h => ?_) (fun h => ?_)) <;> first | (exfalso; omega) | (conv => whnf)) | ((refine BoolB.mk (fun h => ?_) (fun h => ?_)) <;> first | (exact absurd h (by decide)) | (conv => whnf)) | (refine ⟨_, wrap_ok (by omega) (by omega), ?_⟩; conv => whnf) | (refine and_idx (by omega) (by omega) ?_; conv => whnf) | (refine reg_ok (by decide +kernel) ?_; conv => whnf) | (refine bar_ok (by decide +kernel) (by decide +kernel) ?_; conv => whnf) | (refine late_ok rfl rfl ?_; conv => whnf) | (refine src_ok rfl ?_; conv => whnf) | (refine .inl ⟨_, _, qcall_pure (mv) rfl rfl, ?_⟩; conv => whnf) | (refine LitB.data ?_; conv => whnf) | (refine BoxB.own ?_; conv => whnf)))
    refine awp_for tab_ok (fun k => ([S.junk, S.junk, intS .i64 i, S.c (C.t (evP e)), S.junk, S.junk, S.junk, S.junk, fracsS (l.map fz), S.junk, S.junk, S.junk, S.junk, S.junk, S.junk, S.junk, S.junk, intS .i64 k, S.junk, S.junk, S.junk, S.junk, S.junk, S.junk, S.junk, S.junk, S.junk, S.junk, S.junk, S.junk, S.junk, S.junk, S.junk, S.junk, S.junk, S.junk, S.junk, S.junk, S.junk, S.junk, S.junk, S.junk, S.junk, S.junk, S.junk, S.junk, S.junk, S.junk, S.junk, S.junk, S.junk, S.junk, S.junk, S.junk, S.junk, S.junk, S.junk, S.junk, S.junk, S.junk, S.junk, S.junk, S.junk, S.junk, S.junk, S.junk, S.junk, S.junk, S.junk, S.junk, S.junk, S.junk, S.junk, S.junk, S.junk, S.junk, S.junk, S.junk, S.junk, S.junk, S.junk, S.junk, S.junk, S.junk, S.junk, S.junk, S.junk, S.junk, S.junk, S.junk, S.junk, S.junk, S.junk, S.junk, S.junk, S.junk, S.junk, S.junk, S.junk, S.junk, S.junk, S.junk, S.junk, S.junk, S.junk, S.junk, S.junk, S.junk, S.junk, S.junk, S.junk, S.junk, S.junk, S.junk, S.junk, S.junk, S.junk, S.junk, S.junk, S.junk, S.junk, S.junk, S.junk, S.junk, S.junk, S.junk, S.junk, S.junk, S.junk, S.junk, S.junk, S.junk, S.junk, S.junk, S.junk, S.junk, S.junk, S.junk, S.junk, S.junk], [])) e.purities.length (fun k => (e.purities.take k).all P = true) [] rfl
      ⟨rfl, rfl, trivial, ⟨rfl, rfl, rfl, rfl, trivial⟩⟩ ?_
    intro k hk hI
    by_cases hlt : k < e.purities.length
    · obtain ⟨p, hp⟩ : ∃ p, e.purities[k]? = some p := ⟨_, List.getElem?_eq_getElem hlt⟩
      have hall' : (e.purities.take (k + 1)).all P = P p := by rw [all_take_succ hp, hI, Bool.true_and]
      obtain ⟨q1, q2, q3, q4, q5⟩ := purity_get hsaid (List.mem_of_getElem? hp)
      have pu := r15pure p l q1 (by omega) q3 q4 q5 hB' (by omega)
      by_cases hmv : p.move = (i : Int)
      · cases hpo : pureOne p l (sumR l) with
        | true =>
          rw [hpo] at pu
          have hPp : P p = true := by simp [P, hpo]
          conv => whnf
          (repeat' (first | ((refine DecB.mk (fun h => ?_) (fun h => ?_)) <;> first | (exfalso; omega) | (conv => whnf)) | ((refine BoolB.mk (fun h => ?_) (fun h => ?_)) <;> first | (exact absurd h (by decide)) | (conv => whnf)) | (refine ⟨_, wrap_ok (by omega) (by omega), ?_⟩; conv => whnf) | (refine and_idx (by omega) (by omega) ?_; conv => whnf) | (refine reg_ok (by decide +kernel) ?_; conv => whnf) | (refine bar_ok (by decide +kernel) (by decide +kernel) ?_; conv => whnf) | (refine late_ok rfl rfl ?_; conv => whnf) | (refine src_ok rfl ?_; conv => whnf) | (refine .inl ⟨_, _, qcall_pure (pu) rfl rfl, ?_⟩; conv => whnf) | (refine ex_row hp ?_; conv => whnf) | (refine LitB.data ?_; conv => whnf) | (refine BoxB.own ?_; conv => whnf)))
          all_goals first
            | (exfalso; omega)
            | (exfalso; simp_all; done)
            | exact ⟨hlt, by rw [hall', hPp], [], rfl, rfl, trivial, ⟨rfl, rfl, rfl, rfl, trivial⟩⟩
        | false =>
          rw [hpo] at pu
          have hPp : P p = false := by simp [P, hpo, hmv]
          conv => whnf
          (repeat' (first | ((refine DecB.mk (fun h => ?_) (fun h => ?_)) <;> first | (exfalso; omega) | (conv => whnf)) | ((refine BoolB.mk (fun h => ?_) (fun h => ?_)) <;> first | (exact absurd h (by decide)) | (conv => whnf)) | (refine ⟨_, wrap_ok (by omega) (by omega), ?_⟩; conv => whnf) | (refine and_idx (by omega) (by omega) ?_; conv => whnf) | (refine reg_ok (by decide +kernel) ?_; conv => whnf) | (refine bar_ok (by decide +kernel) (by decide +kernel) ?_; conv => whnf) | (refine late_ok rfl rfl ?_; conv => whnf) | (refine src_ok rfl ?_; conv => whnf) | (refine .inl ⟨_, _, qcall_pure (pu) rfl rfl, ?_⟩; conv => whnf) | (refine ex_row hp ?_; conv => whnf) | (refine LitB.data ?_; conv => whnf) | (refine BoxB.own ?_; conv => whnf)))
          all_goals first
            | (exfalso; omega)
            | (refine fin_int ?_
               have hpb : pureB e.purities i l (sumR l) = false := by rw [hP]; exact all_of_get hp hPp
               unfold stepE; rw [if_neg (by simp [hneg]), if_neg (by rw [htk]; decide), if_neg (by simp [hwe]), if_pos hpb])
            | (exfalso; simp_all; done)
      · have hPp : P p = true := by simp [P, hmv]
        conv => whnf
        (repeat' (first | ((refine DecB.mk (fun h => ?_) (fun h => ?_)) <;> first | (exfalso; omega) | (conv => whnf)) | ((refine BoolB.mk (fun h => ?_) (fun h => ?_)) <;> first | (exact absurd h (by decide)) | (conv => whnf)) | (refine ⟨_, wrap_ok (by omega) (by omega), ?_⟩; conv => whnf) | (refine and_idx (by omega) (by omega) ?_; conv => whnf) | (refine reg_ok (by decide +kernel) ?_; conv => whnf) | (refine bar_ok (by decide +kernel) (by decide +kernel) ?_; conv => whnf) | (refine late_ok rfl rfl ?_; conv => whnf) | (refine src_ok rfl ?_; conv => whnf) | (refine .inl ⟨_, _, qcall_pure (pu) rfl rfl, ?_⟩; conv => whnf) | (refine ex_row hp ?_; conv => whnf) | (refine LitB.data ?_; conv => whnf) | (refine BoxB.own ?_; conv => whnf)))
        all_goals first
          | (exfalso; omega)
          | exact ⟨hlt, by rw [hall', hPp], [], rfl, rfl, trivial, ⟨rfl, rfl, rfl, rfl, trivial⟩⟩
    · have hpb : pureB e.purities i l (sumR l) = true := by rw [hP, ← hI, List.take_of_length_le (by omega)]
      conv => whnf
      (repeat' (first | ((refine DecB.mk (fun h => ?_) (fun h => ?_)) <;> first | (exfalso; omega) | (conv => whnf)) | ((refine BoolB.mk (fun h => ?_) (fun h => ?_)) <;> first | (exact absurd h (by decide)) | (conv => whnf)) | (refine ⟨_, wrap_ok (by omega) (by omega), ?_⟩; conv => whnf) | (refine and_idx (by omega) (by omega) ?_; conv => whnf) | (refine reg_ok (by decide +kernel) ?_; conv => whnf) | (refine bar_ok (by decide +kernel) (by decide +kernel) ?_; conv => whnf) | (refine late_ok rfl rfl ?_; conv => whnf) | (refine src_ok rfl ?_; conv => whnf) | (refine LitB.data ?_; conv => whnf) | (refine BoxB.own ?_; conv => whnf)))
      all_goals first
        | (exfalso; omega)
        | (refine fin_int ?_; unfold stepE; rw [if_neg (by simp [hneg]), if_neg (by rw [htk]; decide), if_neg (by simp [hwe]), if_neg (by simp [hpb])])
  | some lh =>
    obtain ⟨lo, hi⟩ := lh
    rw [hiv] at iv
    obtain ⟨bl, bh⟩ := rl_ivOf hiv
    have c1 := r5Compare (sumR l) lo (by omega) (by omega)
    have c2 := r5Compare (sumR l) hi (by omega) (by omega)
    have k1 := cmpR_lt (x := sumR l) (y := lo)
    have k2 := cmpR_lt' (x := sumR l) (y := hi)
    by_cases hw : lo ≤ sumR l ∧ sumR l ≤ hi
    · have hwe : weighedB e x (sumR l) = true := by rw [weighed_iv, hiv]; simp [inB, hw.1, hw.2]
      have n1 : ¬ cmpR (sumR l) lo < 0 := fun h => by have := k1.1 h; grind
      have n2 : ¬ cmpR (sumR l) hi > 0 := fun h => by have := k2.1 h; grind
      refine awp_for tab_ok (fun k => ([S.junk, histS (hz G), intS .i64 i, S.c (C.t (evP e)), S.junk, S.junk, S.junk, S.c (C.ptr 0 0 0), fracsS (l.map fz), S.junk, S.junk, S.junk, intS .i64 k, S.junk, S.junk, S.junk, S.junk, S.junk, S.junk, S.junk, S.junk, S.junk, S.junk, S.junk, S.junk, S.junk, S.junk, S.junk, S.junk, S.junk, S.junk, S.junk, S.junk, S.junk, S.junk, S.junk, S.junk, S.junk, S.junk, S.junk, S.junk, S.junk, S.junk, S.junk, S.junk, S.junk, S.junk, S.junk, S.junk, S.junk, S.junk, S.junk, S.junk, S.junk, S.junk, S.junk, S.junk, S.junk, S.junk, S.junk, S.junk, S.junk, S.junk, S.junk, S.junk, S.junk, S.junk, S.junk, S.junk, S.junk, S.junk, S.junk, S.junk, S.junk, S.junk, S.junk, S.junk, S.junk, S.junk, S.junk, S.junk, S.junk, S.junk, S.junk, S.junk, S.junk, S.junk, S.junk, S.junk, S.junk, S.junk, S.junk, S.junk, S.junk, S.junk, S.junk, S.junk, S.junk, S.junk, S.junk, S.junk, S.junk, S.junk, S.junk, S.junk, S.junk, S.junk, S.junk, S.junk, S.junk, S.junk, S.junk, S.junk, S.junk, S.junk, S.junk, S.junk, S.junk, S.junk, S.junk, S.junk, S.junk, S.junk, S.junk, S.junk, S.junk, S.junk, S.junk, S.junk, S.junk, S.junk, S.junk, S.junk, S.junk, S.junk, S.junk, S.junk, S.junk, S.junk, S.junk], [moveB x])) 0 (fun k => ∀ (j : Nat) (v : Rat), j < k → l[j]? = some v → v = stk e G i s j) [some 0] (fun j v h => absurd h (by omega))
        ⟨rfl, rfl, ⟨⟨rfl, rfl, rfl, .inl ⟨rfl, rowsT_mv x⟩⟩, trivial⟩, ⟨rfl, rfl, rfl, ⟨rfl, rfl, rfl⟩, rfl, rfl, trivial⟩⟩ ?_
      intro k hk hI
      have htk : takenE e (stk e G i) x l = 0 := by
        unfold takenE
        rw [if_pos (by rw [hkd]; exact hbin)]
      conv => whnf
      (repeat' (first | ((refine DecB.mk (fun h => ?_) (fun h => ?_)) <;> first | (exfalso; omega) | (conv => whnf)) | ((refine BoolB.mk (fun h => ?_) (fun h => ?_)) <;> first | (exact absurd h (by decide)) | (conv => whnf)) | (refine ⟨_, wrap_ok (by omega) (by omega), ?_⟩; conv => whnf) | (refine and_idx (by omega) (by omega) ?_; conv => whnf) | (refine reg_ok (by decide +kernel) ?_; conv => whnf) | (refine bar_ok (by decide +kernel) (by decide +kernel) ?_; conv => whnf) | (refine late_ok rfl rfl ?_; conv => whnf) | (refine src_ok rfl ?_; conv => whnf) | (refine .inl ⟨_, _, qcall_pure (iv) rfl rfl, ?_⟩; conv => whnf) | (refine .inl ⟨_, _, qcall_pure (5, 6) rfl rfl, ?_⟩; conv => whnf) | (refine bar_late [5, 6] (by decide +kernel) (by decide +kernel) ?_; conv => whnf) | (refine LitB.data ?_; conv => whnf) | (refine BoxB.own ?_; conv => whnf)))
      all_goals first
        | (exfalso; omega)
        | (exfalso; simp_all; done)
        | skip
      clear hI hk
      all_goals (repeat' (first | ((refine DecB.mk (fun h => ?_) (fun h => ?_)) <;> first | (exfalso; omega) | (conv => whnf)) | ((refine BoolB.mk (fun h => ?_) (fun h => ?_)) <;> first | (exact absurd h (by decide)) | (conv => whnf)) | (refine ⟨_, wrap_ok (by omega) (by omega), ?_⟩; conv => whnf) | (refine and_idx (by omega) (by omega) ?_; conv => whnf) | (refine reg_ok (by decide +kernel) ?_; conv => whnf) | (refine bar_ok (by decide +kernel) (by decide +kernel) ?_; conv => whnf) | (refine late_ok rfl rfl ?_; conv => whnf) | (refine src_ok rfl ?_; conv => whnf) | (refine .inl ⟨_, _, qcall_pure (mv) rfl rfl, ?_⟩; conv => whnf) | (refine .inl ⟨_, _, qcall_pure (c1) rfl rfl, ?_⟩; conv => whnf) | (refine .inl ⟨_, _, qcall_pure (c2) rfl rfl, ?_⟩; conv => whnf) | (refine LitB.data ?_; conv => whnf) | (refine BoxB.own ?_; conv => whnf)))
      all_goals try (exfalso; omega)
      refine awp_for tab_ok (fun k => ([S.junk, S.junk, intS .i64 i, S.c (C.t (evP e)), S.junk, S.junk, S.junk, S.junk, fracsS (l.map fz), S.junk, S.junk, S.junk, S.junk, S.junk, S.junk, S.junk, S.junk, intS .i64 k, S.junk, S.junk, S.junk, S.junk, S.junk, S.junk, S.junk, S.junk, S.junk, S.junk, S.junk, S.junk, S.junk, S.junk, S.junk, S.junk, S.junk, S.junk, S.junk, S.junk, S.junk, S.junk, S.junk, S.junk, S.junk, S.junk, S.junk, S.junk, S.junk, S.junk, S.junk, S.junk, S.junk, S.junk, S.junk, S.junk, S.junk, S.junk, S.junk, S.junk, S.junk, S.junk, S.junk, S.junk, S.junk, S.junk, S.junk, S.junk, S.junk, S.junk, S.junk, S.junk, S.junk, S.junk, S.junk, S.junk, S.junk, S.junk, S.junk, S.junk, S.junk, S.junk, S.junk, S.junk, S.junk, S.junk, S.junk, S.junk, S.junk, S.junk, S.junk, S.junk, S.junk, S.junk, S.junk, S.junk, S.junk, S.junk, S.junk, S.junk, S.junk, S.junk, S.junk, S.junk, S.junk, S.junk, S.junk, S.junk, S.junk, S.junk, S.junk, S.junk, S.junk, S.junk, S.junk, S.junk, S.junk, S.junk, S.junk, S.junk, S.junk, S.junk, S.junk, S.junk, S.junk, S.junk, S.junk, S.junk, S.junk, S.junk, S.junk, S.junk, S.junk, S.junk, S.junk, S.junk, S.junk, S.junk, S.junk, S.junk, S.junk, S.junk], [])) e.purities.length (fun k => (e.purities.take k).all P = true) [] rfl
        ⟨rfl, rfl, trivial, ⟨rfl, rfl, rfl, rfl, trivial⟩⟩ ?_
      intro k hk hI
      by_cases hlt : k < e.purities.length
      · obtain ⟨p, hp⟩ : ∃ p, e.purities[k]? = some p := ⟨_, List.getElem?_eq_getElem hlt⟩
        have hall' : (e.purities.take (k + 1)).all P = P p := by rw [all_take_succ hp, hI, Bool.true_and]
        obtain ⟨q1, q2, q3, q4, q5⟩ := purity_get hsaid (List.mem_of_getElem? hp)
        have pu := r15pure p l q1 (by omega) q3 q4 q5 hB' (by omega)
        by_cases hmv : p.move = (i : Int)
        · cases hpo : pureOne p l (sumR l) with
          | true =>
            rw [hpo] at pu
            have hPp : P p = true := by simp [P, hpo]
            conv => whnf
            (repeat' (first | ((refine DecB.mk (fun h => ?_) (fun h => ?_)) <;> first | (exfalso; omega) | (conv => whnf)) | ((refine BoolB.mk (fun h => ?_) (fun h => ?_)) <;> first | (exact absurd h (by decide)) | (conv => whnf)) | (refine ⟨_, wrap_ok (by omega) (by omega), ?_⟩; conv => whnf) | (refine and_idx (by omega) (by omega) ?_; conv => whnf) | (refine reg_ok (by decide +kernel) ?_; conv => whnf) | (refine bar_ok (by decide +kernel) (by decide +kernel) ?_; conv => whnf) | (refine late_ok rfl rfl ?_; conv => whnf) | (refine src_ok rfl ?_; conv => whnf) | (refine .inl ⟨_, _, qcall_pure (pu) rfl rfl, ?_⟩; conv => whnf) | (refine ex_row hp ?_; conv => whnf) | (refine LitB.data ?_; conv => whnf) | (refine BoxB.own ?_; conv => whnf)))
            all_goals first
              | (exfalso; omega)
              | (exfalso; simp_all; done)
              | exact ⟨hlt, by rw [hall', hPp], [], rfl, rfl, trivial, ⟨rfl, rfl, rfl, rfl, trivial⟩⟩
          | false =>
            rw [hpo] at pu
            have hPp : P p = false := by simp [P, hpo, hmv]
            conv => whnf
            (repeat' (first | ((refine DecB.mk (fun h => ?_) (fun h => ?_)) <;> first | (exfalso; omega) | (conv => whnf)) | ((refine BoolB.mk (fun h => ?_) (fun h => ?_)) <;> first | (exact absurd h (by decide)) | (conv => whnf)) | (refine ⟨_, wrap_ok (by omega) (by omega), ?_⟩; conv => whnf) | (refine and_idx (by omega) (by omega) ?_; conv => whnf) | (refine reg_ok (by decide +kernel) ?_; conv => whnf) | (refine bar_ok (by decide +kernel) (by decide +kernel) ?_; conv => whnf) | (refine late_ok rfl rfl ?_; conv => whnf) | (refine src_ok rfl ?_; conv => whnf) | (refine .inl ⟨_, _, qcall_pure (pu) rfl rfl, ?_⟩; conv => whnf) | (refine ex_row hp ?_; conv => whnf) | (refine LitB.data ?_; conv => whnf) | (refine BoxB.own ?_; conv => whnf)))
            all_goals first
              | (exfalso; omega)
              | (refine fin_int ?_
                 have hpb : pureB e.purities i l (sumR l) = false := by rw [hP]; exact all_of_get hp hPp
                 unfold stepE; rw [if_neg (by simp [hneg]), if_neg (by rw [htk]; decide), if_neg (by simp [hwe]), if_pos hpb])
              | (exfalso; simp_all; done)
        · have hPp : P p = true := by simp [P, hmv]
          conv => whnf
          (repeat' (first | ((refine DecB.mk (fun h => ?_) (fun h => ?_)) <;> first | (exfalso; omega) | (conv => whnf)) | ((refine BoolB.mk (fun h => ?_) (fun h => ?_)) <;> first | (exact absurd h (by decide)) | (conv => whnf)) | (refine ⟨_, wrap_ok (by omega) (by omega), ?_⟩; conv => whnf) | (refine and_idx (by omega) (by omega) ?_; conv => whnf) | (refine reg_ok (by decide +kernel) ?_; conv => whnf) | (refine bar_ok (by decide +kernel) (by decide +kernel) ?_; conv => whnf) | (refine late_ok rfl rfl ?_; conv => whnf) | (refine src_ok rfl ?_; conv => whnf) | (refine .inl ⟨_, _, qcall_pure (pu) rfl rfl, ?_⟩; conv => whnf) | (refine ex_row hp ?_; conv => whnf) | (refine LitB.data ?_; conv => whnf) | (refine BoxB.own ?_; conv => whnf)))
          all_goals first
            | (exfalso; omega)
            | exact ⟨hlt, by rw [hall', hPp], [], rfl, rfl, trivial, ⟨rfl, rfl, rfl, rfl, trivial⟩⟩
      · have hpb : pureB e.purities i l (sumR l) = true := by rw [hP, ← hI, List.take_of_length_le (by omega)]
        conv => whnf
        (repeat' (first | ((refine DecB.mk (fun h => ?_) (fun h => ?_)) <;> first | (exfalso; omega) | (conv => whnf)) | ((refine BoolB.mk (fun h => ?_) (fun h => ?_)) <;> first | (exact absurd h (by decide)) | (conv => whnf)) | (refine ⟨_, wrap_ok (by omega) (by omega), ?_⟩; conv => whnf) | (refine and_idx (by omega) (by omega) ?_; conv => whnf) | (refine reg_ok (by decide +kernel) ?_; conv => whnf) | (refine bar_ok (by decide +kernel) (by decide +kernel) ?_; conv => whnf) | (refine late_ok rfl rfl ?_; conv => whnf) | (refine src_ok rfl ?_; conv => whnf) | (refine LitB.data ?_; conv => whnf) | (refine BoxB.own ?_; conv => whnf)))
        all_goals first
          | (exfalso; omega)
          | (refine fin_int ?_; unfold stepE; rw [if_neg (by simp [hneg]), if_neg (by rw [htk]; decide), if_neg (by simp [hwe]), if_neg (by simp [hpb])])
    · have hwe : weighedB e x (sumR l) = false := by
        rw [weighed_iv, hiv]; simp only [inB]
        rw [← Bool.not_eq_true]
        intro h
        simp only [Bool.and_eq_true, decide_eq_true_eq] at h
        exact hw h
      have n1 : cmpR (sumR l) lo < 0 ∨ cmpR (sumR l) hi > 0 := by
        rw [k1, k2]
        by_cases h : sumR l < lo
        · exact .inl h
        · exact .inr (Rat.not_le.1 fun h2 => hw ⟨Rat.not_lt.1 h, h2⟩)
      refine awp_for tab_ok (fun k => ([S.junk, histS (hz G), intS .i64 i, S.c (C.t (evP e)), S.junk, S.junk, S.junk, S.c (C.ptr 0 0 0), fracsS (l.map fz), S.junk, S.junk, S.junk, intS .i64 k, S.junk, S.junk, S.junk, S.junk, S.junk, S.junk, S.junk, S.junk, S.junk, S.junk, S.junk, S.junk, S.junk, S.junk, S.junk, S.junk, S.junk, S.junk, S.junk, S.junk, S.junk, S.junk, S.junk, S.junk, S.junk, S.junk, S.junk, S.junk, S.junk, S.junk, S.junk, S.junk, S.junk, S.junk, S.junk, S.junk, S.junk, S.junk, S.junk, S.junk, S.junk, S.junk, S.junk, S.junk, S.junk, S.junk, S.junk, S.junk, S.junk, S.junk, S.junk, S.junk, S.junk, S.junk, S.junk, S.junk, S.junk, S.junk, S.junk, S.junk, S.junk, S.junk, S.junk, S.junk, S.junk, S.junk, S.junk, S.junk, S.junk, S.junk, S.junk, S.junk, S.junk, S.junk, S.junk, S.junk, S.junk, S.junk, S.junk, S.junk, S.junk, S.junk, S.junk, S.junk, S.junk, S.junk, S.junk, S.junk, S.junk, S.junk, S.junk, S.junk, S.junk, S.junk, S.junk, S.junk, S.junk, S.junk, S.junk, S.junk, S.junk, S.junk, S.junk, S.junk, S.junk, S.junk, S.junk, S.junk, S.junk, S.junk, S.junk, S.junk, S.junk, S.junk, S.junk, S.junk, S.junk, S.junk, S.junk, S.junk, S.junk, S.junk, S.junk, S.junk, S.junk, S.junk, S.junk], [moveB x])) 0 (fun k => ∀ (j : Nat) (v : Rat), j < k → l[j]? = some v → v = stk e G i s j) [some 0] (fun j v h => absurd h (by omega))
        ⟨rfl, rfl, ⟨⟨rfl, rfl, rfl, .inl ⟨rfl, rowsT_mv x⟩⟩, trivial⟩, ⟨rfl, rfl, rfl, ⟨rfl, rfl, rfl⟩, rfl, rfl, trivial⟩⟩ ?_
      intro k hk hI
      have htk : takenE e (stk e G i) x l = 0 := by
        unfold takenE
        rw [if_pos (by rw [hkd]; exact hbin)]
      conv => whnf
      (repeat' (first | ((refine DecB.mk (fun h => ?_) (fun h => ?_)) <;> first | (exfalso; omega) | (conv => whnf)) | ((refine BoolB.mk (fun h => ?_) (fun h => ?_)) <;> first | (exact absurd h (by decide)) | (conv => whnf)) | (refine ⟨_, wrap_ok (by omega) (by omega), ?_⟩; conv => whnf) | (refine and_idx (by omega) (by omega) ?_; conv => whnf) | (refine reg_ok (by decide +kernel) ?_; conv => whnf) | (refine bar_ok (by decide +kernel) (by decide +kernel) ?_; conv => whnf) | (refine late_ok rfl rfl ?_; conv => whnf) | (refine src_ok rfl ?_; conv => whnf) | (refine .inl ⟨_, _, qcall_pure (iv) rfl rfl, ?_⟩; conv => whnf) | (refine .inl ⟨_, _, qcall_pure (5, 6) rfl rfl, ?_⟩; conv => whnf) | (refine bar_late [5, 6] (by decide +kernel) (by decide +kernel) ?_; conv => whnf) | (refine LitB.data ?_; conv => whnf) | (refine BoxB.own ?_; conv => whnf)))
      all_goals first
        | (exfalso; omega)
        | (exfalso; simp_all; done)
        | skip
      clear hI hk
      all_goals (repeat' (first | ((refine DecB.mk (fun h => ?_) (fun h => ?_)) <;> first | (exfalso; omega) | (conv => whnf)) | ((refine BoolB.mk (fun h => ?_) (fun h => ?_)) <;> first | (exact absurd h (by decide)) | (conv => whnf)) | (refine ⟨_, wrap_ok (by omega) (by omega), ?_⟩; conv => whnf) | (refine and_idx (by omega) (by omega) ?_; conv => whnf) | (refine reg_ok (by decide +kernel) ?_; conv => whnf) | (refine bar_ok (by decide +kernel) (by decide +kernel) ?_; conv => whnf) | (refine late_ok rfl rfl ?_; conv => whnf) | (refine src_ok rfl ?_; conv => whnf) | (refine .inl ⟨_, _, qcall_pure (mv) rfl rfl, ?_⟩; conv => whnf) | (refine .inl ⟨_, _, qcall_pure (c1) rfl rfl, ?_⟩; conv => whnf) | (refine .inl ⟨_, _, qcall_pure (c2) rfl rfl, ?_⟩; conv => whnf) | (refine LitB.data ?_; conv => whnf) | (refine BoxB.own ?_; conv => whnf)))
      all_goals first
        | (exfalso; omega)
        | (refine fin_int ?_; unfold stepE; rw [if_neg (by simp [hneg]), if_neg (by rw [htk]; decide), if_pos hwe])
set_option maxHeartbeats 4000000 in
theorem r15one_all (e : Ev) (G : List (List Rat)) (hG : Shape e G) (h0 : check e = 0) (hs : e.Sized) (hB : ∀ l ∈ G, ∀ x ∈ l, rl x ≤ 200) {i s : Nat} {x : Move} {l : List Rat} {pl : Place} (hx : e.moves[i]? = some x) (hl : G[i]? = some l) (hsn : x.src = s) (hpl : e.places[s]? = some pl) (hbin : pl.kind ≠ 0) (hall : x.all = true) :
    ACall Tryz.prog 36 [evS e, histS (hz G), intS .i64 i] [] (intS .i64 (stepE e x l (stk e G i) i)) [] := by
  obtain ⟨b1, b2, b3, b4⟩ := check_bounds h0
  have hmem := List.mem_of_getElem? hl
  have hB' := hB l hmem
  have hw := hG.wid l hmem
  have hik : i < e.moves.length := (List.getElem?_eq_some_iff.1 hx).1
  have m1 : ((l.map fz).map frRow).length = l.length := by simp
  have m2 : (e.purities.map Purity.row).length = e.purities.length := by simp
  have l5 := hs.s5
  have hkd : kindAt e x.src = pl.kind := by rw [hsn]; exact kindAt_of hpl
  have hss : x.src.toNat = s := by omega
  have hsaid := (check_zero h0).2.2.2.2.2.2
  have hF : ∀ p m, rl (stk e G i p m) ≤ 50000 := fun p m => by
    have := rl_stk (e := e) hB (by decide) i p m
    have h2 := Nat.mul_le_mul_right (200 + 1) (show i ≤ 200 by omega)
    omega
  have bs : rl (sumR l) ≤ 200 * 201 + 1 := Nat.le_trans (rl_sumR hB') (by have := Nat.mul_le_mul_right (200 + 1) (show l.length ≤ 200 by omega); omega)
  have iv := r15Interval e hs hx
  have mv := r15Moved l hB' (by omega)
  let P : Purity → Bool := fun p => decide (p.move ≠ (i : Int)) || pureOne p l (sumR l)
  have hP : pureB e.purities i l (sumR l) = e.purities.all P := rfl
  (refine acall_of tab_ok Tryz.func36 rfl (by decide) ?_; (conv => whnf); repeat (first | (refine LitB.data ?_; conv => whnf) | (refine BoxB.data ?_; conv => whnf)))
  (repeat' (first | ((refine DecB.mk (fun h => ?_) (fun h => ?_)) <;> first | (exfalso; omega) | (conv => whnf)) | ((refine BoolB.mk (fun h => ?_) (fun h => ?_)) <;> first | (exact absurd h (by decide)) | (conv => whnf)) | (refine ⟨_, wrap_ok (by omega) (by omega), ?_⟩; conv => whnf) | (refine and_idx (by omega) (by omega) ?_; conv => whnf) | (refine reg_ok (by decide +kernel) ?_; conv => whnf) | (refine bar_ok (by decide +kernel) (by decide +kernel) ?_; conv => whnf) | (refine late_ok rfl rfl ?_; conv => whnf) | (refine src_ok rfl ?_; conv => whnf) | (refine ex_row hx ?_; conv => whnf) | (refine ex_row (hz_get hl) ?_; conv => whnf) | (refine LitB.data ?_; conv => whnf) | (refine BoxB.own ?_; conv => whnf)))
  refine awp_for tab_ok (fun k => ([S.junk, histS (hz G), intS .i64 i, S.c (C.t (evP e)), S.junk, S.junk, S.junk, S.c (C.ptr 0 0 0), fracsS (l.map fz), intS .i64 k, S.junk, S.junk, S.junk, S.junk, S.junk, S.junk, S.junk, S.junk, S.junk, S.junk, S.junk, S.junk, S.junk, S.junk, S.junk, S.junk, S.junk, S.junk, S.junk, S.junk, S.junk, S.junk, S.junk, S.junk, S.junk, S.junk, S.junk, S.junk, S.junk, S.junk, S.junk, S.junk, S.junk, S.junk, S.junk, S.junk, S.junk, S.junk, S.junk, S.junk, S.junk, S.junk, S.junk, S.junk, S.junk, S.junk, S.junk, S.junk, S.junk, S.junk, S.junk, S.junk, S.junk, S.junk, S.junk, S.junk, S.junk, S.junk, S.junk, S.junk, S.junk, S.junk, S.junk, S.junk, S.junk, S.junk, S.junk, S.junk, S.junk, S.junk, S.junk, S.junk, S.junk, S.junk, S.junk, S.junk, S.junk, S.junk, S.junk, S.junk, S.junk, S.junk, S.junk, S.junk, S.junk, S.junk, S.junk, S.junk, S.junk, S.junk, S.junk, S.junk, S.junk, S.junk, S.junk, S.junk, S.junk, S.junk, S.junk, S.junk, S.junk, S.junk, S.junk, S.junk, S.junk, S.junk, S.junk, S.junk, S.junk, S.junk, S.junk, S.junk, S.junk, S.junk, S.junk, S.junk, S.junk, S.junk, S.junk, S.junk, S.junk, S.junk, S.junk, S.junk, S.junk, S.junk, S.junk, S.junk, S.junk, S.junk], [moveB x])) l.length (fun k => (l.take k).any (fun v => decide (v < 0)) = false) [some 0] rfl
    ⟨rfl, rfl, ⟨⟨rfl, rfl, rfl, .inl ⟨rfl, rowsT_mv x⟩⟩, trivial⟩, ⟨rfl, rfl, rfl, ⟨rfl, rfl, rfl⟩, rfl, rfl, trivial⟩⟩ ?_
  intro k hk hI
  by_cases hlt : k < l.length
  · obtain ⟨v, hv⟩ : ∃ v, l[k]? = some v := ⟨_, List.getElem?_eq_getElem hlt⟩
    have bx := hB' v (List.mem_of_getElem? hv)
    have sg := r5Sign v (by omega)
    have sn := sgR_neg (x := v)
    conv => whnf
    (repeat' (first | ((refine DecB.mk (fun h => ?_) (fun h => ?_)) <;> first | (exfalso; omega) | (conv => whnf)) | ((refine BoolB.mk (fun h => ?_) (fun h => ?_)) <;> first | (exact absurd h (by decide)) | (conv => whnf)) | (refine ⟨_, wrap_ok (by omega) (by omega), ?_⟩; conv => whnf) | (refine and_idx (by omega) (by omega) ?_; conv => whnf) | (refine reg_ok (by decide +kernel) ?_; conv => whnf) | (refine bar_ok (by decide +kernel) (by decide +kernel) ?_; conv => whnf) | (refine late_ok rfl rfl ?_; conv => whnf) | (refine src_ok rfl ?_; conv => whnf) | (refine .inl ⟨_, _, qcall_pure (sg) rfl rfl, ?_⟩; conv => whnf) | (refine ex_row (zero_get l hv) ?_; conv => whnf) | (refine LitB.data ?_; conv => whnf) | (refine BoxB.own ?_; conv => whnf)))
    all_goals first
      | (exfalso; omega)
      | (have h0 : sgR v < 0 := by omega
         exact fin_int (by unfold stepE; rw [if_pos (any_of_get hv (by simpa using sn.1 h0))]))
      | (have h0 : ¬ sgR v < 0 := by omega
         exact ⟨hlt, by rw [any_take_succ hv, hI]; simpa using fun h => h0 (sn.2 h), [some 0], rfl, rfl, ⟨⟨rfl, rfl, rfl, .inl ⟨rfl, rowsT_mv x⟩⟩, trivial⟩, ⟨rfl, rfl, rfl, ⟨rfl, rfl, rfl⟩, rfl, rfl, trivial⟩⟩)
  have hneg : l.any (fun v => decide (v < 0)) = false := by rw [← hI, List.take_of_length_le (by omega)]
  conv => whnf
  (repeat' (first | ((refine DecB.mk (fun h => ?_) (fun h => ?_)) <;> first | (exfalso; omega) | (conv => whnf)) | ((refine BoolB.mk (fun h => ?_) (fun h => ?_)) <;> first | (exact absurd h (by decide)) | (conv => whnf)) | (refine ⟨_, wrap_ok (by omega) (by omega), ?_⟩; conv => whnf) | (refine and_idx (by omega) (by omega) ?_; conv => whnf) | (refine reg_ok (by decide +kernel) ?_; conv => whnf) | (refine bar_ok (by decide +kernel) (by decide +kernel) ?_; conv => whnf) | (refine late_ok rfl rfl ?_; conv => whnf) | (refine src_ok rfl ?_; conv => whnf) | (refine ex_rowE hsn hpl ?_; conv => whnf) | (refine LitB.data ?_; conv => whnf) | (refine BoxB.own ?_; conv => whnf)))
  all_goals try (exfalso; omega)
  clear hI hlt hk
  refine awp_for tab_ok (fun k => ([S.junk, histS (hz G), intS .i64 i, S.c (C.t (evP e)), S.junk, S.junk, S.junk, S.c (C.ptr 0 0 0), fracsS (l.map fz), S.junk, boolS false, intS .i64 k, S.junk, S.junk, S.junk, S.junk, S.junk, S.junk, S.junk, S.junk, S.junk, S.junk, S.junk, S.junk, S.junk, S.junk, S.junk, S.junk, S.junk, S.junk, S.junk, S.junk, S.junk, S.junk, S.junk, S.junk, S.junk, S.junk, S.junk, S.junk, S.junk, S.junk, S.junk, S.junk, S.junk, S.junk, S.junk, S.junk, S.junk, S.junk, S.junk, S.junk, S.junk, S.junk, S.junk, S.junk, S.junk, S.junk, S.junk, S.junk, S.junk, S.junk, S.junk, S.junk, S.junk, S.junk, S.junk, S.junk, S.junk, S.junk, S.junk, S.junk, S.junk, S.junk, S.junk, S.junk, S.junk, S.junk, S.junk, S.junk, S.junk, S.junk, S.junk, S.junk, S.junk, S.junk, S.junk, S.junk, S.junk, S.junk, S.junk, S.junk, S.junk, S.junk, S.junk, S.junk, S.junk, S.junk, S.junk, S.junk, S.junk, S.junk, S.junk, S.junk, S.junk, S.junk, S.junk, S.junk, S.junk, S.junk, S.junk, S.junk, S.junk, S.junk, S.junk, S.junk, S.junk, S.junk, S.junk, S.junk, S.junk, S.junk, S.junk, S.junk, S.junk, S.junk, S.junk, S.junk, S.junk, S.junk, S.junk, S.junk, S.junk, S.junk, S.junk, S.junk, S.junk, S.junk, S.junk, S.junk], [moveB x])) l.length (fun k => ∀ (j : Nat) (v : Rat), j < k → l[j]? = some v → ¬ stk e G i s j < v) [some 0] (fun j v h => absurd h (by omega))
    ⟨rfl, rfl, ⟨⟨rfl, rfl, rfl, .inl ⟨rfl, rowsT_mv x⟩⟩, trivial⟩, ⟨rfl, rfl, rfl, ⟨rfl, rfl, rfl⟩, rfl, rfl, rfl, trivial⟩⟩ ?_
  intro k hk hI
  by_cases hlt : k < l.length
  · obtain ⟨v, hv⟩ : ∃ v, l[k]? = some v := ⟨_, List.getElem?_eq_getElem hlt⟩
    have bx := hB' v (List.mem_of_getElem? hv)
    have bf := hF s k
    have at_ := r15at e G hG h0 hB s k i (by omega) (by omega)
    rw [← hsn] at at_
    have c := r5Compare v (stk e G i s k) (by omega) (by omega)
    have cl := cmpR_lt' (x := v) (y := stk e G i s k)
    conv => whnf
    (repeat' (first | ((refine DecB.mk (fun h => ?_) (fun h => ?_)) <;> first | (exfalso; omega) | (conv => whnf)) | ((refine BoolB.mk (fun h => ?_) (fun h => ?_)) <;> first | (exact absurd h (by decide)) | (conv => whnf)) | (refine ⟨_, wrap_ok (by omega) (by omega), ?_⟩; conv => whnf) | (refine and_idx (by omega) (by omega) ?_; conv => whnf) | (refine reg_ok (by decide +kernel) ?_; conv => whnf) | (refine bar_ok (by decide +kernel) (by decide +kernel) ?_; conv => whnf) | (refine late_ok rfl rfl ?_; conv => whnf) | (refine src_ok rfl ?_; conv => whnf) | (refine .inl ⟨_, _, qcall_pure (at_) rfl rfl, ?_⟩; conv => whnf) | (refine .inl ⟨_, _, qcall_pure (c) rfl rfl, ?_⟩; conv => whnf) | (refine ex_row (zero_get l hv) ?_; conv => whnf) | (refine LitB.data ?_; conv => whnf) | (refine BoxB.own ?_; conv => whnf)))
    all_goals first
      | (exfalso; omega)
      | (have h1 : cmpR v (stk e G i s k) > 0 := by omega
         refine fin_int ?_
         have ht : takenE e (stk e G i) x l = 4 := by
           unfold takenE; rw [if_neg (by rw [hkd]; exact hbin), hss]
           exact takenF_over ⟨k, v, hv, by rw [Nat.zero_add]; exact cl.1 h1⟩
         unfold stepE; rw [if_neg (by simp [hneg]), if_pos (by rw [ht]; decide), ht])
      | (have h1 : ¬ cmpR v (stk e G i s k) > 0 := by omega
         refine ⟨hlt, fun j w hj hw => ?_, [some 0], rfl, rfl, ⟨⟨rfl, rfl, rfl, .inl ⟨rfl, rowsT_mv x⟩⟩, trivial⟩, ⟨rfl, rfl, rfl, ⟨rfl, rfl, rfl⟩, rfl, rfl, rfl, trivial⟩⟩
         rcases Nat.lt_or_ge j k with hjk | hjk
         · exact hI j w hjk hw
         · obtain rfl : j = k := by omega
           rw [hv] at hw; injection hw with hw; subst hw
           exact fun h => h1 (cl.2 h))
  have hover : ∀ (j : Nat) (v : Rat), l[j]? = some v → ¬ stk e G i s (0 + j) < v := fun j v hj => by
    rw [Nat.zero_add]; exact hI j v (by have := (List.getElem?_eq_some_iff.1 hj).1; omega) hj
  conv => whnf
  (repeat' (first | ((refine DecB.mk (fun h => ?_) (fun h => ?_)) <;> first | (exfalso; omega) | (conv => whnf)) | ((refine BoolB.mk (fun h => ?_) (fun h => ?_)) <;> first | (exact absurd h (by decide)) | (conv => whnf)) | (refine ⟨_, wrap_ok (by omega) (by omega), ?_⟩; conv => whnf) | (refine and_idx (by omega) (by omega) ?_; conv => whnf) | (refine reg_ok (by decide +kernel) ?_; conv => whnf) | (refine bar_ok (by decide +kernel) (by decide +kernel) ?_; conv => whnf) | (refine late_ok rfl rfl ?_; conv => whnf) | (refine src_ok rfl ?_; conv => whnf) | (refine LitB.data ?_; conv => whnf) | (refine BoxB.own ?_; conv => whnf)))
  all_goals try (exfalso; omega)
  clear hI hlt hk
  cases hiv : ivOf e x with
  | none =>
    rw [hiv] at iv
    have hwe : weighedB e x (sumR l) = true := by rw [weighed_iv, hiv]; rfl
    refine awp_for tab_ok (fun k => ([S.junk, histS (hz G), intS .i64 i, S.c (C.t (evP e)), S.junk, S.junk, S.junk, S.c (C.ptr 0 0 0), fracsS (l.map fz), S.junk, S.junk, S.junk, intS .i64 k, S.junk, S.junk, S.junk, S.junk, S.junk, S.junk, S.junk, S.junk, S.junk, S.junk, S.junk, S.junk, S.junk, S.junk, S.junk, S.junk, S.junk, S.junk, S.junk, S.junk, S.junk, S.junk, S.junk, S.junk, S.junk, S.junk, S.junk, S.junk, S.junk, S.junk, S.junk, S.junk, S.junk, S.junk, S.junk, S.junk, S.junk, S.junk, S.junk, S.junk, S.junk, S.junk, S.junk, S.junk, S.junk, S.junk, S.junk, S.junk, S.junk, S.junk, S.junk, S.junk, S.junk, S.junk, S.junk, S.junk, S.junk, S.junk, S.junk, S.junk, S.junk, S.junk, S.junk, S.junk, S.junk, S.junk, S.junk, S.junk, S.junk, S.junk, S.junk, S.junk, S.junk, S.junk, S.junk, S.junk, S.junk, S.junk, S.junk, S.junk, S.junk, S.junk, S.junk, S.junk, S.junk, S.junk, S.junk, S.junk, S.junk, S.junk, S.junk, S.junk, S.junk, S.junk, S.junk, S.junk, S.junk, S.junk, S.junk, S.junk, S.junk, S.junk, S.junk, S.junk, S.junk, S.junk, S.junk, S.junk, S.junk, S.junk, S.junk, S.junk, S.junk, S.junk, S.junk, S.junk, S.junk, S.junk, S.junk, S.junk, S.junk, S.junk, S.junk, S.junk, S.junk, S.junk, S.junk], [moveB x])) l.length (fun k => ∀ (j : Nat) (v : Rat), j < k → l[j]? = some v → v = stk e G i s j) [some 0] (fun j v h => absurd h (by omega))
      ⟨rfl, rfl, ⟨⟨rfl, rfl, rfl, .inl ⟨rfl, rowsT_mv x⟩⟩, trivial⟩, ⟨rfl, rfl, rfl, ⟨rfl, rfl, rfl⟩, rfl, rfl, trivial⟩⟩ ?_
    intro k hk hI
    by_cases hlt : k < l.length
    · obtain ⟨v, hv⟩ : ∃ v, l[k]? = some v := ⟨_, List.getElem?_eq_getElem hlt⟩
      have bx := hB' v (List.mem_of_getElem? hv)
      have bf := hF s k
      have at_ := r15at e G hG h0 hB s k i (by omega) (by omega)
      rw [← hsn] at at_
      have c := r5Compare v (stk e G i s k) (by omega) (by omega)
      have cz := cmpR_zero (x := v) (y := stk e G i s k)
      conv => whnf
      (repeat' (first | ((refine DecB.mk (fun h => ?_) (fun h => ?_)) <;> first | (exfalso; omega) | (conv => whnf)) | ((refine BoolB.mk (fun h => ?_) (fun h => ?_)) <;> first | (exact absurd h (by decide)) | (conv => whnf)) | (refine ⟨_, wrap_ok (by omega) (by omega), ?_⟩; conv => whnf) | (refine and_idx (by omega) (by omega) ?_; conv => whnf) | (refine reg_ok (by decide +kernel) ?_; conv => whnf) | (refine bar_ok (by decide +kernel) (by decide +kernel) ?_; conv => whnf) | (refine late_ok rfl rfl ?_; conv => whnf) | (refine src_ok rfl ?_; conv => whnf) | (refine .inl ⟨_, _, qcall_pure (at_) rfl rfl, ?_⟩; conv => whnf) | (refine .inl ⟨_, _, qcall_pure (c) rfl rfl, ?_⟩; conv => whnf) | (refine ex_row (zero_get l hv) ?_; conv => whnf) | (refine LitB.data ?_; conv => whnf) | (refine BoxB.own ?_; conv => whnf)))
      all_goals first
        | (exfalso; omega)
        | (exfalso; simp_all; done)
        | (have h1 : cmpR v (stk e G i s k) = 0 := by omega
           refine ⟨hlt, fun j w hj hw => ?_, [some 0], rfl, rfl, ⟨⟨rfl, rfl, rfl, .inl ⟨rfl, rowsT_mv x⟩⟩, trivial⟩, ⟨rfl, rfl, rfl, ⟨rfl, rfl, rfl⟩, rfl, rfl, trivial⟩⟩
           rcases Nat.lt_or_ge j k with hjk | hjk
           · exact hI j w hjk hw
           · obtain rfl : j = k := by omega
             rw [hv] at hw; injection hw with hw; subst hw
             exact cz.1 h1)
        | (have h1 : ¬ cmpR v (stk e G i s k) = 0 := by omega
           refine fin_int ?_
           have ht : takenE e (stk e G i) x l = 7 := by
             unfold takenE; rw [if_neg (by rw [hkd]; exact hbin), hss, hall]
             exact takenF_seven hover (.inr ⟨k, v, hv, by rw [Nat.zero_add]; exact fun h => h1 (cz.2 h)⟩)
           unfold stepE; rw [if_neg (by simp [hneg]), if_pos (by rw [ht]; decide), ht])
    have htk : takenE e (stk e G i) x l = 0 := by
      unfold takenE
      rw [if_neg (by rw [hkd]; exact hbin), hss]
      exact takenF_ok hover (.inr ⟨rfl, fun j v hj => by rw [Nat.zero_add]; exact hI j v (by have := (List.getElem?_eq_some_iff.1 hj).1; omega) hj⟩)
    conv => whnf
    (repeat' (first | ((refine DecB.mk (fun h => ?_) (fun h => ?_)) <;> first | (exfalso; omega) | (conv => whnf)) | ((refine BoolB.mk (fun h => ?_) (fun h => ?_)) <;> first | (exact absurd h (by decide)) | (conv => whnf)) | (refine ⟨_, wrap_ok (by omega) (by omega), ?_⟩; conv => whnf) | (refine and_idx (by omega) (by omega) ?_; conv => whnf) | (refine reg_ok (by decide +kernel) ?_; conv => whnf) | (refine bar_ok (by decide +kernel) (by decide +kernel) ?_; conv => whnf) | (refine late_ok rfl rfl ?_; conv => whnf) | (refine src_ok rfl ?_; conv => whnf) | (refine .inl ⟨_, _, qcall_pure (iv) rfl rfl, ?_⟩; conv => whnf) | (refine .inl ⟨_, _, qcall_pure (5, 6) rfl rfl, ?_⟩; conv => whnf) | (refine bar_late [5, 6] (by decide +kernel) (by decide +kernel) ?_; conv => whnf) | (refine LitB.data ?_; conv => whnf) | (refine BoxB.own ?_; conv => whnf)))
    all_goals first
      | (exfalso; omega)
      | (exfalso; simp_all; done)
      | skip
    clear hI hlt hk
    all_goals (repeat' (first | ((refine DecB.mk (fun h => ?_) (fun h => ?_)) <;> first | (exfalso; omega) | (conv => whnf)) | ((refine BoolB.mk (fun h => ?_) (fun h => ?_)) <;> first | (exact absurd h (by decide)) | (conv => whnf)) | (refine ⟨_, wrap_ok (by omega) (by omega), ?_⟩; conv => whnf) | (refine and_idx (by omega) (by omega) ?_; conv => whnf) | (refine reg_ok (by decide +kernel) ?_; conv => whnf) | (refine bar_ok (by decide +kernel) (by decide +kernel) ?_; conv => whnf) | (refine late_ok rfl rfl ?_; conv => whnf) | (refine src_ok rfl ?_; conv => whnf) | (refine .inl ⟨_, _, qcall_pure (mv) rfl rfl, ?_⟩; conv => whnf) | (refine LitB.data ?_; conv => whnf) | (refine BoxB.own ?_; conv => whnf)))
    refine awp_for tab_ok (fun k => ([S.junk, S.junk, intS .i64 i, S.c (C.t (evP e)), S.junk, S.junk, S.junk, S.junk, fracsS (l.map fz), S.junk, S.junk, S.junk, S.junk, S.junk, S.junk, S.junk, S.junk, intS .i64 k, S.junk, S.junk, S.junk, S.junk, S.junk, S.junk, S.junk, S.junk, S.junk, S.junk, S.junk, S.junk, S.junk, S.junk, S.junk, S.junk, S.junk, S.junk, S.junk, S.junk, S.junk, S.junk, S.junk, S.junk, S.junk, S.junk, S.junk, S.junk, S.junk, S.junk, S.junk, S.junk, S.junk, S.junk, S.junk, S.junk, S.junk, S.junk, S.junk, S.junk, S.junk, S.junk, S.junk, S.junk, S.junk, S.junk, S.junk, S.junk, S.junk, S.junk, S.junk, S.junk, S.junk, S.junk, S.junk, S.junk, S.junk, S.junk, S.junk, S.junk, S.junk, S.junk, S.junk, S.junk, S.junk, S.junk, S.junk, S.junk, S.junk, S.junk, S.junk, S.junk, S.junk, S.junk, S.junk, S.junk, S.junk, S.junk, S.junk, S.junk, S.junk, S.junk, S.junk, S.junk, S.junk, S.junk, S.junk, S.junk, S.junk, S.junk, S.junk, S.junk, S.junk, S.junk, S.junk, S.junk, S.junk, S.junk, S.junk, S.junk, S.junk, S.junk, S.junk, S.junk, S.junk, S.junk, S.junk, S.junk, S.junk, S.junk, S.junk, S.junk, S.junk, S.junk, S.junk, S.junk, S.junk, S.junk, S.junk, S.junk, S.junk, S.junk], [])) e.purities.length (fun k => (e.purities.take k).all P = true) [] rfl
      ⟨rfl, rfl, trivial, ⟨rfl, rfl, rfl, rfl, trivial⟩⟩ ?_
    intro k hk hI
    by_cases hlt : k < e.purities.length
    · obtain ⟨p, hp⟩ : ∃ p, e.purities[k]? = some p := ⟨_, List.getElem?_eq_getElem hlt⟩
      have hall' : (e.purities.take (k + 1)).all P = P p := by rw [all_take_succ hp, hI, Bool.true_and]
      obtain ⟨q1, q2, q3, q4, q5⟩ := purity_get hsaid (List.mem_of_getElem? hp)
      have pu := r15pure p l q1 (by omega) q3 q4 q5 hB' (by omega)
      by_cases hmv : p.move = (i : Int)
      · cases hpo : pureOne p l (sumR l) with
        | true =>
          rw [hpo] at pu
          have hPp : P p = true := by simp [P, hpo]
          conv => whnf
          (repeat' (first | ((refine DecB.mk (fun h => ?_) (fun h => ?_)) <;> first | (exfalso; omega) | (conv => whnf)) | ((refine BoolB.mk (fun h => ?_) (fun h => ?_)) <;> first | (exact absurd h (by decide)) | (conv => whnf)) | (refine ⟨_, wrap_ok (by omega) (by omega), ?_⟩; conv => whnf) | (refine and_idx (by omega) (by omega) ?_; conv => whnf) | (refine reg_ok (by decide +kernel) ?_; conv => whnf) | (refine bar_ok (by decide +kernel) (by decide +kernel) ?_; conv => whnf) | (refine late_ok rfl rfl ?_; conv => whnf) | (refine src_ok rfl ?_; conv => whnf) | (refine .inl ⟨_, _, qcall_pure (pu) rfl rfl, ?_⟩; conv => whnf) | (refine ex_row hp ?_; conv => whnf) | (refine LitB.data ?_; conv => whnf) | (refine BoxB.own ?_; conv => whnf)))
          all_goals first
            | (exfalso; omega)
            | (exfalso; simp_all; done)
            | exact ⟨hlt, by rw [hall', hPp], [], rfl, rfl, trivial, ⟨rfl, rfl, rfl, rfl, trivial⟩⟩
        | false =>
          rw [hpo] at pu
          have hPp : P p = false := by simp [P, hpo, hmv]
          conv => whnf
          (repeat' (first | ((refine DecB.mk (fun h => ?_) (fun h => ?_)) <;> first | (exfalso; omega) | (conv => whnf)) | ((refine BoolB.mk (fun h => ?_) (fun h => ?_)) <;> first | (exact absurd h (by decide)) | (conv => whnf)) | (refine ⟨_, wrap_ok (by omega) (by omega), ?_⟩; conv => whnf) | (refine and_idx (by omega) (by omega) ?_; conv => whnf) | (refine reg_ok (by decide +kernel) ?_; conv => whnf) | (refine bar_ok (by decide +kernel) (by decide +kernel) ?_; conv => whnf) | (refine late_ok rfl rfl ?_; conv => whnf) | (refine src_ok rfl ?_; conv => whnf) | (refine .inl ⟨_, _, qcall_pure (pu) rfl rfl, ?_⟩; conv => whnf) | (refine ex_row hp ?_; conv => whnf) | (refine LitB.data ?_; conv => whnf) | (refine BoxB.own ?_; conv => whnf)))
          all_goals first
            | (exfalso; omega)
            | (refine fin_int ?_
               have hpb : pureB e.purities i l (sumR l) = false := by rw [hP]; exact all_of_get hp hPp
               unfold stepE; rw [if_neg (by simp [hneg]), if_neg (by rw [htk]; decide), if_neg (by simp [hwe]), if_pos hpb])
            | (exfalso; simp_all; done)
      · have hPp : P p = true := by simp [P, hmv]
        conv => whnf
        (repeat' (first | ((refine DecB.mk (fun h => ?_) (fun h => ?_)) <;> first | (exfalso; omega) | (conv => whnf)) | ((refine BoolB.mk (fun h => ?_) (fun h => ?_)) <;> first | (exact absurd h (by decide)) | (conv => whnf)) | (refine ⟨_, wrap_ok (by omega) (by omega), ?_⟩; conv => whnf) | (refine and_idx (by omega) (by omega) ?_; conv => whnf) | (refine reg_ok (by decide +kernel) ?_; conv => whnf) | (refine bar_ok (by decide +kernel) (by decide +kernel) ?_; conv => whnf) | (refine late_ok rfl rfl ?_; conv => whnf) | (refine src_ok rfl ?_; conv => whnf) | (refine .inl ⟨_, _, qcall_pure (pu) rfl rfl, ?_⟩; conv => whnf) | (refine ex_row hp ?_; conv => whnf) | (refine LitB.data ?_; conv => whnf) | (refine BoxB.own ?_; conv => whnf)))
        all_goals first
          | (exfalso; omega)
          | exact ⟨hlt, by rw [hall', hPp], [], rfl, rfl, trivial, ⟨rfl, rfl, rfl, rfl, trivial⟩⟩
    · have hpb : pureB e.purities i l (sumR l) = true := by rw [hP, ← hI, List.take_of_length_le (by omega)]
      conv => whnf
      (repeat' (first | ((refine DecB.mk (fun h => ?_) (fun h => ?_)) <;> first | (exfalso; omega) | (conv => whnf)) | ((refine BoolB.mk (fun h => ?_) (fun h => ?_)) <;> first | (exact absurd h (by decide)) | (conv => whnf)) | (refine ⟨_, wrap_ok (by omega) (by omega), ?_⟩; conv => whnf) | (refine and_idx (by omega) (by omega) ?_; conv => whnf) | (refine reg_ok (by decide +kernel) ?_; conv => whnf) | (refine bar_ok (by decide +kernel) (by decide +kernel) ?_; conv => whnf) | (refine late_ok rfl rfl ?_; conv => whnf) | (refine src_ok rfl ?_; conv => whnf) | (refine LitB.data ?_; conv => whnf) | (refine BoxB.own ?_; conv => whnf)))
      all_goals first
        | (exfalso; omega)
        | (refine fin_int ?_; unfold stepE; rw [if_neg (by simp [hneg]), if_neg (by rw [htk]; decide), if_neg (by simp [hwe]), if_neg (by simp [hpb])])
  | some lh =>
    obtain ⟨lo, hi⟩ := lh
    rw [hiv] at iv
    obtain ⟨bl, bh⟩ := rl_ivOf hiv
    have c1 := r5Compare (sumR l) lo (by omega) (by omega)
    have c2 := r5Compare (sumR l) hi (by omega) (by omega)
    have k1 := cmpR_lt (x := sumR l) (y := lo)
    have k2 := cmpR_lt' (x := sumR l) (y := hi)
    by_cases hw : lo ≤ sumR l ∧ sumR l ≤ hi
    · have hwe : weighedB e x (sumR l) = true := by rw [weighed_iv, hiv]; simp [inB, hw.1, hw.2]
      have n1 : ¬ cmpR (sumR l) lo < 0 := fun h => by have := k1.1 h; grind
      have n2 : ¬ cmpR (sumR l) hi > 0 := fun h => by have := k2.1 h; grind
      refine awp_for tab_ok (fun k => ([S.junk, histS (hz G), intS .i64 i, S.c (C.t (evP e)), S.junk, S.junk, S.junk, S.c (C.ptr 0 0 0), fracsS (l.map fz), S.junk, S.junk, S.junk, intS .i64 k, S.junk, S.junk, S.junk, S.junk, S.junk, S.junk, S.junk, S.junk, S.junk, S.junk, S.junk, S.junk, S.junk, S.junk, S.junk, S.junk, S.junk, S.junk, S.junk, S.junk, S.junk, S.junk, S.junk, S.junk, S.junk, S.junk, S.junk, S.junk, S.junk, S.junk, S.junk, S.junk, S.junk, S.junk, S.junk, S.junk, S.junk, S.junk, S.junk, S.junk, S.junk, S.junk, S.junk, S.junk, S.junk, S.junk, S.junk, S.junk, S.junk, S.junk, S.junk, S.junk, S.junk, S.junk, S.junk, S.junk, S.junk, S.junk, S.junk, S.junk, S.junk, S.junk, S.junk, S.junk, S.junk, S.junk, S.junk, S.junk, S.junk, S.junk, S.junk, S.junk, S.junk, S.junk, S.junk, S.junk, S.junk, S.junk, S.junk, S.junk, S.junk, S.junk, S.junk, S.junk, S.junk, S.junk, S.junk, S.junk, S.junk, S.junk, S.junk, S.junk, S.junk, S.junk, S.junk, S.junk, S.junk, S.junk, S.junk, S.junk, S.junk, S.junk, S.junk, S.junk, S.junk, S.junk, S.junk, S.junk, S.junk, S.junk, S.junk, S.junk, S.junk, S.junk, S.junk, S.junk, S.junk, S.junk, S.junk, S.junk, S.junk, S.junk, S.junk, S.junk, S.junk, S.junk, S.junk], [moveB x])) l.length (fun k => ∀ (j : Nat) (v : Rat), j < k → l[j]? = some v → v = stk e G i s j) [some 0] (fun j v h => absurd h (by omega))
        ⟨rfl, rfl, ⟨⟨rfl, rfl, rfl, .inl ⟨rfl, rowsT_mv x⟩⟩, trivial⟩, ⟨rfl, rfl, rfl, ⟨rfl, rfl, rfl⟩, rfl, rfl, trivial⟩⟩ ?_
      intro k hk hI
      by_cases hlt : k < l.length
      · obtain ⟨v, hv⟩ : ∃ v, l[k]? = some v := ⟨_, List.getElem?_eq_getElem hlt⟩
        have bx := hB' v (List.mem_of_getElem? hv)
        have bf := hF s k
        have at_ := r15at e G hG h0 hB s k i (by omega) (by omega)
        rw [← hsn] at at_
        have c := r5Compare v (stk e G i s k) (by omega) (by omega)
        have cz := cmpR_zero (x := v) (y := stk e G i s k)
        conv => whnf
        (repeat' (first | ((refine DecB.mk (fun h => ?_) (fun h => ?_)) <;> first | (exfalso; omega) | (conv => whnf)) | ((refine BoolB.mk (fun h => ?_) (fun h => ?_)) <;> first | (exact absurd h (by decide)) | (conv => whnf)) | (refine ⟨_, wrap_ok (by omega) (by omega), ?_⟩; conv => whnf) | (refine and_idx (by omega) (by omega) ?_; conv => whnf) | (refine reg_ok (by decide +kernel) ?_; conv => whnf) | (refine bar_ok (by decide +kernel) (by decide +kernel) ?_; conv => whnf) | (refine late_ok rfl rfl ?_; conv => whnf) | (refine src_ok rfl ?_; conv => whnf) | (refine .inl ⟨_, _, qcall_pure (at_) rfl rfl, ?_⟩; conv => whnf) | (refine .inl ⟨_, _, qcall_pure (c) rfl rfl, ?_⟩; conv => whnf) | (refine ex_row (zero_get l hv) ?_; conv => whnf) | (refine LitB.data ?_; conv => whnf) | (refine BoxB.own ?_; conv => whnf)))
        all_goals first
          | (exfalso; omega)
          | (exfalso; simp_all; done)
          | (have h1 : cmpR v (stk e G i s k) = 0 := by omega
             refine ⟨hlt, fun j w hj hw => ?_, [some 0], rfl, rfl, ⟨⟨rfl, rfl, rfl, .inl ⟨rfl, rowsT_mv x⟩⟩, trivial⟩, ⟨rfl, rfl, rfl, ⟨rfl, rfl, rfl⟩, rfl, rfl, trivial⟩⟩
             rcases Nat.lt_or_ge j k with hjk | hjk
             · exact hI j w hjk hw
             · obtain rfl : j = k := by omega
               rw [hv] at hw; injection hw with hw; subst hw
               exact cz.1 h1)
          | (have h1 : ¬ cmpR v (stk e G i s k) = 0 := by omega
             refine fin_int ?_
             have ht : takenE e (stk e G i) x l = 7 := by
               unfold takenE; rw [if_neg (by rw [hkd]; exact hbin), hss, hall]
               exact takenF_seven hover (.inr ⟨k, v, hv, by rw [Nat.zero_add]; exact fun h => h1 (cz.2 h)⟩)
             unfold stepE; rw [if_neg (by simp [hneg]), if_pos (by rw [ht]; decide), ht])
      have htk : takenE e (stk e G i) x l = 0 := by
        unfold takenE
        rw [if_neg (by rw [hkd]; exact hbin), hss]
        exact takenF_ok hover (.inr ⟨rfl, fun j v hj => by rw [Nat.zero_add]; exact hI j v (by have := (List.getElem?_eq_some_iff.1 hj).1; omega) hj⟩)
      conv => whnf
      (repeat' (first | ((refine DecB.mk (fun h => ?_) (fun h => ?_)) <;> first | (exfalso; omega) | (conv => whnf)) | ((refine BoolB.mk (fun h => ?_) (fun h => ?_)) <;> first | (exact absurd h (by decide)) | (conv => whnf)) | (refine ⟨_, wrap_ok (by omega) (by omega), ?_⟩; conv => whnf) | (refine and_idx (by omega) (by omega) ?_; conv => whnf) | (refine reg_ok (by decide +kernel) ?_; conv => whnf) | (refine bar_ok (by decide +kernel) (by decide +kernel) ?_; conv => whnf) | (refine late_ok rfl rfl ?_; conv => whnf) | (refine src_ok rfl ?_; conv => whnf) | (refine .inl ⟨_, _, qcall_pure (iv) rfl rfl, ?_⟩; conv => whnf) | (refine .inl ⟨_, _, qcall_pure (5, 6) rfl rfl, ?_⟩; conv => whnf) | (refine bar_late [5, 6] (by decide +kernel) (by decide +kernel) ?_; conv => whnf) | (refine LitB.data ?_; conv => whnf) | (refine BoxB.own ?_; conv => whnf)))
      all_goals first
        | (exfalso; omega)
        | (exfalso; simp_all; done)
        | skip
      clear hI hlt hk
      all_goals (repeat' (first | ((refine DecB.mk (fun h => ?_) (fun h => ?_)) <;> first | (exfalso; omega) | (conv => whnf)) | ((refine BoolB.mk (fun h => ?_) (fun h => ?_)) <;> first | (exact absurd h (by decide)) | (conv => whnf)) | (refine ⟨_, wrap_ok (by omega) (by omega), ?_⟩; conv => whnf) | (refine and_idx (by omega) (by omega) ?_; conv => whnf) | (refine reg_ok (by decide +kernel) ?_; conv => whnf) | (refine bar_ok (by decide +kernel) (by decide +kernel) ?_; conv => whnf) | (refine late_ok rfl rfl ?_; conv => whnf) | (refine src_ok rfl ?_; conv => whnf) | (refine .inl ⟨_, _, qcall_pure (mv) rfl rfl, ?_⟩; conv => whnf) | (refine .inl ⟨_, _, qcall_pure (c1) rfl rfl, ?_⟩; conv => whnf) | (refine .inl ⟨_, _, qcall_pure (c2) rfl rfl, ?_⟩; conv => whnf) | (refine LitB.data ?_; conv => whnf) | (refine BoxB.own ?_; conv => whnf)))
      all_goals try (exfalso; omega)
      refine awp_for tab_ok (fun k => ([S.junk, S.junk, intS .i64 i, S.c (C.t (evP e)), S.junk, S.junk, S.junk, S.junk, fracsS (l.map fz), S.junk, S.junk, S.junk, S.junk, S.junk, S.junk, S.junk, S.junk, intS .i64 k, S.junk, S.junk, S.junk, S.junk, S.junk, S.junk, S.junk, S.junk, S.junk, S.junk, S.junk, S.junk, S.junk, S.junk, S.junk, S.junk, S.junk, S.junk, S.junk, S.junk, S.junk, S.junk, S.junk, S.junk, S.junk, S.junk, S.junk, S.junk, S.junk, S.junk, S.junk, S.junk, S.junk, S.junk, S.junk, S.junk, S.junk, S.junk, S.junk, S.junk, S.junk, S.junk, S.junk, S.junk, S.junk, S.junk, S.junk, S.junk, S.junk, S.junk, S.junk, S.junk, S.junk, S.junk, S.junk, S.junk, S.junk, S.junk, S.junk, S.junk, S.junk, S.junk, S.junk, S.junk, S.junk, S.junk, S.junk, S.junk, S.junk, S.junk, S.junk, S.junk, S.junk, S.junk, S.junk, S.junk, S.junk, S.junk, S.junk, S.junk, S.junk, S.junk, S.junk, S.junk, S.junk, S.junk, S.junk, S.junk, S.junk, S.junk, S.junk, S.junk, S.junk, S.junk, S.junk, S.junk, S.junk, S.junk, S.junk, S.junk, S.junk, S.junk, S.junk, S.junk, S.junk, S.junk, S.junk, S.junk, S.junk, S.junk, S.junk, S.junk, S.junk, S.junk, S.junk, S.junk, S.junk, S.junk, S.junk, S.junk, S.junk, S.junk], [])) e.purities.length (fun k => (e.purities.take k).all P = true) [] rfl
        ⟨rfl, rfl, trivial, ⟨rfl, rfl, rfl, rfl, trivial⟩⟩ ?_
      intro k hk hI
      by_cases hlt : k < e.purities.length
      · obtain ⟨p, hp⟩ : ∃ p, e.purities[k]? = some p := ⟨_, List.getElem?_eq_getElem hlt⟩
        have hall' : (e.purities.take (k + 1)).all P = P p := by rw [all_take_succ hp, hI, Bool.true_and]
        obtain ⟨q1, q2, q3, q4, q5⟩ := purity_get hsaid (List.mem_of_getElem? hp)
        have pu := r15pure p l q1 (by omega) q3 q4 q5 hB' (by omega)
        by_cases hmv : p.move = (i : Int)
        · cases hpo : pureOne p l (sumR l) with
          | true =>
            rw [hpo] at pu
            have hPp : P p = true := by simp [P, hpo]
            conv => whnf
            (repeat' (first | ((refine DecB.mk (fun h => ?_) (fun h => ?_)) <;> first | (exfalso; omega) | (conv => whnf)) | ((refine BoolB.mk (fun h => ?_) (fun h => ?_)) <;> first | (exact absurd h (by decide)) | (conv => whnf)) | (refine ⟨_, wrap_ok (by omega) (by omega), ?_⟩; conv => whnf) | (refine and_idx (by omega) (by omega) ?_; conv => whnf) | (refine reg_ok (by decide +kernel) ?_; conv => whnf) | (refine bar_ok (by decide +kernel) (by decide +kernel) ?_; conv => whnf) | (refine late_ok rfl rfl ?_; conv => whnf) | (refine src_ok rfl ?_; conv => whnf) | (refine .inl ⟨_, _, qcall_pure (pu) rfl rfl, ?_⟩; conv => whnf) | (refine ex_row hp ?_; conv => whnf) | (refine LitB.data ?_; conv => whnf) | (refine BoxB.own ?_; conv => whnf)))
            all_goals first
              | (exfalso; omega)
              | (exfalso; simp_all; done)
              | exact ⟨hlt, by rw [hall', hPp], [], rfl, rfl, trivial, ⟨rfl, rfl, rfl, rfl, trivial⟩⟩
          | false =>
            rw [hpo] at pu
            have hPp : P p = false := by simp [P, hpo, hmv]
            conv => whnf
            (repeat' (first | ((refine DecB.mk (fun h => ?_) (fun h => ?_)) <;> first | (exfalso; omega) | (conv => whnf)) | ((refine BoolB.mk (fun h => ?_) (fun h => ?_)) <;> first | (exact absurd h (by decide)) | (conv => whnf)) | (refine ⟨_, wrap_ok (by omega) (by omega), ?_⟩; conv => whnf) | (refine and_idx (by omega) (by omega) ?_; conv => whnf) | (refine reg_ok (by decide +kernel) ?_; conv => whnf) | (refine bar_ok (by decide +kernel) (by decide +kernel) ?_; conv => whnf) | (refine late_ok rfl rfl ?_; conv => whnf) | (refine src_ok rfl ?_; conv => whnf) | (refine .inl ⟨_, _, qcall_pure (pu) rfl rfl, ?_⟩; conv => whnf) | (refine ex_row hp ?_; conv => whnf) | (refine LitB.data ?_; conv => whnf) | (refine BoxB.own ?_; conv => whnf)))
            all_goals first
              | (exfalso; omega)
              | (refine fin_int ?_
                 have hpb : pureB e.purities i l (sumR l) = false := by rw [hP]; exact all_of_get hp hPp
                 unfold stepE; rw [if_neg (by simp [hneg]), if_neg (by rw [htk]; decide), if_neg (by simp [hwe]), if_pos hpb])
              | (exfalso; simp_all; done)
        · have hPp : P p = true := by simp [P, hmv]
          conv => whnf
          (repeat' (first | ((refine DecB.mk (fun h => ?_) (fun h => ?_)) <;> first | (exfalso; omega) | (conv => whnf)) | ((refine BoolB.mk (fun h => ?_) (fun h => ?_)) <;> first | (exact absurd h (by decide)) | (conv => whnf)) | (refine ⟨_, wrap_ok (by omega) (by omega), ?_⟩; conv => whnf) | (refine and_idx (by omega) (by omega) ?_; conv => whnf) | (refine reg_ok (by decide +kernel) ?_; conv => whnf) | (refine bar_ok (by decide +kernel) (by decide +kernel) ?_; conv => whnf) | (refine late_ok rfl rfl ?_; conv => whnf) | (refine src_ok rfl ?_; conv => whnf) | (refine .inl ⟨_, _, qcall_pure (pu) rfl rfl, ?_⟩; conv => whnf) | (refine ex_row hp ?_; conv => whnf) | (refine LitB.data ?_; conv => whnf) | (refine BoxB.own ?_; conv => whnf)))
          all_goals first
            | (exfalso; omega)
            | exact ⟨hlt, by rw [hall', hPp], [], rfl, rfl, trivial, ⟨rfl, rfl, rfl, rfl, trivial⟩⟩
      · have hpb : pureB e.purities i l (sumR l) = true := by rw [hP, ← hI, List.take_of_length_le (by omega)]
        conv => whnf
        (repeat' (first | ((refine DecB.mk (fun h => ?_) (fun h => ?_)) <;> first | (exfalso; omega) | (conv => whnf)) | ((refine BoolB.mk (fun h => ?_) (fun h => ?_)) <;> first | (exact absurd h (by decide)) | (conv => whnf)) | (refine ⟨_, wrap_ok (by omega) (by omega), ?_⟩; conv => whnf) | (refine and_idx (by omega) (by omega) ?_; conv => whnf) | (refine reg_ok (by decide +kernel) ?_; conv => whnf) | (refine bar_ok (by decide +kernel) (by decide +kernel) ?_; conv => whnf) | (refine late_ok rfl rfl ?_; conv => whnf) | (refine src_ok rfl ?_; conv => whnf) | (refine LitB.data ?_; conv => whnf) | (refine BoxB.own ?_; conv => whnf)))
        all_goals first
          | (exfalso; omega)
          | (refine fin_int ?_; unfold stepE; rw [if_neg (by simp [hneg]), if_neg (by rw [htk]; decide), if_neg (by simp [hwe]), if_neg (by simp [hpb])])
    · have hwe : weighedB e x (sumR l) = false := by
        rw [weighed_iv, hiv]; simp only [inB]
        rw [← Bool.not_eq_true]
        intro h
        simp only [Bool.and_eq_true, decide_eq_true_eq] at h
        exact hw h
      have n1 : cmpR (sumR l) lo < 0 ∨ cmpR (sumR l) hi > 0 := by
        rw [k1, k2]
        by_cases h : sumR l < lo
        · exact .inl h
        · exact .inr (Rat.not_le.1 fun h2 => hw ⟨Rat.not_lt.1 h, h2⟩)
      refine awp_for tab_ok (fun k => ([S.junk, histS (hz G), intS .i64 i, S.c (C.t (evP e)), S.junk, S.junk, S.junk, S.c (C.ptr 0 0 0), fracsS (l.map fz), S.junk, S.junk, S.junk, intS .i64 k, S.junk, S.junk, S.junk, S.junk, S.junk, S.junk, S.junk, S.junk, S.junk, S.junk, S.junk, S.junk, S.junk, S.junk, S.junk, S.junk, S.junk, S.junk, S.junk, S.junk, S.junk, S.junk, S.junk, S.junk, S.junk, S.junk, S.junk, S.junk, S.junk, S.junk, S.junk, S.junk, S.junk, S.junk, S.junk, S.junk, S.junk, S.junk, S.junk, S.junk, S.junk, S.junk, S.junk, S.junk, S.junk, S.junk, S.junk, S.junk, S.junk, S.junk, S.junk, S.junk, S.junk, S.junk, S.junk, S.junk, S.junk, S.junk, S.junk, S.junk, S.junk, S.junk, S.junk, S.junk, S.junk, S.junk, S.junk, S.junk, S.junk, S.junk, S.junk, S.junk, S.junk, S.junk, S.junk, S.junk, S.junk, S.junk, S.junk, S.junk, S.junk, S.junk, S.junk, S.junk, S.junk, S.junk, S.junk, S.junk, S.junk, S.junk, S.junk, S.junk, S.junk, S.junk, S.junk, S.junk, S.junk, S.junk, S.junk, S.junk, S.junk, S.junk, S.junk, S.junk, S.junk, S.junk, S.junk, S.junk, S.junk, S.junk, S.junk, S.junk, S.junk, S.junk, S.junk, S.junk, S.junk, S.junk, S.junk, S.junk, S.junk, S.junk, S.junk, S.junk, S.junk, S.junk, S.junk], [moveB x])) l.length (fun k => ∀ (j : Nat) (v : Rat), j < k → l[j]? = some v → v = stk e G i s j) [some 0] (fun j v h => absurd h (by omega))
        ⟨rfl, rfl, ⟨⟨rfl, rfl, rfl, .inl ⟨rfl, rowsT_mv x⟩⟩, trivial⟩, ⟨rfl, rfl, rfl, ⟨rfl, rfl, rfl⟩, rfl, rfl, trivial⟩⟩ ?_
      intro k hk hI
      by_cases hlt : k < l.length
      · obtain ⟨v, hv⟩ : ∃ v, l[k]? = some v := ⟨_, List.getElem?_eq_getElem hlt⟩
        have bx := hB' v (List.mem_of_getElem? hv)
        have bf := hF s k
        have at_ := r15at e G hG h0 hB s k i (by omega) (by omega)
        rw [← hsn] at at_
        have c := r5Compare v (stk e G i s k) (by omega) (by omega)
        have cz := cmpR_zero (x := v) (y := stk e G i s k)
        conv => whnf
        (repeat' (first | ((refine DecB.mk (fun h => ?_) (fun h => ?_)) <;> first | (exfalso; omega) | (conv => whnf)) | ((refine BoolB.mk (fun h => ?_) (fun h => ?_)) <;> first | (exact absurd h (by decide)) | (conv => whnf)) | (refine ⟨_, wrap_ok (by omega) (by omega), ?_⟩; conv => whnf) | (refine and_idx (by omega) (by omega) ?_; conv => whnf) | (refine reg_ok (by decide +kernel) ?_; conv => whnf) | (refine bar_ok (by decide +kernel) (by decide +kernel) ?_; conv => whnf) | (refine late_ok rfl rfl ?_; conv => whnf) | (refine src_ok rfl ?_; conv => whnf) | (refine .inl ⟨_, _, qcall_pure (at_) rfl rfl, ?_⟩; conv => whnf) | (refine .inl ⟨_, _, qcall_pure (c) rfl rfl, ?_⟩; conv => whnf) | (refine ex_row (zero_get l hv) ?_; conv => whnf) | (refine LitB.data ?_; conv => whnf) | (refine BoxB.own ?_; conv => whnf)))
        all_goals first
          | (exfalso; omega)
          | (exfalso; simp_all; done)
          | (have h1 : cmpR v (stk e G i s k) = 0 := by omega
             refine ⟨hlt, fun j w hj hw => ?_, [some 0], rfl, rfl, ⟨⟨rfl, rfl, rfl, .inl ⟨rfl, rowsT_mv x⟩⟩, trivial⟩, ⟨rfl, rfl, rfl, ⟨rfl, rfl, rfl⟩, rfl, rfl, trivial⟩⟩
             rcases Nat.lt_or_ge j k with hjk | hjk
             · exact hI j w hjk hw
             · obtain rfl : j = k := by omega
               rw [hv] at hw; injection hw with hw; subst hw
               exact cz.1 h1)
          | (have h1 : ¬ cmpR v (stk e G i s k) = 0 := by omega
             refine fin_int ?_
             have ht : takenE e (stk e G i) x l = 7 := by
               unfold takenE; rw [if_neg (by rw [hkd]; exact hbin), hss, hall]
               exact takenF_seven hover (.inr ⟨k, v, hv, by rw [Nat.zero_add]; exact fun h => h1 (cz.2 h)⟩)
             unfold stepE; rw [if_neg (by simp [hneg]), if_pos (by rw [ht]; decide), ht])
      have htk : takenE e (stk e G i) x l = 0 := by
        unfold takenE
        rw [if_neg (by rw [hkd]; exact hbin), hss]
        exact takenF_ok hover (.inr ⟨rfl, fun j v hj => by rw [Nat.zero_add]; exact hI j v (by have := (List.getElem?_eq_some_iff.1 hj).1; omega) hj⟩)
      conv => whnf
      (repeat' (first | ((refine DecB.mk (fun h => ?_) (fun h => ?_)) <;> first | (exfalso; omega) | (conv => whnf)) | ((refine BoolB.mk (fun h => ?_) (fun h => ?_)) <;> first | (exact absurd h (by decide)) | (conv => whnf)) | (refine ⟨_, wrap_ok (by omega) (by omega), ?_⟩; conv => whnf) | (refine and_idx (by omega) (by omega) ?_; conv => whnf) | (refine reg_ok (by decide +kernel) ?_; conv => whnf) | (refine bar_ok (by decide +kernel) (by decide +kernel) ?_; conv => whnf) | (refine late_ok rfl rfl ?_; conv => whnf) | (refine src_ok rfl ?_; conv => whnf) | (refine .inl ⟨_, _, qcall_pure (iv) rfl rfl, ?_⟩; conv => whnf) | (refine .inl ⟨_, _, qcall_pure (5, 6) rfl rfl, ?_⟩; conv => whnf) | (refine bar_late [5, 6] (by decide +kernel) (by decide +kernel) ?_; conv => whnf) | (refine LitB.data ?_; conv => whnf) | (refine BoxB.own ?_; conv => whnf)))
      all_goals first
        | (exfalso; omega)
        | (exfalso; simp_all; done)
        | skip
      clear hI hlt hk
      all_goals (repeat' (first | ((refine DecB.mk (fun h => ?_) (fun h => ?_)) <;> first | (exfalso; omega) | (conv => whnf)) | ((refine BoolB.mk (fun h => ?_) (fun h => ?_)) <;> first | (exact absurd h (by decide)) | (conv => whnf)) | (refine ⟨_, wrap_ok (by omega) (by omega), ?_⟩; conv => whnf) | (refine and_idx (by omega) (by omega) ?_; conv => whnf) | (refine reg_ok (by decide +kernel) ?_; conv => whnf) | (refine bar_ok (by decide +kernel) (by decide +kernel) ?_; conv => whnf) | (refine late_ok rfl rfl ?_; conv => whnf) | (refine src_ok rfl ?_; conv => whnf) | (refine .inl ⟨_, _, qcall_pure (mv) rfl rfl, ?_⟩; conv => whnf) | (refine .inl ⟨_, _, qcall_pure (c1) rfl rfl, ?_⟩; conv => whnf) | (refine .inl ⟨_, _, qcall_pure (c2) rfl rfl, ?_⟩; conv => whnf) | (refine LitB.data ?_; conv => whnf) | (refine BoxB.own ?_; conv => whnf)))
      all_goals first
        | (exfalso; omega)
        | (refine fin_int ?_; unfold stepE; rw [if_neg (by simp [hneg]), if_neg (by rw [htk]; decide), if_pos hwe])
set_option maxHeartbeats 4000000 in
theorem r15one_no (e : Ev) (G : List (List Rat)) (hG : Shape e G) (h0 : check e = 0) (hs : e.Sized) (hB : ∀ l ∈ G, ∀ x ∈ l, rl x ≤ 200) {i s : Nat} {x : Move} {l : List Rat} {pl : Place} (hx : e.moves[i]? = some x) (hl : G[i]? = some l) (hsn : x.src = s) (hpl : e.places[s]? = some pl) (hbin : pl.kind ≠ 0) (hall : x.all = false) :
    ACall Tryz.prog 36 [evS e, histS (hz G), intS .i64 i] [] (intS .i64 (stepE e x l (stk e G i) i)) [] := by
  obtain ⟨b1, b2, b3, b4⟩ := check_bounds h0
  have hmem := List.mem_of_getElem? hl
  have hB' := hB l hmem
  have hw := hG.wid l hmem
  have hik : i < e.moves.length := (List.getElem?_eq_some_iff.1 hx).1
  have m1 : ((l.map fz).map frRow).length = l.length := by simp
  have m2 : (e.purities.map Purity.row).length = e.purities.length := by simp
  have l5 := hs.s5
  have hkd : kindAt e x.src = pl.kind := by rw [hsn]; exact kindAt_of hpl
  have hss : x.src.toNat = s := by omega
  have hsaid := (check_zero h0).2.2.2.2.2.2
  have hF : ∀ p m, rl (stk e G i p m) ≤ 50000 := fun p m => by
    have := rl_stk (e := e) hB (by decide) i p m
    have h2 := Nat.mul_le_mul_right (200 + 1) (show i ≤ 200 by omega)
    omega
  have bs : rl (sumR l) ≤ 200 * 201 + 1 := Nat.le_trans (rl_sumR hB') (by have := Nat.mul_le_mul_right (200 + 1) (show l.length ≤ 200 by omega); omega)
  have iv := r15Interval e hs hx
  have mv := r15Moved l hB' (by omega)
  let P : Purity → Bool := fun p => decide (p.move ≠ (i : Int)) || pureOne p l (sumR l)
  have hP : pureB e.purities i l (sumR l) = e.purities.all P := rfl
  (refine acall_of tab_ok Tryz.func36 rfl (by decide) ?_; (conv => whnf); repeat (first | (refine LitB.data ?_; conv => whnf) | (refine BoxB.data ?_; conv => whnf)))
  (repeat' (first | ((refine DecB.mk (fun h => ?_) (fun h => ?_)) <;> first | (exfalso; omega) | (conv => whnf)) | ((refine BoolB.mk (fun h => ?_) (fun h => ?_)) <;> first | (exact absurd h (by decide)) | (conv => whnf)) | (refine ⟨_, wrap_ok (by omega) (by omega), ?_⟩; conv => whnf) | (refine and_idx (by omega) (by omega) ?_; conv => whnf) | (refine reg_ok (by decide +kernel) ?_; conv => whnf) | (refine bar_ok (by decide +kernel) (by decide +kernel) ?_; conv => whnf) | (refine late_ok rfl rfl ?_; conv => whnf) | (refine src_ok rfl ?_; conv => whnf) | (refine ex_row hx ?_; conv => whnf) | (refine ex_row (hz_get hl) ?_; conv => whnf) | (refine LitB.data ?_; conv => whnf) | (refine BoxB.own ?_; conv => whnf)))
  refine awp_for tab_ok (fun k => ([S.junk, histS (hz G), intS .i64 i, S.c (C.t (evP e)), S.junk, S.junk, S.junk, S.c (C.ptr 0 0 0), fracsS (l.map fz), intS .i64 k, S.junk, S.junk, S.junk, S.junk, S.junk, S.junk, S.junk, S.junk, S.junk, S.junk, S.junk, S.junk, S.junk, S.junk, S.junk, S.junk, S.junk, S.junk, S.junk, S.junk, S.junk, S.junk, S.junk, S.junk, S.junk, S.junk, S.junk, S.junk, S.junk, S.junk, S.junk, S.junk, S.junk, S.junk, S.junk, S.junk, S.junk, S.junk, S.junk, S.junk, S.junk, S.junk, S.junk, S.junk, S.junk, S.junk, S.junk, S.junk, S.junk, S.junk, S.junk, S.junk, S.junk, S.junk, S.junk, S.junk, S.junk, S.junk, S.junk, S.junk, S.junk, S.junk, S.junk, S.junk, S.junk, S.junk, S.junk, S.junk, S.junk, S.junk, S.junk, S.junk, S.junk, S.junk, S.junk, S.junk, S.junk, S.junk, S.junk, S.junk, S.junk, S.junk, S.junk, S.junk, S.junk, S.junk, S.junk, S.junk, S.junk, S.junk, S.junk, S.junk, S.junk, S.junk, S.junk, S.junk, S.junk, S.junk, S.junk, S.junk, S.junk, S.junk, S.junk, S.junk, S.junk, S.junk, S.junk, S.junk, S.junk, S.junk, S.junk, S.junk, S.junk, S.junk, S.junk, S.junk, S.junk, S.junk, S.junk, S.junk, S.junk, S.junk, S.junk, S.junk, S.junk, S.junk, S.junk, S.junk, S.junk, S.junk], [moveB x])) l.length (fun k => (l.take k).any (fun v => decide (v < 0)) = false) [some 0] rfl
    ⟨rfl, rfl, ⟨⟨rfl, rfl, rfl, .inl ⟨rfl, rowsT_mv x⟩⟩, trivial⟩, ⟨rfl, rfl, rfl, ⟨rfl, rfl, rfl⟩, rfl, rfl, trivial⟩⟩ ?_
  intro k hk hI
  by_cases hlt : k < l.length
  · obtain ⟨v, hv⟩ : ∃ v, l[k]? = some v := ⟨_, List.getElem?_eq_getElem hlt⟩
    have bx := hB' v (List.mem_of_getElem? hv)
    have sg := r5Sign v (by omega)
    have sn := sgR_neg (x := v)
    conv => whnf
    (repeat' (first | ((refine DecB.mk (fun h => ?_) (fun h => ?_)) <;> first | (exfalso; omega) | (conv => whnf)) | ((refine BoolB.mk (fun h => ?_) (fun h => ?_)) <;> first | (exact absurd h (by decide)) | (conv => whnf)) | (refine ⟨_, wrap_ok (by omega) (by omega), ?_⟩; conv => whnf) | (refine and_idx (by omega) (by omega) ?_; conv => whnf) | (refine reg_ok (by decide +kernel) ?_; conv => whnf) | (refine bar_ok (by decide +kernel) (by decide +kernel) ?_; conv => whnf) | (refine late_ok rfl rfl ?_; conv => whnf) | (refine src_ok rfl ?_; conv => whnf) | (refine .inl ⟨_, _, qcall_pure (sg) rfl rfl, ?_⟩; conv => whnf) | (refine ex_row (zero_get l hv) ?_; conv => whnf) | (refine LitB.data ?_; conv => whnf) | (refine BoxB.own ?_; conv => whnf)))
    all_goals first
      | (exfalso; omega)
      | (have h0 : sgR v < 0 := by omega
         exact fin_int (by unfold stepE; rw [if_pos (any_of_get hv (by simpa using sn.1 h0))]))
      | (have h0 : ¬ sgR v < 0 := by omega
         exact ⟨hlt, by rw [any_take_succ hv, hI]; simpa using fun h => h0 (sn.2 h), [some 0], rfl, rfl, ⟨⟨rfl, rfl, rfl, .inl ⟨rfl, rowsT_mv x⟩⟩, trivial⟩, ⟨rfl, rfl, rfl, ⟨rfl, rfl, rfl⟩, rfl, rfl, trivial⟩⟩)
  have hneg : l.any (fun v => decide (v < 0)) = false := by rw [← hI, List.take_of_length_le (by omega)]
  conv => whnf
  (repeat' (first | ((refine DecB.mk (fun h => ?_) (fun h => ?_)) <;> first | (exfalso; omega) | (conv => whnf)) | ((refine BoolB.mk (fun h => ?_) (fun h => ?_)) <;> first | (exact absurd h (by decide)) | (conv => whnf)) | (refine ⟨_, wrap_ok (by omega) (by omega), ?_⟩; conv => whnf) | (refine and_idx (by omega) (by omega) ?_; conv => whnf) | (refine reg_ok (by decide +kernel) ?_; conv => whnf) | (refine bar_ok (by decide +kernel) (by decide +kernel) ?_; conv => whnf) | (refine late_ok rfl rfl ?_; conv => whnf) | (refine src_ok rfl ?_; conv => whnf) | (refine ex_rowE hsn hpl ?_; conv => whnf) | (refine LitB.data ?_; conv => whnf) | (refine BoxB.own ?_; conv => whnf)))
  all_goals try (exfalso; omega)
  clear hI hlt hk
  refine awp_for tab_ok (fun k => ([S.junk, histS (hz G), intS .i64 i, S.c (C.t (evP e)), S.junk, S.junk, S.junk, S.c (C.ptr 0 0 0), fracsS (l.map fz), S.junk, boolS false, intS .i64 k, S.junk, S.junk, S.junk, S.junk, S.junk, S.junk, S.junk, S.junk, S.junk, S.junk, S.junk, S.junk, S.junk, S.junk, S.junk, S.junk, S.junk, S.junk, S.junk, S.junk, S.junk, S.junk, S.junk, S.junk, S.junk, S.junk, S.junk, S.junk, S.junk, S.junk, S.junk, S.junk, S.junk, S.junk, S.junk, S.junk, S.junk, S.junk, S.junk, S.junk, S.junk, S.junk, S.junk, S.junk, S.junk, S.junk, S.junk, S.junk, S.junk, S.junk, S.junk, S.junk, S.junk, S.junk, S.junk, S.junk, S.junk, S.junk, S.junk, S.junk, S.junk, S.junk, S.junk, S.junk, S.junk, S.junk, S.junk, S.junk, S.junk, S.junk, S.junk, S.junk, S.junk, S.junk, S.junk, S.junk, S.junk, S.junk, S.junk, S.junk, S.junk, S.junk, S.junk, S.junk, S.junk, S.junk, S.junk, S.junk, S.junk, S.junk, S.junk, S.junk, S.junk, S.junk, S.junk, S.junk, S.junk, S.junk, S.junk, S.junk, S.junk, S.junk, S.junk, S.junk, S.junk, S.junk, S.junk, S.junk, S.junk, S.junk, S.junk, S.junk, S.junk, S.junk, S.junk, S.junk, S.junk, S.junk, S.junk, S.junk, S.junk, S.junk, S.junk, S.junk, S.junk, S.junk, S.junk, S.junk], [moveB x])) l.length (fun k => ∀ (j : Nat) (v : Rat), j < k → l[j]? = some v → ¬ stk e G i s j < v) [some 0] (fun j v h => absurd h (by omega))
    ⟨rfl, rfl, ⟨⟨rfl, rfl, rfl, .inl ⟨rfl, rowsT_mv x⟩⟩, trivial⟩, ⟨rfl, rfl, rfl, ⟨rfl, rfl, rfl⟩, rfl, rfl, rfl, trivial⟩⟩ ?_
  intro k hk hI
  by_cases hlt : k < l.length
  · obtain ⟨v, hv⟩ : ∃ v, l[k]? = some v := ⟨_, List.getElem?_eq_getElem hlt⟩
    have bx := hB' v (List.mem_of_getElem? hv)
    have bf := hF s k
    have at_ := r15at e G hG h0 hB s k i (by omega) (by omega)
    rw [← hsn] at at_
    have c := r5Compare v (stk e G i s k) (by omega) (by omega)
    have cl := cmpR_lt' (x := v) (y := stk e G i s k)
    conv => whnf
    (repeat' (first | ((refine DecB.mk (fun h => ?_) (fun h => ?_)) <;> first | (exfalso; omega) | (conv => whnf)) | ((refine BoolB.mk (fun h => ?_) (fun h => ?_)) <;> first | (exact absurd h (by decide)) | (conv => whnf)) | (refine ⟨_, wrap_ok (by omega) (by omega), ?_⟩; conv => whnf) | (refine and_idx (by omega) (by omega) ?_; conv => whnf) | (refine reg_ok (by decide +kernel) ?_; conv => whnf) | (refine bar_ok (by decide +kernel) (by decide +kernel) ?_; conv => whnf) | (refine late_ok rfl rfl ?_; conv => whnf) | (refine src_ok rfl ?_; conv => whnf) | (refine .inl ⟨_, _, qcall_pure (at_) rfl rfl, ?_⟩; conv => whnf) | (refine .inl ⟨_, _, qcall_pure (c) rfl rfl, ?_⟩; conv => whnf) | (refine ex_row (zero_get l hv) ?_; conv => whnf) | (refine LitB.data ?_; conv => whnf) | (refine BoxB.own ?_; conv => whnf)))
    all_goals first
      | (exfalso; omega)
      | (have h1 : cmpR v (stk e G i s k) > 0 := by omega
         refine fin_int ?_
         have ht : takenE e (stk e G i) x l = 4 := by
           unfold takenE; rw [if_neg (by rw [hkd]; exact hbin), hss]
           exact takenF_over ⟨k, v, hv, by rw [Nat.zero_add]; exact cl.1 h1⟩
         unfold stepE; rw [if_neg (by simp [hneg]), if_pos (by rw [ht]; decide), ht])
      | (have h1 : ¬ cmpR v (stk e G i s k) > 0 := by omega
         refine ⟨hlt, fun j w hj hw => ?_, [some 0], rfl, rfl, ⟨⟨rfl, rfl, rfl, .inl ⟨rfl, rowsT_mv x⟩⟩, trivial⟩, ⟨rfl, rfl, rfl, ⟨rfl, rfl, rfl⟩, rfl, rfl, rfl, trivial⟩⟩
         rcases Nat.lt_or_ge j k with hjk | hjk
         · exact hI j w hjk hw
         · obtain rfl : j = k := by omega
           rw [hv] at hw; injection hw with hw; subst hw
           exact fun h => h1 (cl.2 h))
  have hover : ∀ (j : Nat) (v : Rat), l[j]? = some v → ¬ stk e G i s (0 + j) < v := fun j v hj => by
    rw [Nat.zero_add]; exact hI j v (by have := (List.getElem?_eq_some_iff.1 hj).1; omega) hj
  conv => whnf
  (repeat' (first | ((refine DecB.mk (fun h => ?_) (fun h => ?_)) <;> first | (exfalso; omega) | (conv => whnf)) | ((refine BoolB.mk (fun h => ?_) (fun h => ?_)) <;> first | (exact absurd h (by decide)) | (conv => whnf)) | (refine ⟨_, wrap_ok (by omega) (by omega), ?_⟩; conv => whnf) | (refine and_idx (by omega) (by omega) ?_; conv => whnf) | (refine reg_ok (by decide +kernel) ?_; conv => whnf) | (refine bar_ok (by decide +kernel) (by decide +kernel) ?_; conv => whnf) | (refine late_ok rfl rfl ?_; conv => whnf) | (refine src_ok rfl ?_; conv => whnf) | (refine LitB.data ?_; conv => whnf) | (refine BoxB.own ?_; conv => whnf)))
  all_goals try (exfalso; omega)
  clear hI hlt hk
  cases hiv : ivOf e x with
  | none =>
    rw [hiv] at iv
    have hwe : weighedB e x (sumR l) = true := by rw [weighed_iv, hiv]; rfl
    refine awp_for tab_ok (fun k => ([S.junk, histS (hz G), intS .i64 i, S.c (C.t (evP e)), S.junk, S.junk, S.junk, S.c (C.ptr 0 0 0), fracsS (l.map fz), S.junk, S.junk, S.junk, intS .i64 k, S.junk, S.junk, S.junk, S.junk, S.junk, S.junk, S.junk, S.junk, S.junk, S.junk, S.junk, S.junk, S.junk, S.junk, S.junk, S.junk, S.junk, S.junk, S.junk, S.junk, S.junk, S.junk, S.junk, S.junk, S.junk, S.junk, S.junk, S.junk, S.junk, S.junk, S.junk, S.junk, S.junk, S.junk, S.junk, S.junk, S.junk, S.junk, S.junk, S.junk, S.junk, S.junk, S.junk, S.junk, S.junk, S.junk, S.junk, S.junk, S.junk, S.junk, S.junk, S.junk, S.junk, S.junk, S.junk, S.junk, S.junk, S.junk, S.junk, S.junk, S.junk, S.junk, S.junk, S.junk, S.junk, S.junk, S.junk, S.junk, S.junk, S.junk, S.junk, S.junk, S.junk, S.junk, S.junk, S.junk, S.junk, S.junk, S.junk, S.junk, S.junk, S.junk, S.junk, S.junk, S.junk, S.junk, S.junk, S.junk, S.junk, S.junk, S.junk, S.junk, S.junk, S.junk, S.junk, S.junk, S.junk, S.junk, S.junk, S.junk, S.junk, S.junk, S.junk, S.junk, S.junk, S.junk, S.junk, S.junk, S.junk, S.junk, S.junk, S.junk, S.junk, S.junk, S.junk, S.junk, S.junk, S.junk, S.junk, S.junk, S.junk, S.junk, S.junk, S.junk, S.junk, S.junk, S.junk], [moveB x])) 0 (fun k => ∀ (j : Nat) (v : Rat), j < k → l[j]? = some v → v = stk e G i s j) [some 0] (fun j v h => absurd h (by omega))
      ⟨rfl, rfl, ⟨⟨rfl, rfl, rfl, .inl ⟨rfl, rowsT_mv x⟩⟩, trivial⟩, ⟨rfl, rfl, rfl, ⟨rfl, rfl, rfl⟩, rfl, rfl, trivial⟩⟩ ?_
    intro k hk hI
    have htk : takenE e (stk e G i) x l = 0 := by
      unfold takenE
      rw [if_neg (by rw [hkd]; exact hbin), hss]; exact takenF_ok hover (.inl hall)
    conv => whnf
    (repeat' (first | ((refine DecB.mk (fun h => ?_) (fun h => ?_)) <;> first | (exfalso; omega) | (conv => whnf)) | ((refine BoolB.mk (fun h => ?_) (fun h => ?_)) <;> first | (exact absurd h (by decide)) | (conv => whnf)) | (refine ⟨_, wrap_ok (by omega) (by omega), ?_⟩; conv => whnf) | (refine and_idx (by omega) (by omega) ?_; conv => whnf) | (refine reg_ok (by decide +kernel) ?_; conv => whnf) | (refine bar_ok (by decide +kernel) (by decide +kernel) ?_; conv => whnf) | (refine late_ok rfl rfl ?_; conv => whnf) | (refine src_ok rfl ?_; conv => whnf) | (refine .inl ⟨_, _, qcall_pure (iv) rfl rfl, ?_⟩; conv => whnf) | (refine .inl ⟨_, _, qcall_pure (5, 6) rfl rfl, ?_⟩; conv => whnf) | (refine bar_late [5, 6] (by decide +kernel) (by decide +kernel) ?_; conv => whnf) | (refine LitB.data ?_; conv => whnf) | (refine BoxB.own ?_; conv => whnf)))
    all_goals first
      | (exfalso; omega)
      | (exfalso; simp_all; done)
      | skip
    clear hI hk
    all_goals (repeat' (first | ((refine DecB.mk (fun h => ?_) (fun h => ?_)) <;> first | (exfalso; omega) | (conv => whnf)) | ((refine BoolB.mk (fun h => ?_) (fun h => ?_)) <;> first | (exact absurd h (by decide)) | (conv => whnf)) | (refine ⟨_, wrap_ok (by omega) (by omega), ?_⟩; conv => whnf) | (refine and_idx (by omega) (by omega) ?_; conv => whnf) | (refine reg_ok (by decide +kernel) ?_; conv => whnf) | (refine bar_ok (by decide +kernel) (by decide +kernel) ?_; conv => whnf) | (refine late_ok rfl rfl ?_; conv => whnf) | (refine src_ok rfl ?_; conv => whnf) | (refine .inl ⟨_, _, qcall_pure (mv) rfl rfl, ?_⟩; conv => whnf) | (refine LitB.data ?_; conv => whnf) | (refine BoxB.own ?_; conv => whnf)))
    refine awp_for tab_ok (fun k => ([S.junk, S.junk, intS .i64 i, S.c (C.t (evP e)), S.junk, S.junk, S.junk, S.junk, fracsS (l.map fz), S.junk, S.junk, S.junk, S.junk, S.junk, S.junk, S.junk, S.junk, intS .i64 k, S.junk, S.junk, S.junk, S.junk, S.junk, S.junk, S.junk, S.junk, S.junk, S.junk, S.junk, S.junk, S.junk, S.junk, S.junk, S.junk, S.junk, S.junk, S.junk, S.junk, S.junk, S.junk, S.junk, S.junk, S.junk, S.junk, S.junk, S.junk, S.junk, S.junk, S.junk, S.junk, S.junk, S.junk, S.junk, S.junk, S.junk, S.junk, S.junk, S.junk, S.junk, S.junk, S.junk, S.junk, S.junk, S.junk, S.junk, S.junk, S.junk, S.junk, S.junk, S.junk, S.junk, S.junk, S.junk, S.junk, S.junk, S.junk, S.junk, S.junk, S.junk, S.junk, S.junk, S.junk, S.junk, S.junk, S.junk, S.junk, S.junk, S.junk, S.junk, S.junk, S.junk, S.junk, S.junk, S.junk, S.junk, S.junk, S.junk, S.junk, S.junk, S.junk, S.junk, S.junk, S.junk, S.junk, S.junk, S.junk, S.junk, S.junk, S.junk, S.junk, S.junk, S.junk, S.junk, S.junk, S.junk, S.junk, S.junk, S.junk, S.junk, S.junk, S.junk, S.junk, S.junk, S.junk, S.junk, S.junk, S.junk, S.junk, S.junk, S.junk, S.junk, S.junk, S.junk, S.junk, S.junk, S.junk, S.junk, S.junk, S.junk, S.junk], [])) e.purities.length (fun k => (e.purities.take k).all P = true) [] rfl
      ⟨rfl, rfl, trivial, ⟨rfl, rfl, rfl, rfl, trivial⟩⟩ ?_
    intro k hk hI
    by_cases hlt : k < e.purities.length
    · obtain ⟨p, hp⟩ : ∃ p, e.purities[k]? = some p := ⟨_, List.getElem?_eq_getElem hlt⟩
      have hall' : (e.purities.take (k + 1)).all P = P p := by rw [all_take_succ hp, hI, Bool.true_and]
      obtain ⟨q1, q2, q3, q4, q5⟩ := purity_get hsaid (List.mem_of_getElem? hp)
      have pu := r15pure p l q1 (by omega) q3 q4 q5 hB' (by omega)
      by_cases hmv : p.move = (i : Int)
      · cases hpo : pureOne p l (sumR l) with
        | true =>
          rw [hpo] at pu
          have hPp : P p = true := by simp [P, hpo]
          conv => whnf
          (repeat' (first | ((refine DecB.mk (fun h => ?_) (fun h => ?_)) <;> first | (exfalso; omega) | (conv => whnf)) | ((refine BoolB.mk (fun h => ?_) (fun h => ?_)) <;> first | (exact absurd h (by decide)) | (conv => whnf)) | (refine ⟨_, wrap_ok (by omega) (by omega), ?_⟩; conv => whnf) | (refine and_idx (by omega) (by omega) ?_; conv => whnf) | (refine reg_ok (by decide +kernel) ?_; conv => whnf) | (refine bar_ok (by decide +kernel) (by decide +kernel) ?_; conv => whnf) | (refine late_ok rfl rfl ?_; conv => whnf) | (refine src_ok rfl ?_; conv => whnf) | (refine .inl ⟨_, _, qcall_pure (pu) rfl rfl, ?_⟩; conv => whnf) | (refine ex_row hp ?_; conv => whnf) | (refine LitB.data ?_; conv => whnf) | (refine BoxB.own ?_; conv => whnf)))
          all_goals first
            | (exfalso; omega)
            | (exfalso; simp_all; done)
            | exact ⟨hlt, by rw [hall', hPp], [], rfl, rfl, trivial, ⟨rfl, rfl, rfl, rfl, trivial⟩⟩
        | false =>
          rw [hpo] at pu
          have hPp : P p = false := by simp [P, hpo, hmv]
          conv => whnf
          (repeat' (first | ((refine DecB.mk (fun h => ?_) (fun h => ?_)) <;> first | (exfalso; omega) | (conv => whnf)) | ((refine BoolB.mk (fun h => ?_) (fun h => ?_)) <;> first | (exact absurd h (by decide)) | (conv => whnf)) | (refine ⟨_, wrap_ok (by omega) (by omega), ?_⟩; conv => whnf) | (refine and_idx (by omega) (by omega) ?_; conv => whnf) | (refine reg_ok (by decide +kernel) ?_; conv => whnf) | (refine bar_ok (by decide +kernel) (by decide +kernel) ?_; conv => whnf) | (refine late_ok rfl rfl ?_; conv => whnf) | (refine src_ok rfl ?_; conv => whnf) | (refine .inl ⟨_, _, qcall_pure (pu) rfl rfl, ?_⟩; conv => whnf) | (refine ex_row hp ?_; conv => whnf) | (refine LitB.data ?_; conv => whnf) | (refine BoxB.own ?_; conv => whnf)))
          all_goals first
            | (exfalso; omega)
            | (refine fin_int ?_
               have hpb : pureB e.purities i l (sumR l) = false := by rw [hP]; exact all_of_get hp hPp
               unfold stepE; rw [if_neg (by simp [hneg]), if_neg (by rw [htk]; decide), if_neg (by simp [hwe]), if_pos hpb])
            | (exfalso; simp_all; done)
      · have hPp : P p = true := by simp [P, hmv]
        conv => whnf
        (repeat' (first | ((refine DecB.mk (fun h => ?_) (fun h => ?_)) <;> first | (exfalso; omega) | (conv => whnf)) | ((refine BoolB.mk (fun h => ?_) (fun h => ?_)) <;> first | (exact absurd h (by decide)) | (conv => whnf)) | (refine ⟨_, wrap_ok (by omega) (by omega), ?_⟩; conv => whnf) | (refine and_idx (by omega) (by omega) ?_; conv => whnf) | (refine reg_ok (by decide +kernel) ?_; conv => whnf) | (refine bar_ok (by decide +kernel) (by decide +kernel) ?_; conv => whnf) | (refine late_ok rfl rfl ?_; conv => whnf) | (refine src_ok rfl ?_; conv => whnf) | (refine .inl ⟨_, _, qcall_pure (pu) rfl rfl, ?_⟩; conv => whnf) | (refine ex_row hp ?_; conv => whnf) | (refine LitB.data ?_; conv => whnf) | (refine BoxB.own ?_; conv => whnf)))
        all_goals first
          | (exfalso; omega)
          | exact ⟨hlt, by rw [hall', hPp], [], rfl, rfl, trivial, ⟨rfl, rfl, rfl, rfl, trivial⟩⟩
    · have hpb : pureB e.purities i l (sumR l) = true := by rw [hP, ← hI, List.take_of_length_le (by omega)]
      conv => whnf
      (repeat' (first | ((refine DecB.mk (fun h => ?_) (fun h => ?_)) <;> first | (exfalso; omega) | (conv => whnf)) | ((refine BoolB.mk (fun h => ?_) (fun h => ?_)) <;> first | (exact absurd h (by decide)) | (conv => whnf)) | (refine ⟨_, wrap_ok (by omega) (by omega), ?_⟩; conv => whnf) | (refine and_idx (by omega) (by omega) ?_; conv => whnf) | (refine reg_ok (by decide +kernel) ?_; conv => whnf) | (refine bar_ok (by decide +kernel) (by decide +kernel) ?_; conv => whnf) | (refine late_ok rfl rfl ?_; conv => whnf) | (refine src_ok rfl ?_; conv => whnf) | (refine LitB.data ?_; conv => whnf) | (refine BoxB.own ?_; conv => whnf)))
      all_goals first
        | (exfalso; omega)
        | (refine fin_int ?_; unfold stepE; rw [if_neg (by simp [hneg]), if_neg (by rw [htk]; decide), if_neg (by simp [hwe]), if_neg (by simp [hpb])])
  | some lh =>
    obtain ⟨lo, hi⟩ := lh
    rw [hiv] at iv
    obtain ⟨bl, bh⟩ := rl_ivOf hiv
    have c1 := r5Compare (sumR l) lo (by omega) (by omega)
    have c2 := r5Compare (sumR l) hi (by omega) (by omega)
    have k1 := cmpR_lt (x := sumR l) (y := lo)
    have k2 := cmpR_lt' (x := sumR l) (y := hi)
    by_cases hw : lo ≤ sumR l ∧ sumR l ≤ hi
    · have hwe : weighedB e x (sumR l) = true := by rw [weighed_iv, hiv]; simp [inB, hw.1, hw.2]
      have n1 : ¬ cmpR (sumR l) lo < 0 := fun h => by have := k1.1 h; grind
      have n2 : ¬ cmpR (sumR l) hi > 0 := fun h => by have := k2.1 h; grind
      refine awp_for tab_ok (fun k => ([S.junk, histS (hz G), intS .i64 i, S.c (C.t (evP e)), S.junk, S.junk, S.junk, S.c (C.ptr 0 0 0), fracsS (l.map fz), S.junk, S.junk, S.junk, intS .i64 k, S.junk, S.junk, S.junk, S.junk, S.junk, S.junk, S.junk, S.junk, S.junk, S.junk, S.junk, S.junk, S.junk, S.junk, S.junk, S.junk, S.junk, S.junk, S.junk, S.junk, S.junk, S.junk, S.junk, S.junk, S.junk, S.junk, S.junk, S.junk, S.junk, S.junk, S.junk, S.junk, S.junk, S.junk, S.junk, S.junk, S.junk, S.junk, S.junk, S.junk, S.junk, S.junk, S.junk, S.junk, S.junk, S.junk, S.junk, S.junk, S.junk, S.junk, S.junk, S.junk, S.junk, S.junk, S.junk, S.junk, S.junk, S.junk, S.junk, S.junk, S.junk, S.junk, S.junk, S.junk, S.junk, S.junk, S.junk, S.junk, S.junk, S.junk, S.junk, S.junk, S.junk, S.junk, S.junk, S.junk, S.junk, S.junk, S.junk, S.junk, S.junk, S.junk, S.junk, S.junk, S.junk, S.junk, S.junk, S.junk, S.junk, S.junk, S.junk, S.junk, S.junk, S.junk, S.junk, S.junk, S.junk, S.junk, S.junk, S.junk, S.junk, S.junk, S.junk, S.junk, S.junk, S.junk, S.junk, S.junk, S.junk, S.junk, S.junk, S.junk, S.junk, S.junk, S.junk, S.junk, S.junk, S.junk, S.junk, S.junk, S.junk, S.junk, S.junk, S.junk, S.junk, S.junk, S.junk], [moveB x])) 0 (fun k => ∀ (j : Nat) (v : Rat), j < k → l[j]? = some v → v = stk e G i s j) [some 0] (fun j v h => absurd h (by omega))
        ⟨rfl, rfl, ⟨⟨rfl, rfl, rfl, .inl ⟨rfl, rowsT_mv x⟩⟩, trivial⟩, ⟨rfl, rfl, rfl, ⟨rfl, rfl, rfl⟩, rfl, rfl, trivial⟩⟩ ?_
      intro k hk hI
      have htk : takenE e (stk e G i) x l = 0 := by
        unfold takenE
        rw [if_neg (by rw [hkd]; exact hbin), hss]; exact takenF_ok hover (.inl hall)
      conv => whnf
      (repeat' (first | ((refine DecB.mk (fun h => ?_) (fun h => ?_)) <;> first | (exfalso; omega) | (conv => whnf)) | ((refine BoolB.mk (fun h => ?_) (fun h => ?_)) <;> first | (exact absurd h (by decide)) | (conv => whnf)) | (refine ⟨_, wrap_ok (by omega) (by omega), ?_⟩; conv => whnf) | (refine and_idx (by omega) (by omega) ?_; conv => whnf) | (refine reg_ok (by decide +kernel) ?_; conv => whnf) | (refine bar_ok (by decide +kernel) (by decide +kernel) ?_; conv => whnf) | (refine late_ok rfl rfl ?_; conv => whnf) | (refine src_ok rfl ?_; conv => whnf) | (refine .inl ⟨_, _, qcall_pure (iv) rfl rfl, ?_⟩; conv => whnf) | (refine .inl ⟨_, _, qcall_pure (5, 6) rfl rfl, ?_⟩; conv => whnf) | (refine bar_late [5, 6] (by decide +kernel) (by decide +kernel) ?_; conv => whnf) | (refine LitB.data ?_; conv => whnf) | (refine BoxB.own ?_; conv => whnf)))
      all_goals first
        | (exfalso; omega)
        | (exfalso; simp_all; done)
        | skip
      clear hI hk
      all_goals (repeat' (first | ((refine DecB.mk (fun h => ?_) (fun h => ?_)) <;> first | (exfalso; omega) | (conv => whnf)) | ((refine BoolB.mk (fun h => ?_) (fun h => ?_)) <;> first | (exact absurd h (by decide)) | (conv => whnf)) | (refine ⟨_, wrap_ok (by omega) (by omega), ?_⟩; conv => whnf) | (refine and_idx (by omega) (by omega) ?_; conv => whnf) | (refine reg_ok (by decide +kernel) ?_; conv => whnf) | (refine bar_ok (by decide +kernel) (by decide +kernel) ?_; conv => whnf) | (refine late_ok rfl rfl ?_; conv => whnf) | (refine src_ok rfl ?_; conv => whnf) | (refine .inl ⟨_, _, qcall_pure (mv) rfl rfl, ?_⟩; conv => whnf) | (refine .inl ⟨_, _, qcall_pure (c1) rfl rfl, ?_⟩; conv => whnf) | (refine .inl ⟨_, _, qcall_pure (c2) rfl rfl, ?_⟩; conv => whnf) | (refine LitB.data ?_; conv => whnf) | (refine BoxB.own ?_; conv => whnf)))
      all_goals try (exfalso; omega)
      refine awp_for tab_ok (fun k => ([S.junk, S.junk, intS .i64 i, S.c (C.t (evP e)), S.junk, S.junk, S.junk, S.junk, fracsS (l.map fz), S.junk, S.junk, S.junk, S.junk, S.junk, S.junk, S.junk, S.junk, intS .i64 k, S.junk, S.junk, S.junk, S.junk, S.junk, S.junk, S.junk, S.junk, S.junk, S.junk, S.junk, S.junk, S.junk, S.junk, S.junk, S.junk, S.junk, S.junk, S.junk, S.junk, S.junk, S.junk, S.junk, S.junk, S.junk, S.junk, S.junk, S.junk, S.junk, S.junk, S.junk, S.junk, S.junk, S.junk, S.junk, S.junk, S.junk, S.junk, S.junk, S.junk, S.junk, S.junk, S.junk, S.junk, S.junk, S.junk, S.junk, S.junk, S.junk, S.junk, S.junk, S.junk, S.junk, S.junk, S.junk, S.junk, S.junk, S.junk, S.junk, S.junk, S.junk, S.junk, S.junk, S.junk, S.junk, S.junk, S.junk, S.junk, S.junk, S.junk, S.junk, S.junk, S.junk, S.junk, S.junk, S.junk, S.junk, S.junk, S.junk, S.junk, S.junk, S.junk, S.junk, S.junk, S.junk, S.junk, S.junk, S.junk, S.junk, S.junk, S.junk, S.junk, S.junk, S.junk, S.junk, S.junk, S.junk, S.junk, S.junk, S.junk, S.junk, S.junk, S.junk, S.junk, S.junk, S.junk, S.junk, S.junk, S.junk, S.junk, S.junk, S.junk, S.junk, S.junk, S.junk, S.junk, S.junk, S.junk, S.junk, S.junk, S.junk, S.junk], [])) e.purities.length (fun k => (e.purities.take k).all P = true) [] rfl
        ⟨rfl, rfl, trivial, ⟨rfl, rfl, rfl, rfl, trivial⟩⟩ ?_
      intro k hk hI
      by_cases hlt : k < e.purities.length
      · obtain ⟨p, hp⟩ : ∃ p, e.purities[k]? = some p := ⟨_, List.getElem?_eq_getElem hlt⟩
        have hall' : (e.purities.take (k + 1)).all P = P p := by rw [all_take_succ hp, hI, Bool.true_and]
        obtain ⟨q1, q2, q3, q4, q5⟩ := purity_get hsaid (List.mem_of_getElem? hp)
        have pu := r15pure p l q1 (by omega) q3 q4 q5 hB' (by omega)
        by_cases hmv : p.move = (i : Int)
        · cases hpo : pureOne p l (sumR l) with
          | true =>
            rw [hpo] at pu
            have hPp : P p = true := by simp [P, hpo]
            conv => whnf
            (repeat' (first | ((refine DecB.mk (fun h => ?_) (fun h => ?_)) <;> first | (exfalso; omega) | (conv => whnf)) | ((refine BoolB.mk (fun h => ?_) (fun h => ?_)) <;> first | (exact absurd h (by decide)) | (conv => whnf)) | (refine ⟨_, wrap_ok (by omega) (by omega), ?_⟩; conv => whnf) | (refine and_idx (by omega) (by omega) ?_; conv => whnf) | (refine reg_ok (by decide +kernel) ?_; conv => whnf) | (refine bar_ok (by decide +kernel) (by decide +kernel) ?_; conv => whnf) | (refine late_ok rfl rfl ?_; conv => whnf) | (refine src_ok rfl ?_; conv => whnf) | (refine .inl ⟨_, _, qcall_pure (pu) rfl rfl, ?_⟩; conv => whnf) | (refine ex_row hp ?_; conv => whnf) | (refine LitB.data ?_; conv => whnf) | (refine BoxB.own ?_; conv => whnf)))
            all_goals first
              | (exfalso; omega)
              | (exfalso; simp_all; done)
              | exact ⟨hlt, by rw [hall', hPp], [], rfl, rfl, trivial, ⟨rfl, rfl, rfl, rfl, trivial⟩⟩
          | false =>
            rw [hpo] at pu
            have hPp : P p = false := by simp [P, hpo, hmv]
            conv => whnf
            (repeat' (first | ((refine DecB.mk (fun h => ?_) (fun h => ?_)) <;> first | (exfalso; omega) | (conv => whnf)) | ((refine BoolB.mk (fun h => ?_) (fun h => ?_)) <;> first | (exact absurd h (by decide)) | (conv => whnf)) | (refine ⟨_, wrap_ok (by omega) (by omega), ?_⟩; conv => whnf) | (refine and_idx (by omega) (by omega) ?_; conv => whnf) | (refine reg_ok (by decide +kernel) ?_; conv => whnf) | (refine bar_ok (by decide +kernel) (by decide +kernel) ?_; conv => whnf) | (refine late_ok rfl rfl ?_; conv => whnf) | (refine src_ok rfl ?_; conv => whnf) | (refine .inl ⟨_, _, qcall_pure (pu) rfl rfl, ?_⟩; conv => whnf) | (refine ex_row hp ?_; conv => whnf) | (refine LitB.data ?_; conv => whnf) | (refine BoxB.own ?_; conv => whnf)))
            all_goals first
              | (exfalso; omega)
              | (refine fin_int ?_
                 have hpb : pureB e.purities i l (sumR l) = false := by rw [hP]; exact all_of_get hp hPp
                 unfold stepE; rw [if_neg (by simp [hneg]), if_neg (by rw [htk]; decide), if_neg (by simp [hwe]), if_pos hpb])
              | (exfalso; simp_all; done)
        · have hPp : P p = true := by simp [P, hmv]
          conv => whnf
          (repeat' (first | ((refine DecB.mk (fun h => ?_) (fun h => ?_)) <;> first | (exfalso; omega) | (conv => whnf)) | ((refine BoolB.mk (fun h => ?_) (fun h => ?_)) <;> first | (exact absurd h (by decide)) | (conv => whnf)) | (refine ⟨_, wrap_ok (by omega) (by omega), ?_⟩; conv => whnf) | (refine and_idx (by omega) (by omega) ?_; conv => whnf) | (refine reg_ok (by decide +kernel) ?_; conv => whnf) | (refine bar_ok (by decide +kernel) (by decide +kernel) ?_; conv => whnf) | (refine late_ok rfl rfl ?_; conv => whnf) | (refine src_ok rfl ?_; conv => whnf) | (refine .inl ⟨_, _, qcall_pure (pu) rfl rfl, ?_⟩; conv => whnf) | (refine ex_row hp ?_; conv => whnf) | (refine LitB.data ?_; conv => whnf) | (refine BoxB.own ?_; conv => whnf)))
          all_goals first
            | (exfalso; omega)
            | exact ⟨hlt, by rw [hall', hPp], [], rfl, rfl, trivial, ⟨rfl, rfl, rfl, rfl, trivial⟩⟩
      · have hpb : pureB e.purities i l (sumR l) = true := by rw [hP, ← hI, List.take_of_length_le (by omega)]
        conv => whnf
        (repeat' (first | ((refine DecB.mk (fun h => ?_) (fun h => ?_)) <;> first | (exfalso; omega) | (conv => whnf)) | ((refine BoolB.mk (fun h => ?_) (fun h => ?_)) <;> first | (exact absurd h (by decide)) | (conv => whnf)) | (refine ⟨_, wrap_ok (by omega) (by omega), ?_⟩; conv => whnf) | (refine and_idx (by omega) (by omega) ?_; conv => whnf) | (refine reg_ok (by decide +kernel) ?_; conv => whnf) | (refine bar_ok (by decide +kernel) (by decide +kernel) ?_; conv => whnf) | (refine late_ok rfl rfl ?_; conv => whnf) | (refine src_ok rfl ?_; conv => whnf) | (refine LitB.data ?_; conv => whnf) | (refine BoxB.own ?_; conv => whnf)))
        all_goals first
          | (exfalso; omega)
          | (refine fin_int ?_; unfold stepE; rw [if_neg (by simp [hneg]), if_neg (by rw [htk]; decide), if_neg (by simp [hwe]), if_neg (by simp [hpb])])
    · have hwe : weighedB e x (sumR l) = false := by
        rw [weighed_iv, hiv]; simp only [inB]
        rw [← Bool.not_eq_true]
        intro h
        simp only [Bool.and_eq_true, decide_eq_true_eq] at h
        exact hw h
      have n1 : cmpR (sumR l) lo < 0 ∨ cmpR (sumR l) hi > 0 := by
        rw [k1, k2]
        by_cases h : sumR l < lo
        · exact .inl h
        · exact .inr (Rat.not_le.1 fun h2 => hw ⟨Rat.not_lt.1 h, h2⟩)
      refine awp_for tab_ok (fun k => ([S.junk, histS (hz G), intS .i64 i, S.c (C.t (evP e)), S.junk, S.junk, S.junk, S.c (C.ptr 0 0 0), fracsS (l.map fz), S.junk, S.junk, S.junk, intS .i64 k, S.junk, S.junk, S.junk, S.junk, S.junk, S.junk, S.junk, S.junk, S.junk, S.junk, S.junk, S.junk, S.junk, S.junk, S.junk, S.junk, S.junk, S.junk, S.junk, S.junk, S.junk, S.junk, S.junk, S.junk, S.junk, S.junk, S.junk, S.junk, S.junk, S.junk, S.junk, S.junk, S.junk, S.junk, S.junk, S.junk, S.junk, S.junk, S.junk, S.junk, S.junk, S.junk, S.junk, S.junk, S.junk, S.junk, S.junk, S.junk, S.junk, S.junk, S.junk, S.junk, S.junk, S.junk, S.junk, S.junk, S.junk, S.junk, S.junk, S.junk, S.junk, S.junk, S.junk, S.junk, S.junk, S.junk, S.junk, S.junk, S.junk, S.junk, S.junk, S.junk, S.junk, S.junk, S.junk, S.junk, S.junk, S.junk, S.junk, S.junk, S.junk, S.junk, S.junk, S.junk, S.junk, S.junk, S.junk, S.junk, S.junk, S.junk, S.junk, S.junk, S.junk, S.junk, S.junk, S.junk, S.junk, S.junk, S.junk, S.junk, S.junk, S.junk, S.junk, S.junk, S.junk, S.junk, S.junk, S.junk, S.junk, S.junk, S.junk, S.junk, S.junk, S.junk, S.junk, S.junk, S.junk, S.junk, S.junk, S.junk, S.junk, S.junk, S.junk, S.junk, S.junk, S.junk, S.junk], [moveB x])) 0 (fun k => ∀ (j : Nat) (v : Rat), j < k → l[j]? = some v → v = stk e G i s j) [some 0] (fun j v h => absurd h (by omega))
        ⟨rfl, rfl, ⟨⟨rfl, rfl, rfl, .inl ⟨rfl, rowsT_mv x⟩⟩, trivial⟩, ⟨rfl, rfl, rfl, ⟨rfl, rfl, rfl⟩, rfl, rfl, trivial⟩⟩ ?_
      intro k hk hI
      have htk : takenE e (stk e G i) x l = 0 := by
        unfold takenE
        rw [if_neg (by rw [hkd]; exact hbin), hss]; exact takenF_ok hover (.inl hall)
      conv => whnf
      (repeat' (first | ((refine DecB.mk (fun h => ?_) (fun h => ?_)) <;> first | (exfalso; omega) | (conv => whnf)) | ((refine BoolB.mk (fun h => ?_) (fun h => ?_)) <;> first | (exact absurd h (by decide)) | (conv => whnf)) | (refine ⟨_, wrap_ok (by omega) (by omega), ?_⟩; conv => whnf) | (refine and_idx (by omega) (by omega) ?_; conv => whnf) | (refine reg_ok (by decide +kernel) ?_; conv => whnf) | (refine bar_ok (by decide +kernel) (by decide +kernel) ?_; conv => whnf) | (refine late_ok rfl rfl ?_; conv => whnf) | (refine src_ok rfl ?_; conv => whnf) | (refine .inl ⟨_, _, qcall_pure (iv) rfl rfl, ?_⟩; conv => whnf) | (refine .inl ⟨_, _, qcall_pure (5, 6) rfl rfl, ?_⟩; conv => whnf) | (refine bar_late [5, 6] (by decide +kernel) (by decide +kernel) ?_; conv => whnf) | (refine LitB.data ?_; conv => whnf) | (refine BoxB.own ?_; conv => whnf)))
      all_goals first
        | (exfalso; omega)
        | (exfalso; simp_all; done)
        | skip
      clear hI hk
      all_goals (repeat' (first | ((refine DecB.mk (fun h => ?_) (fun h => ?_)) <;> first | (exfalso; omega) | (conv => whnf)) | ((refine BoolB.mk (fun h => ?_) (fun h => ?_)) <;> first | (exact absurd h (by decide)) | (conv => whnf)) | (refine ⟨_, wrap_ok (by omega) (by omega), ?_⟩; conv => whnf) | (refine and_idx (by omega) (by omega) ?_; conv => whnf) | (refine reg_ok (by decide +kernel) ?_; conv => whnf) | (refine bar_ok (by decide +kernel) (by decide +kernel) ?_; conv => whnf) | (refine late_ok rfl rfl ?_; conv => whnf) | (refine src_ok rfl ?_; conv => whnf) | (refine .inl ⟨_, _, qcall_pure (mv) rfl rfl, ?_⟩; conv => whnf) | (refine .inl ⟨_, _, qcall_pure (c1) rfl rfl, ?_⟩; conv => whnf) | (refine .inl ⟨_, _, qcall_pure (c2) rfl rfl, ?_⟩; conv => whnf) | (refine LitB.data ?_; conv => whnf) | (refine BoxB.own ?_; conv => whnf)))
      all_goals first
        | (exfalso; omega)
        | (refine fin_int ?_; unfold stepE; rw [if_neg (by simp [hneg]), if_neg (by rw [htk]; decide), if_pos hwe])
end Go.Proofs.YthinjkjhiembgaaGreat
/- The reference's history: Check, Stock, Mass. -/
namespace Go.Proofs.YthinjkjhiembgaaGreat
open Go.RowKit
set_option linter.unusedVariables false
set_option linter.unusedSimpArgs false
set_option maxRecDepth 100000

abbrev fracsOB (l : List Fr) : Blk := { mode := .live, elem := 37, size := 4, rows := toC (l.map frRow), box := false }
theorem rowF_succ (k : Nat) (g : Nat → Rat) : rowF (k + 1) g = rowF k g ++ [fz (g k)] := by unfold rowF; rw [List.range_succ, List.map_append]; rfl
theorem r15one (e : Ev) (G : List (List Rat)) (hG : Shape e G) (h0 : check e = 0) (hs : e.Sized) (hB : ∀ l ∈ G, ∀ x ∈ l, rl x ≤ 200) {i : Nat} {x : Move} {l : List Rat} (hx : e.moves[i]? = some x) (hl : G[i]? = some l) :
    ACall Tryz.prog 36 [evS e, histS (hz G), intS .i64 i] [] (intS .i64 (stepE e x l (stk e G i) i)) [] := by
  have ms := moveOk_src (check_move h0 (List.mem_of_getElem? hx))
  obtain ⟨s, hsn⟩ : ∃ s : Nat, x.src = s := ⟨x.src.toNat, by omega⟩
  obtain ⟨pl, hpl⟩ : ∃ pl, e.places[s]? = some pl := ⟨_, List.getElem?_eq_getElem (by omega)⟩
  by_cases hb : pl.kind = 0
  · exact r15one_bin e G hG h0 hs hB hx hl hsn hpl hb
  · cases ha : x.all with
    | true => exact r15one_all e G hG h0 hs hB hx hl hsn hpl hb ha
    | false => exact r15one_no e G hG h0 hs hB hx hl hsn hpl hb ha
set_option maxHeartbeats 4000000 in
theorem r15Check (e : Ev) (hh : List (List Fr)) (hs : e.Sized) (hS : SmallH 200 hh) : ACall Tryz.prog 10 [evS e, histS hh] [] (intS .i64 (histCheck e hh)) [] := by
  have ck := r14Check e hs
  have sh := r15Form e hh ⟨hS.l1, hS.l2, fun l hl f hf => by have := hS.l3 l hl f hf; omega⟩ (by have := hs.s2; omega)
  unfold histCheck
  by_cases h0 : check e ≠ 0
  · rw [if_pos h0]
    (refine acall_of tab_ok Tryz.func10 rfl (by decide) ?_; (conv => whnf); repeat (first | (refine LitB.data ?_; conv => whnf) | (refine BoxB.data ?_; conv => whnf)))
    (repeat' (first | ((refine DecB.mk (fun h => ?_) (fun h => ?_)) <;> first | (exfalso; omega) | (conv => whnf)) | ((refine BoolB.mk (fun h => ?_) (fun h => ?_)) <;> first | (exact absurd h (by decide)) | (conv => whnf)) | (refine ⟨_, wrap_ok (by omega) (by omega), ?_⟩; conv => whnf) | (refine and_idx (by omega) (by omega) ?_; conv => whnf) | (refine reg_ok (by decide +kernel) ?_; conv => whnf) | (refine bar_ok (by decide +kernel) (by decide +kernel) ?_; conv => whnf) | (refine late_ok rfl rfl ?_; conv => whnf) | (refine src_ok rfl ?_; conv => whnf) | (refine .inl ⟨_, _, qcall_pure (ck) rfl rfl, ?_⟩; conv => whnf) | (refine LitB.data ?_; conv => whnf) | (refine BoxB.own ?_; conv => whnf)))
    all_goals first
      | (exfalso; omega)
      | exact fin_int rfl
  rw [if_neg h0]
  have h0 : check e = 0 := by omega
  cases hsb : shapedB e hh with
  | false =>
    rw [hsb] at sh
    (refine acall_of tab_ok Tryz.func10 rfl (by decide) ?_; (conv => whnf); repeat (first | (refine LitB.data ?_; conv => whnf) | (refine BoxB.data ?_; conv => whnf)))
    (repeat' (first | ((refine DecB.mk (fun h => ?_) (fun h => ?_)) <;> first | (exfalso; omega) | (conv => whnf)) | ((refine BoolB.mk (fun h => ?_) (fun h => ?_)) <;> first | (exact absurd h (by decide)) | (conv => whnf)) | (refine ⟨_, wrap_ok (by omega) (by omega), ?_⟩; conv => whnf) | (refine and_idx (by omega) (by omega) ?_; conv => whnf) | (refine reg_ok (by decide +kernel) ?_; conv => whnf) | (refine bar_ok (by decide +kernel) (by decide +kernel) ?_; conv => whnf) | (refine late_ok rfl rfl ?_; conv => whnf) | (refine src_ok rfl ?_; conv => whnf) | (refine .inl ⟨_, _, qcall_pure (ck) rfl rfl, ?_⟩; conv => whnf) | (refine .inl ⟨_, _, qcall_pure (sh) rfl rfl, ?_⟩; conv => whnf) | (refine LitB.data ?_; conv => whnf) | (refine BoxB.own ?_; conv => whnf)))
    all_goals first
      | (exfalso; omega)
      | (exfalso; simp_all; done)
      | exact fin_int rfl
  | true =>
    rw [hsb] at sh
    obtain ⟨G, rfl, hG⟩ := shaped_rats hsb
    have e1 : (if true = true then histE e ((hz G).map (·.map fv)) else 2) = histE e G := by rw [unhz]; rfl
    rw [e1]
    have hB := small_rats hS
    have hl1 := hS.l1
    have m1 : ((hz G).map fracsRow).length = (hz G).length := by simp
    have m2 : (hz G).length = e.moves.length := by rw [← hG.len]; simp [hz]
    (refine acall_of tab_ok Tryz.func10 rfl (by decide) ?_; (conv => whnf); repeat (first | (refine LitB.data ?_; conv => whnf) | (refine BoxB.data ?_; conv => whnf)))
    (repeat' (first | ((refine DecB.mk (fun h => ?_) (fun h => ?_)) <;> first | (exfalso; omega) | (conv => whnf)) | ((refine BoolB.mk (fun h => ?_) (fun h => ?_)) <;> first | (exact absurd h (by decide)) | (conv => whnf)) | (refine ⟨_, wrap_ok (by omega) (by omega), ?_⟩; conv => whnf) | (refine and_idx (by omega) (by omega) ?_; conv => whnf) | (refine reg_ok (by decide +kernel) ?_; conv => whnf) | (refine bar_ok (by decide +kernel) (by decide +kernel) ?_; conv => whnf) | (refine late_ok rfl rfl ?_; conv => whnf) | (refine src_ok rfl ?_; conv => whnf) | (refine .inl ⟨_, _, qcall_pure (ck) rfl rfl, ?_⟩; conv => whnf) | (refine .inl ⟨_, _, qcall_pure (sh) rfl rfl, ?_⟩; conv => whnf) | (refine LitB.data ?_; conv => whnf) | (refine BoxB.own ?_; conv => whnf)))
    all_goals first
      | (exfalso; omega)
      | (exfalso; simp_all; done)
      | skip
    refine awp_for tab_ok (fun k => ([S.junk, histS (hz G), S.c (C.t (evP e)), S.junk, S.junk, intS .i64 k, S.junk, S.junk, S.junk, S.junk, S.junk, S.junk, S.junk, S.junk, S.junk, S.junk, S.junk, S.junk, S.junk, S.junk, S.junk, S.junk, S.junk, S.junk, S.junk, S.junk, S.junk], [])) e.moves.length (fun k => movesE e G k (e.moves.drop k) = histE e G) [] rfl
      ⟨rfl, rfl, trivial, ⟨rfl, rfl, rfl, trivial⟩⟩ ?_
    intro k hk hI
    by_cases hlt : k < e.moves.length
    · obtain ⟨x, hx⟩ : ∃ x, e.moves[k]? = some x := ⟨_, List.getElem?_eq_getElem hlt⟩
      obtain ⟨l, hl⟩ : ∃ l, G[k]? = some l := ⟨_, List.getElem?_eq_getElem (by rw [hG.len]; exact hlt)⟩
      have hgd : G.getD k [] = l := by rw [List.getD_eq_getElem?_getD, hl]; rfl
      have on := r15one e G hG h0 hs hB hx hl
      rw [drop_get hx] at hI
      have hI : (if stepE e x l (stk e G k) k ≠ 0 then stepE e x l (stk e G k) k else movesE e G (k + 1) (e.moves.drop (k + 1))) = histE e G := by
        rw [← hgd]; exact hI
      conv => whnf
      (repeat' (first | ((refine DecB.mk (fun h => ?_) (fun h => ?_)) <;> first | (exfalso; omega) | (conv => whnf)) | ((refine BoolB.mk (fun h => ?_) (fun h => ?_)) <;> first | (exact absurd h (by decide)) | (conv => whnf)) | (refine ⟨_, wrap_ok (by omega) (by omega), ?_⟩; conv => whnf) | (refine and_idx (by omega) (by omega) ?_; conv => whnf) | (refine reg_ok (by decide +kernel) ?_; conv => whnf) | (refine bar_ok (by decide +kernel) (by decide +kernel) ?_; conv => whnf) | (refine late_ok rfl rfl ?_; conv => whnf) | (refine src_ok rfl ?_; conv => whnf) | (refine .inl ⟨_, _, qcall_pure (on) rfl rfl, ?_⟩; conv => whnf) | (refine LitB.data ?_; conv => whnf) | (refine BoxB.own ?_; conv => whnf)))
      all_goals first
        | (exfalso; omega)
        | (refine fin_int ?_; rw [← hI, if_pos (by omega)])
        | (rw [if_neg (by omega)] at hI; exact ⟨hlt, hI, [], rfl, rfl, trivial, ⟨rfl, rfl, rfl, trivial⟩⟩)
    · rw [List.drop_of_length_le (by omega)] at hI
      have hI : 0 = histE e G := hI
      conv => whnf
      (repeat' (first | ((refine DecB.mk (fun h => ?_) (fun h => ?_)) <;> first | (exfalso; omega) | (conv => whnf)) | ((refine BoolB.mk (fun h => ?_) (fun h => ?_)) <;> first | (exact absurd h (by decide)) | (conv => whnf)) | (refine ⟨_, wrap_ok (by omega) (by omega), ?_⟩; conv => whnf) | (refine and_idx (by omega) (by omega) ?_; conv => whnf) | (refine reg_ok (by decide +kernel) ?_; conv => whnf) | (refine bar_ok (by decide +kernel) (by decide +kernel) ?_; conv => whnf) | (refine late_ok rfl rfl ?_; conv => whnf) | (refine src_ok rfl ?_; conv => whnf) | (refine LitB.data ?_; conv => whnf) | (refine BoxB.own ?_; conv => whnf)))
      all_goals first
        | (exfalso; omega)
        | exact fin_int hI
set_option maxHeartbeats 4000000 in
theorem r15Stock (e : Ev) (hh : List (List Fr)) (place upto : Int) (hs : e.Sized) (hS : SmallH 200 hh) : ACall Tryz.prog 13 [evS e, histS hh, intS .i64 place, intS .i64 upto] [] (fracsS (stockL e hh place upto)) [] := by
  have ck := r14Check e hs
  have sh := r15Form e hh ⟨hS.l1, hS.l2, fun l hl f hf => by have := hS.l3 l hl f hf; omega⟩ (by have := hs.s2; omega)
  have m3 : (hh.map fracsRow).length = hh.length := by simp
  have m4 : (e.places.map Place.row).length = e.places.length := by simp
  by_cases h0 : check e ≠ 0
  · have e1 : stockL e hh place upto = [] := by unfold stockL; rw [if_neg (fun h => h0 h.1)]
    rw [e1]
    (refine acall_of tab_ok Tryz.func13 rfl (by decide) ?_; (conv => whnf); repeat (first | (refine LitB.data ?_; conv => whnf) | (refine BoxB.data ?_; conv => whnf)))
    (repeat' (first | ((refine DecB.mk (fun h => ?_) (fun h => ?_)) <;> first | (exfalso; omega) | (conv => whnf)) | ((refine BoolB.mk (fun h => ?_) (fun h => ?_)) <;> first | (exact absurd h (by decide)) | (conv => whnf)) | (refine ⟨_, wrap_ok (by omega) (by omega), ?_⟩; conv => whnf) | (refine and_idx (by omega) (by omega) ?_; conv => whnf) | (refine reg_ok (by decide +kernel) ?_; conv => whnf) | (refine bar_ok (by decide +kernel) (by decide +kernel) ?_; conv => whnf) | (refine late_ok rfl rfl ?_; conv => whnf) | (refine src_ok rfl ?_; conv => whnf) | (refine .inl ⟨_, _, qcall_pure (ck) rfl rfl, ?_⟩; conv => whnf) | (refine .inl ⟨_, _, qcall_pure (sh) rfl rfl, ?_⟩; conv => whnf) | (refine LitB.data ?_; conv => whnf) | (refine BoxB.own ?_; conv => whnf)))
    all_goals first
      | (exfalso; omega)
      | exact fin_t rfl
  have h0 : check e = 0 := by omega
  cases hsb : shapedB e hh with
  | false =>
    have e1 : stockL e hh place upto = [] := by unfold stockL; rw [if_neg (fun h => by rw [hsb] at h; exact absurd h.2.1 (by simp))]
    rw [e1]
    rw [hsb] at sh
    (refine acall_of tab_ok Tryz.func13 rfl (by decide) ?_; (conv => whnf); repeat (first | (refine LitB.data ?_; conv => whnf) | (refine BoxB.data ?_; conv => whnf)))
    (repeat' (first | ((refine DecB.mk (fun h => ?_) (fun h => ?_)) <;> first | (exfalso; omega) | (conv => whnf)) | ((refine BoolB.mk (fun h => ?_) (fun h => ?_)) <;> first | (exact absurd h (by decide)) | (conv => whnf)) | (refine ⟨_, wrap_ok (by omega) (by omega), ?_⟩; conv => whnf) | (refine and_idx (by omega) (by omega) ?_; conv => whnf) | (refine reg_ok (by decide +kernel) ?_; conv => whnf) | (refine bar_ok (by decide +kernel) (by decide +kernel) ?_; conv => whnf) | (refine late_ok rfl rfl ?_; conv => whnf) | (refine src_ok rfl ?_; conv => whnf) | (refine .inl ⟨_, _, qcall_pure (ck) rfl rfl, ?_⟩; conv => whnf) | (refine .inl ⟨_, _, qcall_pure (sh) rfl rfl, ?_⟩; conv => whnf) | (refine LitB.data ?_; conv => whnf) | (refine BoxB.own ?_; conv => whnf)))
    all_goals first
      | (exfalso; omega)
      | (exfalso; simp_all; done)
      | exact fin_t rfl
  | true =>
    rw [hsb] at sh
    by_cases hr : 0 ≤ place ∧ place < e.places.length ∧ 0 ≤ upto ∧ upto ≤ hh.length
    · obtain ⟨G, rfl, hG⟩ := shaped_rats hsb
      have e1 : stockL e (hz G) place upto = rowF e.mats.toNat (stk e G upto.toNat place.toNat) := by unfold stockL; rw [if_pos ⟨h0, hsb, hr⟩, unz_hz]
      rw [e1]
      have hB := small_rats hS
      obtain ⟨b1, b2, b3, b4⟩ := check_bounds h0
      obtain ⟨w, hw⟩ : ∃ w : Nat, e.mats = w := ⟨e.mats.toNat, by omega⟩
      obtain ⟨p, rfl⟩ : ∃ p : Nat, place = p := ⟨place.toNat, by omega⟩
      obtain ⟨u, rfl⟩ : ∃ u : Nat, upto = u := ⟨upto.toNat, by omega⟩
      have hu : u ≤ e.moves.length := by have := hG.len; simp [hz] at hr; omega
      have hwn : e.mats.toNat = w := by omega
      have eU : (u : Int).toNat = u := by omega
      have eP : (p : Int).toNat = p := by omega
      rw [hwn, eU, eP]
      (refine acall_of tab_ok Tryz.func13 rfl (by decide) ?_; (conv => whnf); repeat (first | (refine LitB.data ?_; conv => whnf) | (refine BoxB.data ?_; conv => whnf)))
      (repeat' (first | ((refine DecB.mk (fun h => ?_) (fun h => ?_)) <;> first | (exfalso; omega) | (conv => whnf)) | ((refine BoolB.mk (fun h => ?_) (fun h => ?_)) <;> first | (exact absurd h (by decide)) | (conv => whnf)) | (refine ⟨_, wrap_ok (by omega) (by omega), ?_⟩; conv => whnf) | (refine and_idx (by omega) (by omega) ?_; conv => whnf) | (refine reg_ok (by decide +kernel) ?_; conv => whnf) | (refine bar_ok (by decide +kernel) (by decide +kernel) ?_; conv => whnf) | (refine late_ok rfl rfl ?_; conv => whnf) | (refine src_ok rfl ?_; conv => whnf) | (refine .inl ⟨_, _, qcall_pure (ck) rfl rfl, ?_⟩; conv => whnf) | (refine .inl ⟨_, _, qcall_pure (sh) rfl rfl, ?_⟩; conv => whnf) | (refine LitB.own ?_; conv => whnf) | (refine LitB.data ?_; conv => whnf) | (refine BoxB.own ?_; conv => whnf)))
      all_goals first
        | (exfalso; omega)
        | (exfalso; simp_all; done)
        | skip
      refine awp_for tab_ok (fun k => ([S.junk, histS (hz G), intS .i64 p, intS .i64 u, S.c (C.t (evP e)), S.junk, S.junk, S.junk, S.junk, S.c (C.own 0 0 k true), intS .i64 k, S.junk, S.junk, S.junk, S.junk, S.junk, S.junk, S.junk, S.junk, S.junk, S.junk, S.junk, S.junk, S.junk, S.junk, S.junk, S.junk, S.junk, S.junk, S.junk, S.junk, S.junk, S.junk, S.junk, S.junk, S.junk, S.junk, S.junk, S.junk, S.junk, S.junk, S.junk, S.junk, S.junk, S.junk, S.junk, S.junk, S.junk, S.junk, S.junk, S.junk, S.junk, S.junk, S.junk, S.junk, S.junk, S.junk, S.junk], [fracsOB (rowF k (stk e G u p))])) w (fun _ => True) [some 0] trivial
        ⟨rfl, rfl, ⟨entB_rows (rows := []) rfl rfl rfl rfl rfl, trivial⟩, ⟨rfl, rfl, rfl, rfl, ⟨rfl, rfl, rfl, fun h => h⟩, rfl, trivial⟩⟩ ?_
      intro k hk _
      by_cases hlt : k < w
      · have at_ := r15at e G hG h0 hB p k u (by omega) hu
        conv => whnf
        (repeat' (first | ((refine DecB.mk (fun h => ?_) (fun h => ?_)) <;> first | (exfalso; omega) | (conv => whnf)) | ((refine BoolB.mk (fun h => ?_) (fun h => ?_)) <;> first | (exact absurd h (by decide)) | (conv => whnf)) | (refine ⟨_, wrap_ok (by omega) (by omega), ?_⟩; conv => whnf) | (refine and_idx (by omega) (by omega) ?_; conv => whnf) | (refine reg_ok (by decide +kernel) ?_; conv => whnf) | (refine bar_ok (by decide +kernel) (by decide +kernel) ?_; conv => whnf) | (refine late_ok rfl rfl ?_; conv => whnf) | (refine src_ok rfl ?_; conv => whnf) | (refine .inl ⟨_, _, qcall_pure (at_) rfl rfl, ?_⟩; conv => whnf) | (refine .inl ⟨_, _, qcall_pure (toC, rowF_len) rfl rfl, ?_⟩; conv => whnf) | (refine .inl ⟨_, _, qcall_pure (toC, rowF_len) rfl rfl, ?_⟩; conv => whnf) | (refine app_ok (by simp [toC, rowF_len]) (by simp [toC, rowF_len]; omega) ?_; conv => whnf) | (refine LitB.data ?_; conv => whnf) | (refine BoxB.own ?_; conv => whnf)))
        all_goals first
          | (exfalso; omega)
          | skip
        refine ⟨hlt, trivial, [some 1], rfl, rfl, ⟨entB_rows rfl rfl rfl ?_ rfl, trivial⟩, ⟨rfl, rfl, rfl, rfl, ⟨rfl, rfl, rfl, fun h => h⟩, rfl, trivial⟩⟩
        rw [rowF_succ, List.map_append]
        exact (congrArg (fun n' => List.take n' (toC ((rowF k (stk e G u p)).map frRow)) ++ toC [frRow (fz (stk e G u p k))]) (by rw [List.length_map, rowF_len])).trans toC_snoc
      · have hke : k = w := by omega
        subst hke
        conv => whnf
        (repeat' (first | ((refine DecB.mk (fun h => ?_) (fun h => ?_)) <;> first | (exfalso; omega) | (conv => whnf)) | ((refine BoolB.mk (fun h => ?_) (fun h => ?_)) <;> first | (exact absurd h (by decide)) | (conv => whnf)) | (refine ⟨_, wrap_ok (by omega) (by omega), ?_⟩; conv => whnf) | (refine and_idx (by omega) (by omega) ?_; conv => whnf) | (refine reg_ok (by decide +kernel) ?_; conv => whnf) | (refine bar_ok (by decide +kernel) (by decide +kernel) ?_; conv => whnf) | (refine late_ok rfl rfl ?_; conv => whnf) | (refine src_ok rfl ?_; conv => whnf) | (refine LitB.data ?_; conv => whnf) | (refine BoxB.own ?_; conv => whnf)))
        all_goals first
          | (exfalso; omega)
          | skip
        refine fin_own (k := fracsOB (rowF k (stk e G u p))) rfl (by intro h; cases h) rfl rfl (by simp [rowF_len])
    · have e1 : stockL e hh place upto = [] := by unfold stockL; rw [if_neg (fun h => hr h.2.2)]
      rw [e1]
      (refine acall_of tab_ok Tryz.func13 rfl (by decide) ?_; (conv => whnf); repeat (first | (refine LitB.data ?_; conv => whnf) | (refine BoxB.data ?_; conv => whnf)))
      (repeat' (first | ((refine DecB.mk (fun h => ?_) (fun h => ?_)) <;> first | (exfalso; omega) | (conv => whnf)) | ((refine BoolB.mk (fun h => ?_) (fun h => ?_)) <;> first | (exact absurd h (by decide)) | (conv => whnf)) | (refine ⟨_, wrap_ok (by omega) (by omega), ?_⟩; conv => whnf) | (refine and_idx (by omega) (by omega) ?_; conv => whnf) | (refine reg_ok (by decide +kernel) ?_; conv => whnf) | (refine bar_ok (by decide +kernel) (by decide +kernel) ?_; conv => whnf) | (refine late_ok rfl rfl ?_; conv => whnf) | (refine src_ok rfl ?_; conv => whnf) | (refine .inl ⟨_, _, qcall_pure (ck) rfl rfl, ?_⟩; conv => whnf) | (refine .inl ⟨_, _, qcall_pure (sh) rfl rfl, ?_⟩; conv => whnf) | (refine LitB.data ?_; conv => whnf) | (refine BoxB.own ?_; conv => whnf)))
      all_goals first
        | (exfalso; omega)
        | (exfalso; simp_all; done)
        | exact fin_t rfl
set_option maxHeartbeats 4000000 in
theorem r15Mass (hh : List (List Fr)) (ps : List Pick) (hS : SmallH 200 hh) (hp : ps.length ≤ 200) : ACall Tryz.prog 7 [histS hh, picksS ps] [] (.tup (massL (massF hh zR ps))) [] := by
  have m1 : (ps.map Pick.row).length = ps.length := by simp
  have m2 : (hh.map fracsRow).length = hh.length := by simp
  have i0 := r5Int 0 (by decide) (by decide)
  have h1 := hS.l1
  (refine acall_of tab_ok Tryz.func7 rfl (by decide) ?_; (conv => whnf); repeat (first | (refine LitB.data ?_; conv => whnf) | (refine BoxB.data ?_; conv => whnf)))
  (repeat' (first | ((refine DecB.mk (fun h => ?_) (fun h => ?_)) <;> first | (exfalso; omega) | (conv => whnf)) | ((refine BoolB.mk (fun h => ?_) (fun h => ?_)) <;> first | (exact absurd h (by decide)) | (conv => whnf)) | (refine ⟨_, wrap_ok (by omega) (by omega), ?_⟩; conv => whnf) | (refine and_idx (by omega) (by omega) ?_; conv => whnf) | (refine reg_ok (by decide +kernel) ?_; conv => whnf) | (refine bar_ok (by decide +kernel) (by decide +kernel) ?_; conv => whnf) | (refine late_ok rfl rfl ?_; conv => whnf) | (refine src_ok rfl ?_; conv => whnf) | (refine .inl ⟨_, _, qcall_pure (i0) rfl rfl, ?_⟩; conv => whnf) | (refine LitB.data ?_; conv => whnf) | (refine BoxB.own ?_; conv => whnf)))
  refine awp_while tab_ok (σ := Nat × Rat) (fun | (k, a) => ([histS hh, picksS ps, S.junk, S.junk, S.c (C.ptr 0 0 0), S.junk, S.c (C.ptr 1 0 0), intS .i64 k, S.junk, S.junk, S.junk, S.junk, S.junk, S.junk, S.junk, S.junk, S.junk, S.junk, S.junk, S.junk, S.junk, S.junk, S.junk, S.junk, S.junk, S.junk, S.junk, S.junk, S.junk, S.junk, S.junk, S.junk, S.junk, S.junk, S.junk, S.junk, S.junk, S.junk, S.junk, S.junk, S.junk, S.junk, S.junk, S.junk, S.junk, S.junk, S.junk, S.junk, S.junk, S.junk, S.junk, S.junk, S.junk, S.junk, S.junk, S.junk, S.junk, S.junk, S.junk, S.junk, S.junk, S.junk, S.junk, S.junk, S.junk, S.junk, S.junk, S.junk, S.junk, S.junk], [frB zeroF, frB (fz a)])) (fun s => s.1 ≤ ps.length ∧ massF hh s.2 (ps.drop s.1) = massF hh zR ps ∧ rl s.2 ≤ s.1 * 201 + 1) (fun s => ps.length - s.1) (0, zR) [some 0, some 1]
    ⟨Nat.zero_le _, rfl, by rw [rl_zero]; omega⟩ ⟨rfl, rfl, ⟨⟨rfl, rfl, rfl, .inr ⟨⟨rfl, rfl, rfl, rfl, trivial⟩, trivial⟩⟩, ⟨rfl, rfl, rfl, .inl ⟨rfl, rowsT_fr _⟩⟩, trivial⟩, ⟨rfl, rfl, ⟨rfl, rfl, rfl⟩, ⟨rfl, rfl, rfl⟩, rfl, trivial⟩⟩ ?_
  rintro ⟨k, a⟩ ⟨hk, hI, hr⟩
  have hk : k ≤ ps.length := hk
  have hI : massF hh a (ps.drop k) = massF hh zR ps := hI
  have hr : rl a ≤ k * 201 + 1 := hr
  by_cases hlt : k < ps.length
  · obtain ⟨p, hpk⟩ : ∃ p, ps[k]? = some p := ⟨_, List.getElem?_eq_getElem hlt⟩
    rw [drop_get hpk] at hI
    have hI : (match pickVal hh p with | none => none | some v => massF hh (a + v) (ps.drop (k + 1))) = massF hh zR ps := hI
    by_cases hmv : 0 ≤ p.mv ∧ p.mv < hh.length
    · obtain ⟨l, hl⟩ : ∃ l, hh[p.mv.toNat]? = some l := ⟨_, List.getElem?_eq_getElem (by omega)⟩
      have m3 : (l.map frRow).length = l.length := by simp
      have hgd : hh.getD p.mv.toNat [] = l := by rw [List.getD_eq_getElem?_getD, hl]; rfl
      by_cases hmt : 0 ≤ p.mat ∧ p.mat < l.length
      · obtain ⟨f, hf⟩ : ∃ f, l[p.mat.toNat]? = some f := ⟨_, List.getElem?_eq_getElem (by omega)⟩
        obtain ⟨q1, q2⟩ := hS.l3 l (List.mem_of_getElem? hl) f (List.mem_of_getElem? hf)
        have r := r5Right f (by omega) (by omega)
        cases hrf : rightF f with
        | false =>
          have hv : pickVal hh p = none := by unfold pickVal; rw [if_pos ⟨hmv.1, hmt.1⟩, hgd, hf]; simp [hrf]
          rw [hv] at hI
          rw [hrf] at r
          conv => whnf
          (repeat' (first | ((refine DecB.mk (fun h => ?_) (fun h => ?_)) <;> first | (exfalso; omega) | (conv => whnf)) | ((refine BoolB.mk (fun h => ?_) (fun h => ?_)) <;> first | (exact absurd h (by decide)) | (conv => whnf)) | (refine ⟨_, wrap_ok (by omega) (by omega), ?_⟩; conv => whnf) | (refine and_idx (by omega) (by omega) ?_; conv => whnf) | (refine reg_ok (by decide +kernel) ?_; conv => whnf) | (refine bar_ok (by decide +kernel) (by decide +kernel) ?_; conv => whnf) | (refine late_ok rfl rfl ?_; conv => whnf) | (refine src_ok rfl ?_; conv => whnf) | (refine .inl ⟨_, _, qcall_pure (r) rfl rfl, ?_⟩; conv => whnf) | (refine ex_row hpk ?_; conv => whnf) | (refine ex_rowI (by omega) hl ?_; conv => whnf) | (refine ex_rowI (by omega) hf ?_; conv => whnf) | (refine LitB.data ?_; conv => whnf) | (refine BoxB.own ?_; conv => whnf)))
          all_goals first
            | (exfalso; omega)
            | (rw [← hI]; exact fin_t ⟨⟨rfl, rfl, rfl, rfl, trivial⟩, rfl, trivial⟩)
        | true =>
          have hv : pickVal hh p = some (fv f) := by unfold pickVal; rw [if_pos ⟨hmv.1, hmt.1⟩, hgd, hf]; simp [hrf]
          rw [hv] at hI
          have hI : massF hh (a + fv f) (ps.drop (k + 1)) = massF hh zR ps := hI
          rw [hrf] at r
          have bf := rl_fv hrf q1 q2
          have ba := rl_add a (fv f)
          have ad := r15add a (fv f) (by omega) (by omega)
          rw [← fz_fv hrf] at ad
          conv => whnf
          (repeat' (first | ((refine DecB.mk (fun h => ?_) (fun h => ?_)) <;> first | (exfalso; omega) | (conv => whnf)) | ((refine BoolB.mk (fun h => ?_) (fun h => ?_)) <;> first | (exact absurd h (by decide)) | (conv => whnf)) | (refine ⟨_, wrap_ok (by omega) (by omega), ?_⟩; conv => whnf) | (refine and_idx (by omega) (by omega) ?_; conv => whnf) | (refine reg_ok (by decide +kernel) ?_; conv => whnf) | (refine bar_ok (by decide +kernel) (by decide +kernel) ?_; conv => whnf) | (refine late_ok rfl rfl ?_; conv => whnf) | (refine src_ok rfl ?_; conv => whnf) | (refine .inl ⟨_, _, qcall_pure (r) rfl rfl, ?_⟩; conv => whnf) | (refine .inl ⟨_, _, qcall_pure (ad) rfl rfl, ?_⟩; conv => whnf) | (refine ex_row hpk ?_; conv => whnf) | (refine ex_rowI (by omega) hl ?_; conv => whnf) | (refine ex_rowI (by omega) hf ?_; conv => whnf) | (refine LitB.data ?_; conv => whnf) | (refine BoxB.own ?_; conv => whnf)))
          all_goals first
            | (exfalso; omega)
            | exact ⟨[some 0, some 1], (k + 1, a + fv f), ⟨rfl, rfl, ⟨⟨rfl, rfl, rfl, .inl ⟨rfl, rowsT_fr _⟩⟩, ⟨rfl, rfl, rfl, .inl ⟨rfl, rowsT_fr _⟩⟩, trivial⟩, ⟨rfl, rfl, ⟨rfl, rfl, rfl⟩, ⟨rfl, rfl, rfl⟩, ent_i (by omega), trivial⟩⟩, ⟨hlt, hI, by show rl (a + fv f) ≤ (k + 1) * 201 + 1; omega⟩, by show ps.length - (k + 1) < ps.length - k; omega⟩
      · have hv : pickVal hh p = none := by
          unfold pickVal
          by_cases hc : 0 ≤ p.mv ∧ 0 ≤ p.mat
          · rw [if_pos hc, hgd, List.getElem?_eq_none (by omega)]
          · rw [if_neg hc]
        rw [hv] at hI
        conv => whnf
        (repeat' (first | ((refine DecB.mk (fun h => ?_) (fun h => ?_)) <;> first | (exfalso; omega) | (conv => whnf)) | ((refine BoolB.mk (fun h => ?_) (fun h => ?_)) <;> first | (exact absurd h (by decide)) | (conv => whnf)) | (refine ⟨_, wrap_ok (by omega) (by omega), ?_⟩; conv => whnf) | (refine and_idx (by omega) (by omega) ?_; conv => whnf) | (refine reg_ok (by decide +kernel) ?_; conv => whnf) | (refine bar_ok (by decide +kernel) (by decide +kernel) ?_; conv => whnf) | (refine late_ok rfl rfl ?_; conv => whnf) | (refine src_ok rfl ?_; conv => whnf) | (refine ex_row hpk ?_; conv => whnf) | (refine ex_rowI (by omega) hl ?_; conv => whnf) | (refine LitB.data ?_; conv => whnf) | (refine BoxB.own ?_; conv => whnf)))
        all_goals first
          | (exfalso; omega)
          | (rw [← hI]; exact fin_t ⟨⟨rfl, rfl, rfl, rfl, trivial⟩, rfl, trivial⟩)
    · have hv : pickVal hh p = none := by
        unfold pickVal
        by_cases hc : 0 ≤ p.mv ∧ 0 ≤ p.mat
        · rw [if_pos hc, List.getD_eq_getElem?_getD, List.getElem?_eq_none (l := hh) (i := p.mv.toNat) (by omega)]; rfl
        · rw [if_neg hc]
      rw [hv] at hI
      conv => whnf
      (repeat' (first | ((refine DecB.mk (fun h => ?_) (fun h => ?_)) <;> first | (exfalso; omega) | (conv => whnf)) | ((refine BoolB.mk (fun h => ?_) (fun h => ?_)) <;> first | (exact absurd h (by decide)) | (conv => whnf)) | (refine ⟨_, wrap_ok (by omega) (by omega), ?_⟩; conv => whnf) | (refine and_idx (by omega) (by omega) ?_; conv => whnf) | (refine reg_ok (by decide +kernel) ?_; conv => whnf) | (refine bar_ok (by decide +kernel) (by decide +kernel) ?_; conv => whnf) | (refine late_ok rfl rfl ?_; conv => whnf) | (refine src_ok rfl ?_; conv => whnf) | (refine ex_row hpk ?_; conv => whnf) | (refine LitB.data ?_; conv => whnf) | (refine BoxB.own ?_; conv => whnf)))
      all_goals first
        | (exfalso; omega)
        | (rw [← hI]; exact fin_t ⟨⟨rfl, rfl, rfl, rfl, trivial⟩, rfl, trivial⟩)
  · have hke : k = ps.length := by omega
    subst hke
    rw [List.drop_of_length_le (Nat.le_refl _)] at hI
    have hI : some a = massF hh zR ps := hI
    rw [← hI]
    conv => whnf
    (repeat' (first | ((refine DecB.mk (fun h => ?_) (fun h => ?_)) <;> first | (exfalso; omega) | (conv => whnf)) | ((refine BoolB.mk (fun h => ?_) (fun h => ?_)) <;> first | (exact absurd h (by decide)) | (conv => whnf)) | (refine ⟨_, wrap_ok (by omega) (by omega), ?_⟩; conv => whnf) | (refine and_idx (by omega) (by omega) ?_; conv => whnf) | (refine reg_ok (by decide +kernel) ?_; conv => whnf) | (refine bar_ok (by decide +kernel) (by decide +kernel) ?_; conv => whnf) | (refine late_ok rfl rfl ?_; conv => whnf) | (refine src_ok rfl ?_; conv => whnf) | (refine LitB.data ?_; conv => whnf) | (refine BoxB.own ?_; conv => whnf)))
    all_goals first
      | (exfalso; omega)
      | exact fin_t ⟨⟨rfl, rfl, rfl, rfl, trivial⟩, rfl, trivial⟩
end Go.Proofs.YthinjkjhiembgaaGreat
/- Small references: Few, Little, Same; few. -/
namespace Go.Proofs.YthinjkjhiembgaaGreat
open Go.RowKit
set_option linter.unusedVariables false
set_option linter.unusedSimpArgs false
set_option maxRecDepth 100000

theorem a_SameBig (b : Bg) (hl : b.dl.length ≤ 1000000) : ACall Tryz.prog 24 [bgS b, bgS b] [] (boolS true) [] := by
  have l2 : (b.dl.map intRow).length = b.dl.length := by simp
  (refine acall_of tab_ok Tryz.func24 rfl (by decide) ?_; (conv => whnf); repeat (first | (refine LitB.data ?_; conv => whnf) | (refine BoxB.data ?_; conv => whnf)))
  (repeat' (first | ((refine DecB.mk (fun h => ?_) (fun h => ?_)) <;> first | (exfalso; omega) | (conv => whnf)) | ((refine BoolB.mk (fun h => ?_) (fun h => ?_)) <;> first | (exact absurd h (by decide)) | (conv => whnf)) | (refine ⟨_, wrap_ok (by omega) (by omega), ?_⟩; conv => whnf) | (refine and_idx (by omega) (by omega) ?_; conv => whnf) | (refine reg_ok (by decide +kernel) ?_; conv => whnf) | (refine bar_ok (by decide +kernel) (by decide +kernel) ?_; conv => whnf) | (refine late_ok rfl rfl ?_; conv => whnf) | (refine src_ok rfl ?_; conv => whnf) | (refine LitB.data ?_; conv => whnf) | (refine BoxB.own ?_; conv => whnf)))
  all_goals try (exfalso; omega)
  refine awp_for tab_ok (fun k => ([S.junk, S.junk, S.c (C.t (T.ptr [ti b.sg, intsT b.dl])), S.c (C.t (T.ptr [ti b.sg, intsT b.dl])), S.junk, intS .i64 k, S.junk, S.junk, S.junk, S.junk, S.junk, S.junk, S.junk, S.junk, S.junk, S.junk, S.junk, S.junk, S.junk, S.junk, S.junk, S.junk, S.junk, S.junk, S.junk, S.junk, S.junk, S.junk, S.junk, S.junk, S.junk, S.junk, S.junk, S.junk, S.junk, S.junk, S.junk, S.junk], [])) b.dl.length (fun _ => True) [] trivial
    ⟨rfl, rfl, trivial, ⟨rfl, rfl, rfl, trivial⟩⟩ ?_
  intro k hk _
  by_cases hlt : k < b.dl.length
  · conv => whnf
    (repeat' (first | ((refine DecB.mk (fun h => ?_) (fun h => ?_)) <;> first | (exfalso; omega) | (conv => whnf)) | ((refine BoolB.mk (fun h => ?_) (fun h => ?_)) <;> first | (exact absurd h (by decide)) | (conv => whnf)) | (refine ⟨_, wrap_ok (by omega) (by omega), ?_⟩; conv => whnf) | (refine and_idx (by omega) (by omega) ?_; conv => whnf) | (refine reg_ok (by decide +kernel) ?_; conv => whnf) | (refine bar_ok (by decide +kernel) (by decide +kernel) ?_; conv => whnf) | (refine late_ok rfl rfl ?_; conv => whnf) | (refine src_ok rfl ?_; conv => whnf) | (refine ex_row (get_dat (by omega)) ?_; conv => whnf) | (refine LitB.data ?_; conv => whnf) | (refine BoxB.own ?_; conv => whnf)))
    all_goals first
      | (exfalso; omega)
      | exact ⟨hlt, trivial, [], rfl, rfl, trivial, ⟨rfl, rfl, rfl, trivial⟩⟩
  · conv => whnf
    (repeat' (first | ((refine DecB.mk (fun h => ?_) (fun h => ?_)) <;> first | (exfalso; omega) | (conv => whnf)) | ((refine BoolB.mk (fun h => ?_) (fun h => ?_)) <;> first | (exact absurd h (by decide)) | (conv => whnf)) | (refine ⟨_, wrap_ok (by omega) (by omega), ?_⟩; conv => whnf) | (refine and_idx (by omega) (by omega) ?_; conv => whnf) | (refine reg_ok (by decide +kernel) ?_; conv => whnf) | (refine bar_ok (by decide +kernel) (by decide +kernel) ?_; conv => whnf) | (refine late_ok rfl rfl ?_; conv => whnf) | (refine src_ok rfl ?_; conv => whnf) | (refine LitB.data ?_; conv => whnf) | (refine BoxB.own ?_; conv => whnf)))
    all_goals first
      | (exfalso; omega)
      | exact fin_bool rfl
theorem a_SameF (f : Fr) (lp : f.p.dl.length ≤ 1000000) (lq : f.q.dl.length ≤ 1000000) : ACall Tryz.prog 8 [frS f, frS f] [] (boolS true) [] := by
  have s1 := a_SameBig f.p lp
  have s2 := a_SameBig f.q lq
  (refine acall_of tab_ok Tryz.func8 rfl (by decide) ?_; (conv => whnf); repeat (first | (refine LitB.data ?_; conv => whnf) | (refine BoxB.data ?_; conv => whnf)))
  (repeat' (first | ((refine DecB.mk (fun h => ?_) (fun h => ?_)) <;> first | (exfalso; omega) | (conv => whnf)) | ((refine BoolB.mk (fun h => ?_) (fun h => ?_)) <;> first | (exact absurd h (by decide)) | (conv => whnf)) | (refine ⟨_, wrap_ok (by omega) (by omega), ?_⟩; conv => whnf) | (refine and_idx (by omega) (by omega) ?_; conv => whnf) | (refine reg_ok (by decide +kernel) ?_; conv => whnf) | (refine bar_ok (by decide +kernel) (by decide +kernel) ?_; conv => whnf) | (refine late_ok rfl rfl ?_; conv => whnf) | (refine src_ok rfl ?_; conv => whnf) | (refine .inl ⟨_, _, qcall_pure (s1) rfl rfl, ?_⟩; conv => whnf) | (refine .inl ⟨_, _, qcall_pure (s2) rfl rfl, ?_⟩; conv => whnf) | (refine LitB.data ?_; conv => whnf) | (refine BoxB.own ?_; conv => whnf)))
  all_goals first
    | (exfalso; simp_all; done)
    | exact fin_bool rfl
def fewF (n : Int) (f : Fr) : Bool := decide ((f.p.dl.length : Int) ≤ n) && decide ((f.q.dl.length : Int) ≤ n)
theorem a_FewF (f : Fr) (n : Int) : ACall Tryz.prog 39 [frS f, intS .i64 n] [] (boolS (fewF n f)) [] := by
  have l1 : (f.p.dl.map intRow).length = f.p.dl.length := by simp
  have l2 : (f.q.dl.map intRow).length = f.q.dl.length := by simp
  (refine acall_of tab_ok Tryz.func39 rfl (by decide) ?_; (conv => whnf); repeat (first | (refine LitB.data ?_; conv => whnf) | (refine BoxB.data ?_; conv => whnf)))
  (repeat' (first | ((refine DecB.mk (fun h => ?_) (fun h => ?_)) <;> first | (exfalso; omega) | (conv => whnf)) | ((refine BoolB.mk (fun h => ?_) (fun h => ?_)) <;> first | (exact absurd h (by decide)) | (conv => whnf)) | (refine ⟨_, wrap_ok (by omega) (by omega), ?_⟩; conv => whnf) | (refine and_idx (by omega) (by omega) ?_; conv => whnf) | (refine reg_ok (by decide +kernel) ?_; conv => whnf) | (refine bar_ok (by decide +kernel) (by decide +kernel) ?_; conv => whnf) | (refine late_ok rfl rfl ?_; conv => whnf) | (refine src_ok rfl ?_; conv => whnf) | (refine LitB.data ?_; conv => whnf) | (refine BoxB.own ?_; conv => whnf)))
  all_goals (refine fin_bool ?_; unfold fewF; simp; omega)
def little (e : Ev) : Bool := decide (e.moves.length ≤ 14) && decide (e.places.length ≤ 14) && decide (e.certs.length ≤ 20) && decide (e.purities.length ≤ 20) && decide (e.recalls.length ≤ 10) && (decide (e.mats ≤ 6) || decide (e.mats > 6))
theorem a_Little (e : Ev) : ACall Tryz.prog 17 [evS e] [] (boolS (little e)) [] := by
  have l1 : (e.moves.map Move.row).length = e.moves.length := by simp
  have l2 : (e.places.map Place.row).length = e.places.length := by simp
  have l3 : (e.certs.map Cert.row).length = e.certs.length := by simp
  have l4 : (e.purities.map Purity.row).length = e.purities.length := by simp
  have l5 : (e.recalls.map Recall.row).length = e.recalls.length := by simp
  (refine acall_of tab_ok Tryz.func17 rfl (by decide) ?_; (conv => whnf); repeat (first | (refine LitB.data ?_; conv => whnf) | (refine BoxB.data ?_; conv => whnf)))
  (repeat' (first | ((refine DecB.mk (fun h => ?_) (fun h => ?_)) <;> first | (exfalso; omega) | (conv => whnf)) | ((refine BoolB.mk (fun h => ?_) (fun h => ?_)) <;> first | (exact absurd h (by decide)) | (conv => whnf)) | (refine ⟨_, wrap_ok (by omega) (by omega), ?_⟩; conv => whnf) | (refine and_idx (by omega) (by omega) ?_; conv => whnf) | (refine reg_ok (by decide +kernel) ?_; conv => whnf) | (refine bar_ok (by decide +kernel) (by decide +kernel) ?_; conv => whnf) | (refine late_ok rfl rfl ?_; conv => whnf) | (refine src_ok rfl ?_; conv => whnf) | (refine LitB.data ?_; conv => whnf) | (refine BoxB.own ?_; conv => whnf)))
  all_goals (refine fin_bool ?_; unfold little; simp; omega)
def fewL (l : List Fr) : Bool := decide (l.length ≤ 8) && l.all (fewF 3)
def fewH (hh : List (List Fr)) : Bool := (hh.take 20).all fewL && decide (hh.length ≤ 14)
theorem a_FewH (hh : List (List Fr)) : ACall Tryz.prog 18 [histS hh] [] (boolS (fewH hh)) [] := by
  have m1 : (hh.map fracsRow).length = hh.length := by simp
  (refine acall_of tab_ok Tryz.func18 rfl (by decide) ?_; (conv => whnf); repeat (first | (refine LitB.data ?_; conv => whnf) | (refine BoxB.data ?_; conv => whnf)))
  (repeat' (first | ((refine DecB.mk (fun h => ?_) (fun h => ?_)) <;> first | (exfalso; omega) | (conv => whnf)) | ((refine BoolB.mk (fun h => ?_) (fun h => ?_)) <;> first | (exact absurd h (by decide)) | (conv => whnf)) | (refine ⟨_, wrap_ok (by omega) (by omega), ?_⟩; conv => whnf) | (refine and_idx (by omega) (by omega) ?_; conv => whnf) | (refine reg_ok (by decide +kernel) ?_; conv => whnf) | (refine bar_ok (by decide +kernel) (by decide +kernel) ?_; conv => whnf) | (refine late_ok rfl rfl ?_; conv => whnf) | (refine src_ok rfl ?_; conv => whnf) | (refine LitB.data ?_; conv => whnf) | (refine BoxB.own ?_; conv => whnf)))
  refine awp_for tab_ok (fun k => ([histS hh, S.junk, S.junk, intS .i64 k, S.junk, S.junk, S.junk, S.junk, S.junk, S.junk, S.junk, S.junk, S.junk, S.junk, S.junk, S.junk, S.junk, S.junk, S.junk, S.junk, S.junk, S.junk, S.junk, S.junk, S.junk, S.junk, S.junk, S.junk, S.junk, S.junk, S.junk, S.junk, S.junk, S.junk, S.junk, S.junk, S.junk, S.junk, S.junk, S.junk, S.junk, S.junk], [])) 20 (fun k => k ≤ hh.length ∧ (hh.take k).all fewL = true) [] ⟨Nat.zero_le _, rfl⟩
    ⟨rfl, rfl, trivial, ⟨ent_t rfl, rfl, trivial⟩⟩ ?_
  rintro k hk ⟨hle, hI⟩
  by_cases hlt : k < hh.length ∧ k < 20
  · obtain ⟨l, hl⟩ : ∃ l, hh[k]? = some l := ⟨_, List.getElem?_eq_getElem hlt.1⟩
    have m3 : (l.map frRow).length = l.length := by simp
    have hlt20 : (hh.take 20)[k]? = some l := by rw [List.getElem?_take, if_pos hlt.2]; exact hl
    have bad : fewL l = false → fewH hh = false := fun h => by unfold fewH; rw [all_of_get hlt20 h]; rfl
    conv => whnf
    (repeat' (first | ((refine DecB.mk (fun h => ?_) (fun h => ?_)) <;> first | (exfalso; omega) | (conv => whnf)) | ((refine BoolB.mk (fun h => ?_) (fun h => ?_)) <;> first | (exact absurd h (by decide)) | (conv => whnf)) | (refine ⟨_, wrap_ok (by omega) (by omega), ?_⟩; conv => whnf) | (refine and_idx (by omega) (by omega) ?_; conv => whnf) | (refine reg_ok (by decide +kernel) ?_; conv => whnf) | (refine bar_ok (by decide +kernel) (by decide +kernel) ?_; conv => whnf) | (refine late_ok rfl rfl ?_; conv => whnf) | (refine src_ok rfl ?_; conv => whnf) | (refine ex_row hl ?_; conv => whnf) | (refine LitB.data ?_; conv => whnf) | (refine BoxB.own ?_; conv => whnf)))
    all_goals try (exfalso; omega)
    · refine fin_bool ?_
      rw [bad (by unfold fewL; simp; omega)]
    · refine awp_for tab_ok (fun j => ([histS hh, S.junk, S.junk, intS .i64 k, intS .i64 j, S.junk, S.junk, S.junk, S.junk, S.junk, S.junk, S.junk, S.junk, S.junk, S.junk, S.junk, S.junk, S.junk, S.junk, S.junk, S.junk, S.junk, S.junk, S.junk, S.junk, S.junk, S.junk, S.junk, S.junk, S.junk, S.junk, S.junk, S.junk, S.junk, S.junk, S.junk, S.junk, S.junk, S.junk, S.junk, S.junk, S.junk], [])) l.length (fun j => (l.take j).all (fewF 3) = true) [] rfl
        ⟨rfl, rfl, trivial, ⟨rfl, rfl, rfl, trivial⟩⟩ ?_
      intro j hj hJ
      by_cases hjt : j < l.length
      · obtain ⟨f, hf⟩ : ∃ f, l[j]? = some f := ⟨_, List.getElem?_eq_getElem hjt⟩
        have r := a_FewF f 3
        cases hff : fewF 3 f with
        | true =>
          rw [hff] at r
          conv => whnf
          (repeat' (first | ((refine DecB.mk (fun h => ?_) (fun h => ?_)) <;> first | (exfalso; omega) | (conv => whnf)) | ((refine BoolB.mk (fun h => ?_) (fun h => ?_)) <;> first | (exact absurd h (by decide)) | (conv => whnf)) | (refine ⟨_, wrap_ok (by omega) (by omega), ?_⟩; conv => whnf) | (refine and_idx (by omega) (by omega) ?_; conv => whnf) | (refine reg_ok (by decide +kernel) ?_; conv => whnf) | (refine bar_ok (by decide +kernel) (by decide +kernel) ?_; conv => whnf) | (refine late_ok rfl rfl ?_; conv => whnf) | (refine src_ok rfl ?_; conv => whnf) | (refine .inl ⟨_, _, qcall_pure (r) rfl rfl, ?_⟩; conv => whnf) | (refine ex_row hl ?_; conv => whnf) | (refine ex_row hf ?_; conv => whnf) | (refine LitB.data ?_; conv => whnf) | (refine BoxB.own ?_; conv => whnf)))
          all_goals first
            | (exfalso; omega)
            | exact ⟨hjt, by rw [all_take_succ hf, hJ, hff]; rfl, [], rfl, rfl, trivial, ⟨rfl, rfl, rfl, trivial⟩⟩
        | false =>
          rw [hff] at r
          conv => whnf
          (repeat' (first | ((refine DecB.mk (fun h => ?_) (fun h => ?_)) <;> first | (exfalso; omega) | (conv => whnf)) | ((refine BoolB.mk (fun h => ?_) (fun h => ?_)) <;> first | (exact absurd h (by decide)) | (conv => whnf)) | (refine ⟨_, wrap_ok (by omega) (by omega), ?_⟩; conv => whnf) | (refine and_idx (by omega) (by omega) ?_; conv => whnf) | (refine reg_ok (by decide +kernel) ?_; conv => whnf) | (refine bar_ok (by decide +kernel) (by decide +kernel) ?_; conv => whnf) | (refine late_ok rfl rfl ?_; conv => whnf) | (refine src_ok rfl ?_; conv => whnf) | (refine .inl ⟨_, _, qcall_pure (r) rfl rfl, ?_⟩; conv => whnf) | (refine ex_row hl ?_; conv => whnf) | (refine ex_row hf ?_; conv => whnf) | (refine LitB.data ?_; conv => whnf) | (refine BoxB.own ?_; conv => whnf)))
          all_goals first
            | (exfalso; omega)
            | (refine fin_bool ?_; rw [bad (by unfold fewL; rw [all_of_get hf hff, Bool.and_false])])
      · have hje : j = l.length := by omega
        subst hje
        have hlf : fewL l = true := by
          unfold fewL
          rw [all_take_full hJ]; simp; omega
        conv => whnf
        (repeat' (first | ((refine DecB.mk (fun h => ?_) (fun h => ?_)) <;> first | (exfalso; omega) | (conv => whnf)) | ((refine BoolB.mk (fun h => ?_) (fun h => ?_)) <;> first | (exact absurd h (by decide)) | (conv => whnf)) | (refine ⟨_, wrap_ok (by omega) (by omega), ?_⟩; conv => whnf) | (refine and_idx (by omega) (by omega) ?_; conv => whnf) | (refine reg_ok (by decide +kernel) ?_; conv => whnf) | (refine bar_ok (by decide +kernel) (by decide +kernel) ?_; conv => whnf) | (refine late_ok rfl rfl ?_; conv => whnf) | (refine src_ok rfl ?_; conv => whnf) | (refine ex_row hl ?_; conv => whnf) | (refine LitB.data ?_; conv => whnf) | (refine BoxB.own ?_; conv => whnf)))
        all_goals first
          | (exfalso; omega)
          | exact ⟨by omega, ⟨by omega, by rw [all_take_succ hl, hI, hlf]; rfl⟩, [], rfl, rfl, trivial, ⟨rfl, ent_i (by omega), trivial⟩⟩
  · have hk2 : hh.length = k ∨ k = 20 := by omega
    have hall : (hh.take 20).all fewL = true := by
      rcases hk2 with h | h
      · have e : hh.take 20 = hh.take k := by rw [List.take_of_length_le (by omega), List.take_of_length_le (by omega)]
        rw [e]; exact hI
      · rw [← h]; exact hI
    conv => whnf
    (repeat' (first | ((refine DecB.mk (fun h => ?_) (fun h => ?_)) <;> first | (exfalso; omega) | (conv => whnf)) | ((refine BoolB.mk (fun h => ?_) (fun h => ?_)) <;> first | (exact absurd h (by decide)) | (conv => whnf)) | (refine ⟨_, wrap_ok (by omega) (by omega), ?_⟩; conv => whnf) | (refine and_idx (by omega) (by omega) ?_; conv => whnf) | (refine reg_ok (by decide +kernel) ?_; conv => whnf) | (refine bar_ok (by decide +kernel) (by decide +kernel) ?_; conv => whnf) | (refine late_ok rfl rfl ?_; conv => whnf) | (refine src_ok rfl ?_; conv => whnf) | (refine LitB.data ?_; conv => whnf) | (refine BoxB.own ?_; conv => whnf)))
    all_goals first
      | (exfalso; omega)
      | (refine fin_bool ?_; unfold fewH; rw [hall]; simp; omega)
theorem a_few (e : Ev) (hh : List (List Fr)) : ACall Tryz.prog 5 [evS e, histS hh] [] (boolS (little e && fewH hh)) [] := by
  have r1 := a_Little e
  have r2 := a_FewH hh
  cases h1 : little e <;> cases h2 : fewH hh <;> rw [h1] at r1 <;> rw [h2] at r2 <;>
  · (refine acall_of tab_ok Tryz.func5 rfl (by decide) ?_; (conv => whnf); repeat (first | (refine LitB.data ?_; conv => whnf) | (refine BoxB.data ?_; conv => whnf)))
    (repeat' (first | ((refine DecB.mk (fun h => ?_) (fun h => ?_)) <;> first | (exfalso; omega) | (conv => whnf)) | ((refine BoolB.mk (fun h => ?_) (fun h => ?_)) <;> first | (exact absurd h (by decide)) | (conv => whnf)) | (refine ⟨_, wrap_ok (by omega) (by omega), ?_⟩; conv => whnf) | (refine and_idx (by omega) (by omega) ?_; conv => whnf) | (refine reg_ok (by decide +kernel) ?_; conv => whnf) | (refine bar_ok (by decide +kernel) (by decide +kernel) ?_; conv => whnf) | (refine late_ok rfl rfl ?_; conv => whnf) | (refine src_ok rfl ?_; conv => whnf) | (refine .inl ⟨_, _, qcall_pure (r1) rfl rfl, ?_⟩; conv => whnf) | (refine .inl ⟨_, _, qcall_pure (r2) rfl rfl, ?_⟩; conv => whnf) | (refine LitB.data ?_; conv => whnf) | (refine BoxB.own ?_; conv => whnf)))
    all_goals first
      | (exfalso; simp_all; done)
      | exact fin_bool rfl
theorem few_small {hh : List (List Fr)} (h : fewH hh = true) : SmallH 3 hh ∧ hh.length ≤ 14 ∧ ∀ l ∈ hh, l.length ≤ 8 := by
  unfold fewH at h
  simp only [Bool.and_eq_true, decide_eq_true_eq] at h
  obtain ⟨h1, h2⟩ := h
  rw [List.take_of_length_le (by omega), List.all_eq_true] at h1
  have h3 : ∀ l ∈ hh, l.length ≤ 8 ∧ ∀ f ∈ l, f.p.dl.length ≤ 3 ∧ f.q.dl.length ≤ 3 := fun l hl => by
    have := h1 l hl
    unfold fewL at this
    simp only [Bool.and_eq_true, decide_eq_true_eq, List.all_eq_true] at this
    refine ⟨this.1, fun f hf => ?_⟩
    have := this.2 f hf
    unfold fewF at this
    simp only [Bool.and_eq_true, decide_eq_true_eq] at this
    omega
  exact ⟨⟨by omega, fun l hl => by have := (h3 l hl).1; omega, fun l hl => (h3 l hl).2⟩, h2, fun l hl => (h3 l hl).1⟩
theorem SmallH.mono {m n : Nat} {hh : List (List Fr)} (h : SmallH m hh) (hmn : m ≤ n) : SmallH n hh := ⟨h.l1, h.l2, fun l hl f hf => by have := h.l3 l hl f hf; omega⟩
theorem little_sized {e : Ev} (h : little e = true) : e.Sized := by
  unfold little at h
  simp only [Bool.and_eq_true, decide_eq_true_eq] at h
  exact ⟨by omega, by omega, by omega, by omega, by omega⟩
theorem a_SameL (l : List Fr) (hl : l.length ≤ 1000000) (hd : ∀ f ∈ l, f.p.dl.length ≤ 1000000 ∧ f.q.dl.length ≤ 1000000) : ACall Tryz.prog 11 [fracsS l, fracsS l] [] (boolS true) [] := by
  have l2 : (l.map frRow).length = l.length := by simp
  (refine acall_of tab_ok Tryz.func11 rfl (by decide) ?_; (conv => whnf); repeat (first | (refine LitB.data ?_; conv => whnf) | (refine BoxB.data ?_; conv => whnf)))
  (repeat' (first | ((refine DecB.mk (fun h => ?_) (fun h => ?_)) <;> first | (exfalso; omega) | (conv => whnf)) | ((refine BoolB.mk (fun h => ?_) (fun h => ?_)) <;> first | (exact absurd h (by decide)) | (conv => whnf)) | (refine ⟨_, wrap_ok (by omega) (by omega), ?_⟩; conv => whnf) | (refine and_idx (by omega) (by omega) ?_; conv => whnf) | (refine reg_ok (by decide +kernel) ?_; conv => whnf) | (refine bar_ok (by decide +kernel) (by decide +kernel) ?_; conv => whnf) | (refine late_ok rfl rfl ?_; conv => whnf) | (refine src_ok rfl ?_; conv => whnf) | (refine LitB.data ?_; conv => whnf) | (refine BoxB.own ?_; conv => whnf)))
  all_goals try (exfalso; omega)
  refine awp_for tab_ok (fun k => ([fracsS l, fracsS l, S.junk, S.junk, S.junk, intS .i64 k, S.junk, S.junk, S.junk, S.junk, S.junk, S.junk, S.junk, S.junk, S.junk, S.junk, S.junk, S.junk, S.junk, S.junk, S.junk, S.junk, S.junk, S.junk, S.junk, S.junk, S.junk], [])) l.length (fun _ => True) [] trivial
    ⟨rfl, rfl, trivial, ⟨rfl, rfl, rfl, trivial⟩⟩ ?_
  intro k hk _
  by_cases hlt : k < l.length
  · obtain ⟨f, hf⟩ : ∃ f, l[k]? = some f := ⟨_, List.getElem?_eq_getElem hlt⟩
    obtain ⟨q1, q2⟩ := hd f (List.mem_of_getElem? hf)
    have r := a_SameF f q1 q2
    conv => whnf
    (repeat' (first | ((refine DecB.mk (fun h => ?_) (fun h => ?_)) <;> first | (exfalso; omega) | (conv => whnf)) | ((refine BoolB.mk (fun h => ?_) (fun h => ?_)) <;> first | (exact absurd h (by decide)) | (conv => whnf)) | (refine ⟨_, wrap_ok (by omega) (by omega), ?_⟩; conv => whnf) | (refine and_idx (by omega) (by omega) ?_; conv => whnf) | (refine reg_ok (by decide +kernel) ?_; conv => whnf) | (refine bar_ok (by decide +kernel) (by decide +kernel) ?_; conv => whnf) | (refine late_ok rfl rfl ?_; conv => whnf) | (refine src_ok rfl ?_; conv => whnf) | (refine .inl ⟨_, _, qcall_pure (r) rfl rfl, ?_⟩; conv => whnf) | (refine ex_row hf ?_; conv => whnf) | (refine LitB.data ?_; conv => whnf) | (refine BoxB.own ?_; conv => whnf)))
    all_goals first
      | (exfalso; omega)
      | (exfalso; simp_all; done)
      | exact ⟨hlt, trivial, [], rfl, rfl, trivial, ⟨rfl, rfl, rfl, trivial⟩⟩
  · conv => whnf
    (repeat' (first | ((refine DecB.mk (fun h => ?_) (fun h => ?_)) <;> first | (exfalso; omega) | (conv => whnf)) | ((refine BoolB.mk (fun h => ?_) (fun h => ?_)) <;> first | (exact absurd h (by decide)) | (conv => whnf)) | (refine ⟨_, wrap_ok (by omega) (by omega), ?_⟩; conv => whnf) | (refine and_idx (by omega) (by omega) ?_; conv => whnf) | (refine reg_ok (by decide +kernel) ?_; conv => whnf) | (refine bar_ok (by decide +kernel) (by decide +kernel) ?_; conv => whnf) | (refine late_ok rfl rfl ?_; conv => whnf) | (refine src_ok rfl ?_; conv => whnf) | (refine LitB.data ?_; conv => whnf) | (refine BoxB.own ?_; conv => whnf)))
    all_goals first
      | (exfalso; omega)
      | exact fin_bool rfl
end Go.Proofs.YthinjkjhiembgaaGreat
/- The examples of law 15: example, masses, small. -/
namespace Go.Proofs.YthinjkjhiembgaaGreat
open Go.RowKit
set_option linter.unusedVariables false
set_option linter.unusedSimpArgs false
set_option maxRecDepth 100000

abbrev ir (n : Int) : Rat := ((n : Int) : Rat)
def exE15 : Ev := ⟨2, 1, 1, [⟨0, 0, 0⟩, ⟨1, -1, -1⟩, ⟨5, -1, -1⟩], [⟨3, 0, 1, 0, 100, false⟩, ⟨3, 1, 2, -1, 0, true⟩], [⟨0, 0, 9, 2, 0, 0⟩], [], [⟨0, 0, 900, 1000⟩]⟩
def badE15 : Ev := ⟨-1, 0, 0, [], [], [], [], []⟩
def exG (a b c d : Int) : List (List Rat) := [[ir a, ir b], [ir c, ir d]]
theorem a_masses (a b c d : Int) (ha : -1000 ≤ a ∧ a ≤ 1000) (hb : -1000 ≤ b ∧ b ≤ 1000) (hc : -1000 ≤ c ∧ c ≤ 1000) (hd : -1000 ≤ d ∧ d ≤ 1000) :
    ACall Tryz.prog 15 [intS .i64 a, intS .i64 b, intS .i64 c, intS .i64 d] [] (histS (hz (exG a b c d))) [] := by
  have i1 := r5Int a (by omega) (by omega)
  have i2 := r5Int b (by omega) (by omega)
  have i3 := r5Int c (by omega) (by omega)
  have i4 := r5Int d (by omega) (by omega)
  (refine acall_of tab_ok Tryz.func15 rfl (by decide) ?_; (conv => whnf); repeat (first | (refine LitB.data ?_; conv => whnf) | (refine BoxB.own ?_; conv => whnf)))
  (repeat' (first | ((refine DecB.mk (fun h => ?_) (fun h => ?_)) <;> first | (exfalso; omega) | (conv => whnf)) | ((refine BoolB.mk (fun h => ?_) (fun h => ?_)) <;> first | (exact absurd h (by decide)) | (conv => whnf)) | (refine ⟨_, wrap_ok (by omega) (by omega), ?_⟩; conv => whnf) | (refine and_idx (by omega) (by omega) ?_; conv => whnf) | (refine reg_ok (by decide +kernel) ?_; conv => whnf) | (refine bar_ok (by decide +kernel) (by decide +kernel) ?_; conv => whnf) | (refine late_ok rfl rfl ?_; conv => whnf) | (refine src_ok rfl ?_; conv => whnf) | (refine .inl ⟨_, _, qcall_pure (i1) rfl rfl, ?_⟩; conv => whnf) | (refine .inl ⟨_, _, qcall_pure (i2) rfl rfl, ?_⟩; conv => whnf) | (refine .inl ⟨_, _, qcall_pure (i3) rfl rfl, ?_⟩; conv => whnf) | (refine .inl ⟨_, _, qcall_pure (i4) rfl rfl, ?_⟩; conv => whnf) | (refine LitB.weak ?_; conv => whnf) | (refine LitB.data ?_; conv => whnf) | (refine BoxB.own ?_; conv => whnf)))
  exact fin_t rfl
theorem a_example15 : ACall Tryz.prog 14 [] [] (evS exE15) [] := by
  (refine acall_of tab_ok Tryz.func14 rfl (by decide) ?_; (conv => whnf); repeat (first | (refine LitB.data ?_; conv => whnf) | (refine BoxB.own ?_; conv => whnf)))
  (repeat' (first | ((refine DecB.mk (fun h => ?_) (fun h => ?_)) <;> first | (exfalso; omega) | (conv => whnf)) | ((refine BoolB.mk (fun h => ?_) (fun h => ?_)) <;> first | (exact absurd h (by decide)) | (conv => whnf)) | (refine ⟨_, wrap_ok (by omega) (by omega), ?_⟩; conv => whnf) | (refine and_idx (by omega) (by omega) ?_; conv => whnf) | (refine reg_ok (by decide +kernel) ?_; conv => whnf) | (refine bar_ok (by decide +kernel) (by decide +kernel) ?_; conv => whnf) | (refine late_ok rfl rfl ?_; conv => whnf) | (refine src_ok rfl ?_; conv => whnf) | (refine LitB.weak ?_; conv => whnf) | (refine LitB.data ?_; conv => whnf) | (refine BoxB.own ?_; conv => whnf)))
  exact fin_t ⟨rfl, rfl, rfl, rfl, rfl, rfl, rfl, rfl, trivial⟩
theorem ex_sized : exE15.Sized := ⟨by simp [exE15], by simp [exE15], by simp [exE15], by simp [exE15], by simp [exE15]⟩
theorem ex_check : check exE15 = 0 := by decide +kernel
theorem ex_hist {a b c d : Int} : histCheck exE15 (hz (exG a b c d)) = histE exE15 (exG a b c d) := by
  unfold histCheck
  rw [if_neg (by simp [ex_check]), shape_ok ⟨rfl, by intro l hl; simp [exG] at hl; rcases hl with rfl | rfl <;> rfl⟩, if_pos rfl, unhz]
theorem ex1 : histE exE15 (exG 95 5 95 5) = 0 := by decide +kernel
theorem ex2 : histE exE15 (exG 95 8 95 8) = 24 := by decide +kernel
theorem ex3 : histE exE15 (exG 95 5 95 4) = 7 := by decide +kernel
theorem ex4 : histE exE15 (exG 95 5 95 6) = 4 := by decide +kernel
theorem ex5 : histE exE15 (exG 80 20 80 20) = 13 := by decide +kernel
theorem ex6 : histE exE15 (exG 102 (-1) 0 0) = 3 := by decide +kernel
theorem ex7 : histCheck exE15 (hz [[ir 95, ir 5]]) = 2 := by
  unfold histCheck
  rw [if_neg (by simp [ex_check])]; rfl
theorem ex8 : histCheck badE15 [] = 1 := by decide +kernel
theorem rl_ir {n : Int} (h : -1000 ≤ n ∧ n ≤ 1000) : rl (ir n) ≤ 1 := by rw [rl_int]; have := bl_small (x := n) (by omega) (by omega); omega
theorem ex_smallH {G : List (List Rat)} (h1 : G.length ≤ 10) (h2 : ∀ l ∈ G, l.length ≤ 10 ∧ ∀ x ∈ l, rl x ≤ 1) : SmallH 200 (hz G) := by
  refine ⟨by simp [hz]; omega, fun l hl => ?_, fun l hl f hf => ?_⟩
  · obtain ⟨L, hL, rfl⟩ := List.mem_map.1 hl
    have := (h2 L hL).1
    simp; omega
  · obtain ⟨L, hL, rfl⟩ := List.mem_map.1 hl
    obtain ⟨x, hx, rfl⟩ := List.mem_map.1 hf
    have h3 := (h2 L hL).2 x hx
    have h4 := rl_num x
    have h5 := rl_den x
    exact ⟨show bl x.num ≤ 200 by omega, show bl x.den ≤ 200 by omega⟩
theorem exG_small (a b c d : Int) (ha : -1000 ≤ a ∧ a ≤ 1000) (hb : -1000 ≤ b ∧ b ≤ 1000) (hc : -1000 ≤ c ∧ c ≤ 1000) (hd : -1000 ≤ d ∧ d ≤ 1000) : SmallH 200 (hz (exG a b c d)) :=
  ex_smallH (by simp [exG]) fun l hl => by
    simp only [exG, List.mem_cons, List.not_mem_nil, or_false] at hl
    rcases hl with rfl | rfl
    · refine ⟨by simp, fun x hx => ?_⟩
      simp only [List.mem_cons, List.not_mem_nil, or_false] at hx
      rcases hx with rfl | rfl
      · exact rl_ir ha
      · exact rl_ir hb
    · refine ⟨by simp, fun x hx => ?_⟩
      simp only [List.mem_cons, List.not_mem_nil, or_false] at hx
      rcases hx with rfl | rfl
      · exact rl_ir hc
      · exact rl_ir hd
theorem ex_ck (a b c d v : Int) (h : histE exE15 (exG a b c d) = v) (ha : -1000 ≤ a ∧ a ≤ 1000) (hb : -1000 ≤ b ∧ b ≤ 1000) (hc : -1000 ≤ c ∧ c ≤ 1000) (hd : -1000 ≤ d ∧ d ≤ 1000) :
    ACall Tryz.prog 9 [evS exE15, histS (hz (exG a b c d))] [] (intS .i64 v) [] := by
  have := a_hCheck exE15 (hz (exG a b c d)) ex_sized (exG_small a b c d ha hb hc hd)
  rw [ex_hist, h] at this
  exact this
theorem fz_len {x : Rat} {n : Nat} (h : rl x ≤ n) (hn : n ≤ 1000000 := by decide) : (fz x).p.dl.length ≤ 1000000 ∧ (fz x).q.dl.length ≤ 1000000 := by
  have h4 := rl_num x
  have h5 := rl_den x
  exact ⟨show bl x.num ≤ 1000000 by omega, show bl x.den ≤ 1000000 by omega⟩
set_option maxHeartbeats 4000000 in
theorem a_small15 : ACall Tryz.prog 4 [] [] (boolS true) [] := by
  have g1 := a_masses 95 5 95 5 (by decide) (by decide) (by decide) (by decide)
  have g2 := a_masses 95 8 95 8 (by decide) (by decide) (by decide) (by decide)
  have g3 := a_masses 95 5 95 4 (by decide) (by decide) (by decide) (by decide)
  have g4 := a_masses 95 5 95 6 (by decide) (by decide) (by decide) (by decide)
  have g5 := a_masses 80 20 80 20 (by decide) (by decide) (by decide) (by decide)
  have g6 := a_masses 102 (-1) 0 0 (by decide) (by decide) (by decide) (by decide)
  have c1 := ex_ck 95 5 95 5 _ ex1 (by decide) (by decide) (by decide) (by decide)
  have c2 := ex_ck 95 8 95 8 _ ex2 (by decide) (by decide) (by decide) (by decide)
  have c3 := ex_ck 95 5 95 4 _ ex3 (by decide) (by decide) (by decide) (by decide)
  have c4 := ex_ck 95 5 95 6 _ ex4 (by decide) (by decide) (by decide) (by decide)
  have c5 := ex_ck 80 20 80 20 _ ex5 (by decide) (by decide) (by decide) (by decide)
  have c6 := ex_ck 102 (-1) 0 0 _ ex6 (by decide) (by decide) (by decide) (by decide)
  have c7 := a_hCheck exE15 (hz [[ir 95, ir 5]]) ex_sized (ex_smallH (by simp) fun l hl => by
    simp only [List.mem_cons, List.not_mem_nil, or_false] at hl
    subst hl
    refine ⟨by simp, fun x hx => ?_⟩
    simp only [List.mem_cons, List.not_mem_nil, or_false] at hx
    rcases hx with rfl | rfl
    · exact rl_ir (by decide)
    · exact rl_ir (by decide))
  rw [ex7] at c7
  have c8 := a_hCheck badE15 [] ⟨by simp [badE15], by simp [badE15], by simp [badE15], by simp [badE15], by simp [badE15]⟩ ⟨by simp, by simp, by simp⟩
  rw [ex8] at c8
  have m1 := a_hMass (hz (exG 95 5 95 5)) [⟨0, 0⟩, ⟨1, 1⟩] (exG_small 95 5 95 5 (by decide) (by decide) (by decide) (by decide)) (by simp)
  have e1 : massF (hz (exG 95 5 95 5)) zR [⟨0, 0⟩, ⟨1, 1⟩] = some (ir 100) := by decide +kernel
  rw [e1] at m1
  have m2 := a_hMass (hz (exG 95 5 95 5)) [⟨2, 0⟩] (exG_small 95 5 95 5 (by decide) (by decide) (by decide) (by decide)) (by simp)
  have e2 : massF (hz (exG 95 5 95 5)) zR [⟨2, 0⟩] = none := by decide +kernel
  rw [e2] at m2
  have st := a_hStock exE15 (hz (exG 95 5 95 5)) 1 1 ex_sized (exG_small 95 5 95 5 (by decide) (by decide) (by decide) (by decide))
  have e3 : stockL exE15 (hz (exG 95 5 95 5)) 1 1 = [fz (ir 95), fz (ir 5)] := by
    have s0 : stk exE15 (exG 95 5 95 5) 1 1 0 = ir 95 := by decide +kernel
    have s1 : stk exE15 (exG 95 5 95 5) 1 1 1 = ir 5 := by decide +kernel
    have sh : shapedB exE15 (hz (exG 95 5 95 5)) = true := shape_ok ⟨rfl, by intro l hl; simp [exG] at hl; rcases hl with rfl | rfl <;> rfl⟩
    unfold stockL
    rw [if_pos ⟨ex_check, sh, by decide, by decide, by decide, by decide⟩, unz_hz]
    show [fz (stk exE15 (exG 95 5 95 5) 1 1 0), fz (stk exE15 (exG 95 5 95 5) 1 1 1)] = _
    rw [s0, s1]
  rw [e3] at st
  have sa := a_SameL [fz (ir 95), fz (ir 5)] (by simp) (by intro f hf; simp only [List.mem_cons, List.not_mem_nil, or_false] at hf; rcases hf with rfl | rfl <;> exact fz_len (rl_ir (by decide)))
  have i100 := r5Int 100 (by decide) (by decide)
  have sf := a_SameF (fz (ir 100)) (fz_len (rl_ir (by decide))).1 (fz_len (rl_ir (by decide))).2
  (refine acall_of tab_ok Tryz.func4 rfl (by decide) ?_; (conv => whnf); repeat (first | (refine LitB.data ?_; conv => whnf) | (refine BoxB.own ?_; conv => whnf)))
  (repeat' (first | ((refine DecB.mk (fun h => ?_) (fun h => ?_)) <;> first | (exfalso; omega) | (conv => whnf)) | ((refine BoolB.mk (fun h => ?_) (fun h => ?_)) <;> first | (exact absurd h (by decide)) | (conv => whnf)) | (refine ⟨_, wrap_ok (by omega) (by omega), ?_⟩; conv => whnf) | (refine and_idx (by omega) (by omega) ?_; conv => whnf) | (refine reg_ok (by decide +kernel) ?_; conv => whnf) | (refine bar_ok (by decide +kernel) (by decide +kernel) ?_; conv => whnf) | (refine late_ok rfl rfl ?_; conv => whnf) | (refine src_ok rfl ?_; conv => whnf) | (refine .inl ⟨_, _, qcall_pure (a_example15) rfl rfl, ?_⟩; conv => whnf) | (refine .inl ⟨_, _, qcall_pure (g1) rfl rfl, ?_⟩; conv => whnf) | (refine .inl ⟨_, _, qcall_pure (g2) rfl rfl, ?_⟩; conv => whnf) | (refine .inl ⟨_, _, qcall_pure (g3) rfl rfl, ?_⟩; conv => whnf) | (refine .inl ⟨_, _, qcall_pure (g4) rfl rfl, ?_⟩; conv => whnf) | (refine .inl ⟨_, _, qcall_pure (g5) rfl rfl, ?_⟩; conv => whnf) | (refine .inl ⟨_, _, qcall_pure (g6) rfl rfl, ?_⟩; conv => whnf) | (refine .inl ⟨_, _, qcall_pure (c1) rfl rfl, ?_⟩; conv => whnf) | (refine .inl ⟨_, _, qcall_pure (c2) rfl rfl, ?_⟩; conv => whnf) | (refine .inl ⟨_, _, qcall_pure (c3) rfl rfl, ?_⟩; conv => whnf) | (refine .inl ⟨_, _, qcall_pure (c4) rfl rfl, ?_⟩; conv => whnf) | (refine .inl ⟨_, _, qcall_pure (c5) rfl rfl, ?_⟩; conv => whnf) | (refine .inl ⟨_, _, qcall_pure (c6) rfl rfl, ?_⟩; conv => whnf) | (refine .inl ⟨_, _, qcall_pure (m1) rfl rfl, ?_⟩; conv => whnf) | (refine .inl ⟨_, _, qcall_pure (m2) rfl rfl, ?_⟩; conv => whnf) | (refine .inl ⟨_, _, qcall_pure (st) rfl rfl, ?_⟩; conv => whnf) | (refine .inl ⟨_, _, qcall_pure (sa) rfl rfl, ?_⟩; conv => whnf) | (refine .inl ⟨_, _, qcall_pure (i100) rfl rfl, ?_⟩; conv => whnf) | (refine .inl ⟨_, _, qcall_pure (sf) rfl rfl, ?_⟩; conv => whnf) | (refine .inl ⟨_, _, qcall_pure (hz, exG) rfl rfl, ?_⟩; conv => whnf) | (refine .inl ⟨_, _, qcall_pure (9) rfl rfl, ?_⟩; conv => whnf) | (refine .inl ⟨_, _, qcall_pure (7) rfl rfl, ?_⟩; conv => whnf) | (refine LitB.weak ?_; conv => whnf) | (refine sl_ok (by decide) (by decide) (by simp [hz, exG]) ?_; conv => whnf) | (refine .inl ⟨_, _, qcall_data c7 ⟨vs_ev _, vs_c (vc_t rfl), trivial⟩ rfl, ?_⟩; conv => whnf) | (refine .inl ⟨_, _, qcall_data c8 ⟨vs_agg (ts := evT badE15) (vl_cons (vc_t rfl) (vl_cons (vc_t rfl) (vl_cons (vc_t rfl) (vl_cons (vc_t rfl) (vl_cons (vc_t rfl) (vl_cons (vc_t rfl) (vl_cons (vc_t rfl) (vl_cons (vc_t rfl) vl_nil)))))))), vs_c (vc_t rfl), trivial⟩ rfl, ?_⟩; conv => whnf) | (refine ex_row (xs := hz (exG 95 5 95 5)) (k := 0) rfl ?_; conv => whnf) | (refine bar_late [9] (by decide +kernel) (by decide +kernel) ?_; conv => whnf) | (refine bar_late [7] (by decide +kernel) (by decide +kernel) ?_; conv => whnf) | (refine LitB.data ?_; conv => whnf) | (refine BoxB.own ?_; conv => whnf)))
  all_goals exact fin_bool rfl
end Go.Proofs.YthinjkjhiembgaaGreat
