/- history: Check. -/
import Derived.Test.YthinjkjhiembgaaHx4
namespace Go.Proofs.Ythinjkjhiembgaa
open Go.RowKit
set_option linter.unusedVariables false
set_option linter.unusedSimpArgs false
set_option maxRecDepth 100000

theorem vx_mat {H : Hp} {p : Nat → Prop} {N w : Nat} {f : Nat → Nat → Rat} {T : Hp} (hH : H = matH N w f ++ T) (hp : ∀ i, p i) : VX H p (.own 0 0 N true) (histT (matF N w f)) := by
  have h0 : H[0]? = some (matB N w) := by rw [hH]; rfl
  have hi : ∀ i, i < N → H[i + 1]? = some (rowB (rowF w (f i))) := fun i h => by
    rw [hH]
    show ((matF N w f).map rowB ++ T)[i]? = _
    rw [List.getElem?_append_left (by simp [matF_len]; exact h), List.getElem?_map, matF_get h]; rfl
  refine .own (k := matB N w) (hp 0) h0 (fun h => h) rfl (by simp [matF_len]) ?_ (fun i _ => .own (i + 1) 0 w true) ?_ ?_
  · intro r hr
    obtain ⟨l, _, rfl⟩ := List.mem_map.1 hr
    rfl
  · intro i j c hc
    obtain ⟨row, h1, h2⟩ := at2_inv hc
    have hil : i < N := by have := (List.getElem?_eq_some_iff.1 h1).1; simpa [matF_len] using this
    rw [List.getElem?_map, matF_get hil] at h1
    injection h1 with h1
    subst h1
    have hj : j = 0 := by have := (List.getElem?_eq_some_iff.1 h2).1; simp [fracsRow] at this; omega
    subst hj
    rw [Nat.zero_add]
    exact at2_some (row := [C.own (i + 1) 0 w true]) (by simp [matB, ownRows, hil]) rfl
  · intro i j c hc
    obtain ⟨row, h1, h2⟩ := at2_inv hc
    have hil : i < N := by have := (List.getElem?_eq_some_iff.1 h1).1; simpa [matF_len] using this
    rw [List.getElem?_map, matF_get hil] at h1
    injection h1 with h1
    subst h1
    have hj : j = 0 := by have := (List.getElem?_eq_some_iff.1 h2).1; simp [fracsRow] at this; omega
    subst hj
    injection h2 with h2
    subst h2
    exact .vc (vc_all (hp _) (hi i hil) (fun h => h) rfl rfl (by simp [rowF_len]))
theorem live_matH {N w : Nat} {f : Nat → Nat → Rat} : ∀ k ∈ matH N w f, k.mode = .live ∧ k.app = false ∧ okB (N + 1) k := by
  intro k hk
  refine ⟨?_, ?_, ok_matH k hk⟩
  · rcases List.mem_cons.1 hk with rfl | hk
    · rfl
    · obtain ⟨l, _, rfl⟩ := List.mem_map.1 hk; rfl
  · rcases List.mem_cons.1 hk with rfl | hk
    · rfl
    · obtain ⟨l, _, rfl⟩ := List.mem_map.1 hk; rfl
theorem old_matH {N w : Nat} {f : Nat → Nat → Rat} : ∀ k ∈ matH N w f, k.mode ≠ .old ∧ okB (N + 1) k := fun k hk => by
  obtain ⟨h1, _, h3⟩ := live_matH k hk
  exact ⟨(by rw [h1]; intro h; cases h), h3⟩
theorem small_rats {n : Nat} {G : List (List Rat)} (h : SmallH n (hz G)) : ∀ l ∈ G, ∀ x ∈ l, rl x ≤ n := by
  intro l hl x hx
  have := h.l3 (l.map fz) (List.mem_map.2 ⟨l, hl, rfl⟩) (fz x) (List.mem_map.2 ⟨x, hx, rfl⟩)
  exact Nat.max_le.2 this
theorem check_bounds {e : Ev} (h : check e = 0) : 1 ≤ e.mats ∧ e.mats ≤ 6 ∧ e.places.length ≤ 100 ∧ e.moves.length ≤ 200 := by
  obtain ⟨h1, h2, _⟩ := check_zero h
  unfold fullB at h1
  simp only [Bool.or_eq_false_iff, decide_eq_false_iff_not] at h1
  omega
theorem hz_get {G : List (List Rat)} {k : Nat} {l : List Rat} (h : G[k]? = some l) : (hz G)[k]? = some (l.map fz) := by simp [hz, h]
set_option maxHeartbeats 4000000 in
theorem a_hCheck (e : Ev) (hh : List (List Fr)) (hs : e.Sized) (hS : SmallH 200 hh) : ACall Try.prog 10 [evS e, histS hh] [] (intS .i64 (histCheck e hh)) [] := by
  have ck := a_Check e hs
  have sh := a_shaped e hh ⟨hS.l1, hS.l2, fun l hl f hf => by have := hS.l3 l hl f hf; omega⟩ (by have := hs.s2; omega)
  unfold histCheck
  by_cases h0 : check e ≠ 0
  · rw [if_pos h0]
    (refine acall_of tab_ok Try.func10 rfl (by decide) ?_; (conv => whnf); repeat (first | (refine LitB.data ?_; conv => whnf) | (refine BoxB.data ?_; conv => whnf)))
    (repeat' (first | ((refine DecB.mk (fun h => ?_) (fun h => ?_)) <;> first | (exfalso; omega) | (conv => whnf)) | ((refine BoolB.mk (fun h => ?_) (fun h => ?_)) <;> first | (exact absurd h (by decide)) | (conv => whnf)) | (refine ⟨_, wrap_ok (by omega) (by omega), ?_⟩; conv => whnf) | (refine and_idx (by omega) (by omega) ?_; conv => whnf) | (refine reg_ok (by decide +kernel) ?_; conv => whnf) | (refine bar_ok (by decide +kernel) (by decide +kernel) ?_; conv => whnf) | (refine late_ok rfl rfl ?_; conv => whnf) | (refine src_ok rfl ?_; conv => whnf) | (refine .inl ⟨_, _, qcall_pure (ck) rfl rfl, ?_⟩; conv => whnf) | (refine LitB.data ?_; conv => whnf) | (refine BoxB.own ?_; conv => whnf)))
    all_goals first
      | (exfalso; omega)
      | exact fin_int rfl
  rw [if_neg h0]
  have h0 : check e = 0 := by omega
  cases hsb : shapedB e hh with
  | false =>
    rw [hsb] at sh
    (refine acall_of tab_ok Try.func10 rfl (by decide) ?_; (conv => whnf); repeat (first | (refine LitB.data ?_; conv => whnf) | (refine BoxB.data ?_; conv => whnf)))
    (repeat' (first | ((refine DecB.mk (fun h => ?_) (fun h => ?_)) <;> first | (exfalso; omega) | (conv => whnf)) | ((refine BoolB.mk (fun h => ?_) (fun h => ?_)) <;> first | (exact absurd h (by decide)) | (conv => whnf)) | (refine ⟨_, wrap_ok (by omega) (by omega), ?_⟩; conv => whnf) | (refine and_idx (by omega) (by omega) ?_; conv => whnf) | (refine reg_ok (by decide +kernel) ?_; conv => whnf) | (refine bar_ok (by decide +kernel) (by decide +kernel) ?_; conv => whnf) | (refine late_ok rfl rfl ?_; conv => whnf) | (refine src_ok rfl ?_; conv => whnf) | (refine .inl ⟨_, _, qcall_pure (ck) rfl rfl, ?_⟩; conv => whnf) | (refine .inl ⟨_, _, qcall_pure (sh) rfl rfl, ?_⟩; conv => whnf) | (refine LitB.data ?_; conv => whnf) | (refine BoxB.own ?_; conv => whnf)))
    all_goals first
      | (exfalso; omega)
      | (exfalso; simp_all; done)
      | exact fin_int rfl
  | true =>
    rw [hsb] at sh
    obtain ⟨G, rfl, hG⟩ := shaped_rats hsb
    have e1 : (if true = true then histE e ((hz G).map (·.map fv)) else 2) = histE e G := by rw [unhz]; rfl
    rw [e1]
    have hB := small_rats hS
    obtain ⟨b1, b2, b3, b4⟩ := check_bounds h0
    obtain ⟨w, hw⟩ : ∃ w : Nat, e.mats = w := ⟨e.mats.toNat, by omega⟩
    generalize hN : e.places.length = N at b3
    have no := a_none e N w hN hw (by omega) (by omega)
    have m2 : (e.moves.map Move.row).length = e.moves.length := by simp
    (refine acall_of tab_ok Try.func10 rfl (by decide) ?_; (conv => whnf); repeat (first | (refine LitB.data ?_; conv => whnf) | (refine BoxB.data ?_; conv => whnf)))
    (repeat' (first | ((refine DecB.mk (fun h => ?_) (fun h => ?_)) <;> first | (exfalso; omega) | (conv => whnf)) | ((refine BoolB.mk (fun h => ?_) (fun h => ?_)) <;> first | (exact absurd h (by decide)) | (conv => whnf)) | (refine ⟨_, wrap_ok (by omega) (by omega), ?_⟩; conv => whnf) | (refine and_idx (by omega) (by omega) ?_; conv => whnf) | (refine reg_ok (by decide +kernel) ?_; conv => whnf) | (refine bar_ok (by decide +kernel) (by decide +kernel) ?_; conv => whnf) | (refine late_ok rfl rfl ?_; conv => whnf) | (refine src_ok rfl ?_; conv => whnf) | (refine .inl ⟨_, _, qcall_pure (ck) rfl rfl, ?_⟩; conv => whnf) | (refine .inl ⟨_, _, qcall_pure (sh) rfl rfl, ?_⟩; conv => whnf) | (refine .inr ⟨_, _, no, ?_⟩; conv => whnf) | (refine appK_nil ?_; conv => whnf) | (refine LitB.data ?_; conv => whnf) | (refine BoxB.own ?_; conv => whnf)))
    refine awp_for tab_ok (fun k => ([S.junk, histS (hz G), S.c (C.t (T.ptr (evT e))), S.junk, S.junk, S.c (C.own 0 0 N true), S.junk, S.junk, S.junk, S.junk, S.junk, S.junk, S.junk, S.junk, S.junk, S.junk, S.junk, S.junk, S.junk, S.junk, S.c (C.t (movesT e.moves)), intS .i64 e.moves.length, intS .i64 k, S.junk, S.junk, S.junk, S.junk, S.junk, S.junk, S.junk, S.junk, S.junk, S.junk, S.junk, S.junk, S.junk, S.junk, S.junk, S.junk, S.junk, S.junk, S.junk, S.junk, S.junk, S.junk, S.junk, S.junk, S.junk, S.junk, S.junk, S.junk, S.junk, S.junk, S.junk, S.junk, S.junk, S.junk, S.junk, S.junk, S.junk, S.junk, S.junk, S.junk, S.junk, S.junk, S.junk, S.junk, S.junk, S.junk, S.junk, S.junk, S.junk], matH N w (stk e G k))) e.moves.length (fun k => movesE e G k (e.moves.drop k) = histE e G) (idR (N + 1)) rfl ?_ ?_
    · refine ent_first matH_len (by simp) ok_matH (fun i _ => rfl) ?_
      exact ⟨rfl, rfl, ⟨idR_get (by omega), rfl, rfl, fun h => h⟩, ent_t rfl, ent_i (by simp), rfl, trivial⟩
    intro k hk hI
    by_cases hlt : k < e.moves.length
    · obtain ⟨x, hx⟩ : ∃ x, e.moves[k]? = some x := ⟨_, List.getElem?_eq_getElem hlt⟩
      obtain ⟨l, hl⟩ : ∃ l, G[k]? = some l := ⟨_, List.getElem?_eq_getElem (by rw [hG.len]; exact hlt)⟩
      have hd : e.moves.drop k = x :: e.moves.drop (k + 1) := by
        rw [List.drop_eq_getElem_cons hlt]
        rw [List.getElem?_eq_getElem hlt] at hx
        injection hx with hx
        rw [hx]
      have hmem := List.mem_of_getElem? hl
      have hlB := hB l hmem
      have hlw : l.length = w := by have := hG.wid l hmem; omega
      have hgd : G.getD k [] = l := by rw [List.getD_eq_getElem?_getD, hl]; rfl
      rw [hd] at hI
      have hI : (if stepE e x l (stk e G k) k ≠ 0 then stepE e x l (stk e G k) k else movesE e G (k + 1) (e.moves.drop (k + 1))) = histE e G := by
        rw [← hgd]; exact hI
      have hm := check_move h0 (List.mem_of_getElem? hx)
      have ms := moveOk_src hm
      have md := moveOk_dst hm
      obtain ⟨s, hsn⟩ : ∃ s : Nat, x.src = s := ⟨x.src.toNat, by omega⟩
      obtain ⟨d, hdn⟩ : ∃ d : Nat, x.dst = d := ⟨x.dst.toNat, by omega⟩
      have hsd : s ≠ d := by
        have : x.src ≠ x.dst := by unfold moveOk at hm; simp only [Bool.and_eq_true, decide_eq_true_eq] at hm; exact hm.1.1.1.1.1.2
        omega
      obtain ⟨pl, hpl⟩ : ∃ pl, e.places[s]? = some pl := ⟨_, List.getElem?_eq_getElem (by omega)⟩
      have hF : ∀ p m, rl (stk e G k p m) ≤ 50000 := fun p m => by
        have := rl_stk (e := e) hB (by decide) k p m
        have h2 := Nat.mul_le_mul_right (200 + 1) (show k ≤ 200 by omega)
        omega
      have ng := z_negative l hlB (by omega)
      have tk := a_taken e x N w (stk e G k) l hlw (by omega) s hsn (by omega) pl hpl hlB hF
      have su := z_sum l hlB (by omega)
      have bs : rl (sumR l) ≤ 50000 := by
        have := rl_sumR hlB
        have h2 := Nat.mul_le_mul_right (200 + 1) (show l.length ≤ 6 by omega)
        omega
      have we := z_weighed e x (sumR l) (by omega) hs
      have pu := z_pure e k l (sumR l) bs hlB (by omega) (by omega) (check_zero h0).2.2.2.2.2.2 hs (by omega)
      have ca := a_carry N w (stk e G k) x l hlw (by omega) s d hsn hdn (by omega) (by omega) hsd hlB hF
      have hst : stk e G (k + 1) = carryF x (fun m => l.getD m 0) (stk e G k) := by
        conv => lhs; unfold stk
        rw [hx]
        simp only
        congr 1
        funext m
        show (G.getD k []).getD m 0 = _
        rw [hgd]
      rw [← hst] at ca
      have fin3 : ∀ (c : Int) (H1 : Hp), stepE e x l (stk e G k) k = c → c ≠ 0 → Fin 0 (intS .i64 c) H1 (intS .i64 (histE e G)) [] := fun c H1 h hc => fin_int (by rw [← hI, h, if_pos hc])
      cases hng : l.any (fun v => decide (v < 0)) with
      | true =>
        have hse : stepE e x l (stk e G k) k = 3 := by unfold stepE; rw [hng]; rfl
        rw [hng] at ng
        conv => whnf
        (repeat' (first | ((refine DecB.mk (fun h => ?_) (fun h => ?_)) <;> first | (exfalso; omega) | (conv => whnf)) | ((refine BoolB.mk (fun h => ?_) (fun h => ?_)) <;> first | (exact absurd h (by decide)) | (conv => whnf)) | (refine ⟨_, wrap_ok (by omega) (by omega), ?_⟩; conv => whnf) | (refine and_idx (by omega) (by omega) ?_; conv => whnf) | (refine reg_ok (by decide +kernel) ?_; conv => whnf) | (refine bar_ok (by decide +kernel) (by decide +kernel) ?_; conv => whnf) | (refine late_ok rfl rfl ?_; conv => whnf) | (refine src_ok rfl ?_; conv => whnf) | (refine .inl ⟨_, _, qcall_pure (ng) rfl rfl, ?_⟩; conv => whnf) | (refine ex_row hx ?_; conv => whnf) | (refine ex_row (hz_get hl) ?_; conv => whnf) | (refine lenK_mapA (matF_len _ _ _) ?_; conv => whnf) | (refine lenK_map (matF_len _ _ _) ?_; conv => whnf) | (refine appK_nil ?_; conv => whnf) | (refine appK_mapA ?_; conv => whnf) | (refine appK_ok ?_; conv => whnf) | (refine getK_map0 (matF_len _ _ _) ?_; conv => whnf) | (refine getK_mapT (matF_len _ _ _) ?_; conv => whnf) | (refine setK_map0 (matF_len _ _ _) ?_; conv => whnf) | (refine setK_mapT (matF_len _ _ _) ?_; conv => whnf) | (refine LitB.data ?_; conv => whnf) | (refine BoxB.own ?_; conv => whnf)))
        all_goals first
          | (exfalso; omega)
          | exact fin3 _ _ hse (by decide)
      | false =>
        rw [hng] at ng
        by_cases htk : takenE e (stk e G k) x l = 0
        · cases hwe : weighedB e x (sumR l) with
          | false =>
            have hse : stepE e x l (stk e G k) k = 24 := by unfold stepE; rw [hng, htk, hwe]; rfl
            rw [hwe] at we
            conv => whnf
            (repeat' (first | ((refine DecB.mk (fun h => ?_) (fun h => ?_)) <;> first | (exfalso; omega) | (conv => whnf)) | ((refine BoolB.mk (fun h => ?_) (fun h => ?_)) <;> first | (exact absurd h (by decide)) | (conv => whnf)) | (refine ⟨_, wrap_ok (by omega) (by omega), ?_⟩; conv => whnf) | (refine and_idx (by omega) (by omega) ?_; conv => whnf) | (refine reg_ok (by decide +kernel) ?_; conv => whnf) | (refine bar_ok (by decide +kernel) (by decide +kernel) ?_; conv => whnf) | (refine late_ok rfl rfl ?_; conv => whnf) | (refine src_ok rfl ?_; conv => whnf) | (refine .inl ⟨_, _, qcall_pure (ng) rfl rfl, ?_⟩; conv => whnf) | (refine .inl ⟨_, _, qcall_pure (su) rfl rfl, ?_⟩; conv => whnf) | (refine .inl ⟨_, _, qcall_pure (we) rfl rfl, ?_⟩; conv => whnf) | (refine .inl ⟨_, _, qcall_viewX tk ⟨.inl ⟨_, _, rfl, rfl, vx_mat rfl (fun _ => trivial)⟩, .inr (vs_ev e), .inr (vs_ts x.row), .inr vs_t, trivial⟩ rfl, ?_⟩; conv => whnf) | (refine ex_row hx ?_; conv => whnf) | (refine ex_row (hz_get hl) ?_; conv => whnf) | (refine lenK_mapA (matF_len _ _ _) ?_; conv => whnf) | (refine lenK_map (matF_len _ _ _) ?_; conv => whnf) | (refine appK_nil ?_; conv => whnf) | (refine appK_mapA ?_; conv => whnf) | (refine appK_ok ?_; conv => whnf) | (refine getK_map0 (matF_len _ _ _) ?_; conv => whnf) | (refine getK_mapT (matF_len _ _ _) ?_; conv => whnf) | (refine setK_map0 (matF_len _ _ _) ?_; conv => whnf) | (refine setK_mapT (matF_len _ _ _) ?_; conv => whnf) | (refine LitB.data ?_; conv => whnf) | (refine BoxB.own ?_; conv => whnf)))
            all_goals first
              | (exfalso; omega)
              | exact fin3 _ _ hse (by decide)
          | true =>
            rw [hwe] at we
            cases hpu : pureB e.purities k l (sumR l) with
            | false =>
              have hse : stepE e x l (stk e G k) k = 13 := by unfold stepE; rw [hng, htk, hwe, hpu]; rfl
              rw [hpu] at pu
              conv => whnf
              (repeat' (first | ((refine DecB.mk (fun h => ?_) (fun h => ?_)) <;> first | (exfalso; omega) | (conv => whnf)) | ((refine BoolB.mk (fun h => ?_) (fun h => ?_)) <;> first | (exact absurd h (by decide)) | (conv => whnf)) | (refine ⟨_, wrap_ok (by omega) (by omega), ?_⟩; conv => whnf) | (refine and_idx (by omega) (by omega) ?_; conv => whnf) | (refine reg_ok (by decide +kernel) ?_; conv => whnf) | (refine bar_ok (by decide +kernel) (by decide +kernel) ?_; conv => whnf) | (refine late_ok rfl rfl ?_; conv => whnf) | (refine src_ok rfl ?_; conv => whnf) | (refine .inl ⟨_, _, qcall_pure (ng) rfl rfl, ?_⟩; conv => whnf) | (refine .inl ⟨_, _, qcall_pure (su) rfl rfl, ?_⟩; conv => whnf) | (refine .inl ⟨_, _, qcall_pure (we) rfl rfl, ?_⟩; conv => whnf) | (refine .inl ⟨_, _, qcall_pure (pu) rfl rfl, ?_⟩; conv => whnf) | (refine .inl ⟨_, _, qcall_viewX tk ⟨.inl ⟨_, _, rfl, rfl, vx_mat rfl (fun _ => trivial)⟩, .inr (vs_ev e), .inr (vs_ts x.row), .inr vs_t, trivial⟩ rfl, ?_⟩; conv => whnf) | (refine ex_row hx ?_; conv => whnf) | (refine ex_row (hz_get hl) ?_; conv => whnf) | (refine lenK_mapA (matF_len _ _ _) ?_; conv => whnf) | (refine lenK_map (matF_len _ _ _) ?_; conv => whnf) | (refine appK_nil ?_; conv => whnf) | (refine appK_mapA ?_; conv => whnf) | (refine appK_ok ?_; conv => whnf) | (refine getK_map0 (matF_len _ _ _) ?_; conv => whnf) | (refine getK_mapT (matF_len _ _ _) ?_; conv => whnf) | (refine setK_map0 (matF_len _ _ _) ?_; conv => whnf) | (refine setK_mapT (matF_len _ _ _) ?_; conv => whnf) | (refine LitB.data ?_; conv => whnf) | (refine BoxB.own ?_; conv => whnf)))
              all_goals first
                | (exfalso; omega)
                | exact fin3 _ _ hse (by decide)
            | true =>
              have hse : stepE e x l (stk e G k) k = 0 := by unfold stepE; rw [hng, htk, hwe, hpu]; rfl
              rw [hpu] at pu
              rw [hse, if_neg (by decide)] at hI
              have hok : [S.c (.own 0 0 N true), moveS x, fracsS (l.map fz)].all (okS (N + 1)) = true := by
                simp [okS, okC, okL, Move.cs, Move.row]
              conv => whnf
              (repeat' (first | ((refine DecB.mk (fun h => ?_) (fun h => ?_)) <;> first | (exfalso; omega) | (conv => whnf)) | ((refine BoolB.mk (fun h => ?_) (fun h => ?_)) <;> first | (exact absurd h (by decide)) | (conv => whnf)) | (refine ⟨_, wrap_ok (by omega) (by omega), ?_⟩; conv => whnf) | (refine and_idx (by omega) (by omega) ?_; conv => whnf) | (refine reg_ok (by decide +kernel) ?_; conv => whnf) | (refine bar_ok (by decide +kernel) (by decide +kernel) ?_; conv => whnf) | (refine late_ok rfl rfl ?_; conv => whnf) | (refine src_ok rfl ?_; conv => whnf) | (refine .inl ⟨_, _, qcall_pure (ng) rfl rfl, ?_⟩; conv => whnf) | (refine .inl ⟨_, _, qcall_pure (su) rfl rfl, ?_⟩; conv => whnf) | (refine .inl ⟨_, _, qcall_pure (we) rfl rfl, ?_⟩; conv => whnf) | (refine .inl ⟨_, _, qcall_pure (pu) rfl rfl, ?_⟩; conv => whnf) | (refine .inl ⟨_, _, qcall_viewX tk ⟨.inl ⟨_, _, rfl, rfl, vx_mat rfl (fun _ => trivial)⟩, .inr (vs_ev e), .inr (vs_ts x.row), .inr vs_t, trivial⟩ rfl, ?_⟩; conv => whnf) | (refine .inr ⟨_, _, acall_first _ ca matH_len matH_len hok live_matH old_matH rfl rfl, ?_⟩; conv => whnf) | (refine ex_row hx ?_; conv => whnf) | (refine ex_row (hz_get hl) ?_; conv => whnf) | (refine lenK_mapA (matF_len _ _ _) ?_; conv => whnf) | (refine lenK_map (matF_len _ _ _) ?_; conv => whnf) | (refine appK_nil ?_; conv => whnf) | (refine appK_mapA ?_; conv => whnf) | (refine appK_ok ?_; conv => whnf) | (refine getK_map0 (matF_len _ _ _) ?_; conv => whnf) | (refine getK_mapT (matF_len _ _ _) ?_; conv => whnf) | (refine setK_map0 (matF_len _ _ _) ?_; conv => whnf) | (refine setK_mapT (matF_len _ _ _) ?_; conv => whnf) | (refine LitB.data ?_; conv => whnf) | (refine BoxB.own ?_; conv => whnf)))
              all_goals try (exfalso; omega)
              refine ⟨hlt, hI, idR (N + 1), ent_firstA matH_len (by simp) ok_matH ?_⟩
              exact ⟨rfl, rfl, ⟨idR_get (by omega), rfl, rfl, fun h => h⟩, rfl, rfl, rfl, trivial⟩
        · have hse : stepE e x l (stk e G k) k = takenE e (stk e G k) x l := by unfold stepE; rw [hng, if_neg (by simp), if_pos htk]
          conv => whnf
          (repeat' (first | ((refine DecB.mk (fun h => ?_) (fun h => ?_)) <;> first | (exfalso; omega) | (conv => whnf)) | ((refine BoolB.mk (fun h => ?_) (fun h => ?_)) <;> first | (exact absurd h (by decide)) | (conv => whnf)) | (refine ⟨_, wrap_ok (by omega) (by omega), ?_⟩; conv => whnf) | (refine and_idx (by omega) (by omega) ?_; conv => whnf) | (refine reg_ok (by decide +kernel) ?_; conv => whnf) | (refine bar_ok (by decide +kernel) (by decide +kernel) ?_; conv => whnf) | (refine late_ok rfl rfl ?_; conv => whnf) | (refine src_ok rfl ?_; conv => whnf) | (refine .inl ⟨_, _, qcall_pure (ng) rfl rfl, ?_⟩; conv => whnf) | (refine .inl ⟨_, _, qcall_viewX tk ⟨.inl ⟨_, _, rfl, rfl, vx_mat rfl (fun _ => trivial)⟩, .inr (vs_ev e), .inr (vs_ts x.row), .inr vs_t, trivial⟩ rfl, ?_⟩; conv => whnf) | (refine ex_row hx ?_; conv => whnf) | (refine ex_row (hz_get hl) ?_; conv => whnf) | (refine lenK_mapA (matF_len _ _ _) ?_; conv => whnf) | (refine lenK_map (matF_len _ _ _) ?_; conv => whnf) | (refine appK_nil ?_; conv => whnf) | (refine appK_mapA ?_; conv => whnf) | (refine appK_ok ?_; conv => whnf) | (refine getK_map0 (matF_len _ _ _) ?_; conv => whnf) | (refine getK_mapT (matF_len _ _ _) ?_; conv => whnf) | (refine setK_map0 (matF_len _ _ _) ?_; conv => whnf) | (refine setK_mapT (matF_len _ _ _) ?_; conv => whnf) | (refine LitB.data ?_; conv => whnf) | (refine BoxB.own ?_; conv => whnf)))
          all_goals first
            | (exfalso; omega)
            | exact fin3 _ _ hse htk
    · have hke : k = e.moves.length := by omega
      subst hke
      rw [List.drop_of_length_le (Nat.le_refl _)] at hI
      have hI : (0 : Int) = histE e G := hI
      conv => whnf
      (repeat' (first | ((refine DecB.mk (fun h => ?_) (fun h => ?_)) <;> first | (exfalso; omega) | (conv => whnf)) | ((refine BoolB.mk (fun h => ?_) (fun h => ?_)) <;> first | (exact absurd h (by decide)) | (conv => whnf)) | (refine ⟨_, wrap_ok (by omega) (by omega), ?_⟩; conv => whnf) | (refine and_idx (by omega) (by omega) ?_; conv => whnf) | (refine reg_ok (by decide +kernel) ?_; conv => whnf) | (refine bar_ok (by decide +kernel) (by decide +kernel) ?_; conv => whnf) | (refine late_ok rfl rfl ?_; conv => whnf) | (refine src_ok rfl ?_; conv => whnf) | (refine appK_nil ?_; conv => whnf) | (refine LitB.data ?_; conv => whnf) | (refine BoxB.own ?_; conv => whnf)))
      all_goals first
        | (exfalso; omega)
        | exact fin_int hI
end Go.Proofs.Ythinjkjhiembgaa
/- history: Stock, Mass. -/
namespace Go.Proofs.Ythinjkjhiembgaa
open Go.RowKit
set_option linter.unusedVariables false
set_option linter.unusedSimpArgs false
set_option maxRecDepth 100000

def unz (hh : List (List Fr)) : List (List Rat) := hh.map (·.map fv)
theorem unz_hz (G : List (List Rat)) : unz (hz G) = G := unhz G
def stockL (e : Ev) (hh : List (List Fr)) (place upto : Int) : List Fr :=
  if check e = 0 ∧ shapedB e hh = true ∧ 0 ≤ place ∧ place < e.places.length ∧ 0 ≤ upto ∧ upto ≤ hh.length then rowF e.mats.toNat (stk e (unz hh) upto.toNat place.toNat) else []
/-- one move performed -/
theorem a_step (e : Ev) (G : List (List Rat)) (hG : Shape e G) (h0 : check e = 0) (hB : ∀ l ∈ G, ∀ x ∈ l, rl x ≤ 200) {N w k : Nat} (hN : e.places.length = N) (hw : e.mats = w) {x : Move} {l : List Rat} (hx : e.moves[k]? = some x) (hl : G[k]? = some l) :
    ACall Try.prog 37 [.c (.own 0 0 N true), moveS x, fracsS (l.map fz)] (matH N w (stk e G k)) (.tup []) (matH N w (stk e G (k + 1))) := by
  obtain ⟨b1, b2, b3, b4⟩ := check_bounds h0
  have hlt : k < e.moves.length := (List.getElem?_eq_some_iff.1 hx).1
  have hmem := List.mem_of_getElem? hl
  have hlB := hB l hmem
  have hlw : l.length = w := by have := hG.wid l hmem; omega
  have hgd : G.getD k [] = l := by rw [List.getD_eq_getElem?_getD, hl]; rfl
  have hm := check_move h0 (List.mem_of_getElem? hx)
  have ms := moveOk_src hm
  have md := moveOk_dst hm
  have hsd : x.src ≠ x.dst := by unfold moveOk at hm; simp only [Bool.and_eq_true, decide_eq_true_eq] at hm; exact hm.1.1.1.1.1.2
  have hF : ∀ p m, rl (stk e G k p m) ≤ 50000 := fun p m => by
    have := rl_stk (e := e) hB (by decide) k p m
    have h2 := Nat.mul_le_mul_right (200 + 1) (show k ≤ 200 by omega)
    omega
  have ca := a_carry N w (stk e G k) x l hlw (by omega) x.src.toNat x.dst.toNat (by omega) (by omega) (by omega) (by omega) (by omega) hlB hF
  have hst : stk e G (k + 1) = carryF x (fun m => l.getD m 0) (stk e G k) := by
    conv => lhs; unfold stk
    rw [hx]
    simp only
    congr 1
    funext m
    show (G.getD k []).getD m 0 = _
    rw [hgd]
  rw [hst]
  exact ca
theorem ok_carry {N n : Nat} {x : Move} {l : List Fr} : [S.c (.own 0 0 N true), moveS x, fracsS l].all (okS (n + 1)) = true := by
  simp [okS, okC, okL, Move.cs, Move.row]
set_option maxHeartbeats 4000000 in
theorem a_hStock (e : Ev) (hh : List (List Fr)) (place upto : Int) (hs : e.Sized) (hS : SmallH 200 hh) : ACall Try.prog 14 [evS e, histS hh, intS .i64 place, intS .i64 upto] [] (fracsS (stockL e hh place upto)) [] := by
  have ck := a_Check e hs
  have sh := a_shaped e hh ⟨hS.l1, hS.l2, fun l hl f hf => by have := hS.l3 l hl f hf; omega⟩ (by have := hs.s2; omega)
  have m3 : (hh.map fracsRow).length = hh.length := by simp
  have m4 : (e.places.map Place.row).length = e.places.length := by simp
  by_cases h0 : check e ≠ 0
  · have e1 : stockL e hh place upto = [] := by unfold stockL; rw [if_neg (fun h => h0 h.1)]
    rw [e1]
    (refine acall_of tab_ok Try.func14 rfl (by decide) ?_; (conv => whnf); repeat (first | (refine LitB.data ?_; conv => whnf) | (refine BoxB.data ?_; conv => whnf)))
    (repeat' (first | ((refine DecB.mk (fun h => ?_) (fun h => ?_)) <;> first | (exfalso; omega) | (conv => whnf)) | ((refine BoolB.mk (fun h => ?_) (fun h => ?_)) <;> first | (exact absurd h (by decide)) | (conv => whnf)) | (refine ⟨_, wrap_ok (by omega) (by omega), ?_⟩; conv => whnf) | (refine and_idx (by omega) (by omega) ?_; conv => whnf) | (refine reg_ok (by decide +kernel) ?_; conv => whnf) | (refine bar_ok (by decide +kernel) (by decide +kernel) ?_; conv => whnf) | (refine late_ok rfl rfl ?_; conv => whnf) | (refine src_ok rfl ?_; conv => whnf) | (refine .inl ⟨_, _, qcall_pure (ck) rfl rfl, ?_⟩; conv => whnf) | (refine LitB.data ?_; conv => whnf) | (refine BoxB.own ?_; conv => whnf)))
    all_goals first
      | (exfalso; omega)
      | exact fin_t rfl
  have h0 : check e = 0 := by omega
  cases hsb : shapedB e hh with
  | false =>
    have e1 : stockL e hh place upto = [] := by unfold stockL; rw [if_neg (fun h => by rw [hsb] at h; exact absurd h.2.1 (by simp))]
    rw [e1]
    rw [hsb] at sh
    (refine acall_of tab_ok Try.func14 rfl (by decide) ?_; (conv => whnf); repeat (first | (refine LitB.data ?_; conv => whnf) | (refine BoxB.data ?_; conv => whnf)))
    (repeat' (first | ((refine DecB.mk (fun h => ?_) (fun h => ?_)) <;> first | (exfalso; omega) | (conv => whnf)) | ((refine BoolB.mk (fun h => ?_) (fun h => ?_)) <;> first | (exact absurd h (by decide)) | (conv => whnf)) | (refine ⟨_, wrap_ok (by omega) (by omega), ?_⟩; conv => whnf) | (refine and_idx (by omega) (by omega) ?_; conv => whnf) | (refine reg_ok (by decide +kernel) ?_; conv => whnf) | (refine bar_ok (by decide +kernel) (by decide +kernel) ?_; conv => whnf) | (refine late_ok rfl rfl ?_; conv => whnf) | (refine src_ok rfl ?_; conv => whnf) | (refine .inl ⟨_, _, qcall_pure (ck) rfl rfl, ?_⟩; conv => whnf) | (refine .inl ⟨_, _, qcall_pure (sh) rfl rfl, ?_⟩; conv => whnf) | (refine LitB.data ?_; conv => whnf) | (refine BoxB.own ?_; conv => whnf)))
    all_goals first
      | (exfalso; omega)
      | (exfalso; simp_all; done)
      | exact fin_t rfl
  | true =>
    rw [hsb] at sh
    by_cases hr : 0 ≤ place ∧ place < e.places.length ∧ 0 ≤ upto ∧ upto ≤ hh.length
    · obtain ⟨G, rfl, hG⟩ := shaped_rats hsb
      have e1 : stockL e (hz G) place upto = rowF e.mats.toNat (stk e G upto.toNat place.toNat) := by unfold stockL; rw [if_pos ⟨h0, hsb, hr⟩, unz_hz]
      rw [e1]
      have hB := small_rats hS
      obtain ⟨b1, b2, b3, b4⟩ := check_bounds h0
      obtain ⟨w, hw⟩ : ∃ w : Nat, e.mats = w := ⟨e.mats.toNat, by omega⟩
      obtain ⟨p, rfl⟩ : ∃ p : Nat, place = p := ⟨place.toNat, by omega⟩
      obtain ⟨u, rfl⟩ : ∃ u : Nat, upto = u := ⟨upto.toNat, by omega⟩
      have hu : u ≤ e.moves.length := by have := hG.len; simp [hz] at hr; omega
      generalize hN : e.places.length = N at b3 hr
      have no := a_none e N w hN hw (by omega) (by omega)
      have m2 : (e.moves.map Move.row).length = e.moves.length := by simp
      have hwn : e.mats.toNat = w := by omega
      rw [hwn]
      (refine acall_of tab_ok Try.func14 rfl (by decide) ?_; (conv => whnf); repeat (first | (refine LitB.data ?_; conv => whnf) | (refine BoxB.data ?_; conv => whnf)))
      (repeat' (first | ((refine DecB.mk (fun h => ?_) (fun h => ?_)) <;> first | (exfalso; omega) | (conv => whnf)) | ((refine BoolB.mk (fun h => ?_) (fun h => ?_)) <;> first | (exact absurd h (by decide)) | (conv => whnf)) | (refine ⟨_, wrap_ok (by omega) (by omega), ?_⟩; conv => whnf) | (refine and_idx (by omega) (by omega) ?_; conv => whnf) | (refine reg_ok (by decide +kernel) ?_; conv => whnf) | (refine bar_ok (by decide +kernel) (by decide +kernel) ?_; conv => whnf) | (refine late_ok rfl rfl ?_; conv => whnf) | (refine src_ok rfl ?_; conv => whnf) | (refine .inl ⟨_, _, qcall_pure (ck) rfl rfl, ?_⟩; conv => whnf) | (refine .inl ⟨_, _, qcall_pure (sh) rfl rfl, ?_⟩; conv => whnf) | (refine .inr ⟨_, _, no, ?_⟩; conv => whnf) | (refine appK_nil ?_; conv => whnf) | (refine sl_ok (by omega) (by omega) (by omega) ?_; conv => whnf) | (refine LitB.data ?_; conv => whnf) | (refine BoxB.own ?_; conv => whnf)))
      all_goals first
        | (exfalso; omega)
        | (exfalso; simp_all; done)
        | skip
      refine awp_for tab_ok (fun k => ([S.junk, histS (hz G), intS .i64 p, S.junk, S.junk, S.junk, S.junk, S.junk, S.junk, S.c (C.own 0 0 N true), S.junk, S.junk, S.junk, S.junk, S.junk, S.junk, S.junk, S.junk, S.junk, S.junk, S.junk, S.junk, S.junk, S.junk, S.junk, S.junk, S.junk, S.junk, S.junk, S.junk, S.junk, S.junk, S.junk, S.junk, S.junk, S.junk, S.junk, S.junk, S.junk, S.junk, S.junk, S.junk, S.junk, S.junk, S.junk, S.junk, S.junk, S.c (C.t (T.sl 6 .any ((e.moves.take u).map Move.row))), intS .i64 u, intS .i64 k, S.junk, S.junk, S.junk, S.junk, S.junk, S.junk, S.junk, S.junk, S.junk, S.junk, S.junk, S.junk, S.junk, S.junk, S.junk, S.junk], matH N w (stk e G k))) u (fun _ => True) (idR (N + 1)) trivial ?_ ?_
      · refine ent_first matH_len (by simp) ok_matH (fun i _ => rfl) ?_
        exact ⟨rfl, rfl, ⟨idR_get (by omega), rfl, rfl, fun h => h⟩, ent_t (by simp [sliceKind, List.map_take]), ent_i (by simp; omega), rfl, trivial⟩
      intro k hk _
      by_cases hlt : k < u
      · obtain ⟨x, hx⟩ : ∃ x, e.moves[k]? = some x := ⟨_, List.getElem?_eq_getElem (by omega)⟩
        obtain ⟨l, hl⟩ : ∃ l, G[k]? = some l := ⟨_, List.getElem?_eq_getElem (by rw [hG.len]; omega)⟩
        have hxt : (e.moves.take u)[k]? = some x := by rw [List.getElem?_take, if_pos hlt]; exact hx
        have ca := a_step e G hG h0 hB hN hw hx hl
        have hok := ok_carry (N := N) (n := N) (x := x) (l := l.map fz)
        conv => whnf
        (repeat' (first | ((refine DecB.mk (fun h => ?_) (fun h => ?_)) <;> first | (exfalso; omega) | (conv => whnf)) | ((refine BoolB.mk (fun h => ?_) (fun h => ?_)) <;> first | (exact absurd h (by decide)) | (conv => whnf)) | (refine ⟨_, wrap_ok (by omega) (by omega), ?_⟩; conv => whnf) | (refine and_idx (by omega) (by omega) ?_; conv => whnf) | (refine reg_ok (by decide +kernel) ?_; conv => whnf) | (refine bar_ok (by decide +kernel) (by decide +kernel) ?_; conv => whnf) | (refine late_ok rfl rfl ?_; conv => whnf) | (refine src_ok rfl ?_; conv => whnf) | (refine .inr ⟨_, _, acall_first _ ca matH_len matH_len hok live_matH old_matH rfl rfl, ?_⟩; conv => whnf) | (refine ex_row hxt ?_; conv => whnf) | (refine ex_row (hz_get hl) ?_; conv => whnf) | (refine lenK_mapA (matF_len _ _ _) ?_; conv => whnf) | (refine lenK_map (matF_len _ _ _) ?_; conv => whnf) | (refine appK_nil ?_; conv => whnf) | (refine appK_mapA ?_; conv => whnf) | (refine appK_ok ?_; conv => whnf) | (refine getK_map0 (matF_len _ _ _) ?_; conv => whnf) | (refine getK_mapT (matF_len _ _ _) ?_; conv => whnf) | (refine setK_map0 (matF_len _ _ _) ?_; conv => whnf) | (refine setK_mapT (matF_len _ _ _) ?_; conv => whnf) | (refine LitB.data ?_; conv => whnf) | (refine BoxB.own ?_; conv => whnf)))
        all_goals try (exfalso; omega)
        refine ⟨hlt, trivial, idR (N + 1), ent_firstA matH_len (by simp) ok_matH ?_⟩
        exact ⟨rfl, rfl, ⟨idR_get (by omega), rfl, rfl, fun h => h⟩, rfl, rfl, rfl, trivial⟩
      · have hke : k = u := by omega
        subst hke
        have eP : 0 + (p : Int).toNat = p := by omega
        have eU : (k : Int).toNat = k := by omega
        have eQ : (p : Int).toNat = p := by omega
        rw [eU, eQ]
        conv => whnf
        (repeat' (first | ((refine DecB.mk (fun h => ?_) (fun h => ?_)) <;> first | (exfalso; omega) | (conv => whnf)) | ((refine BoolB.mk (fun h => ?_) (fun h => ?_)) <;> first | (exact absurd h (by decide)) | (conv => whnf)) | (refine ⟨_, wrap_ok (by omega) (by omega), ?_⟩; conv => whnf) | (refine and_idx (by omega) (by omega) ?_; conv => whnf) | (refine reg_ok (by decide +kernel) ?_; conv => whnf) | (refine bar_ok (by decide +kernel) (by decide +kernel) ?_; conv => whnf) | (refine late_ok rfl rfl ?_; conv => whnf) | (refine src_ok rfl ?_; conv => whnf) | (refine appK_nil ?_; conv => whnf) | (refine ex_ownRowE eP (by omega) ?_; conv => whnf) | (refine LitB.data ?_; conv => whnf) | (refine BoxB.own ?_; conv => whnf)))
        all_goals try (exfalso; omega)
        refine fin_own (k := rowB (rowF w (stk e G k p))) ?_ (by intro h; cases h) rfl rfl (by simp [rowF_len])
        show (matH N w (stk e G k))[p + 1]? = _
        rw [List.getElem?_cons_succ, List.getElem?_map, matF_get (by omega)]; rfl
    · have e1 : stockL e hh place upto = [] := by unfold stockL; rw [if_neg (fun h => hr h.2.2)]
      rw [e1]
      (refine acall_of tab_ok Try.func14 rfl (by decide) ?_; (conv => whnf); repeat (first | (refine LitB.data ?_; conv => whnf) | (refine BoxB.data ?_; conv => whnf)))
      (repeat' (first | ((refine DecB.mk (fun h => ?_) (fun h => ?_)) <;> first | (exfalso; omega) | (conv => whnf)) | ((refine BoolB.mk (fun h => ?_) (fun h => ?_)) <;> first | (exact absurd h (by decide)) | (conv => whnf)) | (refine ⟨_, wrap_ok (by omega) (by omega), ?_⟩; conv => whnf) | (refine and_idx (by omega) (by omega) ?_; conv => whnf) | (refine reg_ok (by decide +kernel) ?_; conv => whnf) | (refine bar_ok (by decide +kernel) (by decide +kernel) ?_; conv => whnf) | (refine late_ok rfl rfl ?_; conv => whnf) | (refine src_ok rfl ?_; conv => whnf) | (refine .inl ⟨_, _, qcall_pure (ck) rfl rfl, ?_⟩; conv => whnf) | (refine .inl ⟨_, _, qcall_pure (sh) rfl rfl, ?_⟩; conv => whnf) | (refine .inr ⟨_, _, no, ?_⟩; conv => whnf) | (refine LitB.data ?_; conv => whnf) | (refine BoxB.own ?_; conv => whnf)))
      all_goals first
        | (exfalso; omega)
        | (exfalso; simp_all; done)
        | exact fin_t rfl
end Go.Proofs.Ythinjkjhiembgaa
/- history: Mass. -/
namespace Go.Proofs.Ythinjkjhiembgaa
open Go.RowKit
set_option linter.unusedVariables false
set_option linter.unusedSimpArgs false
set_option maxRecDepth 100000

structure Pick where
  mv : Int
  mat : Int
def Pick.row (p : Pick) : List T := [ti p.mv, ti p.mat]
abbrev picksT (l : List Pick) : T := .sl 2 .any (l.map Pick.row)
abbrev picksS (l : List Pick) : S := .c (.t (picksT l))
def pickVal (hh : List (List Fr)) (p : Pick) : Option Rat :=
  if 0 ≤ p.mv ∧ 0 ≤ p.mat then match (hh.getD p.mv.toNat [])[p.mat.toNat]? with
    | some f => if rightF f then some (fv f) else none
    | none => none
  else none
def massF (hh : List (List Fr)) : Rat → List Pick → Option Rat
  | a, [] => some a
  | a, p :: r => match pickVal hh p with
    | none => none
    | some v => massF hh (a + v) r
abbrev massL (o : Option Rat) : List S := match o with
  | some x => [frS (fz x), boolS true]
  | none => [frS zeroF, boolS false]
theorem rl_fv {f : Fr} {n : Nat} (h : rightF f = true) (l1 : f.p.dl.length ≤ n) (l2 : f.q.dl.length ≤ n) : rl (fv f) ≤ n := by
  have e := fz_fv h
  have h1 : (fz (fv f)).p.dl.length ≤ n := by rw [← e]; exact l1
  have h2 : (fz (fv f)).q.dl.length ≤ n := by rw [← e]; exact l2
  exact Nat.max_le.2 ⟨h1, h2⟩
set_option maxHeartbeats 4000000 in
theorem a_hMass (hh : List (List Fr)) (ps : List Pick) (hS : SmallH 200 hh) (hp : ps.length ≤ 200) : ACall Try.prog 22 [histS hh, picksS ps] [] (.tup (massL (massF hh zR ps))) [] := by
  have m1 : (ps.map Pick.row).length = ps.length := by simp
  have m2 : (hh.map fracsRow).length = hh.length := by simp
  have i0 := z_fInt 0 (by decide) (by decide)
  have h1 := hS.l1
  (refine acall_of tab_ok Try.func22 rfl (by decide) ?_; (conv => whnf); repeat (first | (refine LitB.data ?_; conv => whnf) | (refine BoxB.data ?_; conv => whnf)))
  (repeat' (first | ((refine DecB.mk (fun h => ?_) (fun h => ?_)) <;> first | (exfalso; omega) | (conv => whnf)) | ((refine BoolB.mk (fun h => ?_) (fun h => ?_)) <;> first | (exact absurd h (by decide)) | (conv => whnf)) | (refine ⟨_, wrap_ok (by omega) (by omega), ?_⟩; conv => whnf) | (refine and_idx (by omega) (by omega) ?_; conv => whnf) | (refine reg_ok (by decide +kernel) ?_; conv => whnf) | (refine bar_ok (by decide +kernel) (by decide +kernel) ?_; conv => whnf) | (refine late_ok rfl rfl ?_; conv => whnf) | (refine src_ok rfl ?_; conv => whnf) | (refine .inl ⟨_, _, qcall_pure (i0) rfl rfl, ?_⟩; conv => whnf) | (refine LitB.data ?_; conv => whnf) | (refine BoxB.own ?_; conv => whnf)))
  refine awp_while tab_ok (σ := Nat × Rat) (fun | (k, a) => ([histS hh, S.junk, S.junk, S.junk, S.c (C.ptr 0 0 0), S.junk, S.c (C.ptr 1 0 0), S.junk, S.junk, S.junk, picksS ps, intS .i64 ps.length, intS .i64 k, S.junk, S.junk, S.junk, S.junk, S.junk, S.junk, S.junk, S.junk, S.junk, S.junk, S.junk, S.junk, S.junk, S.junk, S.junk, S.junk, S.junk, S.junk, S.junk, S.junk, S.junk, S.junk, S.junk, S.junk, S.junk, S.junk, S.junk, S.junk, S.junk, S.junk, S.junk, S.junk, S.junk, S.junk, S.junk, S.junk, S.junk, S.junk, S.junk, S.junk, S.junk, S.junk, S.junk, S.junk, S.junk, S.junk, S.junk, S.junk, S.junk, S.junk, S.junk, S.junk, S.junk, S.junk, S.junk, S.junk, S.junk, S.junk, S.junk], [frB zeroF, frB (fz a)])) (fun s => s.1 ≤ ps.length ∧ massF hh s.2 (ps.drop s.1) = massF hh zR ps ∧ rl s.2 ≤ s.1 * 201 + 1) (fun s => ps.length - s.1) (0, zR) [some 0, some 1]
    ⟨Nat.zero_le _, rfl, by rw [rl_zero]; omega⟩ ⟨rfl, rfl, ⟨⟨rfl, rfl, rfl, .inr ⟨⟨rfl, rfl, rfl, rfl, trivial⟩, trivial⟩⟩, ⟨rfl, rfl, rfl, .inl ⟨rfl, rowsT_fr _⟩⟩, trivial⟩, ⟨rfl, ⟨rfl, rfl, rfl⟩, ⟨rfl, rfl, rfl⟩, ent_t rfl, ent_i (by simp), rfl, trivial⟩⟩ ?_
  rintro ⟨k, a⟩ ⟨hk, hI, hr⟩
  have hk : k ≤ ps.length := hk
  have hI : massF hh a (ps.drop k) = massF hh zR ps := hI
  have hr : rl a ≤ k * 201 + 1 := hr
  by_cases hlt : k < ps.length
  · obtain ⟨p, hpk⟩ : ∃ p, ps[k]? = some p := ⟨_, List.getElem?_eq_getElem hlt⟩
    rw [drop_get hpk] at hI
    have hI : (match pickVal hh p with | none => none | some v => massF hh (a + v) (ps.drop (k + 1))) = massF hh zR ps := hI
    by_cases hmv : 0 ≤ p.mv ∧ p.mv < hh.length
    · obtain ⟨l, hl⟩ : ∃ l, hh[p.mv.toNat]? = some l := ⟨_, List.getElem?_eq_getElem (by omega)⟩
      have m3 : (l.map frRow).length = l.length := by simp
      have hgd : hh.getD p.mv.toNat [] = l := by rw [List.getD_eq_getElem?_getD, hl]; rfl
      by_cases hmt : 0 ≤ p.mat ∧ p.mat < l.length
      · obtain ⟨f, hf⟩ : ∃ f, l[p.mat.toNat]? = some f := ⟨_, List.getElem?_eq_getElem (by omega)⟩
        obtain ⟨q1, q2⟩ := hS.l3 l (List.mem_of_getElem? hl) f (List.mem_of_getElem? hf)
        have r := a_fRight f (by omega) (by omega)
        cases hrf : rightF f with
        | false =>
          have hv : pickVal hh p = none := by unfold pickVal; rw [if_pos ⟨hmv.1, hmt.1⟩, hgd, hf]; simp [hrf]
          rw [hv] at hI
          rw [hrf] at r
          conv => whnf
          (repeat' (first | ((refine DecB.mk (fun h => ?_) (fun h => ?_)) <;> first | (exfalso; omega) | (conv => whnf)) | ((refine BoolB.mk (fun h => ?_) (fun h => ?_)) <;> first | (exact absurd h (by decide)) | (conv => whnf)) | (refine ⟨_, wrap_ok (by omega) (by omega), ?_⟩; conv => whnf) | (refine and_idx (by omega) (by omega) ?_; conv => whnf) | (refine reg_ok (by decide +kernel) ?_; conv => whnf) | (refine bar_ok (by decide +kernel) (by decide +kernel) ?_; conv => whnf) | (refine late_ok rfl rfl ?_; conv => whnf) | (refine src_ok rfl ?_; conv => whnf) | (refine .inl ⟨_, _, qcall_pure (r) rfl rfl, ?_⟩; conv => whnf) | (refine ex_row hpk ?_; conv => whnf) | (refine ex_rowI (by omega) hl ?_; conv => whnf) | (refine ex_rowI (by omega) hf ?_; conv => whnf) | (refine LitB.data ?_; conv => whnf) | (refine BoxB.own ?_; conv => whnf)))
          all_goals first
            | (exfalso; omega)
            | (rw [← hI]; exact fin_t ⟨⟨rfl, rfl, rfl, rfl, trivial⟩, rfl, trivial⟩)
        | true =>
          have hv : pickVal hh p = some (fv f) := by unfold pickVal; rw [if_pos ⟨hmv.1, hmt.1⟩, hgd, hf]; simp [hrf]
          rw [hv] at hI
          have hI : massF hh (a + fv f) (ps.drop (k + 1)) = massF hh zR ps := hI
          rw [hrf] at r
          have bf := rl_fv hrf q1 q2
          have ba := rl_add a (fv f)
          have ad := z_fAdd a (fv f) (by omega) (by omega)
          rw [← fz_fv hrf] at ad
          conv => whnf
          (repeat' (first | ((refine DecB.mk (fun h => ?_) (fun h => ?_)) <;> first | (exfalso; omega) | (conv => whnf)) | ((refine BoolB.mk (fun h => ?_) (fun h => ?_)) <;> first | (exact absurd h (by decide)) | (conv => whnf)) | (refine ⟨_, wrap_ok (by omega) (by omega), ?_⟩; conv => whnf) | (refine and_idx (by omega) (by omega) ?_; conv => whnf) | (refine reg_ok (by decide +kernel) ?_; conv => whnf) | (refine bar_ok (by decide +kernel) (by decide +kernel) ?_; conv => whnf) | (refine late_ok rfl rfl ?_; conv => whnf) | (refine src_ok rfl ?_; conv => whnf) | (refine .inl ⟨_, _, qcall_pure (r) rfl rfl, ?_⟩; conv => whnf) | (refine .inl ⟨_, _, qcall_pure (ad) rfl rfl, ?_⟩; conv => whnf) | (refine .inl ⟨_, _, qcall_pure (13) rfl rfl, ?_⟩; conv => whnf) | (refine ex_row hpk ?_; conv => whnf) | (refine ex_rowI (by omega) hl ?_; conv => whnf) | (refine ex_rowI (by omega) hf ?_; conv => whnf) | (refine bar_late [13] (by decide +kernel) (by decide +kernel) ?_; conv => whnf) | (refine LitB.data ?_; conv => whnf) | (refine BoxB.own ?_; conv => whnf)))
          all_goals first
            | (exfalso; omega)
            | exact ⟨[some 0, some 1], (k + 1, a + fv f), ⟨rfl, rfl, ⟨⟨rfl, rfl, rfl, .inl ⟨rfl, rowsT_fr _⟩⟩, ⟨rfl, rfl, rfl, .inl ⟨rfl, rowsT_fr _⟩⟩, trivial⟩, ⟨rfl, ⟨rfl, rfl, rfl⟩, ⟨rfl, rfl, rfl⟩, rfl, rfl, ent_i (by omega), trivial⟩⟩, ⟨hlt, hI, by show rl (a + fv f) ≤ (k + 1) * 201 + 1; omega⟩, by show ps.length - (k + 1) < ps.length - k; omega⟩
      · have hv : pickVal hh p = none := by
          unfold pickVal
          by_cases hc : 0 ≤ p.mv ∧ 0 ≤ p.mat
          · rw [if_pos hc, hgd, List.getElem?_eq_none (by omega)]
          · rw [if_neg hc]
        rw [hv] at hI
        conv => whnf
        (repeat' (first | ((refine DecB.mk (fun h => ?_) (fun h => ?_)) <;> first | (exfalso; omega) | (conv => whnf)) | ((refine BoolB.mk (fun h => ?_) (fun h => ?_)) <;> first | (exact absurd h (by decide)) | (conv => whnf)) | (refine ⟨_, wrap_ok (by omega) (by omega), ?_⟩; conv => whnf) | (refine and_idx (by omega) (by omega) ?_; conv => whnf) | (refine reg_ok (by decide +kernel) ?_; conv => whnf) | (refine bar_ok (by decide +kernel) (by decide +kernel) ?_; conv => whnf) | (refine late_ok rfl rfl ?_; conv => whnf) | (refine src_ok rfl ?_; conv => whnf) | (refine ex_row hpk ?_; conv => whnf) | (refine ex_rowI (by omega) hl ?_; conv => whnf) | (refine LitB.data ?_; conv => whnf) | (refine BoxB.own ?_; conv => whnf)))
        all_goals first
          | (exfalso; omega)
          | (rw [← hI]; exact fin_t ⟨⟨rfl, rfl, rfl, rfl, trivial⟩, rfl, trivial⟩)
    · have hv : pickVal hh p = none := by
        unfold pickVal
        by_cases hc : 0 ≤ p.mv ∧ 0 ≤ p.mat
        · rw [if_pos hc, List.getD_eq_getElem?_getD, List.getElem?_eq_none (l := hh) (i := p.mv.toNat) (by omega)]; rfl
        · rw [if_neg hc]
      rw [hv] at hI
      conv => whnf
      (repeat' (first | ((refine DecB.mk (fun h => ?_) (fun h => ?_)) <;> first | (exfalso; omega) | (conv => whnf)) | ((refine BoolB.mk (fun h => ?_) (fun h => ?_)) <;> first | (exact absurd h (by decide)) | (conv => whnf)) | (refine ⟨_, wrap_ok (by omega) (by omega), ?_⟩; conv => whnf) | (refine and_idx (by omega) (by omega) ?_; conv => whnf) | (refine reg_ok (by decide +kernel) ?_; conv => whnf) | (refine bar_ok (by decide +kernel) (by decide +kernel) ?_; conv => whnf) | (refine late_ok rfl rfl ?_; conv => whnf) | (refine src_ok rfl ?_; conv => whnf) | (refine ex_row hpk ?_; conv => whnf) | (refine LitB.data ?_; conv => whnf) | (refine BoxB.own ?_; conv => whnf)))
      all_goals first
        | (exfalso; omega)
        | (rw [← hI]; exact fin_t ⟨⟨rfl, rfl, rfl, rfl, trivial⟩, rfl, trivial⟩)
  · have hke : k = ps.length := by omega
    subst hke
    rw [List.drop_of_length_le (Nat.le_refl _)] at hI
    have hI : some a = massF hh zR ps := hI
    rw [← hI]
    conv => whnf
    (repeat' (first | ((refine DecB.mk (fun h => ?_) (fun h => ?_)) <;> first | (exfalso; omega) | (conv => whnf)) | ((refine BoolB.mk (fun h => ?_) (fun h => ?_)) <;> first | (exact absurd h (by decide)) | (conv => whnf)) | (refine ⟨_, wrap_ok (by omega) (by omega), ?_⟩; conv => whnf) | (refine and_idx (by omega) (by omega) ?_; conv => whnf) | (refine reg_ok (by decide +kernel) ?_; conv => whnf) | (refine bar_ok (by decide +kernel) (by decide +kernel) ?_; conv => whnf) | (refine late_ok rfl rfl ?_; conv => whnf) | (refine src_ok rfl ?_; conv => whnf) | (refine LitB.data ?_; conv => whnf) | (refine BoxB.own ?_; conv => whnf)))
    all_goals first
      | (exfalso; omega)
      | exact fin_t ⟨⟨rfl, rfl, rfl, rfl, trivial⟩, rfl, trivial⟩
end Go.Proofs.Ythinjkjhiembgaa
/- Reference of big: trim, made, digit, Right, Of. -/
namespace Go.Proofs.Ythinjkjhiembgaa
open Go.RowKit
set_option linter.unusedVariables false
set_option linter.unusedSimpArgs false
set_option maxRecDepth 100000

theorem r_trim (l : List Int) (hl : l.length ≤ 1000000) : ACall Try.prog 98 [intsS l] [] (intsS (trimL l)) [] := by
  have l2 : (l.map intRow).length = l.length := by simp
  (refine acall_of tab_ok Try.func98 rfl (by decide) ?_; (conv => whnf); repeat (first | (refine LitB.data ?_; conv => whnf) | (refine BoxB.own ?_; conv => whnf)))
  (repeat' (first | ((refine DecB.mk (fun h => ?_) (fun h => ?_)) <;> first | (exfalso; omega) | (conv => whnf)) | ((refine BoolB.mk (fun h => ?_) (fun h => ?_)) <;> first | (exact absurd h (by decide)) | (conv => whnf)) | (refine ⟨_, wrap_ok (by omega) (by omega), ?_⟩; conv => whnf) | (refine and_idx (by omega) (by omega) ?_; conv => whnf) | (refine reg_ok (by decide +kernel) ?_; conv => whnf) | (refine bar_ok (by decide +kernel) (by decide +kernel) ?_; conv => whnf) | (refine late_ok rfl rfl ?_; conv => whnf) | (refine src_ok rfl ?_; conv => whnf) | (refine LitB.data ?_; conv => whnf) | (refine BoxB.own ?_; conv => whnf)))
  refine awp_while tab_ok (σ := Nat) (fun n => ([intsS l, S.junk, S.junk, intS .i64 n, S.junk, S.junk, S.junk, S.junk, S.junk, S.junk, S.junk, S.junk, S.junk, S.junk, S.junk, S.junk, S.junk, S.junk, S.junk, S.junk, S.junk, S.junk, S.junk], [])) (fun n => n ≤ l.length ∧ ∀ j x, n ≤ j → l[j]? = some x → x = 0) (fun n => n) l.length []
    ⟨Nat.le_refl _, fun j x hj hx => by rw [List.getElem?_eq_none hj] at hx; cases hx⟩ ⟨rfl, rfl, trivial, ⟨ent_t rfl, ent_i (by simp), trivial⟩⟩ ?_
  rintro n ⟨hn, hz⟩
  have hn : n ≤ l.length := hn
  conv => whnf
  (repeat' (first | ((refine DecB.mk (fun h => ?_) (fun h => ?_)) <;> first | (exfalso; omega) | (conv => whnf)) | ((refine BoolB.mk (fun h => ?_) (fun h => ?_)) <;> first | (exact absurd h (by decide)) | (conv => whnf)) | (refine ⟨_, wrap_ok (by omega) (by omega), ?_⟩; conv => whnf) | (refine and_idx (by omega) (by omega) ?_; conv => whnf) | (refine reg_ok (by decide +kernel) ?_; conv => whnf) | (refine bar_ok (by decide +kernel) (by decide +kernel) ?_; conv => whnf) | (refine late_ok rfl rfl ?_; conv => whnf) | (refine src_ok rfl ?_; conv => whnf) | (refine .inl ⟨_, _, qcall_pure (toC) rfl rfl, ?_⟩; conv => whnf) | (refine .inl ⟨_, _, qcall_pure (toC) rfl rfl, ?_⟩; conv => whnf) | (refine LitB.own ?_; conv => whnf) | (refine ex_rowI (by omega) (get_pred (by omega) hn) ?_; conv => whnf) | (refine sl_ok (by omega) (by omega) (by omega) ?_; conv => whnf) | (refine app_ok (by simp [toC]) (by simp [toC]; omega) ?_; conv => whnf) | (refine LitB.data ?_; conv => whnf) | (refine BoxB.own ?_; conv => whnf)))
  · have h0 : dat l (n - 1) = 0 := by assumption
    have h1 : 0 < n := by omega
    refine ⟨[], n - 1, ⟨rfl, rfl, trivial, ⟨rfl, ent_i (by omega), trivial⟩⟩, ⟨by omega, fun j x hj hxj => ?_⟩, by show n - 1 < n; omega⟩
    by_cases hj2 : j = n - 1
    · subst hj2; rw [get_dat (by omega)] at hxj; injection hxj with hx; rw [← hx]; exact h0
    · exact hz j x (by omega) hxj
  all_goals
    have e : l.take n = trimL l := trimL_take hz (fun x h0 hx => by
      first
        | (exfalso; omega)
        | (rw [get_dat (by omega)] at hx; injection hx with hx; rw [← hx]; assumption)) hn
    rw [← e]
    refine fin_own rfl (by intro h; cases h) rfl ?_ ?_
    · simp [toC, newBlk, List.map_take]
    · simp [toC]
theorem r_made (s : Int) (l : List Int) (hl : l.length ≤ 1000000) : ACall Try.prog 91 [intS .i64 s, intsS l] [] (bgS (sgn s l)) [] := by
  (refine acall_of tab_ok Try.func91 rfl (by decide) ?_; (conv => whnf); repeat (first | (refine LitB.data ?_; conv => whnf) | (refine BoxB.own ?_; conv => whnf)))
  (repeat' (first | ((refine DecB.mk (fun h => ?_) (fun h => ?_)) <;> first | (exfalso; omega) | (conv => whnf)) | ((refine BoolB.mk (fun h => ?_) (fun h => ?_)) <;> first | (exact absurd h (by decide)) | (conv => whnf)) | (refine ⟨_, wrap_ok (by omega) (by omega), ?_⟩; conv => whnf) | (refine and_idx (by omega) (by omega) ?_; conv => whnf) | (refine reg_ok (by decide +kernel) ?_; conv => whnf) | (refine bar_ok (by decide +kernel) (by decide +kernel) ?_; conv => whnf) | (refine late_ok rfl rfl ?_; conv => whnf) | (refine src_ok rfl ?_; conv => whnf) | (refine .inl ⟨_, _, qcall_pure (r_trim l hl) rfl rfl, ?_⟩; conv => whnf) | (refine LitB.data ?_; conv => whnf) | (refine BoxB.own ?_; conv => whnf)))
  · have h0 : (trimL l).length = 0 := by simp at *; assumption
    unfold sgn
    rw [if_pos h0]
    exact fin_t ⟨rfl, rfl, trivial⟩
  · have h0 : ¬ (trimL l).length = 0 := by simp at *; assumption
    unfold sgn
    rw [if_neg h0]
    exact fin_t ⟨rfl, rfl, trivial⟩
theorem r_madeD (s : Int) (k : Nat) (h : s = 1 ∨ s = -1 ∨ k = 0) (lk : (dg k).length ≤ 700000) :
    ACall Try.prog 91 [intS .i64 s, intsS (dg k)] [] (bgS (bz (s * k))) [] := by
  have e := r_made s (dg k) (by omega)
  rw [sgn_bz (okd_dg k) (by rw [val_dg]; omega), val_dg] at e
  exact e
theorem r_digit (l : List Int) (i : Nat) (hl : l.length ≤ 1000000) : ACall Try.prog 101 [intsS l, intS .i64 i] [] (intS .i64 (dat l i)) [] := by
  have l2 : (l.map intRow).length = l.length := by simp
  (refine acall_of tab_ok Try.func101 rfl (by decide) ?_; (conv => whnf); repeat (first | (refine LitB.data ?_; conv => whnf) | (refine BoxB.own ?_; conv => whnf)))
  (repeat' (first | ((refine DecB.mk (fun h => ?_) (fun h => ?_)) <;> first | (exfalso; omega) | (conv => whnf)) | ((refine BoolB.mk (fun h => ?_) (fun h => ?_)) <;> first | (exact absurd h (by decide)) | (conv => whnf)) | (refine ⟨_, wrap_ok (by omega) (by omega), ?_⟩; conv => whnf) | (refine and_idx (by omega) (by omega) ?_; conv => whnf) | (refine reg_ok (by decide +kernel) ?_; conv => whnf) | (refine bar_ok (by decide +kernel) (by decide +kernel) ?_; conv => whnf) | (refine late_ok rfl rfl ?_; conv => whnf) | (refine src_ok rfl ?_; conv => whnf) | (refine ex_row (get_dat (by omega)) ?_; conv => whnf) | (refine LitB.data ?_; conv => whnf) | (refine BoxB.own ?_; conv => whnf)))
  all_goals first
    | exact fin_int rfl
    | exact fin_int (dat_none (by omega)).symm
end Go.Proofs.Ythinjkjhiembgaa
/- Digits, for the reference of big: less, minus, times, over. No program is in sight. -/
namespace Go.Proofs.Ythinjkjhiembgaa
set_option linter.unusedVariables false
set_option linter.unusedSimpArgs false

theorem drop_dat' (l : List Int) (i : Nat) : val (l.drop i) = dat l i + 1048576 * val (l.drop (i + 1)) := by
  by_cases h : i < l.length
  · exact drop_dat h
  · rw [List.drop_of_length_le (by omega), List.drop_of_length_le (by omega), dat_none (by omega)]; rfl
theorem val_split' (l : List Int) (i : Nat) : val l = val (l.take i) + pw i * val (l.drop i) := by
  by_cases h : i ≤ l.length
  · exact val_split l i h
  · rw [List.drop_of_length_le (by omega), List.take_of_length_le (by omega)]; simp [val]
theorem val_take_rng {l : List Int} (h : Okd l) (i : Nat) : 0 ≤ val (l.take i) ∧ val (l.take i) < pw i := by
  refine ⟨val_nonneg (h.take i), ?_⟩
  have h1 := val_lt (h.take i)
  have h2 := pw_mono (i := (l.take i).length) (j := i) (by simp; omega)
  omega
theorem less_top {a b : List Int} (ha : Okd a) (hb : Okd b) {i : Nat} (h : val (a.drop (i + 1)) = val (b.drop (i + 1))) (hd : dat a i < dat b i) : val a < val b := by
  rw [val_split' a i, val_split' b i, drop_dat' a i, drop_dat' b i, h]
  have h1 := val_take_rng ha i
  have h2 := val_take_rng hb i
  have hp := pw_pos i
  have h3 := Int.mul_le_mul_of_nonneg_left (a := dat a i + 1048576 * val (b.drop (i + 1)) + 1) (b := dat b i + 1048576 * val (b.drop (i + 1))) (c := pw i) (by omega) (by omega)
  rw [Int.mul_add _ _ (1 : Int)] at h3
  omega
theorem drop_zero_val (l : List Int) : val (l.drop 0) = val l := by rw [List.drop_zero]
/-- the difference, digit by digit, appended -/
structure MinI (a b : List Int) (i : Nat) (out : List Int) (c : Int) : Prop where
  len : out.length = i
  ok : Okd out
  le : i ≤ a.length
  c0 : 0 ≤ c
  c1 : c ≤ 1
  eq : val out - pw i * c = val (a.take i) - val (b.take i)
theorem MinI.init (a b : List Int) : MinI a b 0 [] 0 := ⟨rfl, .nil, Nat.zero_le _, by decide, by decide, by simp [val]⟩
theorem MinI.step {a b out : List Int} {i : Nat} {c n c' : Int} (h : MinI a b i out c) (ha : Okd a) (hb : Okd b) (hi : i < a.length) (hn : n = dat a i - dat b i - c + 1048576 * c') (h0 : 0 ≤ n ∧ n < 1048576) (hc : 0 ≤ c' ∧ c' ≤ 1) :
    MinI a b (i + 1) (out ++ [n]) c' := by
  refine ⟨by simp [h.len], h.ok.append (Okd.cons h0 .nil), hi, hc.1, hc.2, ?_⟩
  rw [val_append, h.len, val_take_dat, val_take_dat, pw_succ]
  have := h.eq
  simp only [val]
  rw [hn]
  grind
theorem MinI.fin {a b out : List Int} {c : Int} (h : MinI a b a.length out c) (ha : Okd a) (hb : Okd b) (hl : b.length ≤ a.length) (hv : val b ≤ val a) : trimL out = dg (val a - val b).toNat := by
  have h1 := h.eq
  rw [List.take_of_length_le (Nat.le_refl _), List.take_of_length_le hl] at h1
  have h2 := val_lt h.ok
  rw [h.len] at h2
  have hc : c = 0 := by
    have := h.c0
    have := h.c1
    rcases Int.lt_or_le 0 c with h3 | h3
    · have : c = 1 := by omega
      subst this
      omega
    · omega
  subst hc
  rw [trimL_dg h.ok]
  congr 2
  simp at h1
  exact h1
/-- the reference's product, its inner loop -/
structure TimK (a b : List Int) (i k : Nat) (out : List Int) (c : Int) : Prop where
  out : (MulK a b i k out c ∧ k ≤ b.length) ∨ (k = b.length + 1 ∧ c = 0 ∧ MulI a b (i + 1) out)
theorem set_dat {l : List Int} {i : Nat} : l.set i (dat l i) = l := by
  by_cases h : i < l.length
  · apply List.ext_getElem?
    intro j
    by_cases hj : i = j
    · subst hj; rw [List.getElem?_set_self h]; unfold dat; rw [List.getD_eq_getElem?_getD, List.getElem?_eq_getElem h]; rfl
    · rw [List.getElem?_set_ne hj]
  · rw [List.set_eq_of_length_le (by omega)]
theorem TimK.exit {a b out : List Int} {i k : Nat} {c : Int} (h : TimK a b i k out c) (ha : Okd a) (hb : Okd b) (hi : i < a.length) (hk : b.length ≤ k) (hc : c ≤ 0) : MulI a b (i + 1) out := by
  rcases h.out with ⟨h1, h2⟩ | ⟨h1, h2, h3⟩
  · have hk : k = b.length := by omega
    subst hk
    have hc : c = 0 := by have := h1.c0; omega
    subst hc
    have := h1.done ha hb hi
    rw [Int.add_zero, set_dat] at this
    exact this
  · exact h3
theorem over_val {r d : Nat} {x : Int} (hx : 0 ≤ x ∧ x < 1048576) : trimL (x :: dg r) = dg (r * 1048576 + x.toNat) := by
  rw [trimL_dg (Okd.cons hx (okd_dg r))]
  congr 1
  simp only [val, val_dg]
  omega
end Go.Proofs.Ythinjkjhiembgaa
/- Reference of big: less, minus, times. -/
namespace Go.Proofs.Ythinjkjhiembgaa
open Go.RowKit
set_option linter.unusedVariables false
set_option linter.unusedSimpArgs false
set_option maxRecDepth 100000

theorem r_less (a b : List Int) (ha : Okd a) (hb : Okd b) (la : a.length ≤ 1000000) (lb : b.length ≤ 1000000) : ACall Try.prog 99 [intsS a, intsS b] [] (boolS (decide (val a < val b))) [] := by
  have l1 : (a.map intRow).length = a.length := by simp
  have l2 : (b.map intRow).length = b.length := by simp
  (refine acall_of tab_ok Try.func99 rfl (by decide) ?_; (conv => whnf); repeat (first | (refine LitB.data ?_; conv => whnf) | (refine BoxB.own ?_; conv => whnf)))
  (repeat' (first | ((refine DecB.mk (fun h => ?_) (fun h => ?_)) <;> first | (exfalso; omega) | (conv => whnf)) | ((refine BoolB.mk (fun h => ?_) (fun h => ?_)) <;> first | (exact absurd h (by decide)) | (conv => whnf)) | (refine ⟨_, wrap_ok (by omega) (by omega), ?_⟩; conv => whnf) | (refine and_idx (by omega) (by omega) ?_; conv => whnf) | (refine reg_ok (by decide +kernel) ?_; conv => whnf) | (refine bar_ok (by decide +kernel) (by decide +kernel) ?_; conv => whnf) | (refine late_ok rfl rfl ?_; conv => whnf) | (refine src_ok rfl ?_; conv => whnf) | (refine .inl ⟨_, _, qcall_pure (cond) rfl rfl, ?_⟩; conv => whnf) | (refine ⟨_, wrap_eq (y := ((max a.length b.length : Nat) : Int) - 1) (by simp only [cond]; split <;> omega) (by omega) (by omega), ?_⟩; conv => whnf) | (refine LitB.data ?_; conv => whnf) | (refine BoxB.own ?_; conv => whnf)))
  refine awp_while tab_ok (σ := Nat) (fun k => ([intsS a, intsS b, S.junk, S.junk, S.junk, intS .i64 ((k : Int) - 1), S.junk, S.junk, S.junk, S.junk, S.junk, S.junk, S.junk, S.junk, S.junk, S.junk, S.junk, S.junk, S.junk, S.junk, S.junk, S.junk, S.junk, S.junk, S.junk, S.junk, S.junk, S.junk, S.junk, S.junk], [])) (fun k => k ≤ 1000000 ∧ val (a.drop k) = val (b.drop k)) (fun k => k) (max a.length b.length) []
    ⟨by omega, by rw [List.drop_of_length_le (by omega), List.drop_of_length_le (by omega)]⟩ ⟨rfl, rfl, trivial, ⟨ent_t rfl, ent_t rfl, rfl, trivial⟩⟩ ?_
  rintro k ⟨hk, hd⟩
  have hk : k ≤ 1000000 := hk
  have hd : val (a.drop k) = val (b.drop k) := hd
  by_cases h0 : 0 < k
  · obtain ⟨i, rfl⟩ : ∃ i, k = i + 1 := ⟨k - 1, by omega⟩
    have d1 := r_digit a i la
    have d2 := r_digit b i lb
    have ei : (((i + 1 : Nat) : Int) - 1) = i := by omega
    rw [ei]
    conv => whnf
    (repeat' (first | ((refine DecB.mk (fun h => ?_) (fun h => ?_)) <;> first | (exfalso; omega) | (conv => whnf)) | ((refine BoolB.mk (fun h => ?_) (fun h => ?_)) <;> first | (exact absurd h (by decide)) | (conv => whnf)) | (refine ⟨_, wrap_ok (by omega) (by omega), ?_⟩; conv => whnf) | (refine and_idx (by omega) (by omega) ?_; conv => whnf) | (refine reg_ok (by decide +kernel) ?_; conv => whnf) | (refine bar_ok (by decide +kernel) (by decide +kernel) ?_; conv => whnf) | (refine late_ok rfl rfl ?_; conv => whnf) | (refine src_ok rfl ?_; conv => whnf) | (refine .inl ⟨_, _, qcall_pure (d1) rfl rfl, ?_⟩; conv => whnf) | (refine .inl ⟨_, _, qcall_pure (d2) rfl rfl, ?_⟩; conv => whnf) | (refine LitB.data ?_; conv => whnf) | (refine BoxB.own ?_; conv => whnf)))
    · have h := less_top ha hb hd (by assumption)
      exact fin_bool (by simp [h])
    · have h := less_top hb ha hd.symm (by omega)
      exact fin_bool (by simp; omega)
    · have he : dat a i = dat b i := by omega
      refine ⟨[], i, ⟨rfl, rfl, trivial, ⟨rfl, rfl, rfl, trivial⟩⟩, ⟨by omega, ?_⟩, by show i < i + 1; omega⟩
      rw [drop_dat' a i, drop_dat' b i, he, hd]
  · obtain rfl : k = 0 := by omega
    rw [drop_zero_val, drop_zero_val] at hd
    conv => whnf
    (repeat' (first | ((refine DecB.mk (fun h => ?_) (fun h => ?_)) <;> first | (exfalso; omega) | (conv => whnf)) | ((refine BoolB.mk (fun h => ?_) (fun h => ?_)) <;> first | (exact absurd h (by decide)) | (conv => whnf)) | (refine ⟨_, wrap_ok (by omega) (by omega), ?_⟩; conv => whnf) | (refine and_idx (by omega) (by omega) ?_; conv => whnf) | (refine reg_ok (by decide +kernel) ?_; conv => whnf) | (refine bar_ok (by decide +kernel) (by decide +kernel) ?_; conv => whnf) | (refine late_ok rfl rfl ?_; conv => whnf) | (refine src_ok rfl ?_; conv => whnf) | (refine LitB.data ?_; conv => whnf) | (refine BoxB.own ?_; conv => whnf)))
    all_goals first
      | (exfalso; omega)
      | exact fin_bool (by simp; omega)
theorem r_minus (a b : List Int) (ha : Okd a) (hb : Okd b) (la : a.length ≤ 400000) (lb : b.length ≤ a.length) (hv : val b ≤ val a) :
    ACall Try.prog 97 [intsS a, intsS b] [] (intsS (dg (val a - val b).toNat)) [] := by
  have l1 : (a.map intRow).length = a.length := by simp
  have l2 : (b.map intRow).length = b.length := by simp
  (refine acall_of tab_ok Try.func97 rfl (by decide) ?_; (conv => whnf); repeat (first | (refine LitB.data ?_; conv => whnf) | (refine BoxB.own ?_; conv => whnf)))
  (repeat' (first | ((refine DecB.mk (fun h => ?_) (fun h => ?_)) <;> first | (exfalso; omega) | (conv => whnf)) | ((refine BoolB.mk (fun h => ?_) (fun h => ?_)) <;> first | (exact absurd h (by decide)) | (conv => whnf)) | (refine ⟨_, wrap_ok (by omega) (by omega), ?_⟩; conv => whnf) | (refine and_idx (by omega) (by omega) ?_; conv => whnf) | (refine reg_ok (by decide +kernel) ?_; conv => whnf) | (refine bar_ok (by decide +kernel) (by decide +kernel) ?_; conv => whnf) | (refine late_ok rfl rfl ?_; conv => whnf) | (refine src_ok rfl ?_; conv => whnf) | (refine LitB.data ?_; conv => whnf) | (refine BoxB.own ?_; conv => whnf)))
  refine awp_while tab_ok (σ := Nat × List Int × Int) (fun | (k, out, c) => ([intsS a, intsS b, S.junk, S.junk, S.junk, ownI 0 out, intS .i64 c, intS .i64 k, S.junk, S.junk, S.junk, S.junk, S.junk, S.junk, S.junk, S.junk, S.junk, S.junk, S.junk, S.junk, S.junk, S.junk, S.junk, S.junk, S.junk, S.junk, S.junk, S.junk, S.junk, S.junk, S.junk, S.junk, S.junk, S.junk, S.junk], [intsB out])) (fun x => MinI a b x.1 x.2.1 x.2.2) (fun x => a.length - x.1) (0, [], 0) [none]
    (MinI.init a b) ⟨rfl, rfl, ⟨⟨rfl, rfl⟩, trivial⟩, ⟨ent_t rfl, ent_t rfl, ⟨rfl, rfl, rfl⟩, rfl, rfl, trivial⟩⟩ ?_
  rintro ⟨k, out, c⟩ hI
  have hI : MinI a b k out c := hI
  have hlen := hI.len
  have hle := hI.le
  have hc0 := hI.c0
  have hc1 := hI.c1
  have hda := ha.dat k
  have hdb := hb.dat k
  have d2 := r_digit b k (by omega)
  conv => whnf
  (repeat' (first | ((refine DecB.mk (fun h => ?_) (fun h => ?_)) <;> first | (exfalso; omega) | (conv => whnf)) | ((refine BoolB.mk (fun h => ?_) (fun h => ?_)) <;> first | (exact absurd h (by decide)) | (conv => whnf)) | (refine ⟨_, wrap_ok (by omega) (by omega), ?_⟩; conv => whnf) | (refine and_idx (by omega) (by omega) ?_; conv => whnf) | (refine reg_ok (by decide +kernel) ?_; conv => whnf) | (refine bar_ok (by decide +kernel) (by decide +kernel) ?_; conv => whnf) | (refine late_ok rfl rfl ?_; conv => whnf) | (refine src_ok rfl ?_; conv => whnf) | (refine .inl ⟨_, _, qcall_pure (d2) rfl rfl, ?_⟩; conv => whnf) | (refine .inl ⟨_, _, qcall_pure (toC) rfl rfl, ?_⟩; conv => whnf) | (refine .inl ⟨_, _, qcall_pure (toC) rfl rfl, ?_⟩; conv => whnf) | (refine ex_row (get_dat (by omega)) ?_; conv => whnf) | (refine app_ok (by simp [toC]) (by simp [toC]; omega) ?_; conv => whnf) | (refine LitB.data ?_; conv => whnf) | (refine BoxB.own ?_; conv => whnf)))
  · have hst := hI.step ha hb (n := dat a k - dat b k - c + 1048576) (c' := 1) (by omega) (by omega) (by omega) (by omega)
    refine ⟨[some 1], (k + 1, out ++ [dat a k - dat b k - c + 1048576], 1), ⟨rfl, rfl, ⟨entB_rows rfl rfl rfl toC_app1 rfl, trivial⟩, ⟨rfl, rfl, ent_own rfl (by simp [toC]), rfl, ent_i (by omega), trivial⟩⟩, hst, ?_⟩
    show a.length - (k + 1) < a.length - k
    omega
  · have hst := hI.step ha hb (n := dat a k - dat b k - c) (c' := 0) (by omega) (by omega) (by omega) (by omega)
    refine ⟨[some 1], (k + 1, out ++ [dat a k - dat b k - c], 0), ⟨rfl, rfl, ⟨entB_rows rfl rfl rfl toC_app1 rfl, trivial⟩, ⟨rfl, rfl, ent_own rfl (by simp [toC]), rfl, ent_i (by omega), trivial⟩⟩, hst, ?_⟩
    show a.length - (k + 1) < a.length - k
    omega
  · have hk : k = a.length := by omega
    subst hk
    have hf := hI.fin ha hb lb hv
    have t := r_trim out (by omega)
    rw [hf] at t
    refine .inr ⟨_, _, acall_freeze [0] t ⟨vs_c (vc_all (by simp) rfl (by intro h; cases h) rfl rfl (by simp)), trivial⟩ rfl, ?_⟩
    conv => whnf
    exact fin_d rfl
end Go.Proofs.Ythinjkjhiembgaa
/- Reference of big: times. -/
namespace Go.Proofs.Ythinjkjhiembgaa
open Go.RowKit
set_option linter.unusedVariables false
set_option linter.unusedSimpArgs false
set_option maxRecDepth 100000

theorem tmodB {a : Int} (h : 0 ≤ a) : a.tmod 1048576 = a % 1048576 := Int.tmod_eq_emod_of_nonneg h
set_option maxHeartbeats 1000000 in
theorem r_times (a b : List Int) (ha : Okd a) (hb : Okd b) (la : a.length ≤ 400000) (lb : b.length ≤ 400000) :
    ACall Try.prog 100 [intsS a, intsS b] [] (intsS (dg (val a * val b).toNat)) [] := by
  have l1 : (a.map intRow).length = a.length := by simp
  have l2 : (b.map intRow).length = b.length := by simp
  (refine acall_of tab_ok Try.func100 rfl (by decide) ?_; (conv => whnf); repeat (first | (refine LitB.data ?_; conv => whnf) | (refine BoxB.own ?_; conv => whnf)))
  (repeat' (first | ((refine DecB.mk (fun h => ?_) (fun h => ?_)) <;> first | (exfalso; omega) | (conv => whnf)) | ((refine BoolB.mk (fun h => ?_) (fun h => ?_)) <;> first | (exact absurd h (by decide)) | (conv => whnf)) | (refine ⟨_, wrap_ok (by omega) (by omega), ?_⟩; conv => whnf) | (refine and_idx (by omega) (by omega) ?_; conv => whnf) | (refine reg_ok (by decide +kernel) ?_; conv => whnf) | (refine bar_ok (by decide +kernel) (by decide +kernel) ?_; conv => whnf) | (refine late_ok rfl rfl ?_; conv => whnf) | (refine src_ok rfl ?_; conv => whnf) | (refine mk_ok (by omega) (by omega) (by omega) (by decide) ?_; conv => whnf) | (refine LitB.data ?_; conv => whnf) | (refine BoxB.own ?_; conv => whnf)))
  refine awp_while tab_ok (σ := Nat × List Int) (fun | (i, out) => ([intsS a, intsS b, S.junk, S.junk, S.junk, ownI 0 out, intS .i64 i, S.junk, S.junk, S.junk, S.junk, S.junk, S.junk, S.junk, S.junk, S.junk, S.junk, S.junk, S.junk, S.junk, S.junk, S.junk, S.junk, S.junk, S.junk, S.junk, S.junk, S.junk, S.junk, S.junk, S.junk, S.junk, S.junk, S.junk, S.junk, S.junk, S.junk, S.junk, S.junk, S.junk, S.junk, S.junk, S.junk, S.junk, S.junk, S.junk, S.junk, S.junk, S.junk, S.junk, S.junk, S.junk, S.junk, S.junk, S.junk, S.junk, S.junk, S.junk, S.junk, S.junk], [intsB out])) (fun x => MulI a b x.1 x.2) (fun x => a.length - x.1) (0, List.replicate (a.length + b.length) 0) [some 0]
    (MulI.init a b) ⟨rfl, rfl, ⟨entB_rows rfl rfl rfl ?_ rfl, trivial⟩, ⟨ent_t rfl, ent_t rfl, ent_own rfl (by simp; omega), rfl, trivial⟩⟩ ?_
  · show List.replicate _ _ = _
    rw [show ((((a.map intRow).length : Nat) : Int) + ((b.map intRow).length : Nat)).toNat = a.length + b.length by omega]
    simp [toC, intRow, constC]
  rintro ⟨i, out⟩ hI
  have hI : MulI a b i out := hI
  have hlen := hI.len
  have hle := hI.le
  conv => whnf
  (repeat' (first | ((refine DecB.mk (fun h => ?_) (fun h => ?_)) <;> first | (exfalso; omega) | (conv => whnf)) | ((refine BoolB.mk (fun h => ?_) (fun h => ?_)) <;> first | (exact absurd h (by decide)) | (conv => whnf)) | (refine ⟨_, wrap_ok (by omega) (by omega), ?_⟩; conv => whnf) | (refine and_idx (by omega) (by omega) ?_; conv => whnf) | (refine reg_ok (by decide +kernel) ?_; conv => whnf) | (refine bar_ok (by decide +kernel) (by decide +kernel) ?_; conv => whnf) | (refine late_ok rfl rfl ?_; conv => whnf) | (refine src_ok rfl ?_; conv => whnf) | (refine LitB.data ?_; conv => whnf) | (refine BoxB.own ?_; conv => whnf)))
  · have hi : i < a.length := by omega
    refine awp_while tab_ok (σ := Nat × List Int × Int) (fun | (k, out, c) => ([intsS a, intsS b, S.junk, S.junk, S.junk, ownI 0 out, intS .i64 i, intS .i64 c, intS .i64 k, S.junk, S.junk, S.junk, S.junk, S.junk, S.junk, S.junk, S.junk, S.junk, S.junk, S.junk, S.junk, S.junk, S.junk, S.junk, S.junk, S.junk, S.junk, S.junk, S.junk, S.junk, S.junk, S.junk, S.junk, S.junk, S.junk, S.junk, S.junk, S.junk, S.junk, S.junk, S.junk, S.junk, S.junk, S.junk, S.junk, S.junk, S.junk, S.junk, S.junk, S.junk, S.junk, S.junk, S.junk, S.junk, S.junk, S.junk, S.junk, S.junk, S.junk, S.junk], [intsB out])) (fun x => TimK a b i x.1 x.2.1 x.2.2) (fun x => b.length + 1 - x.1) (0, out, 0) [some 0]
      ⟨.inl ⟨hI.start, Nat.zero_le _⟩⟩ ⟨rfl, rfl, ⟨entB_rows rfl rfl rfl rfl rfl, trivial⟩, ⟨ent_t rfl, ent_t rfl, ent_own rfl rfl, rfl, rfl, rfl, trivial⟩⟩ ?_
    rintro ⟨k, out, c⟩ hT
    have hT : TimK a b i k out c := hT
    have hdb := hb.dat k
    have hda := ha.dat i
    have hm := mul_rng (ha.dat i) (hb.dat k)
    have d2 := r_digit b k (by omega)
    have e1 : ((i : Int) + k).toNat = i + k := by omega
    rcases hT.out with ⟨hK, hkb⟩ | ⟨hk1, hc, hM⟩
    · have hlen := hK.len
      have hc0 := hK.c0
      have hc1 := hK.c1
      have hdo := hK.ok.dat (i + k)
      have hz : k = b.length → dat out (i + k) = 0 ∧ dat b k = 0 := fun h => ⟨hK.zero _ (by omega), dat_none (by omega)⟩
      have hzm : k = b.length → dat a i * dat b k = 0 := fun h => by rw [(hz h).2, Int.mul_zero]
      conv => whnf
      (repeat' (first | ((refine DecB.mk (fun h => ?_) (fun h => ?_)) <;> first | (exfalso; omega) | (conv => whnf)) | ((refine BoolB.mk (fun h => ?_) (fun h => ?_)) <;> first | (exact absurd h (by decide)) | (conv => whnf)) | (refine ⟨_, wrap_ok (by omega) (by omega), ?_⟩; conv => whnf) | (refine and_idx (by omega) (by omega) ?_; conv => whnf) | (refine reg_ok (by decide +kernel) ?_; conv => whnf) | (refine bar_ok (by decide +kernel) (by decide +kernel) ?_; conv => whnf) | (refine late_ok rfl rfl ?_; conv => whnf) | (refine src_ok rfl ?_; conv => whnf) | (refine .inl ⟨_, _, qcall_pure (d2) rfl rfl, ?_⟩; conv => whnf) | (refine ex_row (get_dat (by omega)) ?_; conv => whnf) | (refine and_idx (by omega) (by show _ < ((out.length : Nat) : Int); omega) ?_; conv => whnf) | (refine ex_own (get_dat0 e1 (by omega)) ?_; conv => whnf) | (refine ⟨by decide, _, tdivq (by omega) (by omega) (by decide), ?_⟩; conv => whnf) | (refine ne_ok (by decide) ?_; conv => whnf) | (refine LitB.data ?_; conv => whnf) | (refine BoxB.own ?_; conv => whnf)))
      all_goals have hn : 0 ≤ dat out (i + k) + dat a i * dat b k + c := by omega
      · have hst := hK.step ha hb hi (by omega)
        refine ⟨[some 0], (k + 1, out.set (i + k) ((dat out (i + k) + dat a i * dat b k + c) % 1048576), (dat out (i + k) + dat a i * dat b k + c) / 1048576), ⟨rfl, rfl, ⟨entB_rows rfl rfl rfl ?_ rfl, trivial⟩, ⟨rfl, rfl, ent_own rfl (by simp), rfl, rfl, rfl, trivial⟩⟩, ⟨.inl ⟨hst, by omega⟩⟩, ?_⟩
        · rw [← tmodB hn]; exact toC_set (by omega)
        · show b.length + 1 - (k + 1) < b.length + 1 - k; omega
      · have hkb2 : k = b.length := by omega
        obtain ⟨z1, z2⟩ := hz hkb2
        have z3 := hzm hkb2
        have en : dat out (i + k) + dat a i * dat b k + c = c := by omega
        have hdone := hK
        rw [hkb2] at hdone
        have hdone := hdone.done ha hb hi
        rw [← hkb2] at hdone
        refine ⟨[some 0], (k + 1, out.set (i + k) ((dat out (i + k) + dat a i * dat b k + c) % 1048576), (dat out (i + k) + dat a i * dat b k + c) / 1048576), ⟨rfl, rfl, ⟨entB_rows rfl rfl rfl ?_ rfl, trivial⟩, ⟨rfl, rfl, ent_own rfl (by simp), rfl, rfl, rfl, trivial⟩⟩, ⟨.inr ⟨by show k + 1 = b.length + 1; omega, by show (dat out (i + k) + dat a i * dat b k + c) / 1048576 = 0; omega, ?_⟩⟩, ?_⟩
        · rw [← tmodB hn]; exact toC_set (by omega)
        · have e2 : (dat out (i + k) + dat a i * dat b k + c) % 1048576 = dat out (i + k) + c := by omega
          rw [e2]; exact hdone
        · show b.length + 1 - (k + 1) < b.length + 1 - k; omega
      · have hx := hT.exit ha hb hi (by omega) (by omega)
        exact ⟨[some 0], (i + 1, out), ⟨rfl, rfl, ⟨entB_rows rfl rfl rfl rfl rfl, trivial⟩, ⟨rfl, rfl, ent_own rfl rfl, ent_i (by omega), trivial⟩⟩, hx, by show a.length - (i + 1) < a.length - i; omega⟩
    · have hlen := hM.len
      have hx := hT.exit ha hb hi (by omega) (by omega)
      conv => whnf
      (repeat' (first | ((refine DecB.mk (fun h => ?_) (fun h => ?_)) <;> first | (exfalso; omega) | (conv => whnf)) | ((refine BoolB.mk (fun h => ?_) (fun h => ?_)) <;> first | (exact absurd h (by decide)) | (conv => whnf)) | (refine ⟨_, wrap_ok (by omega) (by omega), ?_⟩; conv => whnf) | (refine and_idx (by omega) (by omega) ?_; conv => whnf) | (refine reg_ok (by decide +kernel) ?_; conv => whnf) | (refine bar_ok (by decide +kernel) (by decide +kernel) ?_; conv => whnf) | (refine late_ok rfl rfl ?_; conv => whnf) | (refine src_ok rfl ?_; conv => whnf) | (refine LitB.data ?_; conv => whnf) | (refine BoxB.own ?_; conv => whnf)))
      all_goals first
        | (exfalso; omega)
        | exact ⟨[some 0], (i + 1, out), ⟨rfl, rfl, ⟨entB_rows rfl rfl rfl rfl rfl, trivial⟩, ⟨rfl, rfl, ent_own rfl rfl, ent_i (by omega), trivial⟩⟩, hx, by show a.length - (i + 1) < a.length - i; omega⟩
  · have hi : i = a.length := by omega
    subst hi
    have hf := hI.fin
    have t := r_trim out (by omega)
    rw [hf] at t
    refine .inr ⟨_, _, acall_freeze [0] t ⟨vs_c (vc_all (by simp) rfl (by intro h; cases h) rfl rfl (by simp)), trivial⟩ rfl, ?_⟩
    conv => whnf
    exact fin_d rfl
theorem r_timesD (m n : Nat) (lm : (dg m).length ≤ 300000) (ln : (dg n).length ≤ 300000) :
    ACall Try.prog 100 [intsS (dg m), intsS (dg n)] [] (intsS (dg (m * n))) [] := by
  have h := r_times (dg m) (dg n) (okd_dg m) (okd_dg n) (by omega) (by omega)
  rw [val_dg, val_dg, show ((m : Int) * n).toNat = m * n by rw [← Int.natCast_mul]; rfl] at h
  exact h
end Go.Proofs.Ythinjkjhiembgaa
/- Reference of big: over. -/
namespace Go.Proofs.Ythinjkjhiembgaa
open Go.RowKit
set_option linter.unusedVariables false
set_option linter.unusedSimpArgs false
set_option maxRecDepth 100000

set_option maxHeartbeats 1000000 in
theorem r_over (m n : Nat) (hn : 0 < n) (lm : (dg m).length ≤ 200000) (ln : (dg n).length ≤ 200000) :
    ACall Try.prog 95 [intsS (dg m), intsS (dg n)] [] (divS m n) [] := by
  have l1 : ((dg m).map intRow).length = (dg m).length := by simp
  have l2 : ((dg n).map intRow).length = (dg n).length := by simp
  (refine acall_of tab_ok Try.func95 rfl (by decide) ?_; (conv => whnf); repeat (first | (refine LitB.data ?_; conv => whnf) | (refine BoxB.own ?_; conv => whnf)))
  (repeat' (first | ((refine DecB.mk (fun h => ?_) (fun h => ?_)) <;> first | (exfalso; omega) | (conv => whnf)) | ((refine BoolB.mk (fun h => ?_) (fun h => ?_)) <;> first | (exact absurd h (by decide)) | (conv => whnf)) | (refine ⟨_, wrap_ok (by omega) (by omega), ?_⟩; conv => whnf) | (refine and_idx (by omega) (by omega) ?_; conv => whnf) | (refine reg_ok (by decide +kernel) ?_; conv => whnf) | (refine bar_ok (by decide +kernel) (by decide +kernel) ?_; conv => whnf) | (refine late_ok rfl rfl ?_; conv => whnf) | (refine src_ok rfl ?_; conv => whnf) | (refine mk_ok (by omega) (by omega) (by omega) (by decide) ?_; conv => whnf) | (refine LitB.data ?_; conv => whnf) | (refine BoxB.own ?_; conv => whnf)))
  refine awp_while tab_ok (σ := Nat × List Int × Nat) (fun | (j, q, r) => ([intsS (dg m), intsS (dg n), S.junk, S.junk, S.junk, S.junk, ownI 0 q, intsS (dg r), intS .i64 ((j : Int) - 1), S.junk, S.junk, S.junk, S.junk, S.junk, S.junk, S.junk, S.junk, S.junk, S.junk, S.junk, S.junk, S.junk, S.junk, S.junk, S.junk, S.junk, S.junk, S.junk, S.junk, S.junk, S.junk, S.junk, S.junk, S.junk, S.junk, S.junk, S.junk, S.junk, S.junk, S.junk, S.junk, S.junk, S.junk, S.junk, S.junk, S.junk, S.junk, S.junk, S.junk, S.junk, S.junk, S.junk, S.junk, S.junk, S.junk, S.junk, S.junk, S.junk, S.junk, S.junk], [intsB q])) (fun x => ShortI (dg m) n x.1 x.2.1 x.2.2) (fun x => x.1) ((dg m).length, List.replicate (dg m).length 0, 0) [some 0]
    (ShortI.init _ (by omega)) ⟨rfl, rfl, ⟨entB_rows rfl rfl rfl ?_ rfl, trivial⟩, ⟨ent_t rfl, ent_t rfl, ent_own rfl (by simp), rfl, ent_i (by omega), trivial⟩⟩ ?_
  · show List.replicate _ _ = _
    simp [toC, intRow, constC]
  rintro ⟨j, q, r⟩ hI
  have hI : ShortI (dg m) n j q r := hI
  have hlen := hI.len
  have hle := hI.le
  have hr1 := hI.r1
  by_cases hj : 0 < j
  · obtain ⟨i, rfl⟩ : ∃ i, j = i + 1 := ⟨j - 1, by omega⟩
    have ei : (((i + 1 : Nat) : Int) - 1) = i := by omega
    have hda := (okd_dg m).dat i
    obtain ⟨y, hy⟩ := Int.eq_ofNat_of_zero_le hda.1
    have lr := dg_len_mono (show r ≤ n by omega)
    have lm2 : i < (dg m).length := by omega
    generalize hR : r * 1048576 + y = R
    have hRn : R < n * 1048576 := by
      have := Nat.mul_le_mul_right 1048576 (show r + 1 ≤ n by omega)
      rw [Nat.add_mul] at this
      omega
    have lR : (dg R).length ≤ (dg n).length + 1 := dg_len_le (by
      have h1 := dg_lt_pw n
      rw [pw_succ]
      have h2 := Int.mul_le_mul_of_nonneg_right (a := (n : Int) + 1) (b := pw (dg n).length) (c := 1048576) (by omega) (by decide)
      omega)
    have tr := r_trim (dat (dg m) i :: dg r) (by simp; omega)
    rw [over_val (d := n) hda, hy, Int.toNat_natCast, hR] at tr
    conv => whnf
    (repeat' (first | ((refine DecB.mk (fun h => ?_) (fun h => ?_)) <;> first | (exfalso; omega) | (conv => whnf)) | ((refine BoolB.mk (fun h => ?_) (fun h => ?_)) <;> first | (exact absurd h (by decide)) | (conv => whnf)) | (refine ⟨_, wrap_ok (by omega) (by omega), ?_⟩; conv => whnf) | (refine and_idx (by omega) (by omega) ?_; conv => whnf) | (refine reg_ok (by decide +kernel) ?_; conv => whnf) | (refine bar_ok (by decide +kernel) (by decide +kernel) ?_; conv => whnf) | (refine late_ok rfl rfl ?_; conv => whnf) | (refine src_ok rfl ?_; conv => whnf) | (refine .inl ⟨_, _, qcall_pure (toC, newBlk) rfl rfl, ?_⟩; conv => whnf) | (refine .inl ⟨_, _, qcall_pure (toC) rfl rfl, ?_⟩; conv => whnf) | (refine .inl ⟨_, _, qcall_pure (2) rfl rfl, ?_⟩; conv => whnf) | (refine .inl ⟨_, _, qcall_pure (toC, newBlk, intRow, hy) rfl rfl, ?_⟩; conv => whnf) | (refine .inl ⟨_, _, qcall_pure (toC, Nat.add_comm) rfl rfl, ?_⟩; conv => whnf) | (refine LitB.own ?_; conv => whnf) | (refine ex_rowE ei (get_dat (by omega)) ?_; conv => whnf) | (refine app_ok (by simp [toC, newBlk]) (by simp [toC]; omega) ?_; conv => whnf) | (refine .inr ⟨_, _, acall_freeze [2] tr ⟨vs_c (vc_all (by simp) rfl (by intro h; cases h) rfl (by simp [toC, newBlk, intRow, hy]) (by simp [toC, Nat.add_comm])), trivial⟩ rfl, ?_⟩; conv => whnf) | (refine LitB.data ?_; conv => whnf) | (refine BoxB.own ?_; conv => whnf)))
    refine awp_while tab_ok (σ := Nat × Nat) (fun | (lo, hi) => ([intsS (dg m), intsS (dg n), S.junk, S.junk, S.junk, S.junk, ownI 0 q, intsS (dg R), intS .i64 i, intS .i64 lo, intS .i64 hi, S.junk, S.junk, S.junk, S.junk, S.junk, S.junk, S.junk, S.junk, S.junk, S.junk, S.junk, S.junk, S.junk, S.junk, S.junk, S.junk, S.junk, S.junk, S.junk, S.junk, S.junk, S.junk, S.junk, S.junk, S.junk, S.junk, S.junk, S.junk, S.junk, S.junk, S.junk, S.junk, S.junk, S.junk, S.junk, S.junk, S.junk, S.junk, S.junk, S.junk, S.junk, S.junk, S.junk, S.junk, S.junk, S.junk, S.junk, S.junk, S.junk], [intsB q])) (fun x => x.1 * n ≤ R ∧ R < x.2 * n ∧ x.1 < x.2 ∧ x.2 ≤ 1048576) (fun x => x.2 - x.1) (0, 1048576) [some 0]
      ⟨by simp, by show R < 1048576 * n; rw [Nat.mul_comm]; exact hRn, by decide, by decide⟩ ⟨rfl, rfl, ⟨entB_rows rfl rfl rfl rfl rfl, trivial⟩, ⟨rfl, rfl, ent_own rfl rfl, rfl, ent_i ei, rfl, rfl, trivial⟩⟩ ?_
    rintro ⟨lo, hi⟩ ⟨i1, i2, i3, i4⟩
    have i1 : lo * n ≤ R := i1
    have i2 : R < hi * n := i2
    have i3 : lo < hi := i3
    have i4 : hi ≤ 1048576 := i4
    have ln1 : (dg n).length ≤ 200000 := ln
    by_cases hc : 1 < hi - lo
    · have hmid : (((lo : Int) + hi) / 2) = (((lo + hi) / 2 : Nat) : Int) := by omega
      generalize hM : (lo + hi) / 2 = mid at hmid
      have tm := r_times (dg n) [(mid : Int)] (okd_dg n) (by intro x hx; simp at hx; omega) (by omega) (by simp)
      have e0 : val [(mid : Int)] = mid := by simp [val]
      rw [e0, val_dg, show ((n : Int) * mid).toNat = n * mid by rw [← Int.natCast_mul]; rfl] at tm
      have lnm : (dg (n * mid)).length ≤ (dg n).length + 1 := Nat.le_trans (dg_mul_len _ _) (by have := bl_small (x := (mid : Int)) (by omega) (by omega); simp only [bl, Int.natAbs_natCast] at this; omega)
      have ls := r_less (dg R) (dg (n * mid)) (okd_dg _) (okd_dg _) (by omega) (by omega)
      rw [val_dg, val_dg] at ls
      conv => whnf
      (repeat' (first | ((refine DecB.mk (fun h => ?_) (fun h => ?_)) <;> first | (exfalso; omega) | (conv => whnf)) | ((refine BoolB.mk (fun h => ?_) (fun h => ?_)) <;> first | (exact absurd h (by decide)) | (conv => whnf)) | (refine ⟨_, wrap_ok (by omega) (by omega), ?_⟩; conv => whnf) | (refine and_idx (by omega) (by omega) ?_; conv => whnf) | (refine reg_ok (by decide +kernel) ?_; conv => whnf) | (refine bar_ok (by decide +kernel) (by decide +kernel) ?_; conv => whnf) | (refine late_ok rfl rfl ?_; conv => whnf) | (refine src_ok rfl ?_; conv => whnf) | (refine .inl ⟨_, _, qcall_pure (ls) rfl rfl, ?_⟩; conv => whnf) | (refine .inl ⟨_, _, qcall_pure (Int.tdiv_eq_ediv_of_nonneg (by omega)) rfl rfl, ?_⟩; conv => whnf) | (refine ⟨by decide, _, wrap_eq (y := (mid : Int)) (by rw [Int.tdiv_eq_ediv_of_nonneg (by omega)]; exact hmid) (by omega) (by omega), ?_⟩; conv => whnf) | (refine .inl ⟨_, _, qcall_data tm ⟨vs_t, vs_c (vc_t rfl), trivial⟩ rfl, ?_⟩; conv => whnf) | (refine LitB.data ?_; conv => whnf) | (refine BoxB.own ?_; conv => whnf)))
      · have hlt : R < n * mid := Int.ofNat_lt.1 (of_decide_eq_true (by assumption))
        exact ⟨[some 0], (lo, mid), ⟨rfl, rfl, ⟨entB_rows rfl rfl rfl rfl rfl, trivial⟩, ⟨rfl, rfl, ent_own rfl rfl, rfl, rfl, rfl, rfl, trivial⟩⟩, ⟨i1, by show R < mid * n; rw [Nat.mul_comm]; exact hlt, by show lo < mid; omega, by show mid ≤ 1048576; omega⟩, by show mid - lo < hi - lo; omega⟩
      · have hlt : n * mid ≤ R := Nat.not_lt.1 (fun h => absurd (Int.ofNat_lt.2 h) (of_decide_eq_false (by assumption)))
        exact ⟨[some 0], (mid, hi), ⟨rfl, rfl, ⟨entB_rows rfl rfl rfl rfl rfl, trivial⟩, ⟨rfl, rfl, ent_own rfl rfl, rfl, rfl, rfl, rfl, trivial⟩⟩, ⟨by show mid * n ≤ R; rw [Nat.mul_comm]; exact hlt, i2, by show mid < hi; omega, i4⟩, by show hi - mid < hi - lo; omega⟩
    · obtain rfl : hi = lo + 1 := by omega
      have hq : R / n = lo := by
        rw [Nat.div_eq_iff hn]
        rw [Nat.add_mul] at i2
        omega
      have hm2 := Nat.div_add_mod R n
      rw [hq] at hm2
      have hrm := Nat.mod_lt R hn
      have tl := r_trim [(lo : Int)] (by simp)
      rw [trimL_dg (by intro x hx; simp at hx; omega), show (val [(lo : Int)]).toNat = lo by simp [val]] at tl
      have llo : (dg lo).length ≤ 1 := by have := bl_small (x := (lo : Int)) (by omega) (by omega); simpa [bl] using this
      have tt := r_timesD n lo (by omega) (by omega)
      have mi := r_minus (dg R) (dg (n * lo)) (okd_dg _) (okd_dg _) (by omega) (dg_len_mono (by omega)) (by rw [val_dg, val_dg]; omega)
      rw [val_dg, val_dg, show ((R : Int) - ((n * lo : Nat) : Int)).toNat = R % n by omega] at mi
      have hst := hI.step (okd_dg m) (by omega)
      have c1 : ((r : Int) * 1048576 + dat (dg m) i) = (R : Int) := by rw [hy, ← hR]; simp
      rw [c1] at hst
      have c2 : (R : Int) / n = (lo : Int) := by rw [← hq]; simp
      have c3 : (R : Int) % n = ((R % n : Nat) : Int) := by simp
      rw [c2, c3] at hst
      have gq : q[0 + (i : Int).toNat]? = some (dat q i) := get_dat0 (by omega) (by omega)
      conv => whnf
      (repeat' (first | ((refine DecB.mk (fun h => ?_) (fun h => ?_)) <;> first | (exfalso; omega) | (conv => whnf)) | ((refine BoolB.mk (fun h => ?_) (fun h => ?_)) <;> first | (exact absurd h (by decide)) | (conv => whnf)) | (refine ⟨_, wrap_ok (by omega) (by omega), ?_⟩; conv => whnf) | (refine and_idx (by omega) (by omega) ?_; conv => whnf) | (refine reg_ok (by decide +kernel) ?_; conv => whnf) | (refine bar_ok (by decide +kernel) (by decide +kernel) ?_; conv => whnf) | (refine late_ok rfl rfl ?_; conv => whnf) | (refine src_ok rfl ?_; conv => whnf) | (refine .inl ⟨_, _, qcall_pure (tt) rfl rfl, ?_⟩; conv => whnf) | (refine .inl ⟨_, _, qcall_pure (mi) rfl rfl, ?_⟩; conv => whnf) | (refine .inl ⟨_, _, qcall_data tl ⟨vs_c (vc_t rfl), trivial⟩ rfl, ?_⟩; conv => whnf) | (refine and_idx (by omega) (by show _ < ((q.length : Nat) : Int); omega) ?_; conv => whnf) | (refine ex_own gq ?_; conv => whnf) | (refine LitB.data ?_; conv => whnf) | (refine BoxB.own ?_; conv => whnf)))
      all_goals try (exfalso; omega)
      refine ⟨[some 0], (i, q.set i lo, R % n), ⟨rfl, rfl, ⟨entB_rows rfl rfl rfl (toC_set (by omega)) rfl, trivial⟩, ⟨rfl, rfl, ent_own rfl (by simp), rfl, ent_i (by omega), trivial⟩⟩, hst, by show i < i + 1; omega⟩
  · obtain rfl : j = 0 := by omega
    obtain ⟨f1, f2⟩ := hI.fin (okd_dg m) (by omega)
    have tq := r_trim q (by have := hI.len; omega)
    rw [f1, val_dg, show ((m : Int) / n).toNat = m / n by rw [← Int.natCast_ediv]; rfl] at tq
    rw [val_dg] at f2
    have f3 : r = m % n := by
      have : (m : Int) % n = ((m % n : Nat) : Int) := by simp
      omega
    subst f3
    conv => whnf
    (repeat' (first | ((refine DecB.mk (fun h => ?_) (fun h => ?_)) <;> first | (exfalso; omega) | (conv => whnf)) | ((refine BoolB.mk (fun h => ?_) (fun h => ?_)) <;> first | (exact absurd h (by decide)) | (conv => whnf)) | (refine ⟨_, wrap_ok (by omega) (by omega), ?_⟩; conv => whnf) | (refine and_idx (by omega) (by omega) ?_; conv => whnf) | (refine reg_ok (by decide +kernel) ?_; conv => whnf) | (refine bar_ok (by decide +kernel) (by decide +kernel) ?_; conv => whnf) | (refine late_ok rfl rfl ?_; conv => whnf) | (refine src_ok rfl ?_; conv => whnf) | (refine .inl ⟨_, _, qcall_pure (0) rfl rfl, ?_⟩; conv => whnf) | (refine .inr ⟨_, _, acall_freeze [0] tq ⟨vs_c (vc_all (by simp) rfl (by intro h; cases h) rfl rfl (by simp)), trivial⟩ rfl, ?_⟩; conv => whnf) | (refine LitB.data ?_; conv => whnf) | (refine BoxB.own ?_; conv => whnf)))
    all_goals try (exfalso; omega)
    exact fin_t ⟨rfl, rfl, trivial⟩
end Go.Proofs.Ythinjkjhiembgaa
/- Reference of big and frac: Of, Right, Gcd, Div (exact), New, Int. -/
namespace Go.Proofs.Ythinjkjhiembgaa
open Go.RowKit
set_option linter.unusedVariables false
set_option linter.unusedSimpArgs false
set_option maxRecDepth 100000

theorem r_bigRight (b : Bg) (hl : b.dl.length ≤ 1000000) : ACall Try.prog 87 [bgS b] [] (boolS (rightB b)) [] := by
  have l2 : (b.dl.map intRow).length = b.dl.length := by simp
  (refine acall_of tab_ok Try.func87 rfl (by decide) ?_; (conv => whnf); repeat (first | (refine LitB.data ?_; conv => whnf) | (refine BoxB.data ?_; conv => whnf)))
  (repeat' (first | ((refine DecB.mk (fun h => ?_) (fun h => ?_)) <;> first | (exfalso; omega) | (conv => whnf)) | ((refine BoolB.mk (fun h => ?_) (fun h => ?_)) <;> first | (exact absurd h (by decide)) | (conv => whnf)) | (refine ⟨_, wrap_ok (by omega) (by omega), ?_⟩; conv => whnf) | (refine and_idx (by omega) (by omega) ?_; conv => whnf) | (refine reg_ok (by decide +kernel) ?_; conv => whnf) | (refine bar_ok (by decide +kernel) (by decide +kernel) ?_; conv => whnf) | (refine late_ok rfl rfl ?_; conv => whnf) | (refine src_ok rfl ?_; conv => whnf) | (refine LitB.data ?_; conv => whnf) | (refine BoxB.own ?_; conv => whnf)))
  refine awp_for tab_ok (fun k => ([S.junk, S.c (C.t (T.ptr [ti b.sg, intsT b.dl])), S.junk, intS .i64 k, S.junk, S.junk, S.junk, S.junk, S.junk, S.junk, S.junk, S.junk, S.junk, S.junk, S.junk, S.junk, S.junk, S.junk, S.junk, S.junk, S.junk, S.junk, S.junk, S.junk, S.junk, S.junk, S.junk, S.junk, S.junk, S.junk, S.junk, S.junk, S.junk, S.junk, S.junk, S.junk, S.junk, S.junk, S.junk, S.junk, S.junk, S.junk, S.junk, S.junk, S.junk, S.junk, S.junk, S.junk, S.junk, S.junk, S.junk, S.junk, S.junk, S.junk, S.junk, S.junk], [])) b.dl.length (fun k => (b.dl.take k).all inD = true) [] rfl
    ⟨rfl, rfl, trivial, ⟨ent_t rfl, rfl, trivial⟩⟩ ?_
  intro k hk hI
  by_cases hlt : k < b.dl.length
  · conv => whnf
    (repeat' (first | ((refine DecB.mk (fun h => ?_) (fun h => ?_)) <;> first | (exfalso; omega) | (conv => whnf)) | ((refine BoolB.mk (fun h => ?_) (fun h => ?_)) <;> first | (exact absurd h (by decide)) | (conv => whnf)) | (refine ⟨_, wrap_ok (by omega) (by omega), ?_⟩; conv => whnf) | (refine and_idx (by omega) (by omega) ?_; conv => whnf) | (refine reg_ok (by decide +kernel) ?_; conv => whnf) | (refine bar_ok (by decide +kernel) (by decide +kernel) ?_; conv => whnf) | (refine late_ok rfl rfl ?_; conv => whnf) | (refine src_ok rfl ?_; conv => whnf) | (refine ex_row (get_dat (by omega)) ?_; conv => whnf) | (refine LitB.data ?_; conv => whnf) | (refine BoxB.own ?_; conv => whnf)))
    all_goals first
      | (exfalso; omega)
      | exact ⟨hlt, by rw [all_take_succ (get_dat hlt), hI]; simp [inD]; omega, [], rfl, rfl, trivial, ⟨rfl, rfl, trivial⟩⟩
      | (refine fin_bool ?_; unfold rightB; rw [all_of_get (get_dat hlt) (by simp [inD]; omega)]; rfl)
  · have hke : k = b.dl.length := by omega
    subst hke
    have ha : b.dl.all inD = true := by rw [← hI, List.take_of_length_le (by omega)]
    have hgl : 0 < b.dl.length → b.dl[((((b.dl.map intRow).length : Nat) : Int) - 1).toNat]? = some (dat b.dl (b.dl.length - 1)) := fun h => by rw [l2]; exact get_last h
    conv => whnf
    (repeat' (first | ((refine DecB.mk (fun h => ?_) (fun h => ?_)) <;> first | (exfalso; omega) | (conv => whnf)) | ((refine BoolB.mk (fun h => ?_) (fun h => ?_)) <;> first | (exact absurd h (by decide)) | (conv => whnf)) | (refine ⟨_, wrap_ok (by omega) (by omega), ?_⟩; conv => whnf) | (refine and_idx (by omega) (by omega) ?_; conv => whnf) | (refine reg_ok (by decide +kernel) ?_; conv => whnf) | (refine bar_ok (by decide +kernel) (by decide +kernel) ?_; conv => whnf) | (refine late_ok rfl rfl ?_; conv => whnf) | (refine src_ok rfl ?_; conv => whnf) | (refine ex_rowI (by omega) (hgl (by omega)) ?_; conv => whnf) | (refine LitB.data ?_; conv => whnf) | (refine BoxB.own ?_; conv => whnf)))
    all_goals first
      | (exfalso; omega)
      | (exfalso; simp_all; done)
      | (exfalso; simp_all; omega)
      | skip
    all_goals
      refine fin_bool ?_
      unfold rightB
      rw [ha]
      by_cases hz : b.dl.length = 0
      · rw [if_pos hz]; simp_all <;> omega
      · rw [if_neg hz]; simp_all <;> omega
theorem r4Right (x : Int) (lx : bl x ≤ 300000) : ACall Try.prog 87 [bgS (bz x)] [] (boolS true) [] := by
  have := r_bigRight (bz x) (show bl x ≤ 1000000 by omega)
  rw [bz_right] at this
  exact this
theorem r4Of (n : Int) (h0 : -9223372036854775808 ≤ n) (h1 : n ≤ 9223372036854775807) : ACall Try.prog 69 [intS .i64 n] [] (bgS (bz n)) [] := by
  rcases Int.lt_trichotomy n 0 with hn | hn | hn
  · (refine acall_of tab_ok Try.func69 rfl (by decide) ?_; (conv => whnf); repeat (first | (refine LitB.data ?_; conv => whnf) | (refine BoxB.own ?_; conv => whnf)))
    (repeat' (first | ((refine DecB.mk (fun h => ?_) (fun h => ?_)) <;> first | (exfalso; omega) | (conv => whnf)) | ((refine BoolB.mk (fun h => ?_) (fun h => ?_)) <;> first | (exact absurd h (by decide)) | (conv => whnf)) | (refine ⟨_, wrap_ok (by omega) (by omega), ?_⟩; conv => whnf) | (refine and_idx (by omega) (by omega) ?_; conv => whnf) | (refine reg_ok (by decide +kernel) ?_; conv => whnf) | (refine bar_ok (by decide +kernel) (by decide +kernel) ?_; conv => whnf) | (refine late_ok rfl rfl ?_; conv => whnf) | (refine src_ok rfl ?_; conv => whnf) | (refine LitB.data ?_; conv => whnf) | (refine BoxB.own ?_; conv => whnf)))
    all_goals try (exfalso; omega)
    refine awp_while tab_ok (σ := List Int × Nat) (fun | (acc, u) => ([intS .i64 (- (u : Int)), S.junk, S.c (C.ptr 0 0 0), intS .i64 (-1), ownI 1 acc, S.junk, S.junk, S.junk, S.junk, S.junk, S.junk, S.junk, S.junk, S.junk, S.junk, S.junk, S.junk, S.junk, S.junk, S.junk, S.junk, S.junk, S.junk, S.junk, S.junk, S.junk, S.junk, S.junk], [zBox, intsB acc])) (fun s => OfI n s.1 s.2) (fun s => s.2) ([], n.natAbs) [some 0, none]
      ⟨rfl⟩ ⟨rfl, rfl, ⟨⟨rfl, rfl, rfl, .inl ⟨rfl, rowsT_z⟩⟩, ⟨rfl, rfl⟩, trivial⟩, ⟨ent_i (by omega), ⟨rfl, rfl, rfl⟩, rfl, ⟨rfl, rfl, rfl⟩, trivial⟩⟩ ?_
    rintro ⟨acc, u⟩ hI
    have hI : OfI n acc u := hI
    have hl := hI.len h0 h1
    have hu := hI.le
    have hm : (- (u : Int)).tmod 1048576 = - ((u : Int) % 1048576) := by
      first
        | exact Int.tmod_eq_emod_of_nonneg (by omega)
        | (rw [Int.neg_tmod, Int.tmod_eq_emod_of_nonneg (by omega)])
    have hd : (- (u : Int)).tdiv 1048576 = - ((u / 1048576 : Nat) : Int) := by
      first
        | (rw [Int.tdiv_eq_ediv_of_nonneg (by omega)]; simp; done)
        | (rw [Int.neg_tdiv, Int.tdiv_eq_ediv_of_nonneg (by omega)]; simp)
    by_cases hu0 : 0 < u
    · have hst := hI.step hu0
      conv => whnf
      (repeat' (first | ((refine DecB.mk (fun h => ?_) (fun h => ?_)) <;> first | (exfalso; omega) | (conv => whnf)) | ((refine BoolB.mk (fun h => ?_) (fun h => ?_)) <;> first | (exact absurd h (by decide)) | (conv => whnf)) | (refine ⟨_, wrap_ok (by omega) (by omega), ?_⟩; conv => whnf) | (refine and_idx (by omega) (by omega) ?_; conv => whnf) | (refine reg_ok (by decide +kernel) ?_; conv => whnf) | (refine bar_ok (by decide +kernel) (by decide +kernel) ?_; conv => whnf) | (refine late_ok rfl rfl ?_; conv => whnf) | (refine src_ok rfl ?_; conv => whnf) | (refine .inl ⟨_, _, qcall_pure (toC) rfl rfl, ?_⟩; conv => whnf) | (refine .inl ⟨_, _, qcall_pure (toC) rfl rfl, ?_⟩; conv => whnf) | (refine app_ok (by simp [toC]) (by simp [toC]; omega) ?_; conv => whnf) | (refine ⟨by decide, _, wrap_eq hd (by omega) (by omega), ?_⟩; conv => whnf) | (refine ne_ok (by decide) ?_; conv => whnf) | (refine LitB.data ?_; conv => whnf) | (refine BoxB.own ?_; conv => whnf)))
      all_goals try (exfalso; omega)
      all_goals
        refine ⟨[some 0, some 2], (acc ++ [(u : Int) % 1048576], u / 1048576), ⟨rfl, rfl, ⟨⟨rfl, rfl, rfl, .inl ⟨rfl, rowsT_z⟩⟩, entB_rows rfl rfl rfl ?_ rfl, trivial⟩, ⟨ent_i rfl, ⟨rfl, rfl, rfl⟩, rfl, ent_own rfl (by simp [toC]), trivial⟩⟩, hst, by show u / 1048576 < u; omega⟩
        have e : ∀ y : Int, y = (u : Int) % 1048576 → (toC (acc.map intRow)).take acc.length ++ toC [[ti y]] = toC ((acc ++ [(u : Int) % 1048576]).map intRow) := fun y hy => by rw [hy]; exact toC_app1
        exact e _ (by omega)
    · have h0u : u = 0 := by omega
      subst h0u
      have e : acc = dg n.natAbs := by have := hI.eq; rw [dg_zero, List.append_nil] at this; exact this
      have sg := r_madeD (-1) n.natAbs (by omega) (by rw [← e]; omega)
      rw [← e, show (-1) * (n.natAbs : Int) = n by omega] at sg
      conv => whnf
      (repeat' (first | ((refine DecB.mk (fun h => ?_) (fun h => ?_)) <;> first | (exfalso; omega) | (conv => whnf)) | ((refine BoolB.mk (fun h => ?_) (fun h => ?_)) <;> first | (exact absurd h (by decide)) | (conv => whnf)) | (refine ⟨_, wrap_ok (by omega) (by omega), ?_⟩; conv => whnf) | (refine and_idx (by omega) (by omega) ?_; conv => whnf) | (refine reg_ok (by decide +kernel) ?_; conv => whnf) | (refine bar_ok (by decide +kernel) (by decide +kernel) ?_; conv => whnf) | (refine late_ok rfl rfl ?_; conv => whnf) | (refine src_ok rfl ?_; conv => whnf) | (refine .inl ⟨_, _, qcall_pure (1) rfl rfl, ?_⟩; conv => whnf) | (refine .inr ⟨_, _, acall_freeze [1] sg ⟨vs_t, vs_c (vc_all (by simp) rfl (by intro h; cases h) rfl rfl (by simp)), trivial⟩ rfl, ?_⟩; conv => whnf) | (refine LitB.data ?_; conv => whnf) | (refine BoxB.own ?_; conv => whnf)))
      all_goals try (exfalso; omega)
      exact fin_t ⟨rfl, rfl, trivial⟩
  · subst hn
    (refine acall_of tab_ok Try.func69 rfl (by decide) ?_; (conv => whnf); repeat (first | (refine LitB.data ?_; conv => whnf) | (refine BoxB.own ?_; conv => whnf)))
    (repeat' (first | ((refine DecB.mk (fun h => ?_) (fun h => ?_)) <;> first | (exfalso; omega) | (conv => whnf)) | ((refine BoolB.mk (fun h => ?_) (fun h => ?_)) <;> first | (exact absurd h (by decide)) | (conv => whnf)) | (refine ⟨_, wrap_ok (by omega) (by omega), ?_⟩; conv => whnf) | (refine and_idx (by omega) (by omega) ?_; conv => whnf) | (refine reg_ok (by decide +kernel) ?_; conv => whnf) | (refine bar_ok (by decide +kernel) (by decide +kernel) ?_; conv => whnf) | (refine late_ok rfl rfl ?_; conv => whnf) | (refine src_ok rfl ?_; conv => whnf) | (refine LitB.data ?_; conv => whnf) | (refine BoxB.own ?_; conv => whnf)))
    all_goals first
      | (exfalso; omega)
      | exact fin_t ⟨rfl, rfl, trivial⟩
  · (refine acall_of tab_ok Try.func69 rfl (by decide) ?_; (conv => whnf); repeat (first | (refine LitB.data ?_; conv => whnf) | (refine BoxB.own ?_; conv => whnf)))
    (repeat' (first | ((refine DecB.mk (fun h => ?_) (fun h => ?_)) <;> first | (exfalso; omega) | (conv => whnf)) | ((refine BoolB.mk (fun h => ?_) (fun h => ?_)) <;> first | (exact absurd h (by decide)) | (conv => whnf)) | (refine ⟨_, wrap_ok (by omega) (by omega), ?_⟩; conv => whnf) | (refine and_idx (by omega) (by omega) ?_; conv => whnf) | (refine reg_ok (by decide +kernel) ?_; conv => whnf) | (refine bar_ok (by decide +kernel) (by decide +kernel) ?_; conv => whnf) | (refine late_ok rfl rfl ?_; conv => whnf) | (refine src_ok rfl ?_; conv => whnf) | (refine LitB.data ?_; conv => whnf) | (refine BoxB.own ?_; conv => whnf)))
    all_goals try (exfalso; omega)
    refine awp_while tab_ok (σ := List Int × Nat) (fun | (acc, u) => ([intS .i64 ((u : Int)), S.junk, S.c (C.ptr 0 0 0), intS .i64 (1), ownI 1 acc, S.junk, S.junk, S.junk, S.junk, S.junk, S.junk, S.junk, S.junk, S.junk, S.junk, S.junk, S.junk, S.junk, S.junk, S.junk, S.junk, S.junk, S.junk, S.junk, S.junk, S.junk, S.junk, S.junk], [zBox, intsB acc])) (fun s => OfI n s.1 s.2) (fun s => s.2) ([], n.natAbs) [some 0, none]
      ⟨rfl⟩ ⟨rfl, rfl, ⟨⟨rfl, rfl, rfl, .inl ⟨rfl, rowsT_z⟩⟩, ⟨rfl, rfl⟩, trivial⟩, ⟨ent_i (by omega), ⟨rfl, rfl, rfl⟩, rfl, ⟨rfl, rfl, rfl⟩, trivial⟩⟩ ?_
    rintro ⟨acc, u⟩ hI
    have hI : OfI n acc u := hI
    have hl := hI.len h0 h1
    have hu := hI.le
    have hm : ((u : Int)).tmod 1048576 = ((u : Int) % 1048576) := by
      first
        | exact Int.tmod_eq_emod_of_nonneg (by omega)
        | (rw [Int.neg_tmod, Int.tmod_eq_emod_of_nonneg (by omega)])
    have hd : ((u : Int)).tdiv 1048576 = ((u / 1048576 : Nat) : Int) := by
      first
        | (rw [Int.tdiv_eq_ediv_of_nonneg (by omega)]; simp; done)
        | (rw [Int.neg_tdiv, Int.tdiv_eq_ediv_of_nonneg (by omega)]; simp)
    by_cases hu0 : 0 < u
    · have hst := hI.step hu0
      conv => whnf
      (repeat' (first | ((refine DecB.mk (fun h => ?_) (fun h => ?_)) <;> first | (exfalso; omega) | (conv => whnf)) | ((refine BoolB.mk (fun h => ?_) (fun h => ?_)) <;> first | (exact absurd h (by decide)) | (conv => whnf)) | (refine ⟨_, wrap_ok (by omega) (by omega), ?_⟩; conv => whnf) | (refine and_idx (by omega) (by omega) ?_; conv => whnf) | (refine reg_ok (by decide +kernel) ?_; conv => whnf) | (refine bar_ok (by decide +kernel) (by decide +kernel) ?_; conv => whnf) | (refine late_ok rfl rfl ?_; conv => whnf) | (refine src_ok rfl ?_; conv => whnf) | (refine .inl ⟨_, _, qcall_pure (toC) rfl rfl, ?_⟩; conv => whnf) | (refine .inl ⟨_, _, qcall_pure (toC) rfl rfl, ?_⟩; conv => whnf) | (refine app_ok (by simp [toC]) (by simp [toC]; omega) ?_; conv => whnf) | (refine ⟨by decide, _, wrap_eq hd (by omega) (by omega), ?_⟩; conv => whnf) | (refine ne_ok (by decide) ?_; conv => whnf) | (refine LitB.data ?_; conv => whnf) | (refine BoxB.own ?_; conv => whnf)))
      all_goals try (exfalso; omega)
      all_goals
        refine ⟨[some 0, some 2], (acc ++ [(u : Int) % 1048576], u / 1048576), ⟨rfl, rfl, ⟨⟨rfl, rfl, rfl, .inl ⟨rfl, rowsT_z⟩⟩, entB_rows rfl rfl rfl ?_ rfl, trivial⟩, ⟨ent_i rfl, ⟨rfl, rfl, rfl⟩, rfl, ent_own rfl (by simp [toC]), trivial⟩⟩, hst, by show u / 1048576 < u; omega⟩
        have e : ∀ y : Int, y = (u : Int) % 1048576 → (toC (acc.map intRow)).take acc.length ++ toC [[ti y]] = toC ((acc ++ [(u : Int) % 1048576]).map intRow) := fun y hy => by rw [hy]; exact toC_app1
        exact e _ (by omega)
    · have h0u : u = 0 := by omega
      subst h0u
      have e : acc = dg n.natAbs := by have := hI.eq; rw [dg_zero, List.append_nil] at this; exact this
      have sg := r_madeD (1) n.natAbs (by omega) (by rw [← e]; omega)
      rw [← e, show (1) * (n.natAbs : Int) = n by omega] at sg
      conv => whnf
      (repeat' (first | ((refine DecB.mk (fun h => ?_) (fun h => ?_)) <;> first | (exfalso; omega) | (conv => whnf)) | ((refine BoolB.mk (fun h => ?_) (fun h => ?_)) <;> first | (exact absurd h (by decide)) | (conv => whnf)) | (refine ⟨_, wrap_ok (by omega) (by omega), ?_⟩; conv => whnf) | (refine and_idx (by omega) (by omega) ?_; conv => whnf) | (refine reg_ok (by decide +kernel) ?_; conv => whnf) | (refine bar_ok (by decide +kernel) (by decide +kernel) ?_; conv => whnf) | (refine late_ok rfl rfl ?_; conv => whnf) | (refine src_ok rfl ?_; conv => whnf) | (refine .inl ⟨_, _, qcall_pure (1) rfl rfl, ?_⟩; conv => whnf) | (refine .inr ⟨_, _, acall_freeze [1] sg ⟨vs_t, vs_c (vc_all (by simp) rfl (by intro h; cases h) rfl rfl (by simp)), trivial⟩ rfl, ?_⟩; conv => whnf) | (refine LitB.data ?_; conv => whnf) | (refine BoxB.own ?_; conv => whnf)))
      all_goals try (exfalso; omega)
      exact fin_t ⟨rfl, rfl, trivial⟩
theorem r4Gcd (x y : Int) (lx : bl x ≤ 200000) (ly : bl y ≤ 200000) : ACall Try.prog 89 [bgS (bz x), bgS (bz y)] [] (.tup [bgS (bz (Int.gcd x y)), intS .i64 0]) [] := by
  have r1 := r4Right x (by omega)
  have r2 := r4Right y (by omega)
  (refine acall_of tab_ok Try.func89 rfl (by decide) ?_; (conv => whnf); repeat (first | (refine LitB.data ?_; conv => whnf) | (refine BoxB.own ?_; conv => whnf)))
  (repeat' (first | ((refine DecB.mk (fun h => ?_) (fun h => ?_)) <;> first | (exfalso; omega) | (conv => whnf)) | ((refine BoolB.mk (fun h => ?_) (fun h => ?_)) <;> first | (exact absurd h (by decide)) | (conv => whnf)) | (refine ⟨_, wrap_ok (by omega) (by omega), ?_⟩; conv => whnf) | (refine and_idx (by omega) (by omega) ?_; conv => whnf) | (refine reg_ok (by decide +kernel) ?_; conv => whnf) | (refine bar_ok (by decide +kernel) (by decide +kernel) ?_; conv => whnf) | (refine late_ok rfl rfl ?_; conv => whnf) | (refine src_ok rfl ?_; conv => whnf) | (refine .inl ⟨_, _, qcall_pure (r1) rfl rfl, ?_⟩; conv => whnf) | (refine .inl ⟨_, _, qcall_pure (r2) rfl rfl, ?_⟩; conv => whnf) | (refine LitB.data ?_; conv => whnf) | (refine BoxB.own ?_; conv => whnf)))
  all_goals first
    | (exfalso; simp_all; done)
    | skip
  refine awp_while tab_ok (σ := Nat × Nat) (fun | (X, Y) => ([S.junk, S.junk, S.junk, S.junk, S.c (C.ptr 0 0 0), S.junk, intsS (dg X), intsS (dg Y), S.junk, S.junk, S.junk, S.junk, S.junk, S.junk, S.junk, S.junk, S.junk, S.junk, S.junk, S.junk, S.junk, S.junk, S.junk, S.junk, S.junk, S.junk, S.junk, S.junk, S.junk, S.junk, S.junk, S.junk, S.junk, S.junk, S.junk, S.junk], [zBox])) (fun s => GcdI x y s.1 s.2) (fun s => s.2) (x.natAbs, y.natAbs) [some 2]
    ⟨rfl, lx, ly⟩ ⟨rfl, rfl, ⟨⟨rfl, rfl, rfl, .inl ⟨rfl, rowsT_z⟩⟩, trivial⟩, ⟨⟨rfl, rfl, rfl⟩, rfl, rfl, trivial⟩⟩ ?_
  rintro ⟨X, Y⟩ hI
  have hI : GcdI x y X Y := hI
  obtain ⟨g1, g2, g3⟩ := hI
  have l2 : ((dg Y).map intRow).length = (dg Y).length := by simp
  by_cases hY : 0 < Y
  · have hp : (dg Y).length ≠ 0 := by rw [Ne, List.length_eq_zero_iff, dg_eq_nil]; omega
    have dv := r_over X Y hY (by omega) (by omega)
    conv => whnf
    (repeat' (first | ((refine DecB.mk (fun h => ?_) (fun h => ?_)) <;> first | (exfalso; omega) | (conv => whnf)) | ((refine BoolB.mk (fun h => ?_) (fun h => ?_)) <;> first | (exact absurd h (by decide)) | (conv => whnf)) | (refine ⟨_, wrap_ok (by omega) (by omega), ?_⟩; conv => whnf) | (refine and_idx (by omega) (by omega) ?_; conv => whnf) | (refine reg_ok (by decide +kernel) ?_; conv => whnf) | (refine bar_ok (by decide +kernel) (by decide +kernel) ?_; conv => whnf) | (refine late_ok rfl rfl ?_; conv => whnf) | (refine src_ok rfl ?_; conv => whnf) | (refine .inl ⟨_, _, qcall_pure (dv) rfl rfl, ?_⟩; conv => whnf) | (refine LitB.data ?_; conv => whnf) | (refine BoxB.own ?_; conv => whnf)))
    all_goals first
      | (exfalso; omega)
      | exact ⟨[some 0], (Y, X % Y), ⟨rfl, rfl, ⟨⟨rfl, rfl, rfl, .inl ⟨rfl, rowsT_z⟩⟩, trivial⟩, ⟨⟨rfl, rfl, rfl⟩, rfl, rfl, trivial⟩⟩, ⟨by rw [← g1, Nat.gcd_comm Y, ← Nat.gcd_rec, Nat.gcd_comm], g3, Nat.le_trans (dg_len_mono (Nat.le_of_lt (Nat.mod_lt X hY))) g3⟩, Nat.mod_lt X hY⟩
  · have hY : Y = 0 := by omega
    subst hY
    have hp : (dg 0).length = 0 := rfl
    have s1 := r_madeD 1 X (by simp) (by omega)
    conv => whnf
    (repeat' (first | ((refine DecB.mk (fun h => ?_) (fun h => ?_)) <;> first | (exfalso; omega) | (conv => whnf)) | ((refine BoolB.mk (fun h => ?_) (fun h => ?_)) <;> first | (exact absurd h (by decide)) | (conv => whnf)) | (refine ⟨_, wrap_ok (by omega) (by omega), ?_⟩; conv => whnf) | (refine and_idx (by omega) (by omega) ?_; conv => whnf) | (refine reg_ok (by decide +kernel) ?_; conv => whnf) | (refine bar_ok (by decide +kernel) (by decide +kernel) ?_; conv => whnf) | (refine late_ok rfl rfl ?_; conv => whnf) | (refine src_ok rfl ?_; conv => whnf) | (refine .inl ⟨_, _, qcall_pure (s1) rfl rfl, ?_⟩; conv => whnf) | (refine LitB.data ?_; conv => whnf) | (refine BoxB.own ?_; conv => whnf)))
    all_goals first
      | (exfalso; omega)
      | skip
    refine fin_be ?_
    rw [Int.one_mul, show X = Int.gcd x y by rw [Int.gcd, ← g1, Nat.gcd_zero_right]]
theorem r4Div (x y : Int) (hy : 0 < y) (hxy : x % y = 0) (lx : bl x ≤ 200000) (ly : bl y ≤ 200000) : ACall Try.prog 90 [bgS (bz x), bgS (bz y)] [] (.tup [bgS (bz (x / y)), bgS (bz 0), intS .i64 0]) [] := by
  have r1 := r4Right x (by omega)
  have r2 := r4Right y (by omega)
  have hys : (bz y).sg = 1 := by rw [bz_sg, Int.sign_eq_one_of_pos hy]
  have ov := r_over x.natAbs y.natAbs (by omega) lx ly
  have hmod : x.natAbs % y.natAbs = 0 := by
    have := Int.natAbs_dvd_natAbs.2 (Int.dvd_of_emod_eq_zero hxy)
    exact Nat.mod_eq_zero_of_dvd this
  have lq := dg_len_mono (Nat.div_le_self x.natAbs y.natAbs)
  have hsg : (bz x).sg = x.sign := rfl
  have hs := sign_cases x
  have hq : x.sign * ((x.natAbs / y.natAbs : Nat) : Int) = x / y := by
    obtain ⟨k, hk⟩ := Int.dvd_of_emod_eq_zero hxy
    subst hk
    have hk2 : (y * k) / y = k := Int.mul_ediv_cancel_left _ (by omega)
    rw [hk2, Int.natAbs_mul, Nat.mul_div_cancel_left _ (by omega), Int.sign_mul, Int.sign_eq_one_of_pos hy, Int.one_mul]
    exact Int.sign_mul_natAbs k
  have s1 := r_madeD x.sign (x.natAbs / y.natAbs) (by
    rcases hs with ⟨h, h1⟩ | ⟨h, h1⟩ | ⟨h, h1⟩
    · right; right; subst h1; simp
    · exact .inl h
    · exact .inr (.inl h)) (by unfold bl at lx; omega)
  rw [hq] at s1
  have s2 := r_madeD x.sign 0 (by simp) (by rw [dg_zero]; simp)
  rw [show x.sign * ((0 : Nat) : Int) = 0 by simp] at s2
  have hmul : x.sign * 1 = x.sign := Int.mul_one _
  have hd0 : ((dg (x.natAbs % y.natAbs)).map intRow).length = 0 := by rw [hmod, dg_zero]; rfl
  unfold divS at ov
  rw [hmod] at ov hd0
  (refine acall_of tab_ok Try.func90 rfl (by decide) ?_; (conv => whnf); repeat (first | (refine LitB.data ?_; conv => whnf) | (refine BoxB.own ?_; conv => whnf)))
  (repeat' (first | ((refine DecB.mk (fun h => ?_) (fun h => ?_)) <;> first | (exfalso; omega) | (conv => whnf)) | ((refine BoolB.mk (fun h => ?_) (fun h => ?_)) <;> first | (exact absurd h (by decide)) | (conv => whnf)) | (refine ⟨_, wrap_ok (by omega) (by omega), ?_⟩; conv => whnf) | (refine and_idx (by omega) (by omega) ?_; conv => whnf) | (refine reg_ok (by decide +kernel) ?_; conv => whnf) | (refine bar_ok (by decide +kernel) (by decide +kernel) ?_; conv => whnf) | (refine late_ok rfl rfl ?_; conv => whnf) | (refine src_ok rfl ?_; conv => whnf) | (refine .inl ⟨_, _, qcall_pure (r1) rfl rfl, ?_⟩; conv => whnf) | (refine .inl ⟨_, _, qcall_pure (r2) rfl rfl, ?_⟩; conv => whnf) | (refine .inl ⟨_, _, qcall_pure (ov) rfl rfl, ?_⟩; conv => whnf) | (refine .inl ⟨_, _, qcall_pure (s1) rfl rfl, ?_⟩; conv => whnf) | (refine .inl ⟨_, _, qcall_pure (s2) rfl rfl, ?_⟩; conv => whnf) | (refine .inl ⟨_, _, qcall_pure (hys, hsg) rfl rfl, ?_⟩; conv => whnf) | (refine ⟨_, wrap_eq (y := x.sign) (by rw [hys, hsg]; exact hmul) (by omega) (by omega), ?_⟩; conv => whnf) | (refine LitB.data ?_; conv => whnf) | (refine BoxB.own ?_; conv => whnf)))
  all_goals first
    | (exfalso; omega)
    | (exfalso; simp_all; done)
    | exact fin_be2 rfl rfl
theorem r5New (p q : Int) (hq : 0 < q) (lp : bl p ≤ 200000) (lq : bl q ≤ 200000) : ACall Try.prog 68 [bgS (bz p), bgS (bz q)] [] (.tup [frS (fz (Rat.divInt p q)), intS .i64 0]) [] := by
  have r1 := r4Right p (by omega)
  have r2 := r4Right q (by omega)
  have hsg : (bz q).sg = 1 := by rw [bz_sg, Int.sign_eq_one_of_pos hq]
  have lg := bl_gcd p q lp lq
  have hg : 0 < (Int.gcd p q : Int) := by have := Int.gcd_pos_of_ne_zero_right p (b := q) (by omega); omega
  have g := r4Gcd p q lp lq
  have d1 := r4Div p _ hg (Int.emod_eq_zero_of_dvd (Int.gcd_dvd_left ..)) lp lg
  have d2 := r4Div q _ hg (Int.emod_eq_zero_of_dvd (Int.gcd_dvd_right ..)) lq lg
  have e := fz_divInt (p := p) (q := q) (by omega) rfl
  (refine acall_of tab_ok Try.func68 rfl (by decide) ?_; (conv => whnf); repeat (first | (refine LitB.data ?_; conv => whnf) | (refine BoxB.own ?_; conv => whnf)))
  (repeat' (first | ((refine DecB.mk (fun h => ?_) (fun h => ?_)) <;> first | (exfalso; omega) | (conv => whnf)) | ((refine BoolB.mk (fun h => ?_) (fun h => ?_)) <;> first | (exact absurd h (by decide)) | (conv => whnf)) | (refine ⟨_, wrap_ok (by omega) (by omega), ?_⟩; conv => whnf) | (refine and_idx (by omega) (by omega) ?_; conv => whnf) | (refine reg_ok (by decide +kernel) ?_; conv => whnf) | (refine bar_ok (by decide +kernel) (by decide +kernel) ?_; conv => whnf) | (refine late_ok rfl rfl ?_; conv => whnf) | (refine src_ok rfl ?_; conv => whnf) | (refine .inl ⟨_, _, qcall_pure (r1) rfl rfl, ?_⟩; conv => whnf) | (refine .inl ⟨_, _, qcall_pure (r2) rfl rfl, ?_⟩; conv => whnf) | (refine .inl ⟨_, _, qcall_pure (g) rfl rfl, ?_⟩; conv => whnf) | (refine .inl ⟨_, _, qcall_pure (d1) rfl rfl, ?_⟩; conv => whnf) | (refine .inl ⟨_, _, qcall_pure (d2) rfl rfl, ?_⟩; conv => whnf) | (refine LitB.data ?_; conv => whnf) | (refine BoxB.own ?_; conv => whnf)))
  all_goals first
    | (exfalso; omega)
    | (exfalso; simp_all; done)
    | exact fin_fe e.symm
theorem r5Of (p q : Int) (hq : 0 < q) (p0 : -9223372036854775808 ≤ p) (p1 : p ≤ 9223372036854775807) (q1 : q ≤ 9223372036854775807) :
    ACall Try.prog 47 [intS .i64 p, intS .i64 q] [] (.tup [frS (fz (Rat.divInt p q)), intS .i64 0]) [] := by
  have l1 := bl_int p0 p1
  have l2 := bl_int (x := q) (by omega) q1
  have o1 := r4Of p p0 p1
  have o2 := r4Of q (by omega) q1
  have n := r5New p q hq (by omega) (by omega)
  (refine acall_of tab_ok Try.func47 rfl (by decide) ?_; (conv => whnf); repeat (first | (refine LitB.data ?_; conv => whnf) | (refine BoxB.own ?_; conv => whnf)))
  (repeat' (first | ((refine DecB.mk (fun h => ?_) (fun h => ?_)) <;> first | (exfalso; omega) | (conv => whnf)) | ((refine BoolB.mk (fun h => ?_) (fun h => ?_)) <;> first | (exact absurd h (by decide)) | (conv => whnf)) | (refine ⟨_, wrap_ok (by omega) (by omega), ?_⟩; conv => whnf) | (refine and_idx (by omega) (by omega) ?_; conv => whnf) | (refine reg_ok (by decide +kernel) ?_; conv => whnf) | (refine bar_ok (by decide +kernel) (by decide +kernel) ?_; conv => whnf) | (refine late_ok rfl rfl ?_; conv => whnf) | (refine src_ok rfl ?_; conv => whnf) | (refine .inl ⟨_, _, qcall_pure (o1) rfl rfl, ?_⟩; conv => whnf) | (refine .inl ⟨_, _, qcall_pure (o2) rfl rfl, ?_⟩; conv => whnf) | (refine .inl ⟨_, _, qcall_pure (n) rfl rfl, ?_⟩; conv => whnf) | (refine LitB.data ?_; conv => whnf) | (refine BoxB.own ?_; conv => whnf)))
  all_goals exact fin_fe rfl
theorem r5Int (n : Int) (p0 : -9223372036854775808 ≤ n) (p1 : n ≤ 9223372036854775807) : ACall Try.prog 20 [intS .i64 n] [] (frS (fz (n : Rat))) [] := by
  have o := r5Of n 1 (by decide) p0 p1 (by decide)
  have e : Rat.divInt n 1 = (n : Rat) := by rw [Rat.divInt_eq_div]; simp; grind
  rw [e] at o
  (refine acall_of tab_ok Try.func20 rfl (by decide) ?_; (conv => whnf); repeat (first | (refine LitB.data ?_; conv => whnf) | (refine BoxB.own ?_; conv => whnf)))
  (repeat' (first | ((refine DecB.mk (fun h => ?_) (fun h => ?_)) <;> first | (exfalso; omega) | (conv => whnf)) | ((refine BoolB.mk (fun h => ?_) (fun h => ?_)) <;> first | (exact absurd h (by decide)) | (conv => whnf)) | (refine ⟨_, wrap_ok (by omega) (by omega), ?_⟩; conv => whnf) | (refine and_idx (by omega) (by omega) ?_; conv => whnf) | (refine reg_ok (by decide +kernel) ?_; conv => whnf) | (refine bar_ok (by decide +kernel) (by decide +kernel) ?_; conv => whnf) | (refine late_ok rfl rfl ?_; conv => whnf) | (refine src_ok rfl ?_; conv => whnf) | (refine .inl ⟨_, _, qcall_pure (o) rfl rfl, ?_⟩; conv => whnf) | (refine LitB.data ?_; conv => whnf) | (refine BoxB.own ?_; conv => whnf)))
  all_goals exact fin_t ⟨rfl, rfl, rfl, rfl, trivial⟩
end Go.Proofs.Ythinjkjhiembgaa
/- Small references: Few, Little, Same; few. -/
namespace Go.Proofs.Ythinjkjhiembgaa
open Go.RowKit
set_option linter.unusedVariables false
set_option linter.unusedSimpArgs false
set_option maxRecDepth 100000

theorem a_SameBig (b : Bg) (hl : b.dl.length ≤ 1000000) : ACall Try.prog 51 [bgS b, bgS b] [] (boolS true) [] := by
  have l2 : (b.dl.map intRow).length = b.dl.length := by simp
  (refine acall_of tab_ok Try.func51 rfl (by decide) ?_; (conv => whnf); repeat (first | (refine LitB.data ?_; conv => whnf) | (refine BoxB.data ?_; conv => whnf)))
  (repeat' (first | ((refine DecB.mk (fun h => ?_) (fun h => ?_)) <;> first | (exfalso; omega) | (conv => whnf)) | ((refine BoolB.mk (fun h => ?_) (fun h => ?_)) <;> first | (exact absurd h (by decide)) | (conv => whnf)) | (refine ⟨_, wrap_ok (by omega) (by omega), ?_⟩; conv => whnf) | (refine and_idx (by omega) (by omega) ?_; conv => whnf) | (refine reg_ok (by decide +kernel) ?_; conv => whnf) | (refine bar_ok (by decide +kernel) (by decide +kernel) ?_; conv => whnf) | (refine late_ok rfl rfl ?_; conv => whnf) | (refine src_ok rfl ?_; conv => whnf) | (refine LitB.data ?_; conv => whnf) | (refine BoxB.own ?_; conv => whnf)))
  all_goals try (exfalso; omega)
  refine awp_for tab_ok (fun k => ([S.junk, S.junk, S.c (C.t (T.ptr [ti b.sg, intsT b.dl])), S.c (C.t (T.ptr [ti b.sg, intsT b.dl])), S.junk, intS .i64 k, S.junk, S.junk, S.junk, S.junk, S.junk, S.junk, S.junk, S.junk, S.junk, S.junk, S.junk, S.junk, S.junk, S.junk, S.junk, S.junk, S.junk, S.junk, S.junk, S.junk, S.junk, S.junk, S.junk, S.junk, S.junk, S.junk, S.junk, S.junk, S.junk, S.junk, S.junk, S.junk], [])) b.dl.length (fun _ => True) [] trivial
    ⟨rfl, rfl, trivial, ⟨rfl, rfl, rfl, trivial⟩⟩ ?_
  intro k hk _
  by_cases hlt : k < b.dl.length
  · conv => whnf
    (repeat' (first | ((refine DecB.mk (fun h => ?_) (fun h => ?_)) <;> first | (exfalso; omega) | (conv => whnf)) | ((refine BoolB.mk (fun h => ?_) (fun h => ?_)) <;> first | (exact absurd h (by decide)) | (conv => whnf)) | (refine ⟨_, wrap_ok (by omega) (by omega), ?_⟩; conv => whnf) | (refine and_idx (by omega) (by omega) ?_; conv => whnf) | (refine reg_ok (by decide +kernel) ?_; conv => whnf) | (refine bar_ok (by decide +kernel) (by decide +kernel) ?_; conv => whnf) | (refine late_ok rfl rfl ?_; conv => whnf) | (refine src_ok rfl ?_; conv => whnf) | (refine ex_row (get_dat (by omega)) ?_; conv => whnf) | (refine LitB.data ?_; conv => whnf) | (refine BoxB.own ?_; conv => whnf)))
    all_goals first
      | (exfalso; omega)
      | exact ⟨hlt, trivial, [], rfl, rfl, trivial, ⟨rfl, rfl, rfl, trivial⟩⟩
  · conv => whnf
    (repeat' (first | ((refine DecB.mk (fun h => ?_) (fun h => ?_)) <;> first | (exfalso; omega) | (conv => whnf)) | ((refine BoolB.mk (fun h => ?_) (fun h => ?_)) <;> first | (exact absurd h (by decide)) | (conv => whnf)) | (refine ⟨_, wrap_ok (by omega) (by omega), ?_⟩; conv => whnf) | (refine and_idx (by omega) (by omega) ?_; conv => whnf) | (refine reg_ok (by decide +kernel) ?_; conv => whnf) | (refine bar_ok (by decide +kernel) (by decide +kernel) ?_; conv => whnf) | (refine late_ok rfl rfl ?_; conv => whnf) | (refine src_ok rfl ?_; conv => whnf) | (refine LitB.data ?_; conv => whnf) | (refine BoxB.own ?_; conv => whnf)))
    all_goals first
      | (exfalso; omega)
      | exact fin_bool rfl
theorem a_SameF (f : Fr) (lp : f.p.dl.length ≤ 1000000) (lq : f.q.dl.length ≤ 1000000) : ACall Try.prog 23 [frS f, frS f] [] (boolS true) [] := by
  have s1 := a_SameBig f.p lp
  have s2 := a_SameBig f.q lq
  (refine acall_of tab_ok Try.func23 rfl (by decide) ?_; (conv => whnf); repeat (first | (refine LitB.data ?_; conv => whnf) | (refine BoxB.data ?_; conv => whnf)))
  (repeat' (first | ((refine DecB.mk (fun h => ?_) (fun h => ?_)) <;> first | (exfalso; omega) | (conv => whnf)) | ((refine BoolB.mk (fun h => ?_) (fun h => ?_)) <;> first | (exact absurd h (by decide)) | (conv => whnf)) | (refine ⟨_, wrap_ok (by omega) (by omega), ?_⟩; conv => whnf) | (refine and_idx (by omega) (by omega) ?_; conv => whnf) | (refine reg_ok (by decide +kernel) ?_; conv => whnf) | (refine bar_ok (by decide +kernel) (by decide +kernel) ?_; conv => whnf) | (refine late_ok rfl rfl ?_; conv => whnf) | (refine src_ok rfl ?_; conv => whnf) | (refine .inl ⟨_, _, qcall_pure (s1) rfl rfl, ?_⟩; conv => whnf) | (refine .inl ⟨_, _, qcall_pure (s2) rfl rfl, ?_⟩; conv => whnf) | (refine LitB.data ?_; conv => whnf) | (refine BoxB.own ?_; conv => whnf)))
  all_goals first
    | (exfalso; simp_all; done)
    | exact fin_bool rfl
def fewF (n : Int) (f : Fr) : Bool := decide ((f.p.dl.length : Int) ≤ n) && decide ((f.q.dl.length : Int) ≤ n)
theorem a_FewF (f : Fr) (n : Int) : ACall Try.prog 17 [frS f, intS .i64 n] [] (boolS (fewF n f)) [] := by
  have l1 : (f.p.dl.map intRow).length = f.p.dl.length := by simp
  have l2 : (f.q.dl.map intRow).length = f.q.dl.length := by simp
  (refine acall_of tab_ok Try.func17 rfl (by decide) ?_; (conv => whnf); repeat (first | (refine LitB.data ?_; conv => whnf) | (refine BoxB.data ?_; conv => whnf)))
  (repeat' (first | ((refine DecB.mk (fun h => ?_) (fun h => ?_)) <;> first | (exfalso; omega) | (conv => whnf)) | ((refine BoolB.mk (fun h => ?_) (fun h => ?_)) <;> first | (exact absurd h (by decide)) | (conv => whnf)) | (refine ⟨_, wrap_ok (by omega) (by omega), ?_⟩; conv => whnf) | (refine and_idx (by omega) (by omega) ?_; conv => whnf) | (refine reg_ok (by decide +kernel) ?_; conv => whnf) | (refine bar_ok (by decide +kernel) (by decide +kernel) ?_; conv => whnf) | (refine late_ok rfl rfl ?_; conv => whnf) | (refine src_ok rfl ?_; conv => whnf) | (refine LitB.data ?_; conv => whnf) | (refine BoxB.own ?_; conv => whnf)))
  all_goals (refine fin_bool ?_; unfold fewF; simp; omega)
def little (e : Ev) : Bool := decide (e.moves.length ≤ 14) && decide (e.places.length ≤ 14) && decide (e.certs.length ≤ 20) && decide (e.purities.length ≤ 20) && decide (e.recalls.length ≤ 10) && (decide (e.mats ≤ 6) || decide (e.mats > 6))
theorem a_Little (e : Ev) : ACall Try.prog 29 [evS e] [] (boolS (little e)) [] := by
  have l1 : (e.moves.map Move.row).length = e.moves.length := by simp
  have l2 : (e.places.map Place.row).length = e.places.length := by simp
  have l3 : (e.certs.map Cert.row).length = e.certs.length := by simp
  have l4 : (e.purities.map Purity.row).length = e.purities.length := by simp
  have l5 : (e.recalls.map Recall.row).length = e.recalls.length := by simp
  (refine acall_of tab_ok Try.func29 rfl (by decide) ?_; (conv => whnf); repeat (first | (refine LitB.data ?_; conv => whnf) | (refine BoxB.data ?_; conv => whnf)))
  (repeat' (first | ((refine DecB.mk (fun h => ?_) (fun h => ?_)) <;> first | (exfalso; omega) | (conv => whnf)) | ((refine BoolB.mk (fun h => ?_) (fun h => ?_)) <;> first | (exact absurd h (by decide)) | (conv => whnf)) | (refine ⟨_, wrap_ok (by omega) (by omega), ?_⟩; conv => whnf) | (refine and_idx (by omega) (by omega) ?_; conv => whnf) | (refine reg_ok (by decide +kernel) ?_; conv => whnf) | (refine bar_ok (by decide +kernel) (by decide +kernel) ?_; conv => whnf) | (refine late_ok rfl rfl ?_; conv => whnf) | (refine src_ok rfl ?_; conv => whnf) | (refine LitB.data ?_; conv => whnf) | (refine BoxB.own ?_; conv => whnf)))
  all_goals (refine fin_bool ?_; unfold little; simp; omega)
def fewL (l : List Fr) : Bool := decide (l.length ≤ 8) && l.all (fewF 3)
def fewH (hh : List (List Fr)) : Bool := (hh.take 20).all fewL && decide (hh.length ≤ 14)
theorem a_FewH (hh : List (List Fr)) : ACall Try.prog 16 [histS hh] [] (boolS (fewH hh)) [] := by
  have m1 : (hh.map fracsRow).length = hh.length := by simp
  (refine acall_of tab_ok Try.func16 rfl (by decide) ?_; (conv => whnf); repeat (first | (refine LitB.data ?_; conv => whnf) | (refine BoxB.data ?_; conv => whnf)))
  (repeat' (first | ((refine DecB.mk (fun h => ?_) (fun h => ?_)) <;> first | (exfalso; omega) | (conv => whnf)) | ((refine BoolB.mk (fun h => ?_) (fun h => ?_)) <;> first | (exact absurd h (by decide)) | (conv => whnf)) | (refine ⟨_, wrap_ok (by omega) (by omega), ?_⟩; conv => whnf) | (refine and_idx (by omega) (by omega) ?_; conv => whnf) | (refine reg_ok (by decide +kernel) ?_; conv => whnf) | (refine bar_ok (by decide +kernel) (by decide +kernel) ?_; conv => whnf) | (refine late_ok rfl rfl ?_; conv => whnf) | (refine src_ok rfl ?_; conv => whnf) | (refine LitB.data ?_; conv => whnf) | (refine BoxB.own ?_; conv => whnf)))
  refine awp_for tab_ok (fun k => ([histS hh, S.junk, S.junk, intS .i64 k, S.junk, S.junk, S.junk, S.junk, S.junk, S.junk, S.junk, S.junk, S.junk, S.junk, S.junk, S.junk, S.junk, S.junk, S.junk, S.junk, S.junk, S.junk, S.junk, S.junk, S.junk, S.junk, S.junk, S.junk, S.junk, S.junk, S.junk, S.junk, S.junk, S.junk, S.junk, S.junk, S.junk, S.junk, S.junk, S.junk, S.junk, S.junk], [])) 20 (fun k => k ≤ hh.length ∧ (hh.take k).all fewL = true) [] ⟨Nat.zero_le _, rfl⟩
    ⟨rfl, rfl, trivial, ⟨ent_t rfl, rfl, trivial⟩⟩ ?_
  rintro k hk ⟨hle, hI⟩
  by_cases hlt : k < hh.length ∧ k < 20
  · obtain ⟨l, hl⟩ : ∃ l, hh[k]? = some l := ⟨_, List.getElem?_eq_getElem hlt.1⟩
    have m3 : (l.map frRow).length = l.length := by simp
    have hlt20 : (hh.take 20)[k]? = some l := by rw [List.getElem?_take, if_pos hlt.2]; exact hl
    have bad : fewL l = false → fewH hh = false := fun h => by unfold fewH; rw [all_of_get hlt20 h]; rfl
    conv => whnf
    (repeat' (first | ((refine DecB.mk (fun h => ?_) (fun h => ?_)) <;> first | (exfalso; omega) | (conv => whnf)) | ((refine BoolB.mk (fun h => ?_) (fun h => ?_)) <;> first | (exact absurd h (by decide)) | (conv => whnf)) | (refine ⟨_, wrap_ok (by omega) (by omega), ?_⟩; conv => whnf) | (refine and_idx (by omega) (by omega) ?_; conv => whnf) | (refine reg_ok (by decide +kernel) ?_; conv => whnf) | (refine bar_ok (by decide +kernel) (by decide +kernel) ?_; conv => whnf) | (refine late_ok rfl rfl ?_; conv => whnf) | (refine src_ok rfl ?_; conv => whnf) | (refine ex_row hl ?_; conv => whnf) | (refine LitB.data ?_; conv => whnf) | (refine BoxB.own ?_; conv => whnf)))
    all_goals try (exfalso; omega)
    · refine fin_bool ?_
      rw [bad (by unfold fewL; simp; omega)]
    · refine awp_for tab_ok (fun j => ([histS hh, S.junk, S.junk, intS .i64 k, intS .i64 j, S.junk, S.junk, S.junk, S.junk, S.junk, S.junk, S.junk, S.junk, S.junk, S.junk, S.junk, S.junk, S.junk, S.junk, S.junk, S.junk, S.junk, S.junk, S.junk, S.junk, S.junk, S.junk, S.junk, S.junk, S.junk, S.junk, S.junk, S.junk, S.junk, S.junk, S.junk, S.junk, S.junk, S.junk, S.junk, S.junk, S.junk], [])) l.length (fun j => (l.take j).all (fewF 3) = true) [] rfl
        ⟨rfl, rfl, trivial, ⟨rfl, rfl, rfl, trivial⟩⟩ ?_
      intro j hj hJ
      by_cases hjt : j < l.length
      · obtain ⟨f, hf⟩ : ∃ f, l[j]? = some f := ⟨_, List.getElem?_eq_getElem hjt⟩
        have r := a_FewF f 3
        cases hff : fewF 3 f with
        | true =>
          rw [hff] at r
          conv => whnf
          (repeat' (first | ((refine DecB.mk (fun h => ?_) (fun h => ?_)) <;> first | (exfalso; omega) | (conv => whnf)) | ((refine BoolB.mk (fun h => ?_) (fun h => ?_)) <;> first | (exact absurd h (by decide)) | (conv => whnf)) | (refine ⟨_, wrap_ok (by omega) (by omega), ?_⟩; conv => whnf) | (refine and_idx (by omega) (by omega) ?_; conv => whnf) | (refine reg_ok (by decide +kernel) ?_; conv => whnf) | (refine bar_ok (by decide +kernel) (by decide +kernel) ?_; conv => whnf) | (refine late_ok rfl rfl ?_; conv => whnf) | (refine src_ok rfl ?_; conv => whnf) | (refine .inl ⟨_, _, qcall_pure (r) rfl rfl, ?_⟩; conv => whnf) | (refine ex_row hl ?_; conv => whnf) | (refine ex_row hf ?_; conv => whnf) | (refine LitB.data ?_; conv => whnf) | (refine BoxB.own ?_; conv => whnf)))
          all_goals first
            | (exfalso; omega)
            | exact ⟨hjt, by rw [all_take_succ hf, hJ, hff]; rfl, [], rfl, rfl, trivial, ⟨rfl, rfl, rfl, trivial⟩⟩
        | false =>
          rw [hff] at r
          conv => whnf
          (repeat' (first | ((refine DecB.mk (fun h => ?_) (fun h => ?_)) <;> first | (exfalso; omega) | (conv => whnf)) | ((refine BoolB.mk (fun h => ?_) (fun h => ?_)) <;> first | (exact absurd h (by decide)) | (conv => whnf)) | (refine ⟨_, wrap_ok (by omega) (by omega), ?_⟩; conv => whnf) | (refine and_idx (by omega) (by omega) ?_; conv => whnf) | (refine reg_ok (by decide +kernel) ?_; conv => whnf) | (refine bar_ok (by decide +kernel) (by decide +kernel) ?_; conv => whnf) | (refine late_ok rfl rfl ?_; conv => whnf) | (refine src_ok rfl ?_; conv => whnf) | (refine .inl ⟨_, _, qcall_pure (r) rfl rfl, ?_⟩; conv => whnf) | (refine ex_row hl ?_; conv => whnf) | (refine ex_row hf ?_; conv => whnf) | (refine LitB.data ?_; conv => whnf) | (refine BoxB.own ?_; conv => whnf)))
          all_goals first
            | (exfalso; omega)
            | (refine fin_bool ?_; rw [bad (by unfold fewL; rw [all_of_get hf hff, Bool.and_false])])
      · have hje : j = l.length := by omega
        subst hje
        have hlf : fewL l = true := by
          unfold fewL
          rw [all_take_full hJ]; simp; omega
        conv => whnf
        (repeat' (first | ((refine DecB.mk (fun h => ?_) (fun h => ?_)) <;> first | (exfalso; omega) | (conv => whnf)) | ((refine BoolB.mk (fun h => ?_) (fun h => ?_)) <;> first | (exact absurd h (by decide)) | (conv => whnf)) | (refine ⟨_, wrap_ok (by omega) (by omega), ?_⟩; conv => whnf) | (refine and_idx (by omega) (by omega) ?_; conv => whnf) | (refine reg_ok (by decide +kernel) ?_; conv => whnf) | (refine bar_ok (by decide +kernel) (by decide +kernel) ?_; conv => whnf) | (refine late_ok rfl rfl ?_; conv => whnf) | (refine src_ok rfl ?_; conv => whnf) | (refine ex_row hl ?_; conv => whnf) | (refine LitB.data ?_; conv => whnf) | (refine BoxB.own ?_; conv => whnf)))
        all_goals first
          | (exfalso; omega)
          | exact ⟨by omega, ⟨by omega, by rw [all_take_succ hl, hI, hlf]; rfl⟩, [], rfl, rfl, trivial, ⟨rfl, ent_i (by omega), trivial⟩⟩
  · have hk2 : hh.length = k ∨ k = 20 := by omega
    have hall : (hh.take 20).all fewL = true := by
      rcases hk2 with h | h
      · have e : hh.take 20 = hh.take k := by rw [List.take_of_length_le (by omega), List.take_of_length_le (by omega)]
        rw [e]; exact hI
      · rw [← h]; exact hI
    conv => whnf
    (repeat' (first | ((refine DecB.mk (fun h => ?_) (fun h => ?_)) <;> first | (exfalso; omega) | (conv => whnf)) | ((refine BoolB.mk (fun h => ?_) (fun h => ?_)) <;> first | (exact absurd h (by decide)) | (conv => whnf)) | (refine ⟨_, wrap_ok (by omega) (by omega), ?_⟩; conv => whnf) | (refine and_idx (by omega) (by omega) ?_; conv => whnf) | (refine reg_ok (by decide +kernel) ?_; conv => whnf) | (refine bar_ok (by decide +kernel) (by decide +kernel) ?_; conv => whnf) | (refine late_ok rfl rfl ?_; conv => whnf) | (refine src_ok rfl ?_; conv => whnf) | (refine LitB.data ?_; conv => whnf) | (refine BoxB.own ?_; conv => whnf)))
    all_goals first
      | (exfalso; omega)
      | (refine fin_bool ?_; unfold fewH; rw [hall]; simp; omega)
theorem a_few (e : Ev) (hh : List (List Fr)) : ACall Try.prog 9 [evS e, histS hh] [] (boolS (little e && fewH hh)) [] := by
  have r1 := a_Little e
  have r2 := a_FewH hh
  cases h1 : little e <;> cases h2 : fewH hh <;> rw [h1] at r1 <;> rw [h2] at r2 <;>
  · (refine acall_of tab_ok Try.func9 rfl (by decide) ?_; (conv => whnf); repeat (first | (refine LitB.data ?_; conv => whnf) | (refine BoxB.data ?_; conv => whnf)))
    (repeat' (first | ((refine DecB.mk (fun h => ?_) (fun h => ?_)) <;> first | (exfalso; omega) | (conv => whnf)) | ((refine BoolB.mk (fun h => ?_) (fun h => ?_)) <;> first | (exact absurd h (by decide)) | (conv => whnf)) | (refine ⟨_, wrap_ok (by omega) (by omega), ?_⟩; conv => whnf) | (refine and_idx (by omega) (by omega) ?_; conv => whnf) | (refine reg_ok (by decide +kernel) ?_; conv => whnf) | (refine bar_ok (by decide +kernel) (by decide +kernel) ?_; conv => whnf) | (refine late_ok rfl rfl ?_; conv => whnf) | (refine src_ok rfl ?_; conv => whnf) | (refine .inl ⟨_, _, qcall_pure (r1) rfl rfl, ?_⟩; conv => whnf) | (refine .inl ⟨_, _, qcall_pure (r2) rfl rfl, ?_⟩; conv => whnf) | (refine LitB.data ?_; conv => whnf) | (refine BoxB.own ?_; conv => whnf)))
    all_goals first
      | (exfalso; simp_all; done)
      | exact fin_bool rfl
theorem few_small {hh : List (List Fr)} (h : fewH hh = true) : SmallH 3 hh ∧ hh.length ≤ 14 ∧ ∀ l ∈ hh, l.length ≤ 8 := by
  unfold fewH at h
  simp only [Bool.and_eq_true, decide_eq_true_eq] at h
  obtain ⟨h1, h2⟩ := h
  rw [List.take_of_length_le (by omega), List.all_eq_true] at h1
  have h3 : ∀ l ∈ hh, l.length ≤ 8 ∧ ∀ f ∈ l, f.p.dl.length ≤ 3 ∧ f.q.dl.length ≤ 3 := fun l hl => by
    have := h1 l hl
    unfold fewL at this
    simp only [Bool.and_eq_true, decide_eq_true_eq, List.all_eq_true] at this
    refine ⟨this.1, fun f hf => ?_⟩
    have := this.2 f hf
    unfold fewF at this
    simp only [Bool.and_eq_true, decide_eq_true_eq] at this
    omega
  exact ⟨⟨by omega, fun l hl => by have := (h3 l hl).1; omega, fun l hl => (h3 l hl).2⟩, h2, fun l hl => (h3 l hl).1⟩
theorem SmallH.mono {m n : Nat} {hh : List (List Fr)} (h : SmallH m hh) (hmn : m ≤ n) : SmallH n hh := ⟨h.l1, h.l2, fun l hl f hf => by have := h.l3 l hl f hf; omega⟩
theorem little_sized {e : Ev} (h : little e = true) : e.Sized := by
  unfold little at h
  simp only [Bool.and_eq_true, decide_eq_true_eq] at h
  exact ⟨by omega, by omega, by omega, by omega, by omega⟩
theorem a_SameL (l : List Fr) (hl : l.length ≤ 1000000) (hd : ∀ f ∈ l, f.p.dl.length ≤ 1000000 ∧ f.q.dl.length ≤ 1000000) : ACall Try.prog 13 [fracsS l, fracsS l] [] (boolS true) [] := by
  have l2 : (l.map frRow).length = l.length := by simp
  (refine acall_of tab_ok Try.func13 rfl (by decide) ?_; (conv => whnf); repeat (first | (refine LitB.data ?_; conv => whnf) | (refine BoxB.data ?_; conv => whnf)))
  (repeat' (first | ((refine DecB.mk (fun h => ?_) (fun h => ?_)) <;> first | (exfalso; omega) | (conv => whnf)) | ((refine BoolB.mk (fun h => ?_) (fun h => ?_)) <;> first | (exact absurd h (by decide)) | (conv => whnf)) | (refine ⟨_, wrap_ok (by omega) (by omega), ?_⟩; conv => whnf) | (refine and_idx (by omega) (by omega) ?_; conv => whnf) | (refine reg_ok (by decide +kernel) ?_; conv => whnf) | (refine bar_ok (by decide +kernel) (by decide +kernel) ?_; conv => whnf) | (refine late_ok rfl rfl ?_; conv => whnf) | (refine src_ok rfl ?_; conv => whnf) | (refine LitB.data ?_; conv => whnf) | (refine BoxB.own ?_; conv => whnf)))
  all_goals try (exfalso; omega)
  refine awp_for tab_ok (fun k => ([fracsS l, fracsS l, S.junk, S.junk, S.junk, intS .i64 k, S.junk, S.junk, S.junk, S.junk, S.junk, S.junk, S.junk, S.junk, S.junk, S.junk, S.junk, S.junk, S.junk, S.junk, S.junk, S.junk, S.junk, S.junk, S.junk, S.junk, S.junk], [])) l.length (fun _ => True) [] trivial
    ⟨rfl, rfl, trivial, ⟨rfl, rfl, rfl, trivial⟩⟩ ?_
  intro k hk _
  by_cases hlt : k < l.length
  · obtain ⟨f, hf⟩ : ∃ f, l[k]? = some f := ⟨_, List.getElem?_eq_getElem hlt⟩
    obtain ⟨q1, q2⟩ := hd f (List.mem_of_getElem? hf)
    have r := a_SameF f q1 q2
    conv => whnf
    (repeat' (first | ((refine DecB.mk (fun h => ?_) (fun h => ?_)) <;> first | (exfalso; omega) | (conv => whnf)) | ((refine BoolB.mk (fun h => ?_) (fun h => ?_)) <;> first | (exact absurd h (by decide)) | (conv => whnf)) | (refine ⟨_, wrap_ok (by omega) (by omega), ?_⟩; conv => whnf) | (refine and_idx (by omega) (by omega) ?_; conv => whnf) | (refine reg_ok (by decide +kernel) ?_; conv => whnf) | (refine bar_ok (by decide +kernel) (by decide +kernel) ?_; conv => whnf) | (refine late_ok rfl rfl ?_; conv => whnf) | (refine src_ok rfl ?_; conv => whnf) | (refine .inl ⟨_, _, qcall_pure (r) rfl rfl, ?_⟩; conv => whnf) | (refine ex_row hf ?_; conv => whnf) | (refine LitB.data ?_; conv => whnf) | (refine BoxB.own ?_; conv => whnf)))
    all_goals first
      | (exfalso; omega)
      | (exfalso; simp_all; done)
      | exact ⟨hlt, trivial, [], rfl, rfl, trivial, ⟨rfl, rfl, rfl, trivial⟩⟩
  · conv => whnf
    (repeat' (first | ((refine DecB.mk (fun h => ?_) (fun h => ?_)) <;> first | (exfalso; omega) | (conv => whnf)) | ((refine BoolB.mk (fun h => ?_) (fun h => ?_)) <;> first | (exact absurd h (by decide)) | (conv => whnf)) | (refine ⟨_, wrap_ok (by omega) (by omega), ?_⟩; conv => whnf) | (refine and_idx (by omega) (by omega) ?_; conv => whnf) | (refine reg_ok (by decide +kernel) ?_; conv => whnf) | (refine bar_ok (by decide +kernel) (by decide +kernel) ?_; conv => whnf) | (refine late_ok rfl rfl ?_; conv => whnf) | (refine src_ok rfl ?_; conv => whnf) | (refine LitB.data ?_; conv => whnf) | (refine BoxB.own ?_; conv => whnf)))
    all_goals first
      | (exfalso; omega)
      | exact fin_bool rfl
end Go.Proofs.Ythinjkjhiembgaa
/- The examples of law 15: example, masses, small. -/
namespace Go.Proofs.Ythinjkjhiembgaa
open Go.RowKit
set_option linter.unusedVariables false
set_option linter.unusedSimpArgs false
set_option maxRecDepth 100000

abbrev ir (n : Int) : Rat := ((n : Int) : Rat)
def exE15 : Ev := ⟨2, 1, 1, [⟨0, 0, 0⟩, ⟨1, -1, -1⟩, ⟨5, -1, -1⟩], [⟨3, 0, 1, 0, 100, false⟩, ⟨3, 1, 2, -1, 0, true⟩], [⟨0, 0, 9, 2, 0, 0⟩], [], [⟨0, 0, 900, 1000⟩]⟩
def badE15 : Ev := ⟨-1, 0, 0, [], [], [], [], []⟩
def exG (a b c d : Int) : List (List Rat) := [[ir a, ir b], [ir c, ir d]]
theorem a_masses (a b c d : Int) (ha : -1000 ≤ a ∧ a ≤ 1000) (hb : -1000 ≤ b ∧ b ≤ 1000) (hc : -1000 ≤ c ∧ c ≤ 1000) (hd : -1000 ≤ d ∧ d ≤ 1000) :
    ACall Try.prog 28 [intS .i64 a, intS .i64 b, intS .i64 c, intS .i64 d] [] (histS (hz (exG a b c d))) [] := by
  have i1 := r5Int a (by omega) (by omega)
  have i2 := r5Int b (by omega) (by omega)
  have i3 := r5Int c (by omega) (by omega)
  have i4 := r5Int d (by omega) (by omega)
  (refine acall_of tab_ok Try.func28 rfl (by decide) ?_; (conv => whnf); repeat (first | (refine LitB.data ?_; conv => whnf) | (refine BoxB.own ?_; conv => whnf)))
  (repeat' (first | ((refine DecB.mk (fun h => ?_) (fun h => ?_)) <;> first | (exfalso; omega) | (conv => whnf)) | ((refine BoolB.mk (fun h => ?_) (fun h => ?_)) <;> first | (exact absurd h (by decide)) | (conv => whnf)) | (refine ⟨_, wrap_ok (by omega) (by omega), ?_⟩; conv => whnf) | (refine and_idx (by omega) (by omega) ?_; conv => whnf) | (refine reg_ok (by decide +kernel) ?_; conv => whnf) | (refine bar_ok (by decide +kernel) (by decide +kernel) ?_; conv => whnf) | (refine late_ok rfl rfl ?_; conv => whnf) | (refine src_ok rfl ?_; conv => whnf) | (refine .inl ⟨_, _, qcall_pure (i1) rfl rfl, ?_⟩; conv => whnf) | (refine .inl ⟨_, _, qcall_pure (i2) rfl rfl, ?_⟩; conv => whnf) | (refine .inl ⟨_, _, qcall_pure (i3) rfl rfl, ?_⟩; conv => whnf) | (refine .inl ⟨_, _, qcall_pure (i4) rfl rfl, ?_⟩; conv => whnf) | (refine LitB.weak ?_; conv => whnf) | (refine LitB.data ?_; conv => whnf) | (refine BoxB.own ?_; conv => whnf)))
  exact fin_t rfl
theorem a_example15 : ACall Try.prog 27 [] [] (evS exE15) [] := by
  (refine acall_of tab_ok Try.func27 rfl (by decide) ?_; (conv => whnf); repeat (first | (refine LitB.data ?_; conv => whnf) | (refine BoxB.own ?_; conv => whnf)))
  (repeat' (first | ((refine DecB.mk (fun h => ?_) (fun h => ?_)) <;> first | (exfalso; omega) | (conv => whnf)) | ((refine BoolB.mk (fun h => ?_) (fun h => ?_)) <;> first | (exact absurd h (by decide)) | (conv => whnf)) | (refine ⟨_, wrap_ok (by omega) (by omega), ?_⟩; conv => whnf) | (refine and_idx (by omega) (by omega) ?_; conv => whnf) | (refine reg_ok (by decide +kernel) ?_; conv => whnf) | (refine bar_ok (by decide +kernel) (by decide +kernel) ?_; conv => whnf) | (refine late_ok rfl rfl ?_; conv => whnf) | (refine src_ok rfl ?_; conv => whnf) | (refine LitB.weak ?_; conv => whnf) | (refine LitB.data ?_; conv => whnf) | (refine BoxB.own ?_; conv => whnf)))
  exact fin_t ⟨rfl, rfl, rfl, rfl, rfl, rfl, rfl, rfl, trivial⟩
theorem ex_sized : exE15.Sized := ⟨by simp [exE15], by simp [exE15], by simp [exE15], by simp [exE15], by simp [exE15]⟩
theorem ex_check : check exE15 = 0 := by decide +kernel
theorem ex_hist {a b c d : Int} : histCheck exE15 (hz (exG a b c d)) = histE exE15 (exG a b c d) := by
  unfold histCheck
  rw [if_neg (by simp [ex_check]), shape_ok ⟨rfl, by intro l hl; simp [exG] at hl; rcases hl with rfl | rfl <;> rfl⟩, if_pos rfl, unhz]
theorem ex1 : histE exE15 (exG 95 5 95 5) = 0 := by decide +kernel
theorem ex2 : histE exE15 (exG 95 8 95 8) = 24 := by decide +kernel
theorem ex3 : histE exE15 (exG 95 5 95 4) = 7 := by decide +kernel
theorem ex4 : histE exE15 (exG 95 5 95 6) = 4 := by decide +kernel
theorem ex5 : histE exE15 (exG 80 20 80 20) = 13 := by decide +kernel
theorem ex6 : histE exE15 (exG 102 (-1) 0 0) = 3 := by decide +kernel
theorem ex7 : histCheck exE15 (hz [[ir 95, ir 5]]) = 2 := by
  unfold histCheck
  rw [if_neg (by simp [ex_check])]; rfl
theorem ex8 : histCheck badE15 [] = 1 := by decide +kernel
theorem rl_ir {n : Int} (h : -1000 ≤ n ∧ n ≤ 1000) : rl (ir n) ≤ 1 := by rw [rl_int]; have := bl_small (x := n) (by omega) (by omega); omega
theorem ex_smallH {G : List (List Rat)} (h1 : G.length ≤ 10) (h2 : ∀ l ∈ G, l.length ≤ 10 ∧ ∀ x ∈ l, rl x ≤ 1) : SmallH 200 (hz G) := by
  refine ⟨by simp [hz]; omega, fun l hl => ?_, fun l hl f hf => ?_⟩
  · obtain ⟨L, hL, rfl⟩ := List.mem_map.1 hl
    have := (h2 L hL).1
    simp; omega
  · obtain ⟨L, hL, rfl⟩ := List.mem_map.1 hl
    obtain ⟨x, hx, rfl⟩ := List.mem_map.1 hf
    have h3 := (h2 L hL).2 x hx
    have h4 := rl_num x
    have h5 := rl_den x
    exact ⟨show bl x.num ≤ 200 by omega, show bl x.den ≤ 200 by omega⟩
theorem exG_small (a b c d : Int) (ha : -1000 ≤ a ∧ a ≤ 1000) (hb : -1000 ≤ b ∧ b ≤ 1000) (hc : -1000 ≤ c ∧ c ≤ 1000) (hd : -1000 ≤ d ∧ d ≤ 1000) : SmallH 200 (hz (exG a b c d)) :=
  ex_smallH (by simp [exG]) fun l hl => by
    simp only [exG, List.mem_cons, List.not_mem_nil, or_false] at hl
    rcases hl with rfl | rfl
    · refine ⟨by simp, fun x hx => ?_⟩
      simp only [List.mem_cons, List.not_mem_nil, or_false] at hx
      rcases hx with rfl | rfl
      · exact rl_ir ha
      · exact rl_ir hb
    · refine ⟨by simp, fun x hx => ?_⟩
      simp only [List.mem_cons, List.not_mem_nil, or_false] at hx
      rcases hx with rfl | rfl
      · exact rl_ir hc
      · exact rl_ir hd
theorem ex_ck (a b c d v : Int) (h : histE exE15 (exG a b c d) = v) (ha : -1000 ≤ a ∧ a ≤ 1000) (hb : -1000 ≤ b ∧ b ≤ 1000) (hc : -1000 ≤ c ∧ c ≤ 1000) (hd : -1000 ≤ d ∧ d ≤ 1000) :
    ACall Try.prog 10 [evS exE15, histS (hz (exG a b c d))] [] (intS .i64 v) [] := by
  have := a_hCheck exE15 (hz (exG a b c d)) ex_sized (exG_small a b c d ha hb hc hd)
  rw [ex_hist, h] at this
  exact this
theorem fz_len {x : Rat} {n : Nat} (h : rl x ≤ n) (hn : n ≤ 1000000 := by decide) : (fz x).p.dl.length ≤ 1000000 ∧ (fz x).q.dl.length ≤ 1000000 := by
  have h4 := rl_num x
  have h5 := rl_den x
  exact ⟨show bl x.num ≤ 1000000 by omega, show bl x.den ≤ 1000000 by omega⟩
set_option maxHeartbeats 4000000 in
theorem a_small15 : ACall Try.prog 8 [] [] (boolS true) [] := by
  have g1 := a_masses 95 5 95 5 (by decide) (by decide) (by decide) (by decide)
  have g2 := a_masses 95 8 95 8 (by decide) (by decide) (by decide) (by decide)
  have g3 := a_masses 95 5 95 4 (by decide) (by decide) (by decide) (by decide)
  have g4 := a_masses 95 5 95 6 (by decide) (by decide) (by decide) (by decide)
  have g5 := a_masses 80 20 80 20 (by decide) (by decide) (by decide) (by decide)
  have g6 := a_masses 102 (-1) 0 0 (by decide) (by decide) (by decide) (by decide)
  have c1 := ex_ck 95 5 95 5 _ ex1 (by decide) (by decide) (by decide) (by decide)
  have c2 := ex_ck 95 8 95 8 _ ex2 (by decide) (by decide) (by decide) (by decide)
  have c3 := ex_ck 95 5 95 4 _ ex3 (by decide) (by decide) (by decide) (by decide)
  have c4 := ex_ck 95 5 95 6 _ ex4 (by decide) (by decide) (by decide) (by decide)
  have c5 := ex_ck 80 20 80 20 _ ex5 (by decide) (by decide) (by decide) (by decide)
  have c6 := ex_ck 102 (-1) 0 0 _ ex6 (by decide) (by decide) (by decide) (by decide)
  have c7 := a_hCheck exE15 (hz [[ir 95, ir 5]]) ex_sized (ex_smallH (by simp) fun l hl => by
    simp only [List.mem_cons, List.not_mem_nil, or_false] at hl
    subst hl
    refine ⟨by simp, fun x hx => ?_⟩
    simp only [List.mem_cons, List.not_mem_nil, or_false] at hx
    rcases hx with rfl | rfl
    · exact rl_ir (by decide)
    · exact rl_ir (by decide))
  rw [ex7] at c7
  have c8 := a_hCheck badE15 [] ⟨by simp [badE15], by simp [badE15], by simp [badE15], by simp [badE15], by simp [badE15]⟩ ⟨by simp, by simp, by simp⟩
  rw [ex8] at c8
  have m1 := a_hMass (hz (exG 95 5 95 5)) [⟨0, 0⟩, ⟨1, 1⟩] (exG_small 95 5 95 5 (by decide) (by decide) (by decide) (by decide)) (by simp)
  have e1 : massF (hz (exG 95 5 95 5)) zR [⟨0, 0⟩, ⟨1, 1⟩] = some (ir 100) := by decide +kernel
  rw [e1] at m1
  have m2 := a_hMass (hz (exG 95 5 95 5)) [⟨2, 0⟩] (exG_small 95 5 95 5 (by decide) (by decide) (by decide) (by decide)) (by simp)
  have e2 : massF (hz (exG 95 5 95 5)) zR [⟨2, 0⟩] = none := by decide +kernel
  rw [e2] at m2
  have st := a_hStock exE15 (hz (exG 95 5 95 5)) 1 1 ex_sized (exG_small 95 5 95 5 (by decide) (by decide) (by decide) (by decide))
  have e3 : stockL exE15 (hz (exG 95 5 95 5)) 1 1 = [fz (ir 95), fz (ir 5)] := by
    have s0 : stk exE15 (exG 95 5 95 5) 1 1 0 = ir 95 := by decide +kernel
    have s1 : stk exE15 (exG 95 5 95 5) 1 1 1 = ir 5 := by decide +kernel
    have sh : shapedB exE15 (hz (exG 95 5 95 5)) = true := shape_ok ⟨rfl, by intro l hl; simp [exG] at hl; rcases hl with rfl | rfl <;> rfl⟩
    unfold stockL
    rw [if_pos ⟨ex_check, sh, by decide, by decide, by decide, by decide⟩, unz_hz]
    show [fz (stk exE15 (exG 95 5 95 5) 1 1 0), fz (stk exE15 (exG 95 5 95 5) 1 1 1)] = _
    rw [s0, s1]
  rw [e3] at st
  have sa := a_SameL [fz (ir 95), fz (ir 5)] (by simp) (by intro f hf; simp only [List.mem_cons, List.not_mem_nil, or_false] at hf; rcases hf with rfl | rfl <;> exact fz_len (rl_ir (by decide)))
  have i100 := r5Int 100 (by decide) (by decide)
  have sf := a_SameF (fz (ir 100)) (fz_len (rl_ir (by decide))).1 (fz_len (rl_ir (by decide))).2
  (refine acall_of tab_ok Try.func8 rfl (by decide) ?_; (conv => whnf); repeat (first | (refine LitB.data ?_; conv => whnf) | (refine BoxB.own ?_; conv => whnf)))
  (repeat' (first | ((refine DecB.mk (fun h => ?_) (fun h => ?_)) <;> first | (exfalso; omega) | (conv => whnf)) | ((refine BoolB.mk (fun h => ?_) (fun h => ?_)) <;> first | (exact absurd h (by decide)) | (conv => whnf)) | (refine ⟨_, wrap_ok (by omega) (by omega), ?_⟩; conv => whnf) | (refine and_idx (by omega) (by omega) ?_; conv => whnf) | (refine reg_ok (by decide +kernel) ?_; conv => whnf) | (refine bar_ok (by decide +kernel) (by decide +kernel) ?_; conv => whnf) | (refine late_ok rfl rfl ?_; conv => whnf) | (refine src_ok rfl ?_; conv => whnf) | (refine .inl ⟨_, _, qcall_pure (a_example15) rfl rfl, ?_⟩; conv => whnf) | (refine .inl ⟨_, _, qcall_pure (g1) rfl rfl, ?_⟩; conv => whnf) | (refine .inl ⟨_, _, qcall_pure (g2) rfl rfl, ?_⟩; conv => whnf) | (refine .inl ⟨_, _, qcall_pure (g3) rfl rfl, ?_⟩; conv => whnf) | (refine .inl ⟨_, _, qcall_pure (g4) rfl rfl, ?_⟩; conv => whnf) | (refine .inl ⟨_, _, qcall_pure (g5) rfl rfl, ?_⟩; conv => whnf) | (refine .inl ⟨_, _, qcall_pure (g6) rfl rfl, ?_⟩; conv => whnf) | (refine .inl ⟨_, _, qcall_pure (c1) rfl rfl, ?_⟩; conv => whnf) | (refine .inl ⟨_, _, qcall_pure (c2) rfl rfl, ?_⟩; conv => whnf) | (refine .inl ⟨_, _, qcall_pure (c3) rfl rfl, ?_⟩; conv => whnf) | (refine .inl ⟨_, _, qcall_pure (c4) rfl rfl, ?_⟩; conv => whnf) | (refine .inl ⟨_, _, qcall_pure (c5) rfl rfl, ?_⟩; conv => whnf) | (refine .inl ⟨_, _, qcall_pure (c6) rfl rfl, ?_⟩; conv => whnf) | (refine .inl ⟨_, _, qcall_pure (m1) rfl rfl, ?_⟩; conv => whnf) | (refine .inl ⟨_, _, qcall_pure (m2) rfl rfl, ?_⟩; conv => whnf) | (refine .inl ⟨_, _, qcall_pure (st) rfl rfl, ?_⟩; conv => whnf) | (refine .inl ⟨_, _, qcall_pure (sa) rfl rfl, ?_⟩; conv => whnf) | (refine .inl ⟨_, _, qcall_pure (i100) rfl rfl, ?_⟩; conv => whnf) | (refine .inl ⟨_, _, qcall_pure (sf) rfl rfl, ?_⟩; conv => whnf) | (refine .inl ⟨_, _, qcall_pure (hz, exG) rfl rfl, ?_⟩; conv => whnf) | (refine .inl ⟨_, _, qcall_pure (9) rfl rfl, ?_⟩; conv => whnf) | (refine .inl ⟨_, _, qcall_pure (7) rfl rfl, ?_⟩; conv => whnf) | (refine LitB.weak ?_; conv => whnf) | (refine sl_ok (by decide) (by decide) (by simp [hz, exG]) ?_; conv => whnf) | (refine .inl ⟨_, _, qcall_data c7 ⟨vs_ev _, vs_c (vc_t rfl), trivial⟩ rfl, ?_⟩; conv => whnf) | (refine .inl ⟨_, _, qcall_data c8 ⟨vs_agg (ts := evT badE15) (vl_cons (vc_t rfl) (vl_cons (vc_t rfl) (vl_cons (vc_t rfl) (vl_cons (vc_t rfl) (vl_cons (vc_t rfl) (vl_cons (vc_t rfl) (vl_cons (vc_t rfl) (vl_cons (vc_t rfl) vl_nil)))))))), vs_c (vc_t rfl), trivial⟩ rfl, ?_⟩; conv => whnf) | (refine ex_row (xs := hz (exG 95 5 95 5)) (k := 0) rfl ?_; conv => whnf) | (refine bar_late [9] (by decide +kernel) (by decide +kernel) ?_; conv => whnf) | (refine bar_late [7] (by decide +kernel) (by decide +kernel) ?_; conv => whnf) | (refine LitB.data ?_; conv => whnf) | (refine BoxB.own ?_; conv => whnf)))
  all_goals exact fin_bool rfl
end Go.Proofs.Ythinjkjhiembgaa
/- Chapter 15 in plain Lean: what the statements say of histories. No program is in sight. -/
namespace Go.Proofs.Ythinjkjhiembgaa
set_option linter.unusedVariables false
set_option linter.unusedSimpArgs false

def stepAt (e : Ev) (G : List (List Rat)) (k : Nat) (x : Move) : Int := stepE e x (G.getD k []) (stk e G k) k
theorem movesE_cons (e : Ev) (G : List (List Rat)) (k : Nat) (x : Move) (r : List Move) : movesE e G k (x :: r) = if stepAt e G k x ≠ 0 then stepAt e G k x else movesE e G (k + 1) r := rfl
theorem movesE_zero {e : Ev} {G : List (List Rat)} : ∀ {ms : List Move} {k : Nat}, movesE e G k ms = 0 ↔ ∀ j x, ms[j]? = some x → stepAt e G (k + j) x = 0
  | [], k => by simp [movesE]
  | y :: r, k => by
    rw [movesE_cons]
    constructor
    · intro h j x hx
      by_cases h0 : stepAt e G k y = 0
      · rw [if_neg (by simpa using h0)] at h
        cases j with
        | zero => simp at hx; subst hx; exact h0
        | succ j => rw [show k + (j + 1) = k + 1 + j by omega]; exact movesE_zero.1 h j x (by simpa using hx)
      · rw [if_pos h0] at h; exact absurd h h0
    · intro h
      have h0 := h 0 y rfl
      rw [if_neg (by simpa using h0)]
      exact movesE_zero.2 fun j x hx => by rw [show k + 1 + j = k + (j + 1) by omega]; exact h (j + 1) x (by simpa using hx)
theorem histE_zero {e : Ev} {G : List (List Rat)} : histE e G = 0 ↔ ∀ (k : Nat) (x : Move), e.moves[k]? = some x → stepAt e G k x = 0 := by
  unfold histE
  rw [movesE_zero]
  simp
structure StepOk (e : Ev) (x : Move) (l : List Rat) (f : Nat → Nat → Rat) (i : Nat) : Prop where
  pos : ∀ v ∈ l, ¬ v < 0
  tak : takenE e f x l = 0
  wei : weighedB e x (sumR l) = true
  pur : pureB e.purities i l (sumR l) = true
theorem takenF_vals (f : Nat → Rat) (all : Bool) : ∀ (l : List Rat) (k : Nat) (rest : Bool), takenF f all l k rest = 0 ∨ takenF f all l k rest = 4 ∨ takenF f all l k rest = 7
  | [], k, rest => by unfold takenF; split <;> simp
  | v :: r, k, rest => by
    unfold takenF
    split
    · simp
    · exact takenF_vals f all r _ _
theorem stepE_zero {e : Ev} {x : Move} {l : List Rat} {f : Nat → Nat → Rat} {i : Nat} : stepE e x l f i = 0 ↔ StepOk e x l f i := by
  unfold stepE
  constructor
  · intro h
    by_cases h1 : l.any (fun v => decide (v < 0)) = true
    · rw [if_pos h1] at h; cases h
    rw [if_neg h1] at h
    by_cases h2 : takenE e f x l = 0
    · rw [if_neg (by simpa using h2)] at h
      by_cases h3 : weighedB e x (sumR l) = false
      · rw [if_pos h3] at h; cases h
      rw [if_neg h3] at h
      by_cases h4 : pureB e.purities i l (sumR l) = false
      · rw [if_pos h4] at h; cases h
      refine ⟨fun v hv hn => h1 (List.any_eq_true.2 ⟨v, hv, by simpa using hn⟩), h2, by simpa using h3, by simpa using h4⟩
    · rw [if_pos h2] at h; exact absurd h h2
  · rintro ⟨h1, h2, h3, h4⟩
    rw [if_neg (by rw [List.any_eq_true]; rintro ⟨v, hv, hn⟩; exact h1 v hv (by simpa using hn)), if_neg (by simpa using h2), if_neg (by simp [h3]), if_neg (by simp [h4])]
theorem takenF_zero (f : Nat → Rat) (all : Bool) : ∀ (l : List Rat) (k : Nat) (rest : Bool), takenF f all l k rest = 0 ↔ (∀ m v, l[m]? = some v → ¬ f (k + m) < v) ∧ (all = true → rest = false ∧ ∀ m v, l[m]? = some v → ¬ v < f (k + m))
  | [], k, rest => by unfold takenF; cases rest <;> cases all <;> simp
  | v :: r, k, rest => by
    unfold takenF
    by_cases h : f k < v
    · rw [if_pos h]
      constructor
      · intro h'; cases h'
      · rintro ⟨h1, _⟩; exact absurd h (h1 0 v rfl)
    · rw [if_neg h, takenF_zero f all r (k + 1)]
      constructor
      · rintro ⟨h1, h2⟩
        refine ⟨fun m u hm => ?_, fun ha => ?_⟩
        · cases m with
          | zero => simp at hm; subst hm; exact h
          | succ m => have := h1 m u (by simpa using hm); rwa [show k + 1 + m = k + (m + 1) by omega] at this
        · obtain ⟨q1, q2⟩ := h2 ha
          simp only [Bool.or_eq_false_iff, decide_eq_false_iff_not] at q1
          refine ⟨q1.1, fun m u hm => ?_⟩
          cases m with
          | zero => simp at hm; subst hm; exact q1.2
          | succ m => have := q2 m u (by simpa using hm); rwa [show k + 1 + m = k + (m + 1) by omega] at this
      · rintro ⟨h1, h2⟩
        refine ⟨fun m u hm => ?_, fun ha => ?_⟩
        · have := h1 (m + 1) u (by simpa using hm); rwa [show k + (m + 1) = k + 1 + m by omega] at this
        · obtain ⟨q1, q2⟩ := h2 ha
          refine ⟨?_, fun m u hm => ?_⟩
          · simp only [Bool.or_eq_false_iff, decide_eq_false_iff_not]
            exact ⟨q1, q2 0 v rfl⟩
          · have := q2 (m + 1) u (by simpa using hm); rwa [show k + (m + 1) = k + 1 + m by omega] at this
/-- the stocks depend on the ways of the moves alone -/
theorem stk_congr {e e' : Ev} {G G' : List (List Rat)} : ∀ k, (∀ j, j < k → (e'.moves[j]?).map (fun x => (x.src, x.dst)) = (e.moves[j]?).map (fun x => (x.src, x.dst))) → (∀ j, j < k → hAt G' j = hAt G j) → stk e' G' k = stk e G k
  | 0, _, _ => rfl
  | k + 1, h, hG => by
    have ih := stk_congr k (fun j hj => h j (by omega)) (fun j hj => hG j (by omega))
    have hk := h k (by omega)
    have hg := hG k (by omega)
    unfold stk
    cases h1 : e'.moves[k]? with
    | none => cases h2 : e.moves[k]? with
      | none => exact ih
      | some x => rw [h1, h2] at hk; cases hk
    | some x' => cases h2 : e.moves[k]? with
      | none => rw [h1, h2] at hk; cases hk
      | some x =>
        rw [h1, h2] at hk
        simp at hk
        simp only [ih, hg]
        funext p m
        unfold carryF
        rw [hk.1, hk.2]
/-- more recalls: what the interval of a move is -/
theorem interval_more {cs : List Cert} {rs : List Recall} {r : Recall} {scale reading day : Int} : interval cs (rs ++ [r]) scale reading day = none ∨ interval cs (rs ++ [r]) scale reading day = interval cs rs scale reading day := by
  unfold interval
  cases findTo cs scale day cs.length with
  | none => exact .inl rfl
  | some i =>
    simp only
    have : recalled (rs ++ [r]) scale day = (recalled rs scale day || (decide (r.scale = scale) && decide (r.since ≤ day))) := by simp [recalled]
    rw [this]
    cases recalled rs scale day <;> cases (decide (r.scale = scale) && decide (r.since ≤ day)) <;> simp
def moreR (e : Ev) (r : Recall) : Ev := { e with recalls := e.recalls ++ [r] }
theorem weighed_more {e : Ev} {r : Recall} {x : Move} {mass : Rat} (h : weighedB e x mass = true) : weighedB (moreR e r) x mass = true := by
  unfold weighedB at *
  by_cases hs : x.scale = -1
  · rw [if_pos hs]
  · rw [if_neg hs] at h ⊢
    rcases interval_more (cs := e.certs) (rs := e.recalls) (r := r) (scale := x.scale) (reading := x.reading) (day := x.day) with hi | hi
    · show inB (interval e.certs (e.recalls ++ [r]) _ _ _) _ = true
      rw [hi]; rfl
    · show inB (interval e.certs (e.recalls ++ [r]) _ _ _) _ = true
      rw [hi]; exact h
theorem stepE_more {e : Ev} {r : Recall} {x : Move} {l : List Rat} {f : Nat → Nat → Rat} {i : Nat} (h : stepE e x l f i ≠ 24) : stepE (moreR e r) x l f i = stepE e x l f i := by
  have ht : takenE (moreR e r) f x l = takenE e f x l := rfl
  unfold stepE at *
  rw [ht]
  by_cases h1 : l.any (fun v => decide (v < 0)) = true
  · rw [if_pos h1, if_pos h1]
  rw [if_neg h1] at h
  rw [if_neg h1, if_neg h1]
  by_cases h2 : takenE e f x l ≠ 0
  · rw [if_pos h2, if_pos h2]
  rw [if_neg h2] at h
  rw [if_neg h2, if_neg h2]
  cases h3 : weighedB e x (sumR l) with
  | false => rw [h3] at h; exact absurd rfl h
  | true => rw [weighed_more h3]; rfl
theorem movesE_more {e : Ev} {r : Recall} {G : List (List Rat)} : ∀ {ms : List Move} {k : Nat}, movesE e G k ms ≠ 24 → movesE (moreR e r) G k ms = movesE e G k ms
  | [], k, _ => rfl
  | x :: ms, k, h => by
    rw [movesE_cons] at h
    rw [movesE_cons, movesE_cons]
    have hs : stk (moreR e r) G k = stk e G k := stk_congr k (fun _ _ => rfl) (fun _ _ => rfl)
    by_cases h0 : stepAt e G k x = 0
    · have e0 : stepAt (moreR e r) G k x = 0 := by
        unfold stepAt at *
        rw [hs, stepE_more (by rw [h0]; decide), h0]
      rw [if_neg (by simpa using h0)] at h
      rw [if_neg (by simpa using e0), if_neg (by simpa using h0)]
      exact movesE_more h
    · rw [if_pos h0] at h
      have e0 : stepAt (moreR e r) G k x = stepAt e G k x := by
        unfold stepAt at *
        rw [hs, stepE_more h]
      rw [e0, if_pos h0, if_pos h0]
theorem histCheck_ok {e : Ev} {hh : List (List Fr)} (h0 : check e = 0) : histCheck e hh = if shapedB e hh then histE e (hh.map (·.map fv)) else 2 := by
  unfold histCheck; rw [if_neg (by simpa using h0)]
theorem hist_more {e : Ev} {r : Recall} {hh : List (List Fr)} (h0 : check e = 0) (h1 : check (moreR e r) = 0) (h : histCheck e hh ≠ 24) : histCheck (moreR e r) hh = histCheck e hh := by
  have e1 := histCheck_ok (hh := hh) h0
  have e2 := histCheck_ok (hh := hh) h1
  have e3 : shapedB (moreR e r) hh = shapedB e hh := rfl
  rw [e3] at e2
  rw [e1] at h
  rw [e1, e2]
  cases hs : shapedB e hh with
  | false => rfl
  | true =>
    rw [hs] at h
    exact movesE_more h
/-- evidence without some purities -/
theorem hist_less {e e' : Ev} {hh : List (List Fr)} (h0 : check e' = 0) (e1 : e'.moves = e.moves) (e2 : e'.places = e.places) (e3 : e'.certs = e.certs) (e4 : e'.recalls = e.recalls) (e5 : e'.mats = e.mats)
    (hp : ∀ p ∈ e'.purities, p ∈ e.purities) (h : histCheck e hh = 0) : histCheck e' hh = 0 := by
  unfold histCheck at *
  by_cases hc : check e ≠ 0
  · rw [if_pos hc] at h; cases h
  rw [if_neg hc] at h
  rw [if_neg (by simpa using h0)]
  have : shapedB e' hh = shapedB e hh := by unfold shapedB; rw [e1, e5]
  rw [this]
  cases hs : shapedB e hh with
  | false => rw [hs] at h; cases h
  | true =>
    rw [hs] at h
    have h : histE e (hh.map (·.map fv)) = 0 := h
    show histE e' (hh.map (·.map fv)) = 0
    rw [histE_zero] at h ⊢
    intro k x hx
    rw [e1] at hx
    have hk := h k x hx
    unfold stepAt at *
    rw [stk_congr (e := e) (e' := e') k (fun _ _ => by rw [e1]) (fun _ _ => rfl)]
    rw [stepE_zero] at hk ⊢
    obtain ⟨q1, q2, q3, q4⟩ := hk
    refine ⟨q1, ?_, ?_, ?_⟩
    · have : takenE e' = takenE e := by funext f x l; unfold takenE kindAt; rw [e2]
      rw [this]; exact q2
    · unfold weighedB at *; rw [e3, e4]; exact q3
    · unfold pureB at *
      rw [List.all_eq_true] at q4 ⊢
      exact fun p hpm => q4 p (hp p hpm)
theorem histCheck_zero {e : Ev} {hh : List (List Fr)} (h : histCheck e hh = 0) : check e = 0 ∧ shapedB e hh = true ∧ histE e (hh.map (·.map fv)) = 0 := by
  unfold histCheck at h
  by_cases h0 : check e ≠ 0
  · rw [if_pos h0] at h; cases h
  rw [if_neg h0] at h
  cases hs : shapedB e hh with
  | false => rw [hs] at h; cases h
  | true => rw [hs] at h; exact ⟨by omega, rfl, h⟩
end Go.Proofs.Ythinjkjhiembgaa
/- Picked numbers ascend; which ones they are. Plain Lean. -/
namespace Go.Proofs.Ythinjkjhiembgaa

theorem mem_pickFrom {α : Type} {p : Nat → α → Bool} {l : List α} : ∀ {k : Nat} {x : Int}, x ∈ pickFrom p k l ↔ ∃ i m, l[i]? = some m ∧ p (k + i) m = true ∧ x = ((k + i : Nat) : Int) := by
  induction l with
  | nil => intro k x; simp [pickFrom]
  | cons a r ih =>
    intro k x
    have step : x ∈ pickFrom p (k + 1) r ↔ ∃ i m, (a :: r)[i + 1]? = some m ∧ p (k + (i + 1)) m = true ∧ x = ((k + (i + 1) : Nat) : Int) := by
      rw [ih]
      constructor
      · rintro ⟨i, m, h1, h2, h3⟩
        exact ⟨i, m, by simpa using h1, by rw [show k + (i + 1) = k + 1 + i from by omega]; exact h2, by rw [h3]; omega⟩
      · rintro ⟨i, m, h1, h2, h3⟩
        exact ⟨i, m, by simpa using h1, by rw [show k + 1 + i = k + (i + 1) from by omega]; exact h2, by rw [h3]; omega⟩
    unfold pickFrom
    by_cases hp : p k a = true
    · rw [if_pos hp, List.mem_cons, step]
      constructor
      · rintro (rfl | ⟨i, m, h⟩)
        · exact ⟨0, a, rfl, hp, rfl⟩
        · exact ⟨i + 1, m, h⟩
      · rintro ⟨i, m, h1, h2, h3⟩
        cases i with
        | zero => left; simpa using h3
        | succ i => right; exact ⟨i, m, h1, h2, h3⟩
    · rw [if_neg hp, step]
      constructor
      · rintro ⟨i, m, h⟩
        exact ⟨i + 1, m, h⟩
      · rintro ⟨i, m, h1, h2, h3⟩
        cases i with
        | zero => simp at h1; subst h1; exact absurd h2 hp
        | succ i => exact ⟨i, m, h1, h2, h3⟩
theorem pickFrom_sorted {α : Type} (p : Nat → α → Bool) (l : List α) : ∀ k, (pickFrom p k l).Pairwise (· < ·) := by
  induction l with
  | nil => intro k; simp [pickFrom]
  | cons a r ih =>
    intro k
    unfold pickFrom
    split
    · rw [List.pairwise_cons]
      refine ⟨fun x hx => ?_, ih (k + 1)⟩
      obtain ⟨i, m, _, _, rfl⟩ := mem_pickFrom.1 hx
      omega
    · exact ih (k + 1)
/-- strictly ascending, from 0 to n - 1 -/
def Asc (l : List Int) (n : Int) : Prop := (∀ (i : Nat) (x : Int), l[i]? = some x → 0 ≤ x ∧ x < n) ∧ ∀ (i : Nat) (x y : Int), l[i]? = some x → l[i + 1]? = some y → x < y
theorem Asc.of_sorted {l : List Int} {n : Int} (h1 : l.Pairwise (· < ·)) (h2 : ∀ x ∈ l, 0 ≤ x ∧ x < n) : Asc l n := by
  refine ⟨fun i x hx => h2 x (List.mem_of_getElem? hx), fun i x y hx hy => ?_⟩
  obtain ⟨hi, rfl⟩ := List.getElem?_eq_some_iff.1 hx
  obtain ⟨hj, rfl⟩ := List.getElem?_eq_some_iff.1 hy
  exact List.pairwise_iff_getElem.1 h1 i (i + 1) hi hj (by omega)
theorem pickFrom_asc {α : Type} (p : Nat → α → Bool) (l : List α) : Asc (pickFrom p 0 l) l.length := by
  refine Asc.of_sorted (pickFrom_sorted p l 0) (fun x hx => ?_)
  obtain ⟨i, m, hm, _, rfl⟩ := mem_pickFrom.1 hx
  have := (List.getElem?_eq_some_iff.1 hm).1
  omega
theorem asc_nil (n : Int) : Asc [] n := ⟨fun i x h => by simp at h, fun i x y h => by simp at h⟩
theorem into_asc (e : Ev) (pl up : Int) : Asc (into e pl up) e.moves.length := by
  unfold into; split
  · exact pickFrom_asc _ _
  · exact asc_nil _
theorem outOf_asc (e : Ev) (pl up : Int) : Asc (outOf e pl up) e.moves.length := by
  unfold outOf; split
  · exact pickFrom_asc _ _
  · exact asc_nil _
theorem lifts_asc (e : Ev) (hh mat lo hi : Int) : Asc (lifts e hh mat lo hi) e.moves.length := by
  unfold lifts; split
  · exact pickFrom_asc _ _
  · exact asc_nil _
end Go.Proofs.Ythinjkjhiembgaa
/- FlowOnce in plain Lean: the counts. -/
namespace Go.Proofs.Ythinjkjhiembgaa
set_option linter.unusedSimpArgs false
set_option linter.unusedVariables false

theorem into_mem {e : Ev} (h0 : check e = 0) {pl up x : Int} : x ∈ into e pl up ↔ ∃ (j : Nat) (m : Move), e.moves[j]? = some m ∧ (j : Int) < up ∧ m.dst = pl ∧ x = (j : Int) := by
  unfold into
  rw [if_pos h0, mem_pickFrom]
  constructor
  · rintro ⟨i, m, h1, h2, h3⟩
    simp at h2
    exact ⟨i, m, h1, h2.1, h2.2, by simpa using h3⟩
  · rintro ⟨i, m, h1, h2, h3, h4⟩
    exact ⟨i, m, h1, by simp [h2, h3], by simpa using h4⟩
theorem outOf_mem {e : Ev} (h0 : check e = 0) {pl up x : Int} : x ∈ outOf e pl up ↔ ∃ (j : Nat) (m : Move), e.moves[j]? = some m ∧ (j : Int) < up ∧ m.src = pl ∧ x = (j : Int) := by
  unfold outOf
  rw [if_pos h0, mem_pickFrom]
  constructor
  · rintro ⟨i, m, h1, h2, h3⟩
    simp at h2
    exact ⟨i, m, h1, h2.1, h2.2, by simpa using h3⟩
  · rintro ⟨i, m, h1, h2, h3, h4⟩
    exact ⟨i, m, h1, by simp [h2, h3], by simpa using h4⟩
theorem moveOk_dstKind {e : Ev} {m : Move} (h : moveOk e m = true) : kindAt e m.dst ≠ 0 := by
  simp [moveOk] at h; exact h.1.2
theorem moveOk_srcKind {e : Ev} {m : Move} (h : moveOk e m = true) : kindAt e m.src ≠ 5 ∧ kindAt e m.src ≠ 6 := by
  simp [moveOk] at h; exact ⟨h.1.1.1.1.2, h.1.1.1.2⟩
theorem into_bin {e : Ev} (h0 : check e = 0) {pl up : Int} (hk : kindAt e pl = 0) : into e pl up = [] := by
  rw [List.eq_nil_iff_forall_not_mem]
  intro x hx
  obtain ⟨j, m, hm, _, hd, _⟩ := (into_mem h0).1 hx
  exact moveOk_dstKind (check_move h0 (List.mem_of_getElem? hm)) (by rw [hd]; exact hk)
theorem outOf_end {e : Ev} (h0 : check e = 0) {pl up : Int} (hk : kindAt e pl = 5 ∨ kindAt e pl = 6) : outOf e pl up = [] := by
  rw [List.eq_nil_iff_forall_not_mem]
  intro x hx
  obtain ⟨j, m, hm, _, hd, _⟩ := (outOf_mem h0).1 hx
  have := moveOk_srcKind (check_move h0 (List.mem_of_getElem? hm))
  rw [hd] at this
  rcases hk with h | h
  · exact this.1 h
  · exact this.2 h
theorem into_neg {e : Ev} (h0 : check e = 0) {pl up : Int} (hp : pl < 0 ∨ (e.places.length : Int) ≤ pl) : into e pl up = [] := by
  rw [List.eq_nil_iff_forall_not_mem]
  intro x hx
  obtain ⟨j, m, hm, _, hd, _⟩ := (into_mem h0).1 hx
  have := moveOk_dst (check_move h0 (List.mem_of_getElem? hm))
  omega
theorem outOf_neg {e : Ev} (h0 : check e = 0) {pl up : Int} (hp : pl < 0 ∨ (e.places.length : Int) ≤ pl) : outOf e pl up = [] := by
  rw [List.eq_nil_iff_forall_not_mem]
  intro x hx
  obtain ⟨j, m, hm, _, hd, _⟩ := (outOf_mem h0).1 hx
  have := moveOk_src (check_move h0 (List.mem_of_getElem? hm))
  omega

/-- the count of each move: 1 if it is before 'up' and its place d is below p, or it is among S -/
def Cnt (l : List Move) (d : Move → Int) (up : Int) (p : Nat) (S : List Int) (L : List Int) : Prop :=
  L.length = l.length ∧ ∀ (j : Nat) (m : Move), l[j]? = some m → L[j]? = some (if (j : Int) ∈ S ∨ ((j : Int) < up ∧ d m < (p : Int)) then 1 else 0)
theorem Cnt.zero {l : List Move} {d : Move → Int} {up : Int} (hd : ∀ m ∈ l, 0 ≤ d m) : Cnt l d up 0 [] (List.replicate l.length 0) := by
  refine ⟨by simp, fun j m hm => ?_⟩
  have hl := (List.getElem?_eq_some_iff.1 hm).1
  have := hd m (List.mem_of_getElem? hm)
  rw [if_neg (by simp; omega)]
  simp [List.getElem?_replicate, hl]
/-- one more of the picked ones is counted -/
theorem Cnt.step {l : List Move} {d : Move → Int} {up : Int} {p : Nat} {a L : List Int} {i j : Nat} {m : Move} (h : Cnt l d up p (a.take i) L) (hs : a.Pairwise (· < ·)) (hx : a[i]? = some (j : Int)) (hm : l[j]? = some m) (hdm : d m = (p : Int)) :
    L[j]? = some 0 ∧ Cnt l d up p (a.take (i + 1)) (L.set j 1) := by
  obtain ⟨hi, hxi⟩ := List.getElem?_eq_some_iff.1 hx
  have hnot : (j : Int) ∉ a.take i := by
    intro hmem
    obtain ⟨k, hk, e⟩ := List.getElem_of_mem hmem
    have hk' : k < i := by simp at hk; omega
    rw [List.getElem_take] at e
    have := List.pairwise_iff_getElem.1 hs k i (by omega) hi hk'
    omega
  refine ⟨?_, by simpa using h.1, fun j' m' hm' => ?_⟩
  · rw [h.2 j m hm, if_neg]
    rintro (h1 | ⟨_, h2⟩)
    · exact hnot h1
    · omega
  · have hmem : (j' : Int) ∈ a.take (i + 1) ↔ (j' : Int) ∈ a.take i ∨ j' = j := by
      rw [List.take_succ_eq_append_getElem hi, List.mem_append, hxi, List.mem_singleton]
      constructor
      · rintro (h1 | h1)
        · exact .inl h1
        · exact .inr (by omega)
      · rintro (h1 | h1)
        · exact .inl h1
        · exact .inr (by omega)
    by_cases hj : j' = j
    · subst hj
      rw [List.getElem?_set_self (by rw [h.1]; exact (List.getElem?_eq_some_iff.1 hm').1), if_pos (.inl (hmem.2 (.inr rfl)))]
    · rw [List.getElem?_set_ne (by omega), h.2 j' m' hm']
      have : (j' : Int) ∈ a.take (i + 1) ↔ (j' : Int) ∈ a.take i := by rw [hmem]; simp [hj]
      simp only [this]
/-- all of them are counted: on to the next place -/
theorem Cnt.next {l : List Move} {d : Move → Int} {up : Int} {p : Nat} {a L : List Int} (h : Cnt l d up p a L) (ha : ∀ (j : Nat) (m : Move), l[j]? = some m → ((j : Int) ∈ a ↔ (j : Int) < up ∧ d m = (p : Int))) : Cnt l d up (p + 1) [] L := by
  refine ⟨h.1, fun j m hm => ?_⟩
  rw [h.2 j m hm]
  have hj := ha j m hm
  have hiff : ((j : Int) ∈ a ∨ ((j : Int) < up ∧ d m < (p : Int))) ↔ ((j : Int) ∈ ([] : List Int) ∨ ((j : Int) < up ∧ d m < ((p + 1 : Nat) : Int))) := by
    rw [hj]
    constructor
    · rintro (h1 | h1)
      · exact .inr ⟨h1.1, by omega⟩
      · exact .inr ⟨h1.1, by omega⟩
    · rintro (h1 | h1)
      · cases h1
      · by_cases h2 : d m = (p : Int)
        · exact .inl ⟨h1.1, h2⟩
        · exact .inr ⟨h1.1, by omega⟩
  by_cases h : (j : Int) ∈ a ∨ ((j : Int) < up ∧ d m < (p : Int))
  · rw [if_pos h, if_pos (hiff.1 h)]
  · rw [if_neg h, if_neg (fun h' => h (hiff.2 h'))]
theorem Cnt.last {l : List Move} {d : Move → Int} {up : Int} {p : Nat} {L : List Int} (h : Cnt l d up p [] L) (hd : ∀ m ∈ l, d m < (p : Int)) {j : Nat} {m : Move} (hm : l[j]? = some m) : L[j]? = some (if (j : Int) < up then 1 else 0) := by
  rw [h.2 j m hm]
  have := hd m (List.mem_of_getElem? hm)
  congr 1
  by_cases h1 : (j : Int) < up
  · rw [if_pos (.inr ⟨h1, this⟩), if_pos h1]
  · rw [if_neg (by simp; omega), if_neg h1]
theorem into_cnt {e : Ev} (h0 : check e = 0) {up : Int} (p : Nat) : ∀ (j : Nat) (m : Move), e.moves[j]? = some m → ((j : Int) ∈ into e p up ↔ (j : Int) < up ∧ m.dst = (p : Int)) := by
  intro j m hm
  rw [into_mem h0]
  constructor
  · rintro ⟨j', m', h1, h2, h3, h4⟩
    obtain rfl : j' = j := by omega
    rw [hm] at h1
    injection h1 with h1
    subst h1
    exact ⟨h2, h3⟩
  · rintro ⟨h1, h2⟩
    exact ⟨j, m, hm, h1, h2, rfl⟩
theorem outOf_cnt {e : Ev} (h0 : check e = 0) {up : Int} (p : Nat) : ∀ (j : Nat) (m : Move), e.moves[j]? = some m → ((j : Int) ∈ outOf e p up ↔ (j : Int) < up ∧ m.src = (p : Int)) := by
  intro j m hm
  rw [outOf_mem h0]
  constructor
  · rintro ⟨j', m', h1, h2, h3, h4⟩
    obtain rfl : j' = j := by omega
    rw [hm] at h1
    injection h1 with h1
    subst h1
    exact ⟨h2, h3⟩
  · rintro ⟨h1, h2⟩
    exact ⟨j, m, hm, h1, h2, rfl⟩
theorem into_sorted (e : Ev) (pl up : Int) : (into e pl up).Pairwise (· < ·) := by
  unfold into; split
  · exact pickFrom_sorted _ _ _
  · simp
theorem outOf_sorted (e : Ev) (pl up : Int) : (outOf e pl up).Pairwise (· < ·) := by
  unfold outOf; split
  · exact pickFrom_sorted _ _ _
  · simp
theorem Ints_set (L : List Int) (j : Nat) (x : Int) : Ints (L.set j x) = (Ints L).set j (vi x) := by
  have h : ∀ l : List Int, Ints l = l.map vi := by intro l; induction l <;> simp_all [Ints]
  rw [h, h, List.map_set]
theorem Ints_at (L : List Int) (j : Nat) : (Ints L)[j]? = (L[j]?).map vi := by
  have h : ∀ l : List Int, Ints l = l.map vi := by intro l; induction l <;> simp_all [Ints]
  rw [h, List.getElem?_map]
theorem Ints_replicate (n : Nat) : Ints (List.replicate n 0) = List.replicate n (vi 0) := by
  have h : ∀ l : List Int, Ints l = l.map vi := by intro l; induction l <;> simp_all [Ints]
  rw [h, List.map_replicate]
end Go.Proofs.Ythinjkjhiembgaa
/- FlowLifts in plain Lean: the counts, the cut of a period. -/
namespace Go.Proofs.Ythinjkjhiembgaa
set_option linter.unusedSimpArgs false
set_option linter.unusedVariables false

def hhAt (e : Ev) (i : Int) : Int := ((e.places[i.toNat]?).map (·.hh)).getD (-1)
def matAt (e : Ev) (i : Int) : Int := ((e.places[i.toNat]?).map (·.mat)).getD (-1)
theorem hhAt_of {e : Ev} {i : Nat} {p : Place} (h : e.places[i]? = some p) : hhAt e (i : Int) = p.hh := by simp [hhAt, h]
theorem matAt_of {e : Ev} {i : Nat} {p : Place} (h : e.places[i]? = some p) : matAt e (i : Int) = p.mat := by simp [matAt, h]
theorem place_at {e : Ev} (h0 : check e = 0) {m : Move} (hm : m ∈ e.moves) : ∃ (i : Nat) (p : Place), m.src = (i : Int) ∧ e.places[i]? = some p ∧ placeOk e p = true := by
  obtain ⟨h1, h2⟩ := moveOk_src (check_move h0 hm)
  obtain ⟨i, hi⟩ := Int.eq_ofNat_of_zero_le h1
  have hlt : i < e.places.length := by omega
  refine ⟨i, e.places[i], hi, List.getElem?_eq_getElem hlt, ?_⟩
  have := (check_zero h0).2.2.2.2.1
  rw [List.all_eq_true] at this
  exact this _ (List.getElem_mem hlt)
theorem bin_at {e : Ev} (h0 : check e = 0) {m : Move} (hm : m ∈ e.moves) (hk : kindAt e m.src = 0) : (0 ≤ hhAt e m.src ∧ hhAt e m.src < e.hhs) ∧ (0 ≤ matAt e m.src ∧ matAt e m.src < e.mats) := by
  obtain ⟨i, p, hs, hp, hok⟩ := place_at h0 hm
  rw [hs] at hk ⊢
  rw [hhAt_of hp, matAt_of hp]
  rw [kindAt_of hp] at hk
  simp [placeOk, hk] at hok
  exact ⟨idx_iff.1 hok.2.1, idx_iff.1 hok.2.2⟩
theorem liftIs_at {e : Ev} (h0 : check e = 0) {m : Move} (hm : m ∈ e.moves) (hh mat lo hi : Int) :
    liftIs e hh mat lo hi m = (decide (kindAt e m.src = 0) && decide (hhAt e m.src = hh) && (decide (mat = -1) || decide (matAt e m.src = mat)) && btw m.day lo hi) := by
  obtain ⟨i, p, hs, hp, -⟩ := place_at h0 hm
  rw [liftIs_of hp hs, hs, kindAt_of hp, hhAt_of hp, matAt_of hp]
theorem movesErr_days {e : Ev} {l : List Move} : ∀ {last : Int}, movesErr e last l = 0 → l.Pairwise (fun a b => a.day ≤ b.day) ∧ ∀ m ∈ l, last ≤ m.day ∧ m.day ≤ 100000 := by
  induction l with
  | nil => intro last _; simp
  | cons m r ih =>
    intro last h
    unfold movesErr at h
    split at h
    · simp at h
    · rename_i hd
      split at h
      · obtain ⟨h1, h2⟩ := ih h
        refine ⟨List.pairwise_cons.2 ⟨fun x hx => (h2 x hx).1, h1⟩, fun x hx => ?_⟩
        rcases List.mem_cons.1 hx with rfl | hx
        · omega
        · have := h2 x hx; omega
      · simp at h
theorem check_day {e : Ev} (h0 : check e = 0) {m : Move} (hm : m ∈ e.moves) : 0 ≤ m.day ∧ m.day ≤ 100000 := (movesErr_days (check_zero h0).2.2.2.2.2.1).2 m hm
theorem pickFrom_cut {A B C : Move → Bool} {c : Int} (h1 : ∀ m : Move, m.day ≤ c → A m = B m ∧ C m = false) (h2 : ∀ m : Move, c < m.day → A m = C m ∧ B m = false) :
    ∀ (l : List Move) (k : Nat), l.Pairwise (fun a b => a.day ≤ b.day) → pickFrom (fun _ m => A m) k l = pickFrom (fun _ m => B m) k l ++ pickFrom (fun _ m => C m) k l := by
  intro l
  induction l with
  | nil => intro k _; simp [pickFrom]
  | cons m r ih =>
    intro k hp
    obtain ⟨hm, hr⟩ := List.pairwise_cons.1 hp
    have hi := ih (k + 1) hr
    by_cases hd : m.day ≤ c
    · obtain ⟨e1, e2⟩ := h1 m hd
      simp only [pickFrom, e1, e2, hi]
      split <;> simp
    · obtain ⟨e1, e2⟩ := h2 m (by omega)
      have hn : pickFrom (fun _ m => B m) (k + 1) r = [] := by
        rw [List.eq_nil_iff_forall_not_mem]
        intro x hx
        obtain ⟨i, y, hy, hb, -⟩ := mem_pickFrom.1 hx
        have hdy := hm y (List.mem_of_getElem? hy)
        have := (h2 y (by omega)).2
        simp_all
      simp only [pickFrom, e1, e2, hi, hn]
      split <;> simp
theorem lifts_cut {e : Ev} (h0 : check e = 0) {hh mat lo c hi : Int} (h1 : lo ≤ c) (h2 : c < hi) : lifts e hh mat lo hi = lifts e hh mat lo c ++ lifts e hh mat (c + 1) hi := by
  unfold lifts
  rw [if_pos h0, if_pos h0, if_pos h0]
  refine pickFrom_cut (c := c) ?_ ?_ _ _ (movesErr_days (check_zero h0).2.2.2.2.2.1).1
  · intro m hd
    unfold liftIs
    cases e.places[m.src.toNat]? with
    | none => simp
    | some p => simp only; constructor
                · have : btw m.day lo hi = btw m.day lo c := by rw [Bool.eq_iff_iff, btw_iff, btw_iff]; omega
                  rw [this]
                · have : btw m.day (c + 1) hi = false := by rw [btw_false]; omega
                  rw [this]; simp
  · intro m hd
    unfold liftIs
    cases e.places[m.src.toNat]? with
    | none => simp
    | some p => simp only; constructor
                · have : btw m.day lo hi = btw m.day (c + 1) hi := by rw [Bool.eq_iff_iff, btw_iff, btw_iff]; omega
                  rw [this]
                · have : btw m.day lo c = false := by rw [btw_false]; omega
                  rw [this]; simp
theorem lifts_mem {e : Ev} (h0 : check e = 0) {hh mat lo hi x : Int} : x ∈ lifts e hh mat lo hi ↔ ∃ (j : Nat) (m : Move), e.moves[j]? = some m ∧ liftIs e hh mat lo hi m = true ∧ x = (j : Int) := by
  unfold lifts
  rw [if_pos h0, mem_pickFrom]
  constructor
  · rintro ⟨i, m, h1, h2, h3⟩
    exact ⟨i, m, h1, h2, by simpa using h3⟩
  · rintro ⟨i, m, h1, h2, h3⟩
    exact ⟨i, m, h1, h2, by simpa using h3⟩

/-! counts -/
theorem length_pick_count {α : Type} (q : α → Bool) (l : List α) : ∀ k, (pickFrom (fun _ m => q m) k l).length = l.countP q := by
  induction l with
  | nil => intro k; simp [pickFrom]
  | cons m r ih =>
    intro k
    simp only [pickFrom, List.countP_cons]
    split <;> simp [ih]
theorem countP_split {α : Type} {l : List α} {P A B : α → Bool} (h : ∀ m ∈ l, P m = (A m || B m) ∧ ¬ (A m = true ∧ B m = true)) : l.countP P = l.countP A + l.countP B := by
  induction l with
  | nil => simp
  | cons m r ih =>
    have h1 := h m (by simp)
    have h2 := ih fun x hx => h x (by simp [hx])
    simp only [List.countP_cons, h2, h1.1]
    cases ha : A m <;> cases hb : B m <;> simp_all <;> omega
theorem countP_same {α : Type} {l : List α} {P A : α → Bool} (h : ∀ m ∈ l, P m = A m) : l.countP P = l.countP A := by
  induction l with
  | nil => simp
  | cons m r ih => simp [List.countP_cons, h m (by simp), ih fun x hx => h x (by simp [hx])]
theorem countP_none {α : Type} {l : List α} {P : α → Bool} (h : ∀ m ∈ l, P m = false) : l.countP P = 0 := by
  rw [countP_same h]; simp

def isBin (e : Ev) (m : Move) : Bool := decide (kindAt e m.src = 0)
def cTot (e : Ev) : Nat := e.moves.countP (isBin e)
def cAll (e : Ev) (h : Int) : Nat := e.moves.countP fun m => isBin e m && decide (hhAt e m.src < h)
def cSome (e : Ev) (h t : Int) : Nat := e.moves.countP fun m => isBin e m && (decide (hhAt e m.src < h) || decide (hhAt e m.src = h) && decide (matAt e m.src < t))
def cBin (e : Ev) (p : Int) : Nat := e.moves.countP fun m => isBin e m && decide (m.src < p)
section
variable {e : Ev} (h0 : check e = 0)
include h0
theorem length_lifts_count (hh mat lo hi : Int) : (lifts e hh mat lo hi).length = e.moves.countP (liftIs e hh mat lo hi) := by
  unfold lifts
  rw [if_pos h0]
  exact length_pick_count _ _ _
theorem length_outOf_count (p : Int) : (outOf e p e.moves.length).length = e.moves.countP fun m => decide (m.src = p) := by
  unfold outOf
  rw [if_pos h0, ← length_pick_count _ _ 0]
  congr 1
  exact pickFrom_congr e.moves e.moves.length (fun k m hk => by simp [hk]) 0 (by omega)
theorem cAll_zero : cAll e 0 = 0 := countP_none fun m hm => by
  by_cases hk : kindAt e m.src = 0
  · have := bin_at h0 hm hk; simp; intro _; omega
  · simp [isBin, hk]
theorem cSome_zero : cSome e 0 0 = 0 := countP_none fun m hm => by
  by_cases hk : kindAt e m.src = 0
  · have := bin_at h0 hm hk
    rw [Bool.eq_false_iff]; simp; intro _; omega
  · simp [isBin, hk]
theorem cBin_zero : cBin e 0 = 0 := countP_none fun m hm => by
  have := moveOk_src (check_move h0 hm)
  simp; intro _; omega
theorem cAll_all : cAll e e.hhs = cTot e := countP_same fun m hm => by
  by_cases hk : kindAt e m.src = 0
  · have := bin_at h0 hm hk; simp [isBin, hk]; omega
  · simp [isBin, hk]
theorem cSome_all : cSome e e.hhs 0 = cTot e := countP_same fun m hm => by
  by_cases hk : kindAt e m.src = 0
  · have := bin_at h0 hm hk; simp [isBin, hk]; omega
  · simp [isBin, hk]
theorem cBin_all : cBin e e.places.length = cTot e := countP_same fun m hm => by
  have := moveOk_src (check_move h0 hm)
  simp; intro _; omega
theorem cAll_step (h : Int) : cAll e (h + 1) = cAll e h + (lifts e h (-1) 0 100000).length := by
  rw [length_lifts_count h0]
  refine countP_split fun m hm => ?_
  have hd := check_day h0 hm
  have hb : btw m.day 0 100000 = true := btw_iff.2 hd
  rw [liftIs_at h0 hm, hb]
  by_cases hk : kindAt e m.src = 0
  · simp [isBin, hk]
    constructor
    · rw [Bool.eq_iff_iff]; simp; omega
    · omega
  · simp [isBin, hk]
theorem cSome_step (h : Int) {t : Int} (ht : 0 ≤ t) : cSome e h (t + 1) = cSome e h t + (lifts e h t 0 100000).length := by
  rw [length_lifts_count h0]
  refine countP_split fun m hm => ?_
  have hd := check_day h0 hm
  have hb : btw m.day 0 100000 = true := btw_iff.2 hd
  have hne : ¬ t = -1 := by omega
  rw [liftIs_at h0 hm, hb]
  by_cases hk : kindAt e m.src = 0
  · simp [isBin, hk, hne]
    constructor
    · rw [Bool.eq_iff_iff]; simp; omega
    · omega
  · simp [isBin, hk]
theorem cSome_row (h : Int) : cSome e h e.mats = cSome e (h + 1) 0 := countP_same fun m hm => by
  by_cases hk : kindAt e m.src = 0
  · have := bin_at h0 hm hk
    rw [Bool.eq_iff_iff]; simp [isBin, hk]; omega
  · simp [isBin, hk]
theorem cBin_yes {p : Nat} (hs : source e p = true) : cBin e (p + 1) = cBin e p + (outOf e p e.moves.length).length := by
  rw [length_outOf_count h0]
  simp [source] at hs
  refine countP_split fun m hm => ?_
  constructor
  · rw [Bool.eq_iff_iff]; simp [isBin]
    constructor
    · rintro ⟨h1, h2⟩
      by_cases h3 : m.src = (p : Int)
      · exact .inr h3
      · exact .inl ⟨h1, by omega⟩
    · rintro (⟨h1, h2⟩ | h1)
      · exact ⟨h1, by omega⟩
      · exact ⟨by rw [h1]; exact hs.2, by omega⟩
  · simp; intro _ _; omega
theorem cBin_no {p : Nat} (hp : p < e.places.length) (hs : source e p = false) : cBin e (p + 1) = cBin e p := by
  have hk : ¬ kindAt e (p : Int) = 0 := by
    intro hk
    have : source e p = true := by simp [source, h0, hk, idx_iff]; omega
    rw [this] at hs; cases hs
  refine countP_same fun m hm => ?_
  rw [Bool.eq_iff_iff]; simp [isBin]
  intro h1
  constructor
  · intro h2
    by_cases h3 : m.src = (p : Int)
    · rw [h3] at h1; exact absurd h1 hk
    · omega
  · omega
end
theorem cAll_le (e : Ev) (h : Int) : cAll e h ≤ e.moves.length := List.countP_le_length
theorem cSome_le (e : Ev) (h t : Int) : cSome e h t ≤ e.moves.length := List.countP_le_length
theorem cBin_le (e : Ev) (h : Int) : cBin e h ≤ e.moves.length := List.countP_le_length
end Go.Proofs.Ythinjkjhiembgaa
/- FlowLess in plain Lean: right evidence stays right with less said, fewer moves, more room. -/
namespace Go.Proofs.Ythinjkjhiembgaa
set_option linter.unusedSimpArgs false
set_option linter.unusedVariables false

theorem moveOk_mono {e e' : Ev} (hp : e'.places = e.places) (hs : e.scs ≤ e'.scs) {m : Move} (h : moveOk e m = true) : moveOk e' m = true := by
  have hk : ∀ i, kindAt e' i = kindAt e i := fun i => by unfold kindAt; rw [hp]
  unfold moveOk at h ⊢
  rw [hp, hk, hk]
  simp only [Bool.and_eq_true] at h ⊢
  refine ⟨h.1, ?_⟩
  have h2 := h.2
  split at h2
  · rw [if_pos (by assumption)]; exact h2
  · rw [if_neg (by assumption)]
    simp only [Bool.and_eq_true, idx_iff] at h2 ⊢
    exact ⟨⟨h2.1.1, by omega⟩, h2.2⟩
theorem movesErr_mono {e e' : Ev} (hm : ∀ m, moveOk e m = true → moveOk e' m = true) : ∀ (l : List Move) (n : Nat) (last : Int), movesErr e last l = 0 → movesErr e' last (l.take n) = 0
  | [], n, last, _ => by simp [movesErr]
  | m :: r, 0, last, _ => by simp [movesErr]
  | m :: r, n + 1, last, h => by
    unfold movesErr at h
    split at h
    · simp at h
    · rename_i hd
      split at h
      · rename_i hk
        rw [List.take_succ_cons]
        unfold movesErr
        rw [if_neg hd, if_pos (hm m hk)]
        exact movesErr_mono hm r n m.day h
      · simp at h
theorem check_mono {e e' : Ev} {n : Nat} (h : check e = 0) (hp : e'.places = e.places) (h1 : e.mats ≤ e'.mats) (h2 : e'.mats ≤ 6) (h3 : e.hhs ≤ e'.hhs) (h4 : e'.hhs ≤ 100) (h5 : e.scs ≤ e'.scs) (h6 : e'.scs ≤ 30)
    (hm : e'.moves = e.moves.take n) (hc : e'.certs = e.certs ∨ e'.certs = []) (hr : e'.recalls = e.recalls ∨ e'.recalls = [])
    (hq : ∀ q ∈ e'.purities, q ∈ e.purities ∧ q.move < e'.moves.length) (hl : e'.purities.length ≤ e.purities.length) : check e' = 0 := by
  obtain ⟨a1, a2, a3, a4, a5, a6, a7⟩ := check_zero h
  have b1 : fullB e' = false := by
    have e1 : e'.certs.length ≤ e.certs.length := by rcases hc with hc | hc <;> rw [hc] <;> simp
    have e2 : e'.recalls.length ≤ e.recalls.length := by rcases hr with hr | hr <;> rw [hr] <;> simp
    have e3 : e'.moves.length ≤ e.moves.length := by rw [hm]; simp; omega
    have e4 : e'.places.length = e.places.length := by rw [hp]
    simp [fullB] at a1 ⊢
    omega
  have b2 : e'.places.all (placeOk e') = true := by
    rw [hp, List.all_eq_true]
    intro p hpm
    have := List.all_eq_true.1 a5 p hpm
    unfold placeOk at this ⊢
    simp only [Bool.and_eq_true] at this ⊢
    refine ⟨this.1, ?_⟩
    have h2 := this.2
    split at h2
    · rw [if_pos (by assumption)]
      simp only [Bool.and_eq_true, idx_iff] at h2 ⊢
      omega
    · rw [if_neg (by assumption)]; exact h2
  have b3 : movesErr e' 0 e'.moves = 0 := by
    rw [hm]; exact movesErr_mono (fun m => moveOk_mono hp h5) _ _ _ a6
  have b4 : saidOk e' = true := by
    simp only [saidOk, Bool.and_eq_true, List.all_eq_true] at a7 ⊢
    obtain ⟨⟨c1, c2⟩, c3⟩ := a7
    refine ⟨⟨fun c hcm => ?_, fun r hrm => ?_⟩, fun q hqm => ?_⟩
    · have : c ∈ e.certs := by
        rcases hc with hc | hc <;> rw [hc] at hcm
        · exact hcm
        · cases hcm
      have := c1 c this
      simp only [certOk, Bool.and_eq_true, decide_eq_true_eq, idx_iff] at this ⊢
      refine ⟨⟨⟨⟨this.1.1.1.1, this.1.1.1.2.1, by omega⟩, this.1.1.2⟩, this.1.2⟩, this.2⟩
    · have : r ∈ e.recalls := by
        rcases hr with hr | hr <;> rw [hr] at hrm
        · exact hrm
        · cases hrm
      have := c2 r this
      simp only [recallOk, Bool.and_eq_true, idx_iff] at this ⊢
      exact ⟨⟨this.1.1, by omega⟩, this.2⟩
    · obtain ⟨d1, d2⟩ := hq q hqm
      have := c3 q d1
      simp only [purityOk, Bool.and_eq_true, decide_eq_true_eq, idx_iff] at this ⊢
      omega
  unfold check
  rw [if_neg (by simp [b1]), if_neg, if_neg (by simp [b3]), if_pos b4]
  rintro (h | h | h | h)
  · omega
  · omega
  · omega
  · rw [b2] at h; cases h

theorem pickFrom_nil {α : Type} {p : Nat → α → Bool} : ∀ (l : List α) (k : Nat), (∀ i m, k ≤ i → p i m = false) → pickFrom p k l = []
  | [], k, _ => rfl
  | m :: r, k, h => by
    rw [pickFrom, h k m (Nat.le_refl _)]
    simp only [Bool.false_eq_true, if_false]
    exact pickFrom_nil r (k + 1) fun i m hi => h i m (by omega)
theorem pickFrom_take {α : Type} {p : Nat → α → Bool} {l : List α} {n : Nat} (hn : n ≤ l.length) (h : ∀ i m, n ≤ i → p i m = false) : pickFrom p 0 (l.take n) = pickFrom p 0 l := by
  have := pickFrom_append p (l.take n) (l.drop n) 0
  rw [List.take_append_drop] at this
  rw [this, pickFrom_nil (l.drop n) _ (fun i m hi => h i m (by simp at hi; omega)), List.append_nil]
theorem into_less {e e' : Ev} {n : Nat} (h : check e = 0) (h' : check e' = 0) (hm : e'.moves = e.moves.take n) (hn : n ≤ e.moves.length) (p : Int) : into e' p n = into e p n := by
  unfold into
  rw [if_pos h, if_pos h', hm]
  exact pickFrom_take hn fun i m hi => by simp; omega
theorem outOf_less {e e' : Ev} {n : Nat} (h : check e = 0) (h' : check e' = 0) (hm : e'.moves = e.moves.take n) (hn : n ≤ e.moves.length) (p : Int) : outOf e' p e.moves.length = outOf e p n := by
  unfold outOf
  rw [if_pos h, if_pos h', hm, ← pickFrom_take hn (p := fun k m => decide ((k : Int) < n) && decide (m.src = p)) (fun i m hi => by simp; omega)]
  refine pickFrom_congr _ n (fun k m hk => ?_) 0 (by simp; omega)
  have e1 : decide ((k : Int) < e.moves.length) = true := by simp; omega
  have e2 : decide ((k : Int) < n) = true := by simp; omega
  rw [e1, e2]
end Go.Proofs.Ythinjkjhiembgaa
/- HistoryRecalls: its walk. -/
namespace Go.Proofs.Ythinjkjhiembgaa
open Go.RowKit
set_option linter.unusedVariables false
set_option linter.unusedSimpArgs false
set_option maxRecDepth 100000

theorem take_mix {α : Type} (X : List α) (j n m : Nat) (hn : X.length = n) : List.take (min j n) (List.take j X) ++ List.drop m (List.take n X) = List.take j X ++ List.drop m X := by
  rw [List.take_of_length_le (l := List.take j X) (by simp [hn]), List.take_of_length_le (l := X) (i := n) (by omega)]
def lessP (e : Ev) (k : Nat) : Ev := { e with purities := e.purities.take k ++ e.purities.drop (k + 1) }
theorem vs_moreR {e : Ev} {r : Recall} {H : Hp} {id n : Nat} {app : Bool} {k : Blk} (hk : H[id]? = some k) (hd : ¬ k.mode.gone) (hs : k.size = 2) (hc : k.rows = toC ((e.recalls ++ [r]).map Recall.row)) (hl : n = e.recalls.length + 1) :
    VS H (fun _ => True) (.agg [.t (ti e.mats), .t (ti e.hhs), .t (ti e.scs), .t (placesT e.places), .t (movesT e.moves), .t (certsT e.certs), .own id 0 n app, .t (puritiesT e.purities)]) (evS (moreR e r)) :=
  vs_agg (ts := evT (moreR e r)) (vl_cons (vc_t rfl) (vl_cons (vc_t rfl) (vl_cons (vc_t rfl) (vl_cons (vc_t rfl) (vl_cons (vc_t rfl) (vl_cons (vc_t rfl) (vl_cons (vc_all trivial hk hd hs hc (by rw [hl]; simp [moreR])) (vl_cons (vc_t rfl) vl_nil))))))))
theorem vs_lessP {e : Ev} {j : Nat} {H : Hp} {id n : Nat} {app : Bool} {k : Blk} (hk : H[id]? = some k) (hd : ¬ k.mode.gone) (hs : k.size = 4) (hc : k.rows = toC ((e.purities.take j ++ e.purities.drop (j + 1)).map Purity.row)) (hl : n = (e.purities.take j ++ e.purities.drop (j + 1)).length) :
    VS H (fun _ => True) (.agg [.t (ti e.mats), .t (ti e.hhs), .t (ti e.scs), .t (placesT e.places), .t (movesT e.moves), .t (certsT e.certs), .t (recallsT e.recalls), .own id 0 n app]) (evS (lessP e j)) :=
  vs_agg (ts := evT (lessP e j)) (vl_cons (vc_t rfl) (vl_cons (vc_t rfl) (vl_cons (vc_t rfl) (vl_cons (vc_t rfl) (vl_cons (vc_t rfl) (vl_cons (vc_t rfl) (vl_cons (vc_t rfl) (vl_cons (vc_all trivial hk hd hs hc (by rw [hl]; simp [lessP])) vl_nil))))))))
theorem check_lessP {e : Ev} {j : Nat} (h : check e = 0) : check (lessP e j) = 0 := by
  obtain ⟨a1, a2, a3, a4, a5, a6, a7⟩ := check_zero h
  have hb : e.mats ≤ 6 ∧ e.hhs ≤ 100 ∧ e.scs ≤ 30 := by
    unfold fullB at a1
    simp only [Bool.or_eq_false_iff, decide_eq_false_iff_not] at a1
    omega
  refine check_mono (e := e) (n := e.moves.length) h rfl (Int.le_refl _) hb.1 (Int.le_refl _) hb.2.1 (Int.le_refl _) hb.2.2 (by simp [lessP]) (.inl rfl) (.inl rfl) (fun q hq => ?_) (by simp [lessP]; omega)
  have hm : q ∈ e.purities := by
    rcases List.mem_append.1 hq with h | h
    · exact List.mem_of_mem_take h
    · exact List.mem_of_mem_drop h
  refine ⟨hm, ?_⟩
  unfold saidOk at a7
  simp only [Bool.and_eq_true, List.all_eq_true] at a7
  have := a7.2 q hm
  unfold purityOk at this
  simp only [Bool.and_eq_true, decide_eq_true_eq, idx_iff] at this
  exact this.1.1.1.1.2
set_option maxHeartbeats 4000000 in
theorem a_HistoryRecalls (e : Ev) (hh : List (List Fr)) (which : Int) (x : Recall) (hw0 : 0 ≤ which) (hw1 : which ≤ 255) :
    ACall Try.prog 5 [evS e, histS hh, intS .u8 which, recS x] [] (boolS true) [] := by
  have sm := a_small15
  have fw := a_few e hh
  have m1 : (e.purities.map Purity.row).length = e.purities.length := by simp
  have m2 : (e.recalls.map Recall.row).length = e.recalls.length := by simp
  cases hf : (little e && fewH hh) with
  | false =>
    rw [hf] at fw
    (refine acall_of tab_ok Try.func5 rfl (by decide) ?_; (conv => whnf); repeat (first | (refine LitB.data ?_; conv => whnf) | (refine BoxB.data ?_; conv => whnf)))
    (repeat' (first | ((refine DecB.mk (fun h => ?_) (fun h => ?_)) <;> first | (exfalso; omega) | (conv => whnf)) | ((refine BoolB.mk (fun h => ?_) (fun h => ?_)) <;> first | (exact absurd h (by decide)) | (conv => whnf)) | (refine ⟨_, wrap_ok (by omega) (by omega), ?_⟩; conv => whnf) | (refine and_idx (by omega) (by omega) ?_; conv => whnf) | (refine reg_ok (by decide +kernel) ?_; conv => whnf) | (refine bar_ok (by decide +kernel) (by decide +kernel) ?_; conv => whnf) | (refine late_ok rfl rfl ?_; conv => whnf) | (refine src_ok rfl ?_; conv => whnf) | (refine .inl ⟨_, _, qcall_pure (sm) rfl rfl, ?_⟩; conv => whnf) | (refine .inl ⟨_, _, qcall_pure (fw) rfl rfl, ?_⟩; conv => whnf) | (refine LitB.data ?_; conv => whnf) | (refine BoxB.own ?_; conv => whnf)))
    all_goals first
      | (exfalso; simp_all; done)
      | exact fin_bool rfl
  | true =>
    rw [hf] at fw
    simp only [Bool.and_eq_true] at hf
    have hs := little_sized hf.1
    obtain ⟨hS, hS2, hS3⟩ := few_small hf.2
    have hS := hS.mono (show 3 ≤ 200 by decide)
    have hsm : (moreR e x).Sized := ⟨hs.s1, hs.s2, hs.s3, by have := hf.1; unfold little at this; simp only [Bool.and_eq_true, decide_eq_true_eq] at this; simp [moreR]; omega, hs.s5⟩
    have rl : e.recalls.length ≤ 10 ∧ e.purities.length ≤ 20 := by have := hf.1; unfold little at this; simp only [Bool.and_eq_true, decide_eq_true_eq] at this; omega
    have ck := a_Check e hs
    have ckm := a_Check (moreR e x) hsm
    have hc := a_hCheck e hh hs hS
    have hcm := a_hCheck (moreR e x) hh hsm hS
    have key : check e ≠ 0 ∨ check (moreR e x) ≠ 0 ∨ histCheck e hh = 24 ∨ histCheck (moreR e x) hh = histCheck e hh := by
      by_cases q1 : check e = 0
      · by_cases q2 : check (moreR e x) = 0
        · by_cases q3 : histCheck e hh = 24
          · exact .inr (.inr (.inl q3))
          · exact .inr (.inr (.inr (hist_more q1 q2 q3)))
        · exact .inr (.inl q2)
      · exact .inl q1
    by_cases hz : histCheck e hh = 0 ∧ 0 < e.purities.length
    · have hmod : 0 ≤ which.tmod (((e.purities.map Purity.row).length : Nat) : Int) ∧ which.tmod (((e.purities.map Purity.row).length : Nat) : Int) < e.purities.length := by
        rw [m1, Int.tmod_eq_emod_of_nonneg hw0]
        exact ⟨Int.emod_nonneg _ (by omega), Int.emod_lt_of_pos _ (by omega)⟩
      have eK : (which.tmod (((e.purities.map Purity.row).length : Nat) : Int) + 1).toNat = (which.tmod (((e.purities.map Purity.row).length : Nat) : Int)).toNat + 1 := by omega
      have eK2 := eK
      rw [m1] at eK2
      have hls : (lessP e (which.tmod (((e.purities.map Purity.row).length : Nat) : Int)).toNat).Sized := ⟨hs.s1, hs.s2, hs.s3, hs.s4, by simp [lessP]; omega⟩
      have hcl := a_hCheck (lessP e (which.tmod (((e.purities.map Purity.row).length : Nat) : Int)).toNat) hh hls hS
      have c0 := check_lessP (e := e) (j := (which.tmod (((e.purities.map Purity.row).length : Nat) : Int)).toNat) (histCheck_zero hz.1).1
      rw [hist_less (e := e) c0 rfl rfl rfl rfl rfl (fun p hp => by
        rcases List.mem_append.1 hp with h | h
        · exact List.mem_of_mem_take h
        · exact List.mem_of_mem_drop h) hz.1] at hcl
      (refine acall_of tab_ok Try.func5 rfl (by decide) ?_; (conv => whnf); repeat (first | (refine LitB.data ?_; conv => whnf) | (refine BoxB.data ?_; conv => whnf)))
      (repeat' (first | ((refine DecB.mk (fun h => ?_) (fun h => ?_)) <;> first | (exfalso; omega) | (conv => whnf)) | ((refine BoolB.mk (fun h => ?_) (fun h => ?_)) <;> first | (exact absurd h (by decide)) | (conv => whnf)) | (refine ⟨_, wrap_ok (by omega) (by omega), ?_⟩; conv => whnf) | (refine and_idx (by omega) (by omega) ?_; conv => whnf) | (refine reg_ok (by decide +kernel) ?_; conv => whnf) | (refine bar_ok (by decide +kernel) (by decide +kernel) ?_; conv => whnf) | (refine late_ok rfl rfl ?_; conv => whnf) | (refine src_ok rfl ?_; conv => whnf) | (refine .inl ⟨_, _, qcall_pure (sm) rfl rfl, ?_⟩; conv => whnf) | (refine .inl ⟨_, _, qcall_pure (fw) rfl rfl, ?_⟩; conv => whnf) | (refine .inl ⟨_, _, qcall_pure (hc) rfl rfl, ?_⟩; conv => whnf) | (refine .inl ⟨_, _, qcall_pure (ck) rfl rfl, ?_⟩; conv => whnf) | (refine .inl ⟨_, _, qcall_pure (toC) rfl rfl, ?_⟩; conv => whnf) | (refine .inl ⟨_, _, qcall_pure (toC, newBlk) rfl rfl, ?_⟩; conv => whnf) | (refine .inl ⟨_, _, qcall_pure (toC) rfl rfl, ?_⟩; conv => whnf) | (refine .inl ⟨_, _, qcall_pure (toC, newBlk) rfl rfl, ?_⟩; conv => whnf) | (refine .inl ⟨_, _, qcall_pure (toC) rfl rfl, ?_⟩; conv => whnf) | (refine .inl ⟨_, _, qcall_pure (toC, newBlk) rfl rfl, ?_⟩; conv => whnf) | (refine .inl ⟨_, _, qcall_pure (toC) rfl rfl, ?_⟩; conv => whnf) | (refine .inl ⟨_, _, qcall_pure (toC, newBlk) rfl rfl, ?_⟩; conv => whnf) | (refine .inl ⟨_, _, qcall_pure (eK2) rfl rfl, ?_⟩; conv => whnf) | (refine .inl ⟨_, _, qcall_pure (toC) rfl rfl, ?_⟩; conv => whnf) | (refine .inl ⟨_, _, qcall_pure (eK2) rfl rfl, ?_⟩; conv => whnf) | (refine app_nil rfl (by simp [toC]; omega) ?_; conv => whnf) | (refine app_ok (by simp [toC, newBlk]) (by simp [toC]; omega) ?_; conv => whnf) | (refine .inl ⟨_, _, qcall_view ckm ⟨vs_moreR rfl (by intro h; cases h) rfl (by simp [toC, newBlk]; exact ⟨List.take_of_length_le (by simp), rfl⟩) (by simp [toC]), trivial⟩ rfl, ?_⟩; conv => whnf) | (refine .inl ⟨_, _, qcall_view hcm ⟨vs_moreR rfl (by intro h; cases h) rfl (by simp [toC, newBlk]; exact ⟨List.take_of_length_le (by simp), rfl⟩) (by simp [toC]), vs_t, trivial⟩ rfl, ?_⟩; conv => whnf) | (refine ne_ok (by omega) ?_; conv => whnf) | (refine sl_ok (by omega) (by omega) (by omega) ?_; conv => whnf) | (refine .inl ⟨_, _, qcall_view hcl ⟨vs_lessP rfl (by intro h; cases h) rfl (by simp [toC, newBlk]; rw [eK2]; exact take_mix _ _ _ _ (by simp)) (by simp [toC]; rw [eK2]), vs_t, trivial⟩ rfl, ?_⟩; conv => whnf) | (refine LitB.data ?_; conv => whnf) | (refine BoxB.own ?_; conv => whnf)))
      all_goals first
        | (exfalso; omega)
        | exact fin_bool rfl
    · (refine acall_of tab_ok Try.func5 rfl (by decide) ?_; (conv => whnf); repeat (first | (refine LitB.data ?_; conv => whnf) | (refine BoxB.data ?_; conv => whnf)))
      (repeat' (first | ((refine DecB.mk (fun h => ?_) (fun h => ?_)) <;> first | (exfalso; omega) | (conv => whnf)) | ((refine BoolB.mk (fun h => ?_) (fun h => ?_)) <;> first | (exact absurd h (by decide)) | (conv => whnf)) | (refine ⟨_, wrap_ok (by omega) (by omega), ?_⟩; conv => whnf) | (refine and_idx (by omega) (by omega) ?_; conv => whnf) | (refine reg_ok (by decide +kernel) ?_; conv => whnf) | (refine bar_ok (by decide +kernel) (by decide +kernel) ?_; conv => whnf) | (refine late_ok rfl rfl ?_; conv => whnf) | (refine src_ok rfl ?_; conv => whnf) | (refine .inl ⟨_, _, qcall_pure (sm) rfl rfl, ?_⟩; conv => whnf) | (refine .inl ⟨_, _, qcall_pure (fw) rfl rfl, ?_⟩; conv => whnf) | (refine .inl ⟨_, _, qcall_pure (hc) rfl rfl, ?_⟩; conv => whnf) | (refine .inl ⟨_, _, qcall_pure (ck) rfl rfl, ?_⟩; conv => whnf) | (refine .inl ⟨_, _, qcall_pure (toC) rfl rfl, ?_⟩; conv => whnf) | (refine .inl ⟨_, _, qcall_pure (toC, newBlk) rfl rfl, ?_⟩; conv => whnf) | (refine .inl ⟨_, _, qcall_pure (toC) rfl rfl, ?_⟩; conv => whnf) | (refine .inl ⟨_, _, qcall_pure (toC, newBlk) rfl rfl, ?_⟩; conv => whnf) | (refine .inl ⟨_, _, qcall_pure (toC) rfl rfl, ?_⟩; conv => whnf) | (refine .inl ⟨_, _, qcall_pure (toC, newBlk) rfl rfl, ?_⟩; conv => whnf) | (refine .inl ⟨_, _, qcall_pure (toC) rfl rfl, ?_⟩; conv => whnf) | (refine app_nil rfl (by simp [toC]; omega) ?_; conv => whnf) | (refine app_ok (by simp [toC, newBlk]) (by simp [toC]; omega) ?_; conv => whnf) | (refine .inl ⟨_, _, qcall_view ckm ⟨vs_moreR rfl (by intro h; cases h) rfl (by simp [toC, newBlk]; exact ⟨List.take_of_length_le (by simp), rfl⟩) (by simp [toC]), trivial⟩ rfl, ?_⟩; conv => whnf) | (refine .inl ⟨_, _, qcall_view hcm ⟨vs_moreR rfl (by intro h; cases h) rfl (by simp [toC, newBlk]; exact ⟨List.take_of_length_le (by simp), rfl⟩) (by simp [toC]), vs_t, trivial⟩ rfl, ?_⟩; conv => whnf) | (refine LitB.data ?_; conv => whnf) | (refine BoxB.own ?_; conv => whnf)))
      all_goals first
        | (exfalso; omega)
        | exact fin_bool rfl
end Go.Proofs.Ythinjkjhiembgaa
/- Chapter 15 in plain Lean: other readings, first moves. No program is in sight. -/
namespace Go.Proofs.Ythinjkjhiembgaa
set_option linter.unusedVariables false
set_option linter.unusedSimpArgs false

/-- the first error is that of the move k -/
theorem movesE_first {e : Ev} {G : List (List Rat)} {c : Int} (hc : c ≠ 0) : ∀ {ms : List Move} {i k : Nat} {x : Move}, ms[k]? = some x → (∀ j y, j < k → ms[j]? = some y → stepAt e G (i + j) y = 0) → stepAt e G (i + k) x = c → movesE e G i ms = c
  | [], i, k, x, hx, _, _ => by simp at hx
  | y :: r, i, 0, x, hx, _, h => by
    simp at hx
    subst hx
    rw [movesE_cons]
    rw [Nat.add_zero] at h
    rw [h, if_pos hc]
  | y :: r, i, k + 1, x, hx, h0, h => by
    rw [movesE_cons, if_neg (by have := h0 0 y (by omega) rfl; rw [Nat.add_zero] at this; simpa using this)]
    refine movesE_first hc (k := k) (x := x) (by simpa using hx) (fun j z hj hz => ?_) ?_
    · have := h0 (j + 1) z (by omega) (by simpa using hz)
      rwa [show i + 1 + j = i + (j + 1) by omega]
    · rwa [show i + 1 + k = i + (k + 1) by omega]
/-- evidence with another reading of a move -/
def readE (e : Ev) (k : Nat) (x : Move) (r : Int) : Ev := { e with moves := e.moves.set k { x with reading := r } }
theorem readE_get {e : Ev} {k : Nat} {x : Move} {r : Int} (hx : e.moves[k]? = some x) (j : Nat) : (readE e k x r).moves[j]? = if j = k then some { x with reading := r } else e.moves[j]? := by
  have hk := (List.getElem?_eq_some_iff.1 hx).1
  unfold readE
  simp only
  by_cases h : j = k
  · subst h; rw [if_pos rfl, List.getElem?_set_self hk]
  · rw [if_neg h, List.getElem?_set_ne (fun h' => h h'.symm)]
theorem stk_read {e : Ev} {k : Nat} {x : Move} {r : Int} {G : List (List Rat)} (hx : e.moves[k]? = some x) (j : Nat) : stk (readE e k x r) G j = stk e G j :=
  stk_congr j (fun i _ => by
    rw [readE_get hx]
    by_cases h : i = k
    · subst h; rw [if_pos rfl, hx]; rfl
    · rw [if_neg h]) (fun _ _ => rfl)
theorem hist_read {e : Ev} {k : Nat} {x : Move} {r : Int} {hh : List (List Fr)} {G : List (List Rat)} (hx : e.moves[k]? = some x) (hG : hh = hz G) (h : histCheck e hh = 0) (h1 : check (readE e k x r) = 0) :
    histCheck (readE e k x r) hh = if weighedB (readE e k x r) { x with reading := r } (sumR (G.getD k [])) then 0 else 24 := by
  obtain ⟨q1, q2, q3⟩ := histCheck_zero h
  have e1 := histCheck_ok (hh := hh) h1
  have e2 : shapedB (readE e k x r) hh = shapedB e hh := by unfold shapedB readE; simp
  rw [e2, q2, if_pos rfl, hG, unhz] at e1
  rw [hG, unhz, histE_zero] at q3
  rw [hG, e1]
  have same : ∀ j y, j ≠ k → (readE e k x r).moves[j]? = some y → stepAt (readE e k x r) G j y = 0 := fun j y hj hy => by
    rw [readE_get hx, if_neg hj] at hy
    have h2 := q3 j y hy
    unfold stepAt at *
    rw [stk_read hx]
    exact h2
  have hk := q3 k x hx
  unfold stepAt at hk
  rw [stepE_zero] at hk
  obtain ⟨w1, w2, w3, w4⟩ := hk
  have gk : (readE e k x r).moves[k]? = some { x with reading := r } := by rw [readE_get hx, if_pos rfl]
  cases hw : weighedB (readE e k x r) { x with reading := r } (sumR (G.getD k [])) with
  | true =>
    rw [if_pos rfl]
    rw [histE_zero]
    intro j y hy
    by_cases hj : j = k
    · subst hj
      rw [gk] at hy
      injection hy with hy
      subst hy
      unfold stepAt
      rw [stepE_zero, stk_read hx]
      exact ⟨w1, w2, hw, w4⟩
    · exact same j y hj hy
  | false =>
    rw [if_neg (by simp)]
    unfold histE
    refine movesE_first (by decide) (i := 0) gk (fun j y hj hy => by rw [Nat.zero_add]; exact same j y (by omega) hy) ?_
    rw [Nat.zero_add]
    unfold stepAt stepE
    rw [stk_read hx]
    have t2 : takenE (readE e k x r) (stk e G k) { x with reading := r } (G.getD k []) = 0 := w2
    rw [if_neg (by rw [List.any_eq_true]; rintro ⟨v, hv, hn⟩; exact w1 v hv (by simpa using hn)), t2, hw]
    rfl
/-- evidence about the first moves -/
def cutE (e : Ev) (n : Nat) : Ev := { e with moves := e.moves.take n, purities := e.purities.filter fun q => decide (q.move < (n : Int)) }
theorem stk_cut {e : Ev} {n : Nat} {G : List (List Rat)} {k : Nat} (hk : k ≤ n) : stk (cutE e n) (G.take n) k = stk e G k :=
  stk_congr k (fun j hj => by show ((e.moves.take n)[j]?).map _ = _; rw [List.getElem?_take, if_pos (by omega)]) (fun j hj => by
    funext m
    unfold hAt
    rw [List.getD_eq_getElem?_getD (l := G.take n), List.getElem?_take, if_pos (by omega), ← List.getD_eq_getElem?_getD])
theorem hist_cut {e : Ev} {n : Nat} {G : List (List Rat)} (h : histCheck e (hz G) = 0) (h1 : check (cutE e n) = 0) : histCheck (cutE e n) (hz (G.take n)) = 0 := by
  obtain ⟨q1, q2, q3⟩ := histCheck_zero h
  rw [unhz, histE_zero] at q3
  have hs : Shape e G := by
    obtain ⟨G', h2, h3⟩ := shaped_rats q2
    have : G = G' := by rw [← unhz G, h2, unhz]
    rw [this]; exact h3
  have hs2 : Shape (cutE e n) (G.take n) := ⟨by simp [cutE, hs.len], fun l hl => hs.wid l (List.mem_of_mem_take hl)⟩
  rw [histCheck_ok h1, shape_ok hs2, if_pos rfl, unhz, histE_zero]
  intro k x hx
  have hkn : k < n := by
    have := (List.getElem?_eq_some_iff.1 hx).1
    simp [cutE] at this; omega
  have hx2 : e.moves[k]? = some x := by
    have : (e.moves.take n)[k]? = some x := hx
    rwa [List.getElem?_take, if_pos hkn] at this
  have hk := q3 k x hx2
  unfold stepAt at *
  rw [stk_cut (by omega)]
  have hg : (G.take n).getD k [] = G.getD k [] := by
    rw [List.getD_eq_getElem?_getD, List.getElem?_take, if_pos hkn, ← List.getD_eq_getElem?_getD]
  rw [hg]
  rw [stepE_zero] at hk ⊢
  obtain ⟨w1, w2, w3, w4⟩ := hk
  refine ⟨w1, w2, w3, ?_⟩
  unfold pureB at *
  rw [List.all_eq_true] at w4 ⊢
  exact fun p hp => w4 p (List.mem_filter.1 hp).1
end Go.Proofs.Ythinjkjhiembgaa
