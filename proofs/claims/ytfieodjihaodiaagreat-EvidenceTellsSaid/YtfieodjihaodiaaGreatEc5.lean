/- history: Check. -/
import Derived.Test.YtfieodjihaodiaaGreatEc4
namespace Go.Proofs.YtfieodjihaodiaaGreat
open Go.RowKit
set_option linter.unusedVariables false
set_option linter.unusedSimpArgs false
set_option maxRecDepth 100000

theorem vx_mat {H : Hp} {p : Nat → Prop} {N w : Nat} {f : Nat → Nat → Rat} {T : Hp} (hH : H = matH N w f ++ T) (hp : ∀ i, p i) : VX H p (.own 0 0 N true) (histT (matF N w f)) := by
  have h0 : H[0]? = some (matB N w) := by rw [hH]; rfl
  have hi : ∀ i, i < N → H[i + 1]? = some (rowB (rowF w (f i))) := fun i h => by
    rw [hH]
    show ((matF N w f).map rowB ++ T)[i]? = _
    rw [List.getElem?_append_left (by simp [matF_len]; exact h), List.getElem?_map, matF_get h]; rfl
  refine .own (k := matB N w) (hp 0) h0 (fun h => h) rfl (by simp [matF_len]) ?_ (fun i _ => .own (i + 1) 0 w true) ?_ ?_
  · intro r hr
    obtain ⟨l, _, rfl⟩ := List.mem_map.1 hr
    rfl
  · intro i j c hc
    obtain ⟨row, h1, h2⟩ := at2_inv hc
    have hil : i < N := by have := (List.getElem?_eq_some_iff.1 h1).1; simpa [matF_len] using this
    rw [List.getElem?_map, matF_get hil] at h1
    injection h1 with h1
    subst h1
    have hj : j = 0 := by have := (List.getElem?_eq_some_iff.1 h2).1; simp [fracsRow] at this; omega
    subst hj
    rw [Nat.zero_add]
    exact at2_some (row := [C.own (i + 1) 0 w true]) (by simp [matB, ownRows, hil]) rfl
  · intro i j c hc
    obtain ⟨row, h1, h2⟩ := at2_inv hc
    have hil : i < N := by have := (List.getElem?_eq_some_iff.1 h1).1; simpa [matF_len] using this
    rw [List.getElem?_map, matF_get hil] at h1
    injection h1 with h1
    subst h1
    have hj : j = 0 := by have := (List.getElem?_eq_some_iff.1 h2).1; simp [fracsRow] at this; omega
    subst hj
    injection h2 with h2
    subst h2
    exact .vc (vc_all (hp _) (hi i hil) (fun h => h) rfl rfl (by simp [rowF_len]))
theorem live_matH {N w : Nat} {f : Nat → Nat → Rat} : ∀ k ∈ matH N w f, k.mode = .live ∧ k.app = false ∧ okB (N + 1) k := by
  intro k hk
  refine ⟨?_, ?_, ok_matH k hk⟩
  · rcases List.mem_cons.1 hk with rfl | hk
    · rfl
    · obtain ⟨l, _, rfl⟩ := List.mem_map.1 hk; rfl
  · rcases List.mem_cons.1 hk with rfl | hk
    · rfl
    · obtain ⟨l, _, rfl⟩ := List.mem_map.1 hk; rfl
theorem old_matH {N w : Nat} {f : Nat → Nat → Rat} : ∀ k ∈ matH N w f, k.mode ≠ .old ∧ okB (N + 1) k := fun k hk => by
  obtain ⟨h1, _, h3⟩ := live_matH k hk
  exact ⟨(by rw [h1]; intro h; cases h), h3⟩
theorem small_rats {n : Nat} {G : List (List Rat)} (h : SmallH n (hz G)) : ∀ l ∈ G, ∀ x ∈ l, rl x ≤ n := by
  intro l hl x hx
  have := h.l3 (l.map fz) (List.mem_map.2 ⟨l, hl, rfl⟩) (fz x) (List.mem_map.2 ⟨x, hx, rfl⟩)
  exact Nat.max_le.2 this
theorem check_bounds {e : Ev} (h : check e = 0) : 1 ≤ e.mats ∧ e.mats ≤ 6 ∧ e.places.length ≤ 100 ∧ e.moves.length ≤ 200 := by
  obtain ⟨h1, h2, _⟩ := check_zero h
  unfold fullB at h1
  simp only [Bool.or_eq_false_iff, decide_eq_false_iff_not] at h1
  omega
theorem hz_get {G : List (List Rat)} {k : Nat} {l : List Rat} (h : G[k]? = some l) : (hz G)[k]? = some (l.map fz) := by simp [hz, h]
set_option maxHeartbeats 4000000 in
theorem a_hCheck (e : Ev) (hh : List (List Fr)) (hs : e.Sized) (hS : SmallH 200 hh) : ACall Tryz.prog 27 [evS e, histS hh] [] (intS .i64 (histCheck e hh)) [] := by
  have ck := a_Check e hs
  have sh := a_shaped e hh ⟨hS.l1, hS.l2, fun l hl f hf => by have := hS.l3 l hl f hf; omega⟩ (by have := hs.s2; omega)
  unfold histCheck
  by_cases h0 : check e ≠ 0
  · rw [if_pos h0]
    (refine acall_of tab_ok Tryz.func27 rfl (by decide) ?_; (conv => whnf); repeat (first | (refine LitB.data ?_; conv => whnf) | (refine BoxB.data ?_; conv => whnf)))
    (repeat' (first | ((refine DecB.mk (fun h => ?_) (fun h => ?_)) <;> first | (exfalso; omega) | (conv => whnf)) | ((refine BoolB.mk (fun h => ?_) (fun h => ?_)) <;> first | (exact absurd h (by decide)) | (conv => whnf)) | ((first | refine zzW ?_ | refine zzI ?_ | refine zzR ?_ | refine zzB ?_ | refine late_ok rfl rfl ?_ | refine src_ok rfl ?_ | refine .inl ⟨_, _, qcall_pure (ck) rfl rfl, ?_⟩ | refine LitB.data ?_ | refine BoxB.own ?_); conv => whnf)))
    all_goals first
      | (exfalso; omega)
      | exact fin_int rfl
  rw [if_neg h0]
  have h0 : check e = 0 := by omega
  cases hsb : shapedB e hh with
  | false =>
    rw [hsb] at sh
    (refine acall_of tab_ok Tryz.func27 rfl (by decide) ?_; (conv => whnf); repeat (first | (refine LitB.data ?_; conv => whnf) | (refine BoxB.data ?_; conv => whnf)))
    (repeat' (first | ((refine DecB.mk (fun h => ?_) (fun h => ?_)) <;> first | (exfalso; omega) | (conv => whnf)) | ((refine BoolB.mk (fun h => ?_) (fun h => ?_)) <;> first | (exact absurd h (by decide)) | (conv => whnf)) | ((first | refine zzW ?_ | refine zzI ?_ | refine zzR ?_ | refine zzB ?_ | refine late_ok rfl rfl ?_ | refine src_ok rfl ?_ | refine .inl ⟨_, _, qcall_pure (ck) rfl rfl, ?_⟩ | refine .inl ⟨_, _, qcall_pure (sh) rfl rfl, ?_⟩ | refine LitB.data ?_ | refine BoxB.own ?_); conv => whnf)))
    all_goals first
      | (exfalso; omega)
      | (exfalso; simp_all; done)
      | exact fin_int rfl
  | true =>
    rw [hsb] at sh
    obtain ⟨G, rfl, hG⟩ := shaped_rats hsb
    have e1 : (if true = true then histE e ((hz G).map (·.map fv)) else 2) = histE e G := by rw [unhz]; rfl
    rw [e1]
    have hB := small_rats hS
    obtain ⟨b1, b2, b3, b4⟩ := check_bounds h0
    obtain ⟨w, hw⟩ : ∃ w : Nat, e.mats = w := ⟨e.mats.toNat, by omega⟩
    generalize hN : e.places.length = N at b3
    have no := a_none e N w hN hw (by omega) (by omega)
    have m2 : (e.moves.map Move.row).length = e.moves.length := by simp
    (refine acall_of tab_ok Tryz.func27 rfl (by decide) ?_; (conv => whnf); repeat (first | (refine LitB.data ?_; conv => whnf) | (refine BoxB.data ?_; conv => whnf)))
    (repeat' (first | ((refine DecB.mk (fun h => ?_) (fun h => ?_)) <;> first | (exfalso; omega) | (conv => whnf)) | ((refine BoolB.mk (fun h => ?_) (fun h => ?_)) <;> first | (exact absurd h (by decide)) | (conv => whnf)) | ((first | refine zzW ?_ | refine zzI ?_ | refine zzR ?_ | refine zzB ?_ | refine late_ok rfl rfl ?_ | refine src_ok rfl ?_ | refine .inl ⟨_, _, qcall_pure (ck) rfl rfl, ?_⟩ | refine .inl ⟨_, _, qcall_pure (sh) rfl rfl, ?_⟩ | refine .inr ⟨_, _, no, ?_⟩ | refine appK_nil ?_ | refine LitB.data ?_ | refine BoxB.own ?_); conv => whnf)))
    refine awp_for tab_ok (fun k => ([J, histS (hz G), S.c (C.t (T.ptr (evT e))), J, J, S.c (C.own 0 0 N true), J, J, J, J, J, J, J, J, J, J, J, J, J, J, S.c (C.t (movesT e.moves)), intS .i64 e.moves.length, intS .i64 k, J, J, J, J, J, J, J, J, J, J, J, J, J, J, J, J, J, J, J, J, J, J, J, J, J, J, J, J, J, J, J, J, J, J, J, J, J, J, J, J, J, J, J, J, J, J, J, J, J], matH N w (stk e G k))) e.moves.length (fun k => movesE e G k (e.moves.drop k) = histE e G) (idR (N + 1)) rfl ?_ ?_
    · refine ent_first matH_len (by simp) ok_matH (fun i _ => rfl) ?_
      exact ⟨rfl, rfl, ⟨idR_get (by omega), rfl, rfl, fun h => h⟩, ent_t rfl, ent_i (by simp), rfl, trivial⟩
    intro k hk hI
    by_cases hlt : k < e.moves.length
    · obtain ⟨x, hx⟩ : ∃ x, e.moves[k]? = some x := ⟨_, List.getElem?_eq_getElem hlt⟩
      obtain ⟨l, hl⟩ : ∃ l, G[k]? = some l := ⟨_, List.getElem?_eq_getElem (by rw [hG.len]; exact hlt)⟩
      have hd : e.moves.drop k = x :: e.moves.drop (k + 1) := by
        rw [List.drop_eq_getElem_cons hlt]
        rw [List.getElem?_eq_getElem hlt] at hx
        injection hx with hx
        rw [hx]
      have hmem := List.mem_of_getElem? hl
      have hlB := hB l hmem
      have hlw : l.length = w := by have := hG.wid l hmem; omega
      have hgd : G.getD k [] = l := by rw [List.getD_eq_getElem?_getD, hl]; rfl
      rw [hd] at hI
      have hI : (if stepE e x l (stk e G k) k ≠ 0 then stepE e x l (stk e G k) k else movesE e G (k + 1) (e.moves.drop (k + 1))) = histE e G := by
        rw [← hgd]; exact hI
      have hm := check_move h0 (List.mem_of_getElem? hx)
      have ms := moveOk_src hm
      have md := moveOk_dst hm
      obtain ⟨s, hsn⟩ : ∃ s : Nat, x.src = s := ⟨x.src.toNat, by omega⟩
      obtain ⟨d, hdn⟩ : ∃ d : Nat, x.dst = d := ⟨x.dst.toNat, by omega⟩
      have hsd : s ≠ d := by
        have : x.src ≠ x.dst := by unfold moveOk at hm; simp only [Bool.and_eq_true, decide_eq_true_eq] at hm; exact hm.1.1.1.1.1.2
        omega
      obtain ⟨pl, hpl⟩ : ∃ pl, e.places[s]? = some pl := ⟨_, List.getElem?_eq_getElem (by omega)⟩
      have hF : ∀ p m, rl (stk e G k p m) ≤ 50000 := fun p m => by
        have := rl_stk (e := e) hB (by decide) k p m
        have h2 := Nat.mul_le_mul_right (200 + 1) (show k ≤ 200 by omega)
        omega
      have ng := z_negative l hlB (by omega)
      have tk := a_taken e x N w (stk e G k) l hlw (by omega) s hsn (by omega) pl hpl hlB hF
      have su := z_sum l hlB (by omega)
      have bs : rl (sumR l) ≤ 50000 := by
        have := rl_sumR hlB
        have h2 := Nat.mul_le_mul_right (200 + 1) (show l.length ≤ 6 by omega)
        omega
      have we := z_weighed e x (sumR l) (by omega) hs
      have pu := z_pure e k l (sumR l) bs hlB (by omega) (by omega) (check_zero h0).2.2.2.2.2.2 hs (by omega)
      have ca := a_carry N w (stk e G k) x l hlw (by omega) s d hsn hdn (by omega) (by omega) hsd hlB hF
      have hst : stk e G (k + 1) = carryF x (fun m => l.getD m 0) (stk e G k) := by
        conv => lhs; unfold stk
        rw [hx]
        simp only
        congr 1
        funext m
        show (G.getD k []).getD m 0 = _
        rw [hgd]
      rw [← hst] at ca
      have fin3 : ∀ (c : Int) (H1 : Hp), stepE e x l (stk e G k) k = c → c ≠ 0 → Fin 0 (intS .i64 c) H1 (intS .i64 (histE e G)) [] := fun c H1 h hc => fin_int (by rw [← hI, h, if_pos hc])
      cases hng : l.any (fun v => decide (v < 0)) with
      | true =>
        have hse : stepE e x l (stk e G k) k = 3 := by unfold stepE; rw [hng]; rfl
        rw [hng] at ng
        conv => whnf
        (repeat' (first | ((refine DecB.mk (fun h => ?_) (fun h => ?_)) <;> first | (exfalso; omega) | (conv => whnf)) | ((refine BoolB.mk (fun h => ?_) (fun h => ?_)) <;> first | (exact absurd h (by decide)) | (conv => whnf)) | ((first | refine zzW ?_ | refine zzI ?_ | refine zzR ?_ | refine zzB ?_ | refine late_ok rfl rfl ?_ | refine src_ok rfl ?_ | refine .inl ⟨_, _, qcall_pure (ng) rfl rfl, ?_⟩ | refine ex_row hx ?_ | refine ex_row (hz_get hl) ?_ | refine lenK_mapA (matF_len _ _ _) ?_ | refine lenK_map (matF_len _ _ _) ?_ | refine appK_nil ?_ | refine appK_mapA ?_ | refine appK_ok ?_ | refine getK_map0 (matF_len _ _ _) ?_ | refine getK_mapT (matF_len _ _ _) ?_ | refine setK_map0 (matF_len _ _ _) ?_ | refine setK_mapT (matF_len _ _ _) ?_ | refine LitB.data ?_ | refine BoxB.own ?_); conv => whnf)))
        all_goals first
          | (exfalso; omega)
          | exact fin3 _ _ hse (by decide)
      | false =>
        rw [hng] at ng
        by_cases htk : takenE e (stk e G k) x l = 0
        · cases hwe : weighedB e x (sumR l) with
          | false =>
            have hse : stepE e x l (stk e G k) k = 24 := by unfold stepE; rw [hng, htk, hwe]; rfl
            rw [hwe] at we
            conv => whnf
            (repeat' (first | ((refine DecB.mk (fun h => ?_) (fun h => ?_)) <;> first | (exfalso; omega) | (conv => whnf)) | ((refine BoolB.mk (fun h => ?_) (fun h => ?_)) <;> first | (exact absurd h (by decide)) | (conv => whnf)) | ((first | refine zzW ?_ | refine zzI ?_ | refine zzR ?_ | refine zzB ?_ | refine late_ok rfl rfl ?_ | refine src_ok rfl ?_ | refine .inl ⟨_, _, qcall_pure (ng) rfl rfl, ?_⟩ | refine .inl ⟨_, _, qcall_pure (su) rfl rfl, ?_⟩ | refine .inl ⟨_, _, qcall_pure (we) rfl rfl, ?_⟩ | refine .inl ⟨_, _, qcall_viewX tk ⟨.inl ⟨_, _, rfl, rfl, vx_mat rfl (fun _ => trivial)⟩, .inr (vs_ev e), .inr (vs_ts x.row), .inr vs_t, trivial⟩ rfl, ?_⟩ | refine ex_row hx ?_ | refine ex_row (hz_get hl) ?_ | refine lenK_mapA (matF_len _ _ _) ?_ | refine lenK_map (matF_len _ _ _) ?_ | refine appK_nil ?_ | refine appK_mapA ?_ | refine appK_ok ?_ | refine getK_map0 (matF_len _ _ _) ?_ | refine getK_mapT (matF_len _ _ _) ?_ | refine setK_map0 (matF_len _ _ _) ?_ | refine setK_mapT (matF_len _ _ _) ?_ | refine LitB.data ?_ | refine BoxB.own ?_); conv => whnf)))
            all_goals first
              | (exfalso; omega)
              | exact fin3 _ _ hse (by decide)
          | true =>
            rw [hwe] at we
            cases hpu : pureB e.purities k l (sumR l) with
            | false =>
              have hse : stepE e x l (stk e G k) k = 13 := by unfold stepE; rw [hng, htk, hwe, hpu]; rfl
              rw [hpu] at pu
              conv => whnf
              (repeat' (first | ((refine DecB.mk (fun h => ?_) (fun h => ?_)) <;> first | (exfalso; omega) | (conv => whnf)) | ((refine BoolB.mk (fun h => ?_) (fun h => ?_)) <;> first | (exact absurd h (by decide)) | (conv => whnf)) | ((first | refine zzW ?_ | refine zzI ?_ | refine zzR ?_ | refine zzB ?_ | refine late_ok rfl rfl ?_ | refine src_ok rfl ?_ | refine .inl ⟨_, _, qcall_pure (ng) rfl rfl, ?_⟩ | refine .inl ⟨_, _, qcall_pure (su) rfl rfl, ?_⟩ | refine .inl ⟨_, _, qcall_pure (we) rfl rfl, ?_⟩ | refine .inl ⟨_, _, qcall_pure (pu) rfl rfl, ?_⟩ | refine .inl ⟨_, _, qcall_viewX tk ⟨.inl ⟨_, _, rfl, rfl, vx_mat rfl (fun _ => trivial)⟩, .inr (vs_ev e), .inr (vs_ts x.row), .inr vs_t, trivial⟩ rfl, ?_⟩ | refine ex_row hx ?_ | refine ex_row (hz_get hl) ?_ | refine lenK_mapA (matF_len _ _ _) ?_ | refine lenK_map (matF_len _ _ _) ?_ | refine appK_nil ?_ | refine appK_mapA ?_ | refine appK_ok ?_ | refine getK_map0 (matF_len _ _ _) ?_ | refine getK_mapT (matF_len _ _ _) ?_ | refine setK_map0 (matF_len _ _ _) ?_ | refine setK_mapT (matF_len _ _ _) ?_ | refine LitB.data ?_ | refine BoxB.own ?_); conv => whnf)))
              all_goals first
                | (exfalso; omega)
                | exact fin3 _ _ hse (by decide)
            | true =>
              have hse : stepE e x l (stk e G k) k = 0 := by unfold stepE; rw [hng, htk, hwe, hpu]; rfl
              rw [hpu] at pu
              rw [hse, if_neg (by decide)] at hI
              have hok : [S.c (.own 0 0 N true), moveS x, fracsS (l.map fz)].all (okS (N + 1)) = true := by
                simp [okS, okC, okL, Move.cs, Move.row]
              conv => whnf
              (repeat' (first | ((refine DecB.mk (fun h => ?_) (fun h => ?_)) <;> first | (exfalso; omega) | (conv => whnf)) | ((refine BoolB.mk (fun h => ?_) (fun h => ?_)) <;> first | (exact absurd h (by decide)) | (conv => whnf)) | ((first | refine zzW ?_ | refine zzI ?_ | refine zzR ?_ | refine zzB ?_ | refine late_ok rfl rfl ?_ | refine src_ok rfl ?_ | refine .inl ⟨_, _, qcall_pure (ng) rfl rfl, ?_⟩ | refine .inl ⟨_, _, qcall_pure (su) rfl rfl, ?_⟩ | refine .inl ⟨_, _, qcall_pure (we) rfl rfl, ?_⟩ | refine .inl ⟨_, _, qcall_pure (pu) rfl rfl, ?_⟩ | refine .inl ⟨_, _, qcall_viewX tk ⟨.inl ⟨_, _, rfl, rfl, vx_mat rfl (fun _ => trivial)⟩, .inr (vs_ev e), .inr (vs_ts x.row), .inr vs_t, trivial⟩ rfl, ?_⟩ | refine .inr ⟨_, _, acall_first _ ca matH_len matH_len hok live_matH old_matH rfl rfl, ?_⟩ | refine ex_row hx ?_ | refine ex_row (hz_get hl) ?_ | refine lenK_mapA (matF_len _ _ _) ?_ | refine lenK_map (matF_len _ _ _) ?_ | refine appK_nil ?_ | refine appK_mapA ?_ | refine appK_ok ?_ | refine getK_map0 (matF_len _ _ _) ?_ | refine getK_mapT (matF_len _ _ _) ?_ | refine setK_map0 (matF_len _ _ _) ?_ | refine setK_mapT (matF_len _ _ _) ?_ | refine LitB.data ?_ | refine BoxB.own ?_); conv => whnf)))
              all_goals try (exfalso; omega)
              refine ⟨hlt, hI, idR (N + 1), ent_firstA matH_len (by simp) ok_matH ?_⟩
              exact ⟨rfl, rfl, ⟨idR_get (by omega), rfl, rfl, fun h => h⟩, rfl, rfl, rfl, trivial⟩
        · have hse : stepE e x l (stk e G k) k = takenE e (stk e G k) x l := by unfold stepE; rw [hng, if_neg (by simp), if_pos htk]
          conv => whnf
          (repeat' (first | ((refine DecB.mk (fun h => ?_) (fun h => ?_)) <;> first | (exfalso; omega) | (conv => whnf)) | ((refine BoolB.mk (fun h => ?_) (fun h => ?_)) <;> first | (exact absurd h (by decide)) | (conv => whnf)) | ((first | refine zzW ?_ | refine zzI ?_ | refine zzR ?_ | refine zzB ?_ | refine late_ok rfl rfl ?_ | refine src_ok rfl ?_ | refine .inl ⟨_, _, qcall_pure (ng) rfl rfl, ?_⟩ | refine .inl ⟨_, _, qcall_viewX tk ⟨.inl ⟨_, _, rfl, rfl, vx_mat rfl (fun _ => trivial)⟩, .inr (vs_ev e), .inr (vs_ts x.row), .inr vs_t, trivial⟩ rfl, ?_⟩ | refine ex_row hx ?_ | refine ex_row (hz_get hl) ?_ | refine lenK_mapA (matF_len _ _ _) ?_ | refine lenK_map (matF_len _ _ _) ?_ | refine appK_nil ?_ | refine appK_mapA ?_ | refine appK_ok ?_ | refine getK_map0 (matF_len _ _ _) ?_ | refine getK_mapT (matF_len _ _ _) ?_ | refine setK_map0 (matF_len _ _ _) ?_ | refine setK_mapT (matF_len _ _ _) ?_ | refine LitB.data ?_ | refine BoxB.own ?_); conv => whnf)))
          all_goals first
            | (exfalso; omega)
            | exact fin3 _ _ hse htk
    · have hke : k = e.moves.length := by omega
      subst hke
      rw [List.drop_of_length_le (Nat.le_refl _)] at hI
      have hI : (0 : Int) = histE e G := hI
      conv => whnf
      (repeat' (first | ((refine DecB.mk (fun h => ?_) (fun h => ?_)) <;> first | (exfalso; omega) | (conv => whnf)) | ((refine BoolB.mk (fun h => ?_) (fun h => ?_)) <;> first | (exact absurd h (by decide)) | (conv => whnf)) | ((first | refine zzW ?_ | refine zzI ?_ | refine zzR ?_ | refine zzB ?_ | refine late_ok rfl rfl ?_ | refine src_ok rfl ?_ | refine appK_nil ?_ | refine LitB.data ?_ | refine BoxB.own ?_); conv => whnf)))
      all_goals first
        | (exfalso; omega)
        | exact fin_int hI
end Go.Proofs.YtfieodjihaodiaaGreat
/- linear: RightTerms, Right, point, value, Holds; what is equal, what is short. -/
namespace Go.Proofs.YtfieodjihaodiaaGreat
open Go.RowKit
set_option linter.unusedVariables false
set_option linter.unusedSimpArgs false
set_option maxRecDepth 100000

abbrev termsS (l : List (Int × Rat)) : S := .c (.t (termsT l))
def lastT (l : List (Int × Rat)) : Nat → Int
  | 0 => -1
  | k + 1 => ((l[k]?).map (·.1)).getD 0
theorem lastT_succ {l : List (Int × Rat)} {k : Nat} {t : Int × Rat} (h : l[k]? = some t) : lastT l (k + 1) = t.1 := by simp [lastT, h]
theorem a_RightTerms (l : List (Int × Rat)) (n : Int) (hl : l.length ≤ 1000000) (hB : ∀ t ∈ l, rl t.2 ≤ 200) : ACall Tryz.prog 63 [termsS l, intS .i64 n] [] (boolS (decide (0 ≤ n) && rightT (-1) n l)) [] := by
  have m1 : (l.map termRow).length = l.length := by simp
  by_cases h0 : n < 0
  · rw [decide_eq_false (by omega), Bool.false_and]
    (refine acall_of tab_ok Tryz.func63 rfl (by decide) ?_; (conv => whnf); repeat (first | (refine LitB.data ?_; conv => whnf) | (refine BoxB.data ?_; conv => whnf)))
    (repeat' (first | ((refine DecB.mk (fun h => ?_) (fun h => ?_)) <;> first | (exfalso; omega) | (conv => whnf)) | ((refine BoolB.mk (fun h => ?_) (fun h => ?_)) <;> first | (exact absurd h (by decide)) | (conv => whnf)) | ((first | refine zzW ?_ | refine zzI ?_ | refine zzR ?_ | refine zzB ?_ | refine late_ok rfl rfl ?_ | refine src_ok rfl ?_ | refine LitB.data ?_ | refine BoxB.own ?_); conv => whnf)))
    all_goals first
      | (exfalso; omega)
      | exact fin_bool rfl
  rw [decide_eq_true (by omega), Bool.true_and]
  (refine acall_of tab_ok Tryz.func63 rfl (by decide) ?_; (conv => whnf); repeat (first | (refine LitB.data ?_; conv => whnf) | (refine BoxB.data ?_; conv => whnf)))
  (repeat' (first | ((refine DecB.mk (fun h => ?_) (fun h => ?_)) <;> first | (exfalso; omega) | (conv => whnf)) | ((refine BoolB.mk (fun h => ?_) (fun h => ?_)) <;> first | (exact absurd h (by decide)) | (conv => whnf)) | ((first | refine zzW ?_ | refine zzI ?_ | refine zzR ?_ | refine zzB ?_ | refine late_ok rfl rfl ?_ | refine src_ok rfl ?_ | refine LitB.data ?_ | refine BoxB.own ?_); conv => whnf)))
  all_goals try (exfalso; omega)
  refine awp_for tab_ok (fun k => ([J, intS .i64 n, J, J, J, intS .i64 (lastT l k), J, J, J, J, termsS l, intS .i64 l.length, intS .i64 k, J, J, J, J, J, J, J, J, J, J, J, J, J, J, J, J, J, J, J, J, J, J], [])) l.length (fun k => rightT (-1) n l = rightT (lastT l k) n (l.drop k)) [] rfl
    ⟨rfl, rfl, trivial, ⟨rfl, rfl, rfl, ent_i (by simp), rfl, trivial⟩⟩ ?_
  intro k hk hI
  by_cases hlt : k < l.length
  · obtain ⟨t, ht⟩ : ∃ t, l[k]? = some t := ⟨_, List.getElem?_eq_getElem hlt⟩
    obtain ⟨v, c⟩ := t
    have bc := hB _ (List.mem_of_getElem? ht)
    simp only at bc
    have sg := z_fSign c (by omega)
    have sz := sgR_zero (x := c)
    rw [drop_get ht, rightT] at hI
    simp only at hI
    by_cases hok : lastT l k < v ∧ v < n ∧ c ≠ 0
    · rw [decide_eq_true hok.1, decide_eq_true hok.2.1, decide_eq_true hok.2.2] at hI
      simp only [Bool.true_and] at hI
      have hne : sgR c ≠ 0 := fun h => hok.2.2 (sz.1 h)
      obtain ⟨q1, q2, _⟩ := hok
      conv => whnf
      (repeat' (first | ((refine DecB.mk (fun h => ?_) (fun h => ?_)) <;> first | (exfalso; omega) | (conv => whnf)) | ((refine BoolB.mk (fun h => ?_) (fun h => ?_)) <;> first | (exact absurd h (by decide)) | (conv => whnf)) | ((first | refine zzW ?_ | refine zzI ?_ | refine zzR ?_ | refine zzB ?_ | refine late_ok rfl rfl ?_ | refine src_ok rfl ?_ | refine .inl ⟨_, _, qcall_pure (sg) rfl rfl, ?_⟩ | refine ex_row ht ?_ | refine LitB.data ?_ | refine BoxB.own ?_); conv => whnf)))
      all_goals first
        | (exfalso; omega)
        | exact ⟨hlt, by rw [lastT_succ ht]; exact hI, [], rfl, rfl, trivial, ⟨rfl, ent_i (by rw [lastT_succ ht]), rfl, rfl, rfl, trivial⟩⟩
    · have hF : rightT (-1) n l = false := by
        rw [hI]
        rw [← Bool.not_eq_true]
        simp only [Bool.and_eq_true, decide_eq_true_eq]
        exact fun h => hok ⟨h.1.1.1, h.1.1.2, h.1.2⟩
      rw [hF]
      have hor : v ≤ lastT l k ∨ n ≤ v ∨ sgR c = 0 := by
        by_cases q1 : lastT l k < v
        · by_cases q2 : v < n
          · refine .inr (.inr (sz.2 ?_))
            by_cases q3 : c = 0
            · exact q3
            · exact absurd ⟨q1, q2, q3⟩ hok
          · exact .inr (.inl (by omega))
        · exact .inl (by omega)
      clear hI hok
      conv => whnf
      (repeat' (first | ((refine DecB.mk (fun h => ?_) (fun h => ?_)) <;> first | (exfalso; omega) | (conv => whnf)) | ((refine BoolB.mk (fun h => ?_) (fun h => ?_)) <;> first | (exact absurd h (by decide)) | (conv => whnf)) | ((first | refine zzW ?_ | refine zzI ?_ | refine zzR ?_ | refine zzB ?_ | refine late_ok rfl rfl ?_ | refine src_ok rfl ?_ | refine .inl ⟨_, _, qcall_pure (sg) rfl rfl, ?_⟩ | refine ex_row ht ?_ | refine LitB.data ?_ | refine BoxB.own ?_); conv => whnf)))
      all_goals first
        | (exfalso; omega)
        | exact fin_bool rfl
  · rw [List.drop_of_length_le (by omega)] at hI
    have hI : rightT (-1) n l = true := hI
    rw [hI]
    conv => whnf
    (repeat' (first | ((refine DecB.mk (fun h => ?_) (fun h => ?_)) <;> first | (exfalso; omega) | (conv => whnf)) | ((refine BoolB.mk (fun h => ?_) (fun h => ?_)) <;> first | (exact absurd h (by decide)) | (conv => whnf)) | ((first | refine zzW ?_ | refine zzI ?_ | refine zzR ?_ | refine zzB ?_ | refine late_ok rfl rfl ?_ | refine src_ok rfl ?_ | refine LitB.data ?_ | refine BoxB.own ?_); conv => whnf)))
    all_goals first
      | (exfalso; omega)
      | exact fin_bool rfl
structure SysB (s : SysP) : Prop where
  n0 : s.rows.length ≤ 1000000
  t : ∀ w ∈ s.rows, w.terms.length ≤ 100 ∧ (∀ t ∈ w.terms, rl t.2 ≤ 200) ∧ rl w.value ≤ 200
theorem a_LRight (s : SysP) (hb : SysB s) : ACall Tryz.prog 28 [sysS s] [] (boolS (rightSys s)) [] := by
  have m1 : (s.rows.map rowRow).length = s.rows.length := by simp
  have l1 := hb.n0
  by_cases h0 : ¬ (0 ≤ s.n ∧ s.n ≤ 1500 ∧ s.rows.length ≤ 6000)
  · have e1 : rightSys s = false := by
      unfold rightSys
      rw [← Bool.not_eq_true]
      simp only [Bool.and_eq_true, decide_eq_true_eq]
      exact fun h => h0 ⟨h.1.1.1, h.1.1.2, h.1.2⟩
    rw [e1]
    (refine acall_of tab_ok Tryz.func28 rfl (by decide) ?_; (conv => whnf); repeat (first | (refine LitB.data ?_; conv => whnf) | (refine BoxB.data ?_; conv => whnf)))
    (repeat' (first | ((refine DecB.mk (fun h => ?_) (fun h => ?_)) <;> first | (exfalso; omega) | (conv => whnf)) | ((refine BoolB.mk (fun h => ?_) (fun h => ?_)) <;> first | (exact absurd h (by decide)) | (conv => whnf)) | ((first | refine zzW ?_ | refine zzI ?_ | refine zzR ?_ | refine zzB ?_ | refine late_ok rfl rfl ?_ | refine src_ok rfl ?_ | refine LitB.data ?_ | refine BoxB.own ?_); conv => whnf)))
    all_goals first
      | (exfalso; omega)
      | exact fin_bool rfl
  obtain ⟨c1, c2, c3⟩ := Decidable.not_not.1 h0
  have e1 : rightSys s = s.rows.all (rightRow s.n) := by
    unfold rightSys
    rw [decide_eq_true c1, decide_eq_true c2, decide_eq_true c3]; rfl
  rw [e1]
  clear h0
  (refine acall_of tab_ok Tryz.func28 rfl (by decide) ?_; (conv => whnf); repeat (first | (refine LitB.data ?_; conv => whnf) | (refine BoxB.data ?_; conv => whnf)))
  (repeat' (first | ((refine DecB.mk (fun h => ?_) (fun h => ?_)) <;> first | (exfalso; omega) | (conv => whnf)) | ((refine BoolB.mk (fun h => ?_) (fun h => ?_)) <;> first | (exact absurd h (by decide)) | (conv => whnf)) | ((first | refine zzW ?_ | refine zzI ?_ | refine zzR ?_ | refine zzB ?_ | refine late_ok rfl rfl ?_ | refine src_ok rfl ?_ | refine LitB.data ?_ | refine BoxB.own ?_); conv => whnf)))
  all_goals try (exfalso; omega)
  refine awp_for tab_ok (fun k => ([J, S.c (C.t (T.ptr [ti s.n, rowsTT s.rows])), J, J, J, J, J, J, J, J, J, J, J, J, J, J, J, J, J, J, S.c (C.t (rowsTT s.rows)), intS .i64 s.rows.length, intS .i64 k, J, J, J, J, J, J, J, J, J, J, J, J, J, J, J, J, J, J, J, J, J, J, J, J, J, J], [])) s.rows.length (fun k => (s.rows.take k).all (rightRow s.n) = true) [] rfl
    ⟨rfl, rfl, trivial, ⟨rfl, rfl, ent_i (by simp), rfl, trivial⟩⟩ ?_
  intro k hk hI
  by_cases hlt : k < s.rows.length
  · obtain ⟨w, hw⟩ : ∃ w, s.rows[k]? = some w := ⟨_, List.getElem?_eq_getElem hlt⟩
    obtain ⟨b1, b2, b3⟩ := hb.t w (List.mem_of_getElem? hw)
    have rt := a_RightTerms w.terms s.n (by omega) b2
    rw [decide_eq_true c1, Bool.true_and] at rt
    have rv := z_fRight w.value (by omega)
    cases hrt : rightT (-1) s.n w.terms with
    | false =>
      rw [hrt] at rt
      have hF : rightRow s.n w = false := by unfold rightRow; rw [hrt]; rfl
      rw [all_of_get hw hF]
      conv => whnf
      (repeat' (first | ((refine DecB.mk (fun h => ?_) (fun h => ?_)) <;> first | (exfalso; omega) | (conv => whnf)) | ((refine BoolB.mk (fun h => ?_) (fun h => ?_)) <;> first | (exact absurd h (by decide)) | (conv => whnf)) | ((first | refine zzW ?_ | refine zzI ?_ | refine zzR ?_ | refine zzB ?_ | refine late_ok rfl rfl ?_ | refine src_ok rfl ?_ | refine .inl ⟨_, _, qcall_pure (rt) rfl rfl, ?_⟩ | refine .inl ⟨_, _, qcall_pure (rv) rfl rfl, ?_⟩ | refine ex_row hw ?_ | refine LitB.data ?_ | refine BoxB.own ?_); conv => whnf)))
      all_goals first
        | (exfalso; omega)
        | (exfalso; simp_all; done)
        | exact fin_bool rfl
    | true =>
      rw [hrt] at rt
      by_cases hk3 : 0 ≤ w.kind ∧ w.kind < 3
      · have hT : rightRow s.n w = true := by unfold rightRow; rw [hrt, decide_eq_true hk3.1, decide_eq_true hk3.2]; rfl
        conv => whnf
        (repeat' (first | ((refine DecB.mk (fun h => ?_) (fun h => ?_)) <;> first | (exfalso; omega) | (conv => whnf)) | ((refine BoolB.mk (fun h => ?_) (fun h => ?_)) <;> first | (exact absurd h (by decide)) | (conv => whnf)) | ((first | refine zzW ?_ | refine zzI ?_ | refine zzR ?_ | refine zzB ?_ | refine late_ok rfl rfl ?_ | refine src_ok rfl ?_ | refine .inl ⟨_, _, qcall_pure (rt) rfl rfl, ?_⟩ | refine .inl ⟨_, _, qcall_pure (rv) rfl rfl, ?_⟩ | refine ex_row hw ?_ | refine LitB.data ?_ | refine BoxB.own ?_); conv => whnf)))
        all_goals first
          | (exfalso; omega)
          | (exfalso; simp_all; done)
          | exact ⟨hlt, by rw [all_take_succ hw, hI, hT]; rfl, [], rfl, rfl, trivial, ⟨rfl, rfl, rfl, rfl, trivial⟩⟩
      · have hF : rightRow s.n w = false := by
          unfold rightRow
          rw [← Bool.not_eq_true]
          simp only [Bool.and_eq_true, decide_eq_true_eq]
          exact fun h => hk3 ⟨h.1.2, h.2⟩
        rw [all_of_get hw hF]
        conv => whnf
        (repeat' (first | ((refine DecB.mk (fun h => ?_) (fun h => ?_)) <;> first | (exfalso; omega) | (conv => whnf)) | ((refine BoolB.mk (fun h => ?_) (fun h => ?_)) <;> first | (exact absurd h (by decide)) | (conv => whnf)) | ((first | refine zzW ?_ | refine zzI ?_ | refine zzR ?_ | refine zzB ?_ | refine late_ok rfl rfl ?_ | refine src_ok rfl ?_ | refine .inl ⟨_, _, qcall_pure (rt) rfl rfl, ?_⟩ | refine .inl ⟨_, _, qcall_pure (rv) rfl rfl, ?_⟩ | refine ex_row hw ?_ | refine LitB.data ?_ | refine BoxB.own ?_); conv => whnf)))
        all_goals first
          | (exfalso; omega)
          | (exfalso; simp_all; done)
          | exact fin_bool rfl
  · rw [List.take_of_length_le (by omega)] at hI
    rw [hI]
    conv => whnf
    (repeat' (first | ((refine DecB.mk (fun h => ?_) (fun h => ?_)) <;> first | (exfalso; omega) | (conv => whnf)) | ((refine BoolB.mk (fun h => ?_) (fun h => ?_)) <;> first | (exact absurd h (by decide)) | (conv => whnf)) | ((first | refine zzW ?_ | refine zzI ?_ | refine zzR ?_ | refine zzB ?_ | refine late_ok rfl rfl ?_ | refine src_ok rfl ?_ | refine LitB.data ?_ | refine BoxB.own ?_); conv => whnf)))
    all_goals first
      | (exfalso; omega)
      | exact fin_bool rfl
theorem a_IndexFr (rs : List Fr) (hl : rs.length ≤ 1000000) (g : FuncId) (caps : List T) (q : Fr → Bool) (hg : ∀ r ∈ rs, ACall Tryz.prog g (frS r :: caps.map fun x => .c (.t x)) [] (boolS (q r)) []) :
    ACall Tryz.prog 119 [.c (.t (fracsT rs)), .c (.t (.fn (.func g) caps))] [] (intS .i64 (indexI q rs 0)) [] := by
  have l1 : (rs.map frRow).length = rs.length := by simp
  (refine acall_of tab_ok Tryz.func119 rfl (by decide) ?_; (conv => whnf); repeat (first | (refine LitB.data ?_; conv => whnf) | (refine BoxB.own ?_; conv => whnf)))
  (repeat' (first | ((refine DecB.mk (fun h => ?_) (fun h => ?_)) <;> first | (exfalso; omega) | (conv => whnf)) | ((refine BoolB.mk (fun h => ?_) (fun h => ?_)) <;> first | (exact absurd h (by decide)) | (conv => whnf)) | ((first | refine zzW ?_ | refine zzI ?_ | refine zzR ?_ | refine zzB ?_ | refine late_ok rfl rfl ?_ | refine src_ok rfl ?_ | refine LitB.data ?_ | refine BoxB.own ?_); conv => whnf)))
  refine awp_for tab_ok (fun k => ([S.c (C.t (fracsT rs)), S.c (C.t (T.fn (.func g) caps)), J, J, J, J, J, intS .i64 rs.length, intS .i64 k, J, J, J, J, J, J, J, J, J, J], [])) rs.length (fun k => indexI q (rs.drop k) k = indexI q rs 0) [] rfl
    ⟨rfl, rfl, trivial, ⟨ent_t rfl, ent_t rfl, ent_i (by simp), rfl, trivial⟩⟩ ?_
  intro k hk hI
  by_cases hlt : k < rs.length
  · obtain ⟨r, hr⟩ : ∃ r, rs[k]? = some r := ⟨_, List.getElem?_eq_getElem hlt⟩
    have hd : rs.drop k = r :: rs.drop (k + 1) := by
      rw [List.drop_eq_getElem_cons hlt]
      rw [List.getElem?_eq_getElem hlt] at hr
      injection hr with hr
      rw [hr]
    have hgr := hg r (List.mem_of_getElem? hr)
    have ha : (frS r :: caps.map fun x => S.c (C.t x)).all S.isT = true := by simp [S.isT, C.isT, frRow]
    rw [hd] at hI
    have hI : (if q r then (k : Int) else indexI q (rs.drop (k + 1)) (k + 1)) = indexI q rs 0 := hI
    cases hq : q r with
    | true =>
      rw [hq] at hgr hI
      conv => whnf
      (repeat' (first | ((refine DecB.mk (fun h => ?_) (fun h => ?_)) <;> first | (exfalso; omega) | (conv => whnf)) | ((refine BoolB.mk (fun h => ?_) (fun h => ?_)) <;> first | (exact absurd h (by decide)) | (conv => whnf)) | ((first | refine zzW ?_ | refine zzI ?_ | refine zzR ?_ | refine zzB ?_ | refine late_ok rfl rfl ?_ | refine src_ok rfl ?_ | refine .inl ⟨_, _, qcall_pure hgr ha rfl, ?_⟩ | refine ex_row hr ?_ | refine LitB.data ?_ | refine BoxB.own ?_); conv => whnf)))
      all_goals first
        | (exfalso; omega)
        | exact fin_int hI
    | false =>
      rw [hq] at hgr hI
      conv => whnf
      (repeat' (first | ((refine DecB.mk (fun h => ?_) (fun h => ?_)) <;> first | (exfalso; omega) | (conv => whnf)) | ((refine BoolB.mk (fun h => ?_) (fun h => ?_)) <;> first | (exact absurd h (by decide)) | (conv => whnf)) | ((first | refine zzW ?_ | refine zzI ?_ | refine zzR ?_ | refine zzB ?_ | refine late_ok rfl rfl ?_ | refine src_ok rfl ?_ | refine .inl ⟨_, _, qcall_pure hgr ha rfl, ?_⟩ | refine ex_row hr ?_ | refine LitB.data ?_ | refine BoxB.own ?_); conv => whnf)))
      all_goals first
        | (exfalso; omega)
        | exact ⟨hlt, by simpa using hI, [], rfl, rfl, trivial, ⟨rfl, rfl, rfl, rfl, trivial⟩⟩
  · have hke : k = rs.length := by omega
    subst hke
    rw [List.drop_of_length_le (Nat.le_refl _)] at hI
    conv => whnf
    (repeat' (first | ((refine DecB.mk (fun h => ?_) (fun h => ?_)) <;> first | (exfalso; omega) | (conv => whnf)) | ((refine BoolB.mk (fun h => ?_) (fun h => ?_)) <;> first | (exact absurd h (by decide)) | (conv => whnf)) | ((first | refine zzW ?_ | refine zzI ?_ | refine zzR ?_ | refine zzB ?_ | refine late_ok rfl rfl ?_ | refine src_ok rfl ?_ | refine LitB.data ?_ | refine BoxB.own ?_); conv => whnf)))
    all_goals first
      | (exfalso; omega)
      | exact fin_int hI
theorem a_ContainsFr (rs : List Fr) (hl : rs.length ≤ 1000000) (g : FuncId) (caps : List T) (q : Fr → Bool) (hg : ∀ r ∈ rs, ACall Tryz.prog g (frS r :: caps.map fun x => .c (.t x)) [] (boolS (q r)) []) :
    ACall Tryz.prog 90 [.c (.t (fracsT rs)), .c (.t (.fn (.func g) caps))] [] (boolS (rs.any q)) [] := by
  have ix := a_IndexFr rs hl g caps q hg
  (refine acall_of tab_ok Tryz.func90 rfl (by decide) ?_; (conv => whnf); repeat (first | (refine LitB.data ?_; conv => whnf) | (refine BoxB.own ?_; conv => whnf)))
  (repeat' (first | ((refine DecB.mk (fun h => ?_) (fun h => ?_)) <;> first | (exfalso; omega) | (conv => whnf)) | ((refine BoolB.mk (fun h => ?_) (fun h => ?_)) <;> first | (exact absurd h (by decide)) | (conv => whnf)) | ((first | refine zzW ?_ | refine zzI ?_ | refine zzR ?_ | refine zzB ?_ | refine late_ok rfl rfl ?_ | refine src_ok rfl ?_ | refine .inl ⟨_, _, qcall_pure (ix) rfl rfl, ?_⟩ | refine LitB.data ?_ | refine BoxB.own ?_); conv => whnf)))
  all_goals (refine fin_bool ?_; rw [← indexI_any q rs 0]; simp; omega)
theorem a_point1 (f : Fr) (lp : f.p.dl.length ≤ 200000) (lq : f.q.dl.length ≤ 200000) : ACall Tryz.prog 91 (frS f :: [].map fun x => .c (.t x)) [] (boolS (!rightF f)) [] := by
  have r := a_fRight f lp lq
  (refine acall_of tab_ok Tryz.func91 rfl (by decide) ?_; (conv => whnf); repeat (first | (refine LitB.data ?_; conv => whnf) | (refine BoxB.data ?_; conv => whnf)))
  (repeat' (first | ((refine DecB.mk (fun h => ?_) (fun h => ?_)) <;> first | (exfalso; omega) | (conv => whnf)) | ((refine BoolB.mk (fun h => ?_) (fun h => ?_)) <;> first | (exact absurd h (by decide)) | (conv => whnf)) | ((first | refine zzW ?_ | refine zzI ?_ | refine zzR ?_ | refine zzB ?_ | refine late_ok rfl rfl ?_ | refine src_ok rfl ?_ | refine .inl ⟨_, _, qcall_pure (r) rfl rfl, ?_⟩ | refine LitB.data ?_ | refine BoxB.own ?_); conv => whnf)))
  all_goals (refine fin_bool ?_; simp [*])
theorem a_point (z : List Fr) (hl : z.length ≤ 1000000) (hd : ∀ f ∈ z, f.p.dl.length ≤ 200000 ∧ f.q.dl.length ≤ 200000) : ACall Tryz.prog 51 [fracsS z] [] (boolS (z.all rightF)) [] := by
  have ct := a_ContainsFr z hl 91 [] _ (fun f hf => a_point1 f (hd f hf).1 (hd f hf).2)
  have e : (z.any fun f => !rightF f) = !(z.all rightF) := by rw [List.not_all_eq_any_not]
  rw [e] at ct
  cases hz : z.all rightF <;> rw [hz] at ct <;>
  · (refine acall_of tab_ok Tryz.func51 rfl (by decide) ?_; (conv => whnf); repeat (first | (refine LitB.data ?_; conv => whnf) | (refine BoxB.data ?_; conv => whnf)))
    (repeat' (first | ((refine DecB.mk (fun h => ?_) (fun h => ?_)) <;> first | (exfalso; omega) | (conv => whnf)) | ((refine BoolB.mk (fun h => ?_) (fun h => ?_)) <;> first | (exact absurd h (by decide)) | (conv => whnf)) | ((first | refine zzW ?_ | refine zzI ?_ | refine zzR ?_ | refine zzB ?_ | refine late_ok rfl rfl ?_ | refine src_ok rfl ?_ | refine .inl ⟨_, _, qcall_pure (ct) rfl rfl, ?_⟩ | refine LitB.data ?_ | refine BoxB.own ?_); conv => whnf)))
    all_goals exact fin_bool rfl
theorem rl_valT {l : List (Int × Rat)} {z : List Rat} (h1 : ∀ t ∈ l, rl t.2 ≤ 200) (h2 : ∀ v ∈ z, rl v ≤ 200) : ∀ k, rl (valT (l.take k) z) ≤ k * 402 + 1
  | 0 => by simp [valT]; exact Nat.le_of_eq rl_zero
  | k + 1 => by
    have ih := rl_valT h1 h2 k
    by_cases hk : k < l.length
    · have e : l.take (k + 1) = l.take k ++ [l[k]] := List.take_succ_eq_append_getElem hk
      rw [e, valT_snoc]
      have a1 := h1 l[k] (List.getElem_mem hk)
      have a2 : rl (z.getD l[k].1.toNat 0) ≤ 200 := by
        by_cases hz : l[k].1.toNat < z.length
        · exact h2 _ (List.mem_of_getElem? (getD_some hz))
        · rw [List.getD_eq_getElem?_getD, List.getElem?_eq_none (by omega)]
          show rl ((0 : Int) : Rat) ≤ 200
          rw [rl_zero]; omega
      have a3 := rl_mul l[k].2 (z.getD l[k].1.toNat 0)
      have a4 := rl_add (valT (l.take k) z) (l[k].2 * z.getD l[k].1.toNat 0)
      omega
    · rw [List.take_of_length_le (by omega), ← List.take_of_length_le (show l.length ≤ k by omega)]
      omega
theorem rightT_lt {n : Int} : ∀ {l : List (Int × Rat)} {last : Int}, rightT last n l = true → ∀ t ∈ l, last < t.1 ∧ t.1 < n
  | [], _, _, t, ht => by cases ht
  | u :: r, last, h, t, ht => by
    unfold rightT at h
    simp only [Bool.and_eq_true, decide_eq_true_eq] at h
    rcases List.mem_cons.1 ht with rfl | ht
    · exact ⟨h.1.1.1, h.1.1.2⟩
    · have := rightT_lt h.2 t ht
      omega
theorem a_value (l : List (Int × Rat)) (z : List Rat) (hl : l.length ≤ 100) (h1 : ∀ t ∈ l, rl t.2 ≤ 200) (h2 : ∀ v ∈ z, rl v ≤ 200) (hz : z.length ≤ 1000000) (hr : rightT (-1) z.length l = true) :
    ACall Tryz.prog 54 [termsS l, fracsS (z.map fz)] [] (frS (fz (valT l z))) [] := by
  have m1 : (l.map termRow).length = l.length := by simp
  have m2 : ((z.map fz).map frRow).length = z.length := by simp
  have i0 := z_fInt 0 (by decide) (by decide)
  (refine acall_of tab_ok Tryz.func54 rfl (by decide) ?_; (conv => whnf); repeat (first | (refine LitB.data ?_; conv => whnf) | (refine BoxB.data ?_; conv => whnf)))
  (repeat' (first | ((refine DecB.mk (fun h => ?_) (fun h => ?_)) <;> first | (exfalso; omega) | (conv => whnf)) | ((refine BoolB.mk (fun h => ?_) (fun h => ?_)) <;> first | (exact absurd h (by decide)) | (conv => whnf)) | ((first | refine zzW ?_ | refine zzI ?_ | refine zzR ?_ | refine zzB ?_ | refine late_ok rfl rfl ?_ | refine src_ok rfl ?_ | refine .inl ⟨_, _, qcall_pure (i0) rfl rfl, ?_⟩ | refine LitB.data ?_ | refine BoxB.own ?_); conv => whnf)))
  refine awp_for tab_ok (fun k => ([J, fracsS (z.map fz), J, J, S.c (C.ptr 0 0 0), S.c (C.ptr 1 0 0), J, J, J, J, J, termsS l, intS .i64 l.length, intS .i64 k, J, J, J, J, J, J, J, J, J, J, J, J, J, J, J, J, J, J, J, J, J, J], [frB zeroF, frB (fz (valT (l.take k) z))])) l.length (fun _ => True) [some 0, some 1] trivial
    ⟨rfl, rfl, ⟨⟨rfl, rfl, rfl, .inr ⟨⟨rfl, rfl, rfl, rfl, trivial⟩, trivial⟩⟩, ⟨rfl, rfl, rfl, .inl ⟨rfl, rowsT_fr _⟩⟩, trivial⟩, ⟨rfl, ⟨rfl, rfl, rfl⟩, ⟨rfl, rfl, rfl⟩, rfl, ent_i (by simp), rfl, trivial⟩⟩ ?_
  intro k hk _
  by_cases hlt : k < l.length
  · obtain ⟨t, ht⟩ : ∃ t, l[k]? = some t := ⟨_, List.getElem?_eq_getElem hlt⟩
    obtain ⟨v, c⟩ := t
    have hv := rightT_lt hr _ (List.mem_of_getElem? ht)
    simp only at hv
    have bc := h1 _ (List.mem_of_getElem? ht)
    simp only at bc
    obtain ⟨x, hx⟩ : ∃ x, z[v.toNat]? = some x := ⟨_, List.getElem?_eq_getElem (by omega)⟩
    have hxd : z.getD v.toNat 0 = x := by rw [List.getD_eq_getElem?_getD, hx]; rfl
    have bx := h2 x (List.mem_of_getElem? hx)
    have b3 := rl_mul c x
    have bs := rl_valT h1 h2 k
    have h4 := Nat.mul_le_mul_right 402 (show k ≤ 100 by omega)
    have mu := z_fMul c x (by omega) (by omega)
    have ad := z_fAdd (valT (l.take k) z) (c * x) (by omega) (by omega)
    have e : valT (l.take k) z + c * x = valT (l.take (k + 1)) z := by
      have : l.take (k + 1) = l.take k ++ [(v, c)] := by rw [List.take_add_one, ht]; rfl
      rw [this, valT_snoc, ← hxd]
    rw [e] at ad
    have xz : (z.map fz)[v.toNat]? = some (fz x) := by rw [List.getElem?_map, hx]; rfl
    conv => whnf
    (repeat' (first | ((refine DecB.mk (fun h => ?_) (fun h => ?_)) <;> first | (exfalso; omega) | (conv => whnf)) | ((refine BoolB.mk (fun h => ?_) (fun h => ?_)) <;> first | (exact absurd h (by decide)) | (conv => whnf)) | ((first | refine zzW ?_ | refine zzI ?_ | refine zzR ?_ | refine zzB ?_ | refine late_ok rfl rfl ?_ | refine src_ok rfl ?_ | refine .inl ⟨_, _, qcall_pure (mu) rfl rfl, ?_⟩ | refine .inl ⟨_, _, qcall_pure (ad) rfl rfl, ?_⟩ | refine .inl ⟨_, _, qcall_pure (10) rfl rfl, ?_⟩ | refine .inl ⟨_, _, qcall_pure (5) rfl rfl, ?_⟩ | refine ex_row ht ?_ | refine ex_rowI (by omega) xz ?_ | refine bar_late [10] (by decide +kernel) (by decide +kernel) ?_ | refine bar_late [5] (by decide +kernel) (by decide +kernel) ?_ | refine LitB.data ?_ | refine BoxB.own ?_); conv => whnf)))
    all_goals first
      | (exfalso; omega)
      | exact ⟨hlt, trivial, [some 0, some 1], rfl, rfl, ⟨⟨rfl, rfl, rfl, .inl ⟨rfl, rowsT_fr _⟩⟩, ⟨rfl, rfl, rfl, .inl ⟨rfl, rowsT_fr _⟩⟩, trivial⟩, ⟨rfl, ⟨rfl, rfl, rfl⟩, ⟨rfl, rfl, rfl⟩, rfl, rfl, rfl, trivial⟩⟩
  · have hke : k = l.length := by omega
    subst hke
    rw [List.take_of_length_le (Nat.le_refl _)]
    conv => whnf
    (repeat' (first | ((refine DecB.mk (fun h => ?_) (fun h => ?_)) <;> first | (exfalso; omega) | (conv => whnf)) | ((refine BoolB.mk (fun h => ?_) (fun h => ?_)) <;> first | (exact absurd h (by decide)) | (conv => whnf)) | ((first | refine zzW ?_ | refine zzI ?_ | refine zzR ?_ | refine zzB ?_ | refine late_ok rfl rfl ?_ | refine src_ok rfl ?_ | refine LitB.data ?_ | refine BoxB.own ?_); conv => whnf)))
    all_goals first
      | (exfalso; omega)
      | exact fin_f rfl
def solB (s : SysP) (z : List Fr) : Bool := z.all rightF && holdsSys s (z.map fv)
theorem a_Holds (s : SysP) (hb : SysB s) (hr : rightSys s = true) (z : List Fr) (hl : z.length ≤ 1000000) (hd : ∀ f ∈ z, f.p.dl.length ≤ 200 ∧ f.q.dl.length ≤ 200) :
    ACall Tryz.prog 26 [sysS s, fracsS z] [] (boolS (solB s z)) [] := by
  have m1 : (s.rows.map rowRow).length = s.rows.length := by simp
  have m2 : (z.map frRow).length = z.length := by simp
  have l1 := hb.n0
  have lr := a_LRight s hb
  rw [hr] at lr
  have pt := a_point z hl (fun f hf => by have := hd f hf; omega)
  cases hz : z.all rightF with
  | false =>
    rw [hz] at pt
    have e1 : solB s z = false := by unfold solB; rw [hz]; rfl
    rw [e1]
    (refine acall_of tab_ok Tryz.func26 rfl (by decide) ?_; (conv => whnf); repeat (first | (refine LitB.data ?_; conv => whnf) | (refine BoxB.data ?_; conv => whnf)))
    (repeat' (first | ((refine DecB.mk (fun h => ?_) (fun h => ?_)) <;> first | (exfalso; omega) | (conv => whnf)) | ((refine BoolB.mk (fun h => ?_) (fun h => ?_)) <;> first | (exact absurd h (by decide)) | (conv => whnf)) | ((first | refine zzW ?_ | refine zzI ?_ | refine zzR ?_ | refine zzB ?_ | refine late_ok rfl rfl ?_ | refine src_ok rfl ?_ | refine .inl ⟨_, _, qcall_pure (lr) rfl rfl, ?_⟩ | refine .inl ⟨_, _, qcall_pure (pt) rfl rfl, ?_⟩ | refine LitB.data ?_ | refine BoxB.own ?_); conv => whnf)))
    all_goals first
      | (exfalso; omega)
      | exact fin_bool rfl
  | true =>
  rw [hz] at pt
  obtain ⟨Z, rfl⟩ := right_rats hz
  have e1 : solB s (Z.map fz) = holdsSys s Z := by unfold solB; rw [hz, fv_map]; rfl
  rw [e1]
  have hZ : ∀ v ∈ Z, rl v ≤ 200 := fun v hv => by
    have := hd (fz v) (List.mem_map.2 ⟨v, hv, rfl⟩)
    exact Nat.max_le.2 this
  have m3 : Z.length = (Z.map fz).length := by simp
  by_cases hn : (Z.length : Int) ≠ s.n
  · have e2 : holdsSys s Z = false := by unfold holdsSys; rw [decide_eq_false hn]; simp
    rw [e2]
    (refine acall_of tab_ok Tryz.func26 rfl (by decide) ?_; (conv => whnf); repeat (first | (refine LitB.data ?_; conv => whnf) | (refine BoxB.data ?_; conv => whnf)))
    (repeat' (first | ((refine DecB.mk (fun h => ?_) (fun h => ?_)) <;> first | (exfalso; omega) | (conv => whnf)) | ((refine BoolB.mk (fun h => ?_) (fun h => ?_)) <;> first | (exact absurd h (by decide)) | (conv => whnf)) | ((first | refine zzW ?_ | refine zzI ?_ | refine zzR ?_ | refine zzB ?_ | refine late_ok rfl rfl ?_ | refine src_ok rfl ?_ | refine .inl ⟨_, _, qcall_pure (lr) rfl rfl, ?_⟩ | refine .inl ⟨_, _, qcall_pure (pt) rfl rfl, ?_⟩ | refine LitB.data ?_ | refine BoxB.own ?_); conv => whnf)))
    all_goals first
      | (exfalso; omega)
      | exact fin_bool rfl
  have hn : (Z.length : Int) = s.n := by omega
  have e2 : holdsSys s Z = (Z.all (fun v => decide (0 ≤ v)) && s.rows.all (fun w => rowB3 w Z)) := by unfold holdsSys; rw [hr, decide_eq_true hn]; simp
  rw [e2]
  (refine acall_of tab_ok Tryz.func26 rfl (by decide) ?_; (conv => whnf); repeat (first | (refine LitB.data ?_; conv => whnf) | (refine BoxB.data ?_; conv => whnf)))
  (repeat' (first | ((refine DecB.mk (fun h => ?_) (fun h => ?_)) <;> first | (exfalso; omega) | (conv => whnf)) | ((refine BoolB.mk (fun h => ?_) (fun h => ?_)) <;> first | (exact absurd h (by decide)) | (conv => whnf)) | ((first | refine zzW ?_ | refine zzI ?_ | refine zzR ?_ | refine zzB ?_ | refine late_ok rfl rfl ?_ | refine src_ok rfl ?_ | refine .inl ⟨_, _, qcall_pure (lr) rfl rfl, ?_⟩ | refine .inl ⟨_, _, qcall_pure (pt) rfl rfl, ?_⟩ | refine LitB.data ?_ | refine BoxB.own ?_); conv => whnf)))
  all_goals try (exfalso; omega)
  refine awp_for tab_ok (fun k => ([J, fracsS (Z.map fz), S.c (C.t (T.ptr [ti s.n, rowsTT s.rows])), J, J, J, J, J, J, J, J, J, J, J, J, J, J, J, J, J, J, J, J, J, J, fracsS (Z.map fz), intS .i64 Z.length, intS .i64 k, J, J, J, J, J, J, J, J, J, J, J, J, J, J, J, J, J, J, J, J, J, J, J, J, J, J, J, J, J, J, J, J, J, J, J, J, J, J], [])) Z.length (fun k => (Z.take k).all (fun v => decide (0 ≤ v)) = true) [] rfl
    ⟨rfl, rfl, trivial, ⟨rfl, rfl, rfl, ent_i (by simp), rfl, trivial⟩⟩ ?_
  intro k hk hI
  by_cases hlt : k < Z.length
  · obtain ⟨x, hx⟩ : ∃ x, Z[k]? = some x := ⟨_, List.getElem?_eq_getElem hlt⟩
    have bx := hZ x (List.mem_of_getElem? hx)
    have sg := z_fSign x (by omega)
    have sn := sgR_neg (x := x)
    conv => whnf
    (repeat' (first | ((refine DecB.mk (fun h => ?_) (fun h => ?_)) <;> first | (exfalso; omega) | (conv => whnf)) | ((refine BoolB.mk (fun h => ?_) (fun h => ?_)) <;> first | (exact absurd h (by decide)) | (conv => whnf)) | ((first | refine zzW ?_ | refine zzI ?_ | refine zzR ?_ | refine zzB ?_ | refine late_ok rfl rfl ?_ | refine src_ok rfl ?_ | refine .inl ⟨_, _, qcall_pure (sg) rfl rfl, ?_⟩ | refine ex_row (zero_get Z hx) ?_ | refine LitB.data ?_ | refine BoxB.own ?_); conv => whnf)))
    all_goals first
      | (exfalso; omega)
      | (have h0 : ¬ sgR x < 0 := by omega
         exact ⟨hlt, by rw [all_take_succ hx, hI]; simpa using Rat.not_lt.1 (fun h => h0 (sn.2 h)), [], rfl, rfl, trivial, ⟨rfl, rfl, rfl, rfl, rfl, trivial⟩⟩)
      | (have h0 : sgR x < 0 := by omega
         have hF : Z.all (fun v => decide (0 ≤ v)) = false := all_of_get hx (decide_eq_false (Rat.not_le.2 (sn.1 h0)))
         refine fin_bool ?_; rw [hF]; rfl)
  · have hA : Z.all (fun v => decide (0 ≤ v)) = true := by rw [← hI, List.take_of_length_le (by omega)]
    rw [hA, Bool.true_and]
    conv => whnf
    (repeat' (first | ((refine DecB.mk (fun h => ?_) (fun h => ?_)) <;> first | (exfalso; omega) | (conv => whnf)) | ((refine BoolB.mk (fun h => ?_) (fun h => ?_)) <;> first | (exact absurd h (by decide)) | (conv => whnf)) | ((first | refine zzW ?_ | refine zzI ?_ | refine zzR ?_ | refine zzB ?_ | refine late_ok rfl rfl ?_ | refine src_ok rfl ?_ | refine LitB.data ?_ | refine BoxB.own ?_); conv => whnf)))
    all_goals try (exfalso; omega)
    clear hI hlt hk
    refine awp_for tab_ok (fun k => ([J, fracsS (Z.map fz), J, J, J, J, J, J, J, J, J, J, J, J, J, J, J, J, J, J, J, J, J, J, J, J, J, J, J, J, J, J, J, J, J, J, S.c (C.t (rowsTT s.rows)), intS .i64 s.rows.length, intS .i64 k, J, J, J, J, J, J, J, J, J, J, J, J, J, J, J, J, J, J, J, J, J, J, J, J, J, J, J], [])) s.rows.length (fun k => (s.rows.take k).all (fun w => rowB3 w Z) = true) [] rfl
      ⟨rfl, rfl, trivial, ⟨rfl, rfl, ent_i (by simp), rfl, trivial⟩⟩ ?_
    intro k hk hI
    by_cases hlt : k < s.rows.length
    · obtain ⟨w, hw⟩ : ∃ w, s.rows[k]? = some w := ⟨_, List.getElem?_eq_getElem hlt⟩
      obtain ⟨b1, b2, b3⟩ := hb.t w (List.mem_of_getElem? hw)
      have hrw : rightRow s.n w = true := by
        unfold rightSys at hr
        simp only [Bool.and_eq_true, List.all_eq_true] at hr
        exact hr.2 w (List.mem_of_getElem? hw)
      have hrt : rightT (-1) Z.length w.terms = true := by
        unfold rightRow at hrw
        simp only [Bool.and_eq_true] at hrw
        rw [hn]; exact hrw.1.1
      have va := a_value w.terms Z b1 b2 hZ (by omega) hrt
      have bv := rl_valT b2 hZ w.terms.length
      rw [List.take_of_length_le (Nat.le_refl _)] at bv
      have h4 := Nat.mul_le_mul_right 402 b1
      have c := z_fCompare (valT w.terms Z) w.value (by omega) (by omega)
      have k1 := cmpR_lt (x := valT w.terms Z) (y := w.value)
      have k2 := cmpR_lt' (x := valT w.terms Z) (y := w.value)
      have hro := rowB3_iff (w := w) (z := Z)
      rw [← k1, ← k2] at hro
      generalize cmpR (valT w.terms Z) w.value = U at c hro
      by_cases hok : (U < 0 → w.kind = 1) ∧ (U > 0 → w.kind = 0)
      · have hT := hro.2 hok
        obtain ⟨q1, q2⟩ := hok
        conv => whnf
        (repeat' (first | ((refine DecB.mk (fun h => ?_) (fun h => ?_)) <;> first | (exfalso; omega) | (conv => whnf)) | ((refine BoolB.mk (fun h => ?_) (fun h => ?_)) <;> first | (exact absurd h (by decide)) | (conv => whnf)) | ((first | refine zzW ?_ | refine zzI ?_ | refine zzR ?_ | refine zzB ?_ | refine late_ok rfl rfl ?_ | refine src_ok rfl ?_ | refine .inl ⟨_, _, qcall_pure (va) rfl rfl, ?_⟩ | refine .inl ⟨_, _, qcall_pure (c) rfl rfl, ?_⟩ | refine ex_row hw ?_ | refine LitB.data ?_ | refine BoxB.own ?_); conv => whnf)))
        all_goals first
          | (exfalso; omega)
          | exact ⟨hlt, by rw [all_take_succ hw, hI, hT]; rfl, [], rfl, rfl, trivial, ⟨rfl, rfl, rfl, rfl, trivial⟩⟩
      · have hF : rowB3 w Z = false := by rw [← Bool.not_eq_true]; exact fun h => hok (hro.1 h)
        rw [all_of_get hw hF]
        have hor : (U < 0 ∧ w.kind ≠ 1) ∨ (U > 0 ∧ w.kind ≠ 0) := by omega
        clear hro hok
        conv => whnf
        (repeat' (first | ((refine DecB.mk (fun h => ?_) (fun h => ?_)) <;> first | (exfalso; omega) | (conv => whnf)) | ((refine BoolB.mk (fun h => ?_) (fun h => ?_)) <;> first | (exact absurd h (by decide)) | (conv => whnf)) | ((first | refine zzW ?_ | refine zzI ?_ | refine zzR ?_ | refine zzB ?_ | refine late_ok rfl rfl ?_ | refine src_ok rfl ?_ | refine .inl ⟨_, _, qcall_pure (va) rfl rfl, ?_⟩ | refine .inl ⟨_, _, qcall_pure (c) rfl rfl, ?_⟩ | refine ex_row hw ?_ | refine LitB.data ?_ | refine BoxB.own ?_); conv => whnf)))
        all_goals first
          | (exfalso; omega)
          | exact fin_bool rfl
    · rw [List.take_of_length_le (by omega)] at hI
      rw [hI]
      conv => whnf
      (repeat' (first | ((refine DecB.mk (fun h => ?_) (fun h => ?_)) <;> first | (exfalso; omega) | (conv => whnf)) | ((refine BoolB.mk (fun h => ?_) (fun h => ?_)) <;> first | (exact absurd h (by decide)) | (conv => whnf)) | ((first | refine zzW ?_ | refine zzI ?_ | refine zzR ?_ | refine zzB ?_ | refine late_ok rfl rfl ?_ | refine src_ok rfl ?_ | refine LitB.data ?_ | refine BoxB.own ?_); conv => whnf)))
      all_goals first
        | (exfalso; omega)
        | exact fin_bool rfl
end Go.Proofs.YtfieodjihaodiaaGreat
/- Chapter 16 in plain Lean: the rows of evidence and their origins, and what their solutions are. No program is in sight. -/
namespace Go.Proofs.YtfieodjihaodiaaGreat
set_option linter.unusedVariables false
set_option linter.unusedSimpArgs false

structure OrP where
  kind : Int
  mv : Int
  mat : Int
  idx : Int
def varE (e : Ev) (i m : Nat) : Int := (i : Int) * e.mats + m
def termsE (e : Ev) (p : Int) (m : Nat) : Nat → List (Int × Rat)
  | 0 => []
  | k + 1 => match e.moves[k]? with
    | none => termsE e p m k
    | some y => if y.src = p then termsE e p m k ++ [(varE e k m, ((-1 : Int) : Rat))] else if y.dst = p then termsE e p m k ++ [(varE e k m, ((1 : Int) : Rat))] else termsE e p m k
def stockP (e : Ev) (i : Nat) (x : Move) (m : Nat) : RowP × OrP := (⟨termsE e x.src m (i + 1), if x.all then 2 else 0, ((0 : Int) : Rat)⟩, ⟨0, i, m, -1⟩)
def coefS (b own more : Int) (m : Nat) : Int := if (m : Int) = own then b + more else b
def sumT (e : Ev) (i : Nat) (b own more : Int) : Nat → List (Int × Rat)
  | 0 => []
  | m + 1 => if coefS b own more m ≠ 0 then sumT e i b own more m ++ [(varE e i m, ((coefS b own more m : Int) : Rat))] else sumT e i b own more m
def sumA (e : Ev) (i : Nat) (b own more : Int) : List (Int × Rat) := sumT e i b own more e.mats.toNat
def weightP (e : Ev) (i : Nat) (x : Move) : List (RowP × OrP) := match ivOf e x with
  | none => []
  | some (lo, hi) => [(⟨sumA e i 1 (-1) 0, 0, lo⟩, ⟨1, i, -1, -1⟩), (⟨sumA e i 1 (-1) 0, 1, hi⟩, ⟨2, i, -1, -1⟩)]
def pur2 (e : Ev) (i k : Nat) (p : Purity) : List (RowP × OrP) :=
  [(⟨sumA e i (-p.least) p.mat 1000, 0, ((0 : Int) : Rat)⟩, ⟨3, i, -1, k⟩), (⟨sumA e i p.most p.mat (-1000), 0, ((0 : Int) : Rat)⟩, ⟨4, i, -1, k⟩)]
def purTo (e : Ev) (i : Nat) : Nat → List (RowP × OrP)
  | 0 => []
  | k + 1 => match e.purities[k]? with
    | none => purTo e i k
    | some p => if p.move = (i : Int) then purTo e i k ++ pur2 e i k p else purTo e i k
def stocksP (e : Ev) (i : Nat) (x : Move) (m : Nat) : List (RowP × OrP) := (List.range m).map (stockP e i x)
def moveP (e : Ev) (i : Nat) (x : Move) : List (RowP × OrP) :=
  (if kindAt e x.src = 0 then [] else stocksP e i x e.mats.toNat) ++ weightP e i x ++ purTo e i e.purities.length
def evTo (e : Ev) : Nat → List (RowP × OrP)
  | 0 => []
  | k + 1 => match e.moves[k]? with
    | none => evTo e k
    | some x => evTo e k ++ moveP e k x
def evRows (e : Ev) : List (RowP × OrP) := evTo e e.moves.length
def evSys (e : Ev) : SysP := ⟨e.moves.length * e.mats, (evRows e).map Prod.fst⟩
/-- the point z holds the masses of the history -/
def Holds16 (e : Ev) (G : List (List Rat)) (z : List Rat) : Prop := ∀ i m : Nat, i < e.moves.length → (m : Int) < e.mats → z.getD (varE e i m).toNat 0 = hAt G i m
end Go.Proofs.YtfieodjihaodiaaGreat
/- Chapter 16 in plain Lean: a history is allowed exactly if its point is a solution. No program is in sight. -/
namespace Go.Proofs.YtfieodjihaodiaaGreat
set_option linter.unusedVariables false
set_option linter.unusedSimpArgs false

theorem check_bounds16 {e : Ev} (h : check e = 0) : 1 ≤ e.mats ∧ e.mats ≤ 6 ∧ e.places.length ≤ 100 ∧ e.moves.length ≤ 200 := by
  obtain ⟨h1, h2, _⟩ := check_zero h
  unfold fullB at h1
  simp only [Bool.or_eq_false_iff, decide_eq_false_iff_not] at h1
  omega
theorem purTo_mem {e : Ev} {i : Nat} {w : RowP × OrP} : ∀ {n : Nat}, w ∈ purTo e i n → ∃ k p, k < n ∧ e.purities[k]? = some p ∧ p.move = (i : Int) ∧ w ∈ pur2 e i k p
  | 0, h => by cases h
  | n + 1, h => by
    unfold purTo at h
    cases hp : e.purities[n]? with
    | none => rw [hp] at h; obtain ⟨k, p, h1, h2⟩ := purTo_mem h; exact ⟨k, p, by omega, h2⟩
    | some p =>
      rw [hp] at h
      simp only at h
      split at h
      · rename_i hm
        rcases List.mem_append.1 h with h | h
        · obtain ⟨k, p, h1, h2⟩ := purTo_mem h; exact ⟨k, p, by omega, h2⟩
        · exact ⟨n, p, by omega, hp, hm, h⟩
      · obtain ⟨k, p, h1, h2⟩ := purTo_mem h; exact ⟨k, p, by omega, h2⟩
/-- what the pairs of a move are -/
theorem moveP_mem {e : Ev} {i : Nat} {x : Move} {w : RowP × OrP} (h : w ∈ moveP e i x) :
    (kindAt e x.src ≠ 0 ∧ ∃ m : Nat, (m : Int) < e.mats ∧ w = stockP e i x m) ∨ (∃ lo hi, ivOf e x = some (lo, hi) ∧ (w = (⟨sumA e i 1 (-1) 0, 0, lo⟩, ⟨1, i, -1, -1⟩) ∨ w = (⟨sumA e i 1 (-1) 0, 1, hi⟩, ⟨2, i, -1, -1⟩))) ∨
    (∃ k p, e.purities[k]? = some p ∧ p.move = (i : Int) ∧ w ∈ pur2 e i k p) := by
  unfold moveP at h
  rcases List.mem_append.1 h with h | h
  · rcases List.mem_append.1 h with h | h
    · refine .inl ?_
      by_cases hk : kindAt e x.src = 0
      · rw [if_pos hk] at h; cases h
      · rw [if_neg hk] at h
        obtain ⟨m, hm, rfl⟩ := List.mem_map.1 h
        have := List.mem_range.1 hm
        exact ⟨hk, m, by omega, rfl⟩
    · refine .inr (.inl ?_)
      unfold weightP at h
      split at h
      · cases h
      · rename_i lo hi hiv
        refine ⟨lo, hi, hiv, ?_⟩
        simp only [List.mem_cons, List.not_mem_nil, or_false] at h
        exact h
  · obtain ⟨k, p, _, h2, h3, h4⟩ := purTo_mem h
    exact .inr (.inr ⟨k, p, h2, h3, h4⟩)
theorem purTo_len {e : Ev} {i : Nat} : ∀ n, (purTo e i n).length ≤ 2 * n
  | 0 => by simp [purTo]
  | n + 1 => by
    have ih := purTo_len (e := e) (i := i) n
    unfold purTo
    split
    · omega
    · split
      · rw [List.length_append]; simp [pur2]; omega
      · omega
theorem moveP_len {e : Ev} {i : Nat} {x : Move} (hm : e.mats ≤ 6) : (moveP e i x).length ≤ 8 + 2 * e.purities.length := by
  have h1 := purTo_len (e := e) (i := i) e.purities.length
  unfold moveP
  rw [List.length_append, List.length_append]
  have h2 : (weightP e i x).length ≤ 2 := by unfold weightP; split <;> simp
  have h3 : (if kindAt e x.src = 0 then ([] : List (RowP × OrP)) else stocksP e i x e.mats.toNat).length ≤ 6 := by
    split
    · simp
    · simp [stocksP]; omega
  omega
theorem evTo_len {e : Ev} (hm : e.mats ≤ 6) : ∀ n, (evTo e n).length ≤ n * (8 + 2 * e.purities.length)
  | 0 => by simp [evTo]
  | n + 1 => by
    have ih := evTo_len hm n
    unfold evTo
    rw [Nat.succ_mul]
    split
    · omega
    · rename_i x _
      have := moveP_len (i := n) (x := x) hm
      rw [List.length_append]; omega
theorem evTo_mem {e : Ev} {w : RowP × OrP} : ∀ {n : Nat}, w ∈ evTo e n → ∃ i x, i < n ∧ e.moves[i]? = some x ∧ w ∈ moveP e i x
  | 0, h => by cases h
  | n + 1, h => by
    unfold evTo at h
    cases hx : e.moves[n]? with
    | none => rw [hx] at h; obtain ⟨i, x, h1, h2⟩ := evTo_mem h; exact ⟨i, x, by omega, h2⟩
    | some x =>
      rw [hx] at h
      simp only at h
      rcases List.mem_append.1 h with h | h
      · obtain ⟨i, x, h1, h2⟩ := evTo_mem h; exact ⟨i, x, by omega, h2⟩
      · exact ⟨n, x, by omega, hx, h⟩
theorem flat_get {α : Type} {w : Nat} : ∀ {G : List (List α)} (i m : Nat), (∀ l ∈ G, l.length = w) → m < w → G.flatten[i * w + m]? = (G[i]?).bind (·[m]?)
  | [], i, m, _, _ => by simp
  | l :: r, 0, m, h, hm => by
    have hl := h l (by simp)
    rw [Nat.zero_mul, Nat.zero_add, List.flatten_cons, List.getElem?_append_left (by omega)]; simp
  | l :: r, i + 1, m, h, hm => by
    have hl := h l (by simp)
    have ih := flat_get (G := r) i m (fun l hl => h l (List.mem_cons_of_mem _ hl)) hm
    rw [List.flatten_cons, List.getElem?_append_right (by rw [Nat.succ_mul]; omega), show (i + 1) * w + m - l.length = i * w + m by rw [Nat.succ_mul]; omega, ih]; simp
theorem flat_holds {e : Ev} {G : List (List Rat)} (sG : Shape e G) : Holds16 e G G.flatten := by
  intro i m hi hm
  have hw : ∀ l ∈ G, l.length = e.mats.toNat := fun l hl => by have := sG.wid l hl; omega
  have e1 : (varE e i m).toNat = i * e.mats.toNat + m := by
    have h0 : (e.mats.toNat : Int) = e.mats := Int.toNat_of_nonneg (by omega)
    have : varE e i m = ((i * e.mats.toNat + m : Nat) : Int) := by unfold varE; rw [← h0]; simp
    rw [this, Int.toNat_natCast]
  rw [e1, List.getD_eq_getElem?_getD, flat_get i m hw (by omega)]
  unfold hAt
  rw [List.getD_eq_getElem?_getD, List.getD_eq_getElem?_getD]
  cases h : G[i]? with
  | none => simp
  | some l => simp
end Go.Proofs.YtfieodjihaodiaaGreat
/- Chapter 16 in plain Lean: what the origins say of the rows; fewer moves, more recalls. No program is in sight. -/
namespace Go.Proofs.YtfieodjihaodiaaGreat
set_option linter.unusedVariables false
set_option linter.unusedSimpArgs false

/-- what the origin of a row says of it -/
structure OrOk (e : Ev) (w : RowP) (o : OrP) : Prop where
  mv : 0 ≤ o.mv ∧ o.mv < e.moves.length
  kd : 0 ≤ o.kind ∧ o.kind < 5
  ix : (o.idx ≠ -1) ↔ (o.kind = 3 ∨ o.kind = 4)
  mt : (o.mat ≠ -1) ↔ o.kind = 0
  va : o.kind ≠ 1 → o.kind ≠ 2 → w.value = ((0 : Int) : Rat)
  pu : o.kind = 3 ∨ o.kind = 4 → 0 ≤ o.idx ∧ o.idx < e.purities.length
  st : o.kind = 0 → 0 ≤ o.mat ∧ o.mat < e.mats
  tm : ∀ t ∈ w.terms, 0 ≤ t.1 ∧ t.1 < (o.mv + 1) * e.mats ∧ (o.kind ≠ 0 → o.mv * e.mats ≤ t.1) ∧ (o.kind = 0 → t.1 % e.mats = o.mat)
theorem weightP_len {e : Ev} {i : Nat} {x : Move} : (weightP e i x).length = if (ivOf e x).isSome then 2 else 0 := by unfold weightP; cases ivOf e x <;> rfl
end Go.Proofs.YtfieodjihaodiaaGreat
/- Statement by statement: what one statement leaves may be weakened before the next (cuts). -/
namespace Go.Proofs.YtfieodjihaodiaaGreat
open Go.RowKit
set_option linter.unusedVariables false
set_option linter.unusedSimpArgs false

theorem awp_seq {P : Program} {τ : Tab} (hτ : TabOK P τ) {n0 : Nat} {x y : Code} {env : Env} {H : Hp} {Q : AX → Env → Hp → Prop}
    (h : acode P τ n0 x env H fun a env' H' => match a with
      | .normal => Awp P n0 y env' H' Q
      | a => Q a env' H') : Awp P n0 (.seq x y) env H Q := by
  refine ⟨fun w0 ι0 M0 H0 a w hn hM hs => ?_⟩
  refine wp_seq (wp_mono ((acode_sound hτ x h).out w0 ι0 M0 H0 a w hn hM hs) ?_)
  rintro e a' w' ⟨x, env', H', rfl, hq, hs'⟩
  cases x with
  | normal => exact hq.out w0 ι0 M0 H0 a' w' hn hM hs'
  | exit id => exact ⟨_, env', H', rfl, hq, hs'⟩
  | ret => exact ⟨_, env', H', rfl, hq, hs'⟩
theorem awp_seqW {P : Program} {n0 : Nat} {x y : Code} {env : Env} {H : Hp} {Q : AX → Env → Hp → Prop}
    (h : Awp P n0 x env H fun a env' H' => match a with
      | .normal => Awp P n0 y env' H' Q
      | a => Q a env' H') : Awp P n0 (.seq x y) env H Q := by
  refine ⟨fun w0 ι0 M0 H0 a w hn hM hs => ?_⟩
  refine wp_seq (wp_mono (h.out w0 ι0 M0 H0 a w hn hM hs) ?_)
  rintro e a' w' ⟨x, env', H', rfl, hq, hs'⟩
  cases x with
  | normal => exact hq.out w0 ι0 M0 H0 a' w' hn hM hs'
  | exit id => exact ⟨_, env', H', rfl, hq, hs'⟩
  | ret => exact ⟨_, env', H', rfl, hq, hs'⟩
theorem awp_blockW {P : Program} {n0 id : Nat} {c : Code} {env : Env} {H : Hp} {Q : AX → Env → Hp → Prop} (h : Awp P n0 c env H (acIn id Q)) : Awp P n0 (.block id c) env H Q := by
  refine ⟨fun w0 ι0 M0 H0 a w hn hM hs => ?_⟩
  refine wp_block (wp_mono (h.out w0 ι0 M0 H0 a w hn hM hs) ?_)
  rintro e a' w' ⟨x, env', H', rfl, hq, hs'⟩
  cases x with
  | normal => exact ⟨_, env', H', rfl, hq, hs'⟩
  | exit j =>
    have hq : cond (Nat.beq j id) (Q .normal env' H') (Q (.exit j) env' H') := hq
    show if j = id then _ else _
    by_cases hj : j = id
    · subst hj
      rw [if_pos rfl]
      simp only [Nat.beq_refl, cond_true] at hq
      exact ⟨_, env', H', rfl, hq, hs'⟩
    · rw [if_neg hj]
      have : Nat.beq j id = false := by
        cases hb : Nat.beq j id with
        | false => rfl
        | true => exact absurd (Nat.eq_of_beq_eq_true hb) hj
      simp only [this, cond_false] at hq
      exact ⟨_, env', H', rfl, hq, hs'⟩
  | ret => exact ⟨_, env', H', rfl, hq, hs'⟩
/-- all ways through one statement end in a state that this one stands for -/
theorem awp_cut {P : Program} {τ : Tab} (hτ : TabOK P τ) {n0 : Nat} {x y : Code} {env : Env} {H : Hp} {Q : AX → Env → Hp → Prop} (E2 : Env) (H2 : Hp)
    (h : acode P τ n0 x env H fun a env' H' => match a with
      | .normal => ∃ ρ, Ent n0 ρ env' H' E2 H2
      | a => Q a env' H') (h2 : Awp P n0 y E2 H2 Q) : Awp P n0 (.seq x y) env H Q := by
  refine ⟨fun w0 ι0 M0 H0 a w hn hM hs => ?_⟩
  refine wp_seq (wp_mono ((acode_sound hτ x h).out w0 ι0 M0 H0 a w hn hM hs) ?_)
  rintro e a' w' ⟨x, env', H', rfl, hq, hs'⟩
  cases x with
  | normal => obtain ⟨ρ, he⟩ := hq; exact h2.out w0 ι0 M0 H0 a' w' hn hM (he.sim hn hM hs')
  | exit id => exact ⟨_, env', H', rfl, hq, hs'⟩
  | ret => exact ⟨_, env', H', rfl, hq, hs'⟩
/-- a loop that counts, its round statement by statement -/
theorem awp_forW {P : Program} {n0 : Nat} {c : Code} {env : Env} {H : Hp} {Q : AX → Env → Hp → Prop} (E : Nat → Env × Hp) (n : Nat) (I : Nat → Prop) (ρ0 : List (Option Nat))
    (hI : I 0) (h0 : Ent n0 ρ0 env H (E 0).1 (E 0).2)
    (round : ∀ k, k ≤ n → I k → Awp P n0 c (E k).1 (E k).2 fun a env' H' => match a with
      | .normal => k < n ∧ I (k + 1) ∧ ∃ ρ, Ent n0 ρ env' H' (E (k + 1)).1 (E (k + 1)).2
      | a => Q a env' H') : Awp P n0 (.loop c) env H Q := by
  refine awp_loopS (σ := { k : Nat // k ≤ n ∧ I k }) (fun k => E k.1) (fun k => n - k.1) ⟨0, Nat.zero_le _, hI⟩ ρ0 h0 ?_
  rintro ⟨k, hk, hi⟩
  refine (round k hk hi).mono ?_
  intro a env' H' h
  cases a with
  | normal =>
    obtain ⟨h1, h2, ρ, h3⟩ := h
    exact ⟨ρ, ⟨k + 1, h1, h2⟩, h3, by show n - (k + 1) < n - k; omega⟩
  | exit id => exact h
  | ret => exact h
/-- a function that only reads some of the caller's blocks (they are .old in its contract): a quiet call -/
theorem qcall_read {P : Program} {g : FuncId} {args args' : List S} {H Hs : Hp} {r : S} (σ : List Nat) (h : ACall P g args Hs r Hs) (hargs : args' = args.map (renS σ)) (hok : args.all (okS σ.length) = true) (hσl : σ.length = Hs.length)
    (hin : ∀ (i : Nat) (k : Blk), Hs[i]? = some k → k.mode = .old ∧ (∀ r ∈ k.rows, okL σ.length r = true) ∧ ∃ k', H[σ.getD i 0]? = some k' ∧ k'.mode ≠ .dead ∧ k'.elem = k.elem ∧ k'.size = k.size ∧ k'.rows = renR σ k.rows)
    (hr : r.isT = true) : QCall P g args' H r [] := by
  refine ⟨h.1, fun w ι M vals hl hv hH hM hf => ?_⟩
  subst hargs
  have hget : ∀ (i : Nat) (k : Blk), Hs[i]? = some k → i < σ.length := fun i k hk => by rw [hσl]; exact (List.getElem?_eq_some_iff.1 hk).1
  have hsub : ∀ i, i < σ.length → subIo σ ι i = ι (σ.getD i 0) := fun i hi => by simp [subIo, List.getElem?_eq_getElem hi, List.getD_eq_getElem?_getD]
  have hno : ∀ (i : Nat) (k : Blk), Hs[i]? = some k → k.mode = .live → False := fun i k hk hm => by rw [(hin i k hk).1] at hm; cases hm
  have hHs : HeapRel w (subIo σ ι) M Hs := by
    refine ⟨fun id k hk hd l hl => ?_, fun id k hk hm => (hno id k hk hm).elim, fun id k hk hm => ?_, fun id id' k k' hk _ hm => (hno id k hk hm).elim, fun id id' k k' _ hk' _ hm => (hno id' k' hk' hm).elim⟩
    · obtain ⟨h1, h2, k', hk', hm', e1, e2, e3⟩ := hin id k hk
      rw [hsub id (hget id k hk)] at hl
      have hb := hH.blk _ k' hk' hm' l hl
      have hb : BlkRel w ι M ⟨k.mode, k'.elem, k'.size, k'.rows, k'.box, k.app⟩ l := by cases l <;> exact hb
      exact BlkRel.ren_in (k := k) (k' := ⟨k.mode, k'.elem, k'.size, k'.rows, k'.box, k.app⟩) ⟨rfl, e1, e2, rfl, e3⟩ h2 hb
    · rw [(hin id k hk).1] at hm; cases hm
  have hcall := h.2 w (subIo σ ι) M vals (by simpa using hl) (fun j s hj => renS_in (List.all_eq_true.1 hok s (List.mem_of_getElem? hj)) (hv j _ (by rw [List.getElem?_map, hj]; rfl))) hHs hM (fun id hid => by
    unfold subIo
    rw [List.getElem?_eq_none (by omega)]; rfl)
  refine Calls.mono hcall ?_
  rintro e w' ⟨v, rfl, ι', M', h1, h2, h3, h4, h5⟩
  have hlv : ∀ b, ¬ Live (subIo σ ι) Hs b := fun b ⟨id, k, _, _, hk, hm, _⟩ => hno id k hk hm
  have hext : Ext w w' := ⟨h5.os, h5.tape, h5.output, h5.size, fun b hb => h5.keep b hb (hlv b)⟩
  refine ⟨v, rfl, fun _ => .nil, ?_, hext, fun k blk hk => by simp at hk, fun k b cap size hk => by simp at hk, fun k k' b cap size cap' size' hk => by simp at hk⟩
  refine RS.tree hr (RS.keep (M := M') (ι := ι') (fun _ _ _ => rfl) (fun b hb => ?_) (fun _ _ h => h) h1)
  rcases hb with hb | ⟨k, hk, _⟩
  · rcases h5.mold b hb with h | h
    · exact .inl h
    · exact absurd h (hlv b)
  · simp at hk
end Go.Proofs.YtfieodjihaodiaaGreat
/- evidence: add, variable, sum of the maker. -/
namespace Go.Proofs.YtfieodjihaodiaaGreat
open Go.RowKit
set_option linter.unusedVariables false
set_option linter.unusedSimpArgs false
set_option maxRecDepth 100000

def orRow (o : OrP) : List T := [ti o.kind, ti o.mv, ti o.mat, ti o.idx]
abbrev orS (o : OrP) : S := .agg ((orRow o).map .t)
abbrev termsB (l : List (Int × Rat)) : Blk := { mode := .live, elem := 67, size := 5, rows := toC (l.map termRow), box := false }
abbrev rB (l : List (RowP × OrP)) : Blk := { mode := .live, elem := 65, size := 6, rows := toC (l.map fun w => rowRow w.1), box := false }
abbrev oB (l : List (RowP × OrP)) : Blk := { mode := .live, elem := 42, size := 4, rows := toC (l.map fun w => orRow w.2), box := false }
def mkRow (e : Ev) (r o n : Nat) : List C := [.t (ti e.mats), .t (ti e.hhs), .t (ti e.scs), .t (placesT e.places), .t (movesT e.moves), .t (certsT e.certs), .t (recallsT e.recalls), .t (puritiesT e.purities), .own r 0 n true, .own o 0 n true]
abbrev mkB (e : Ev) (r o n : Nat) : Blk := { mode := .live, elem := 86, size := 10, rows := [mkRow e r o n], box := true }
abbrev deadB (el : TypeId) (size : Nat) : Blk := ⟨.dead, el, size, [], false, false⟩
abbrev deadR : Blk := deadB 65 6
abbrev deadO : Blk := deadB 42 4
abbrev hp0 (e : Ev) (L : List (RowP × OrP)) : Hp := [mkB e 1 2 L.length, rB L, oB L]
abbrev hp1 (e : Ev) (L : List (RowP × OrP)) : Hp := [mkB e 3 4 L.length, deadR, deadO, rB L, oB L]
/-- as one reads it -/
abbrev oldB (k : Blk) : Blk := { k with mode := .old }
abbrev hpO (e : Ev) (L : List (RowP × OrP)) : Hp := [oldB (mkB e 1 2 L.length), oldB (rB L), oldB (oB L)]
theorem ext_pair {α : Type} {f : α → List T} {l : List α} {x : α} {n : Nat} (h : n = l.length) : List.take n (toC (l.map f)) ++ toC [f x] = toC ((l ++ [x]).map f) := by
  rw [List.take_of_length_le (by simp [toC, h])]
  simp [toC]
set_option maxHeartbeats 4000000 in
theorem a_add16 (e : Ev) (L : List (RowP × OrP)) (hL : L.length ≤ 1000000) (l : List (Int × Rat)) (kind : Int) (v : Rat) (o : OrP) :
    ACall Tryz.prog 114 [.c (.ptr 0 0 0), .c (.t (termsT l)), intS .i64 kind, frS (fz v), orS o] (hp0 e L) (.tup []) (hp1 e (L ++ [(⟨l, kind, v⟩, o)])) := by
  have lA : L.length ≤ (rB L).rows.length := by show _ ≤ (toC _).length; simp [toC]
  have lB : L.length ≤ (oB L).rows.length := by show _ ≤ (toC _).length; simp [toC]
  have lC : (L.length + 1) * 97 ≤ 140737488355328 := by omega
  have lD : (L.length + 1) * 33 ≤ 140737488355328 := by omega
  (refine acall_of tab_ok Tryz.func114 rfl (by decide) ?_; (conv => whnf); repeat (first | (refine LitB.data ?_; conv => whnf) | (refine BoxB.data ?_; conv => whnf)))
  (repeat' (first | ((refine DecB.mk (fun h => ?_) (fun h => ?_)) <;> first | (exfalso; omega) | (conv => whnf)) | ((refine BoolB.mk (fun h => ?_) (fun h => ?_)) <;> first | (exact absurd h (by decide)) | (conv => whnf)) | ((first | refine zzW ?_ | refine zzI ?_ | refine zzR ?_ | refine zzB ?_ | refine late_ok rfl rfl ?_ | refine src_ok rfl ?_ | refine .inl ⟨_, _, qcall_pure (0) rfl rfl, ?_⟩ | refine app_ok lA lC ?_ | refine app_ok lB lD ?_ | refine bar_late [0] (by decide +kernel) (by decide +kernel) ?_ | refine LitB.data ?_ | refine BoxB.own ?_); conv => whnf)))
  refine ⟨⟨[some 0, some 1, some 2, some 3, some 4], rfl, rfl, ⟨⟨rfl, rfl, rfl, .inr ⟨⟨rfl, rfl, rfl, rfl, rfl, rfl, rfl, rfl, ⟨rfl, rfl, ?_, fun h => h⟩, ⟨rfl, rfl, ?_, fun h => h⟩, trivial⟩, trivial⟩⟩, ⟨rfl, rfl, rfl, .inl ⟨rfl, by simp [rowsT]⟩⟩, ⟨rfl, rfl, rfl, .inl ⟨rfl, by simp [rowsT]⟩⟩, entB_rows rfl rfl rfl ?_ rfl, entB_rows rfl rfl rfl ?_ rfl, trivial⟩, trivial⟩⟩
  · simp [toC]
  · simp [toC]
  · exact ext_pair (f := fun w : RowP × OrP => rowRow w.1) (x := (⟨l, kind, v⟩, o)) rfl
  · exact ext_pair (f := fun w : RowP × OrP => orRow w.2) (x := (⟨l, kind, v⟩, o)) rfl
theorem entB_old {ρ : List (Option Nat)} {H : Hp} {k : Blk} {rows : List (List T)} (hm : k.mode = .old) (h : k.rows = toC rows) : EntB ρ H k k := ⟨by unfold leMode; rw [hm], rfl, rfl, .inl ⟨rfl, h ▸ rowsT_toC rows⟩⟩
theorem oldH_ent {e : Ev} {L : List (RowP × OrP)} {R : Hp} {ρ : List (Option Nat)} : EntB (some 0 :: some 1 :: some 2 :: ρ) (hpO e L ++ R) (oldB (mkB e 1 2 L.length)) (oldB (mkB e 1 2 L.length)) := ⟨rfl, rfl, rfl, .inr ⟨⟨rfl, rfl, rfl, rfl, rfl, rfl, rfl, rfl, ⟨rfl, rfl, rfl, fun h => h⟩, ⟨rfl, rfl, rfl, fun h => h⟩, trivial⟩, trivial⟩⟩
theorem a_var16 (e : Ev) (L : List (RowP × OrP)) (i m : Nat) (h0 : 0 ≤ (i : Int) * e.mats) (h1 : (i : Int) * e.mats ≤ 1000000) (hm : m ≤ 1000000) :
    ACall Tryz.prog 113 [.c (.ptr 0 0 0), intS .i64 i, intS .i64 m] (hpO e L) (intS .i64 (varE e i m)) (hpO e L) := by
  (refine acall_of tab_ok Tryz.func113 rfl (by decide) ?_; (conv => whnf); repeat (first | (refine LitB.data ?_; conv => whnf) | (refine BoxB.data ?_; conv => whnf)))
  (repeat' (first | ((refine DecB.mk (fun h => ?_) (fun h => ?_)) <;> first | (exfalso; omega) | (conv => whnf)) | ((refine BoolB.mk (fun h => ?_) (fun h => ?_)) <;> first | (exact absurd h (by decide)) | (conv => whnf)) | ((first | refine zzW ?_ | refine zzI ?_ | refine zzR ?_ | refine zzB ?_ | refine late_ok rfl rfl ?_ | refine src_ok rfl ?_ | refine LitB.data ?_ | refine BoxB.own ?_); conv => whnf)))
  exact ⟨⟨[some 0, some 1, some 2], rfl, rfl, ⟨oldH_ent (R := []), entB_old rfl rfl, entB_old rfl rfl, trivial⟩, rfl⟩⟩
/-- the maker is read -/
theorem q_var16 {H : Hp} {e : Ev} {L : List (RowP × OrP)} {r o : Nat} {k0 k1 k2 : Blk} (hk0 : H[0]? = some k0) (hk1 : H[r]? = some k1) (hk2 : H[o]? = some k2) (e0 : k0.mode ≠ .dead ∧ k0.elem = (mkB e r o L.length).elem ∧ k0.size = 10 ∧ k0.rows = [mkRow e r o L.length])
    (e1 : k1.mode ≠ .dead ∧ k1.elem = (rB L).elem ∧ k1.size = 6 ∧ k1.rows = (rB L).rows) (e2 : k2.mode ≠ .dead ∧ k2.elem = (oB L).elem ∧ k2.size = 4 ∧ k2.rows = (oB L).rows) (i m : Nat) (h0 : 0 ≤ (i : Int) * e.mats) (h1 : (i : Int) * e.mats ≤ 1000000) (hm : m ≤ 1000000) :
    QCall Tryz.prog 113 [.c (.ptr 0 0 0), intS .i64 i, intS .i64 m] H (intS .i64 (varE e i m)) [] := by
  refine qcall_read [0, r, o] (a_var16 e L i m h0 h1 hm) rfl rfl rfl ?_ rfl
  intro j k hk
  match j, hk with
  | 0, hk =>
    injection hk with hk
    subst hk
    exact ⟨rfl, by intro r hr; simp at hr; subst hr; rfl, k0, hk0, e0.1, e0.2.1, e0.2.2.1, e0.2.2.2⟩
  | 1, hk =>
    injection hk with hk
    subst hk
    exact ⟨rfl, okRows_toC _, k1, hk1, e1.1, e1.2.1, e1.2.2.1, e1.2.2.2.trans (renR_toC _).symm⟩
  | 2, hk =>
    injection hk with hk
    subst hk
    exact ⟨rfl, okRows_toC _, k2, hk2, e2.1, e2.2.1, e2.2.2.1, e2.2.2.2.trans (renR_toC _).symm⟩
theorem ext_termsE {l : List (Int × Rat)} {w : Int × Rat} {n : Nat} (h : n = l.length) : List.take n (toC (l.map termRow)) ++ toC [termRow w] = toC ((l ++ [w]).map termRow) := ext_pair h
theorem sumT_le {e : Ev} {i : Nat} {b own more : Int} : ∀ n, (sumT e i b own more n).length ≤ n
  | 0 => by simp [sumT]
  | n + 1 => by
    have ih := sumT_le (e := e) (i := i) (b := b) (own := own) (more := more) n
    unfold sumT
    split
    · simp; omega
    · omega
set_option maxHeartbeats 4000000 in
theorem a_sum16 (e : Ev) (L : List (RowP × OrP)) (hm0 : 0 ≤ e.mats) (hm6 : e.mats ≤ 6) (i : Nat) (hi : i ≤ 1000) (b own more : Int) (hb : -100000 ≤ b ∧ b ≤ 100000) (hr : -100000 ≤ more ∧ more ≤ 100000) :
    ACall Tryz.prog 115 [.c (.ptr 0 0 0), intS .i64 i, intS .i64 b, intS .i64 own, intS .i64 more] (hpO e L) (.c (.t (termsT (sumA e i b own more)))) (hpO e L) := by
  have h0 : 0 ≤ (i : Int) * e.mats := Int.mul_nonneg (by omega) hm0
  have h1 : (i : Int) * e.mats ≤ 1000 * 6 := Int.mul_le_mul (by omega) hm6 hm0 (by decide)
  (refine acall_of tab_ok Tryz.func115 rfl (by decide) ?_; (conv => whnf); repeat (first | (refine LitB.data ?_; conv => whnf) | (refine BoxB.data ?_; conv => whnf)))
  (repeat' (first | ((refine DecB.mk (fun h => ?_) (fun h => ?_)) <;> first | (exfalso; omega) | (conv => whnf)) | ((refine BoolB.mk (fun h => ?_) (fun h => ?_)) <;> first | (exact absurd h (by decide)) | (conv => whnf)) | ((first | refine zzW ?_ | refine zzI ?_ | refine zzR ?_ | refine zzB ?_ | refine late_ok rfl rfl ?_ | refine src_ok rfl ?_ | refine LitB.data ?_ | refine BoxB.own ?_); conv => whnf)))
  refine awp_for tab_ok (fun k => ([S.c (C.ptr 0 0 0), intS .i64 i, intS .i64 b, intS .i64 own, intS .i64 more, J, J, J, J, J, J, S.c (C.own 3 0 (sumT e i b own more k).length true), J, J, J, J, J, J, intS .i64 e.mats, intS .i64 k, J, J, J, J, J, J, J, J, J, J, J, J, J, J, J, J, J, J, J, J, J, J, J], hpO e L ++ [termsB (sumT e i b own more k)])) e.mats.toNat (fun _ => True) [some 0, some 1, some 2, none] trivial
    ⟨rfl, rfl, ⟨oldH_ent (R := []), entB_old rfl rfl, entB_old rfl rfl, ⟨rfl, rfl⟩, trivial⟩, ⟨⟨rfl, rfl, rfl⟩, rfl, rfl, rfl, rfl, ⟨rfl, rfl, rfl⟩, rfl, rfl, trivial⟩⟩ ?_
  intro k hk _
  have lk := sumT_le (e := e) (i := i) (b := b) (own := own) (more := more) k
  by_cases hlt : k < e.mats.toNat
  · have vq := q_var16 (H := hpO e L ++ [termsB (sumT e i b own more k)]) (e := e) (L := L) (r := 1) (o := 2) rfl rfl rfl ⟨(by intro h; cases h), rfl, rfl, rfl⟩ ⟨(by intro h; cases h), rfl, rfl, rfl⟩ ⟨(by intro h; cases h), rfl, rfl, rfl⟩ i k h0 (by omega) (by omega)
    have lA : (sumT e i b own more k).length ≤ (termsB (sumT e i b own more k)).rows.length := by show _ ≤ (toC _).length; simp [toC]
    have lC : ((sumT e i b own more k).length + 1) * 73 ≤ 140737488355328 := by omega
    have eT : sumT e i b own more (k + 1) = if coefS b own more k ≠ 0 then sumT e i b own more k ++ [(varE e i k, ((coefS b own more k : Int) : Rat))] else sumT e i b own more k := rfl
    by_cases c1 : (k : Int) = own
    · have ec : coefS b own more k = b + more := by unfold coefS; rw [if_pos c1]
      rw [ec] at eT
      have ig := z_fInt (b + more) (by omega) (by omega)
      by_cases c2 : b + more ≠ 0
      · rw [if_pos c2] at eT
        conv => whnf
        (repeat' (first | ((refine DecB.mk (fun h => ?_) (fun h => ?_)) <;> first | (exfalso; omega) | (conv => whnf)) | ((refine BoolB.mk (fun h => ?_) (fun h => ?_)) <;> first | (exact absurd h (by decide)) | (conv => whnf)) | ((first | refine zzW ?_ | refine zzI ?_ | refine zzR ?_ | refine zzB ?_ | refine late_ok rfl rfl ?_ | refine src_ok rfl ?_ | refine .inl ⟨_, _, qcall_pure (ig) rfl rfl, ?_⟩ | refine .inl ⟨_, _, vq, ?_⟩ | refine app_ok lA lC ?_ | refine LitB.data ?_ | refine BoxB.own ?_); conv => whnf)))
        all_goals try (exfalso; omega)
        refine ⟨hlt, trivial, [some 0, some 1, some 2, some 4], rfl, rfl, ⟨oldH_ent, entB_old rfl rfl, entB_old rfl rfl, entB_rows rfl rfl rfl ?_ rfl, trivial⟩, ⟨⟨rfl, rfl, rfl⟩, rfl, rfl, rfl, rfl, ⟨rfl, rfl, ?_, fun h => h⟩, rfl, rfl, trivial⟩⟩
        · rw [eT]; exact ext_termsE (w := (varE e i k, ((b + more : Int) : Rat))) rfl
        · rw [eT]; simp [toC]
      · rw [if_neg c2] at eT
        conv => whnf
        (repeat' (first | ((refine DecB.mk (fun h => ?_) (fun h => ?_)) <;> first | (exfalso; omega) | (conv => whnf)) | ((refine BoolB.mk (fun h => ?_) (fun h => ?_)) <;> first | (exact absurd h (by decide)) | (conv => whnf)) | ((first | refine zzW ?_ | refine zzI ?_ | refine zzR ?_ | refine zzB ?_ | refine late_ok rfl rfl ?_ | refine src_ok rfl ?_ | refine LitB.data ?_ | refine BoxB.own ?_); conv => whnf)))
        all_goals try (exfalso; omega)
        refine ⟨hlt, trivial, [some 0, some 1, some 2, some 3], rfl, rfl, ⟨oldH_ent, entB_old rfl rfl, entB_old rfl rfl, entB_rows rfl rfl rfl ?_ rfl, trivial⟩, ⟨⟨rfl, rfl, rfl⟩, rfl, rfl, rfl, rfl, ⟨rfl, rfl, ?_, fun h => h⟩, rfl, rfl, trivial⟩⟩
        · rw [eT]
        · rw [eT]
    · have ec : coefS b own more k = b := by unfold coefS; rw [if_neg c1]
      rw [ec] at eT
      have ig := z_fInt b (by omega) (by omega)
      by_cases c2 : b ≠ 0
      · rw [if_pos c2] at eT
        conv => whnf
        (repeat' (first | ((refine DecB.mk (fun h => ?_) (fun h => ?_)) <;> first | (exfalso; omega) | (conv => whnf)) | ((refine BoolB.mk (fun h => ?_) (fun h => ?_)) <;> first | (exact absurd h (by decide)) | (conv => whnf)) | ((first | refine zzW ?_ | refine zzI ?_ | refine zzR ?_ | refine zzB ?_ | refine late_ok rfl rfl ?_ | refine src_ok rfl ?_ | refine .inl ⟨_, _, qcall_pure (ig) rfl rfl, ?_⟩ | refine .inl ⟨_, _, vq, ?_⟩ | refine app_ok lA lC ?_ | refine LitB.data ?_ | refine BoxB.own ?_); conv => whnf)))
        all_goals try (exfalso; omega)
        refine ⟨hlt, trivial, [some 0, some 1, some 2, some 4], rfl, rfl, ⟨oldH_ent, entB_old rfl rfl, entB_old rfl rfl, entB_rows rfl rfl rfl ?_ rfl, trivial⟩, ⟨⟨rfl, rfl, rfl⟩, rfl, rfl, rfl, rfl, ⟨rfl, rfl, ?_, fun h => h⟩, rfl, rfl, trivial⟩⟩
        · rw [eT]; exact ext_termsE (w := (varE e i k, ((b : Int) : Rat))) rfl
        · rw [eT]; simp [toC]
      · rw [if_neg c2] at eT
        conv => whnf
        (repeat' (first | ((refine DecB.mk (fun h => ?_) (fun h => ?_)) <;> first | (exfalso; omega) | (conv => whnf)) | ((refine BoolB.mk (fun h => ?_) (fun h => ?_)) <;> first | (exact absurd h (by decide)) | (conv => whnf)) | ((first | refine zzW ?_ | refine zzI ?_ | refine zzR ?_ | refine zzB ?_ | refine late_ok rfl rfl ?_ | refine src_ok rfl ?_ | refine LitB.data ?_ | refine BoxB.own ?_); conv => whnf)))
        all_goals try (exfalso; omega)
        refine ⟨hlt, trivial, [some 0, some 1, some 2, some 3], rfl, rfl, ⟨oldH_ent, entB_old rfl rfl, entB_old rfl rfl, entB_rows rfl rfl rfl ?_ rfl, trivial⟩, ⟨⟨rfl, rfl, rfl⟩, rfl, rfl, rfl, rfl, ⟨rfl, rfl, ?_, fun h => h⟩, rfl, rfl, trivial⟩⟩
        · rw [eT]
        · rw [eT]
  · have hke : k = e.mats.toNat := by omega
    subst hke
    conv => whnf
    (repeat' (first | ((refine DecB.mk (fun h => ?_) (fun h => ?_)) <;> first | (exfalso; omega) | (conv => whnf)) | ((refine BoolB.mk (fun h => ?_) (fun h => ?_)) <;> first | (exact absurd h (by decide)) | (conv => whnf)) | ((first | refine zzW ?_ | refine zzI ?_ | refine zzR ?_ | refine zzB ?_ | refine late_ok rfl rfl ?_ | refine src_ok rfl ?_ | refine LitB.data ?_ | refine BoxB.own ?_); conv => whnf)))
    all_goals try (exfalso; omega)
    exact ⟨⟨[some 0, some 1, some 2], rfl, rfl, ⟨oldH_ent, entB_old rfl rfl, entB_old rfl rfl, trivial⟩, show VC _ (fun id => notIn [some 0, some 1, some 2] id = true) _ _ from vc_all rfl rfl (by intro h; cases h) rfl rfl (by rw [List.length_map]; rfl)⟩⟩
/-- the sum, read out of any heap -/
theorem q_sum16 {H : Hp} {e : Ev} {L : List (RowP × OrP)} {r o : Nat} {k0 k1 k2 : Blk} (hk0 : H[0]? = some k0) (hk1 : H[r]? = some k1) (hk2 : H[o]? = some k2) (e0 : k0.mode ≠ .dead ∧ k0.elem = (mkB e r o L.length).elem ∧ k0.size = 10 ∧ k0.rows = [mkRow e r o L.length])
    (e1 : k1.mode ≠ .dead ∧ k1.elem = (rB L).elem ∧ k1.size = 6 ∧ k1.rows = (rB L).rows) (e2 : k2.mode ≠ .dead ∧ k2.elem = (oB L).elem ∧ k2.size = 4 ∧ k2.rows = (oB L).rows)
    (hm0 : 0 ≤ e.mats) (hm6 : e.mats ≤ 6) (i : Nat) (hi : i ≤ 1000) (b own more : Int) (hb : -100000 ≤ b ∧ b ≤ 100000) (hr : -100000 ≤ more ∧ more ≤ 100000) :
    QCall Tryz.prog 115 [.c (.ptr 0 0 0), intS .i64 i, intS .i64 b, intS .i64 own, intS .i64 more] H (.c (.t (termsT (sumA e i b own more)))) [] := by
  refine qcall_read [0, r, o] (a_sum16 e L hm0 hm6 i hi b own more hb hr) rfl rfl rfl ?_ rfl
  intro j k hk
  match j, hk with
  | 0, hk =>
    injection hk with hk
    subst hk
    exact ⟨rfl, by intro r hr; simp at hr; subst hr; rfl, k0, hk0, e0.1, e0.2.1, e0.2.2.1, e0.2.2.2⟩
  | 1, hk =>
    injection hk with hk
    subst hk
    exact ⟨rfl, okRows_toC _, k1, hk1, e1.1, e1.2.1, e1.2.2.1, e1.2.2.2.trans (renR_toC _).symm⟩
  | 2, hk =>
    injection hk with hk
    subst hk
    exact ⟨rfl, okRows_toC _, k2, hk2, e2.1, e2.2.1, e2.2.2.1, e2.2.2.2.trans (renR_toC _).symm⟩
end Go.Proofs.YtfieodjihaodiaaGreat
/- evidence: stock, weight, purities of the maker. -/
namespace Go.Proofs.YtfieodjihaodiaaGreat
open Go.RowKit
set_option linter.unusedVariables false
set_option linter.unusedSimpArgs false
set_option maxRecDepth 100000

abbrev mvB (x : Move) : Blk := { mode := .live, elem := 74, size := 6, rows := [x.row.map .t], box := true }
theorem rowsT_mvB (x : Move) : rowsT [x.row.map C.t] := by simp [rowsT, Move.row, C.isT]
/-- add in a greater heap -/
theorem a_addG {H : Hp} {e : Ev} {L : List (RowP × OrP)} {r o n : Nat} {rs os : List (List C)} (hs : H[0]? = some (mkB e r o n)) (h1 : H[r]? = some { mode := .live, elem := 65, size := 6, rows := rs, box := false })
    (h2 : H[o]? = some { mode := .live, elem := 42, size := 4, rows := os, box := false }) (hn : n = L.length) (hrs : rs = toC (L.map fun w => rowRow w.1)) (hos : os = toC (L.map fun w => orRow w.2)) (hr0 : r ≠ 0) (ho0 : o ≠ 0) (hro : r ≠ o) (hL : L.length ≤ 1000000)
    (l : List (Int × Rat)) (kind : Int) (v : Rat) (p : OrP) :
    ACall Tryz.prog 114 [.c (.ptr 0 0 0), .c (.t (termsT l)), intS .i64 kind, frS (fz v), orS p] H (.tup [])
      ((((H.set 0 (mkB e H.length (H.length + 1) (L ++ [((⟨l, kind, v⟩ : RowP), p)]).length)).set r deadR).set o deadO) ++ [rB (L ++ [((⟨l, kind, v⟩ : RowP), p)]), oB (L ++ [((⟨l, kind, v⟩ : RowP), p)])]) := by
  subst hn hrs hos
  have g0 : 0 < H.length := (List.getElem?_eq_some_iff.1 hs).1
  have g1 : r < H.length := (List.getElem?_eq_some_iff.1 h1).1
  have g2 : o < H.length := (List.getElem?_eq_some_iff.1 h2).1
  have ex : extR [0, r, o] H.length 2 = [0, r, o, H.length, H.length + 1] := by simp [extR, List.range_succ]
  refine acall_frame [0, r, o] (a_add16 e L hL l kind v p) rfl rfl rfl (by simp; omega) ?_ ?_ (by simp) rfl rfl (by simp) ?_ ?_
  · intro i k hk
    match i, hk with
    | 0, hk =>
      injection hk with hk
      subst hk
      exact ⟨rfl, rfl, by intro r hr; simp at hr; subst hr; rfl, _, hs, ⟨rfl, rfl, rfl, rfl, rfl⟩⟩
    | 1, hk =>
      injection hk with hk
      subst hk
      exact ⟨rfl, rfl, okRows_toC _, _, h1, renB_data rfl⟩
    | 2, hk =>
      injection hk with hk
      subst hk
      exact ⟨rfl, rfl, okRows_toC _, _, h2, renB_data rfl⟩
  · intro k hk
    simp at hk
    rcases hk with rfl | rfl | rfl | rfl | rfl <;> (intro h; cases h)
  · intro i k hk
    show ∃ k', _[(extR [0, r, o] H.length 2).getD i 0]? = some k' ∧ RenB (extR [0, r, o] H.length 2) k k'
    rw [ex]
    match i, hk with
    | 0, hk =>
      injection hk with hk
      subst hk
      refine ⟨mkB e H.length (H.length + 1) (L ++ [((⟨l, kind, v⟩ : RowP), p)]).length, ?_, ⟨rfl, rfl, rfl, rfl, rfl⟩⟩
      show (_ ++ _)[0]? = _
      rw [List.getElem?_append_left (by simp; omega), List.getElem?_set, if_neg (by omega), List.getElem?_set, if_neg (by omega), List.getElem?_set, if_pos rfl, if_pos g0]
    | 1, hk =>
      injection hk with hk
      subst hk
      refine ⟨deadR, ?_, ⟨rfl, rfl, rfl, rfl, rfl⟩⟩
      show (_ ++ _)[r]? = _
      rw [List.getElem?_append_left (by simp; omega), List.getElem?_set, if_neg (by omega), List.getElem?_set, if_pos rfl, if_pos (by simp; omega)]
    | 2, hk =>
      injection hk with hk
      subst hk
      refine ⟨deadO, ?_, ⟨rfl, rfl, rfl, rfl, rfl⟩⟩
      show (_ ++ _)[o]? = _
      rw [List.getElem?_append_left (by simp; omega), List.getElem?_set, if_pos rfl, if_pos (by simp; omega)]
    | 3, hk =>
      injection hk with hk
      subst hk
      refine ⟨rB (L ++ [((⟨l, kind, v⟩ : RowP), p)]), ?_, renB_data rfl⟩
      show (_ ++ _)[H.length]? = _
      rw [List.getElem?_append_right (by simp)]
      simp
    | 4, hk =>
      injection hk with hk
      subst hk
      refine ⟨oB (L ++ [((⟨l, kind, v⟩ : RowP), p)]), ?_, renB_data rfl⟩
      show (_ ++ _)[H.length + 1]? = _
      rw [List.getElem?_append_right (by simp)]
      simp
  · intro j hj hjn
    simp at hjn
    rw [List.getElem?_append_left (by simp; omega), List.getElem?_set, if_neg (by omega), List.getElem?_set, if_neg (by omega), List.getElem?_set, if_neg (by omega)]
/-- the heap of stock before the row of a material: x is the move -/
def hpM (e : Ev) (x : Move) (L : List (RowP × OrP)) : Nat → Hp
  | 0 => [mkB e 1 2 L.length, rB L, oB L, mvB x]
  | _ + 1 => [mkB e 4 5 L.length, deadR, deadO, mvB x, rB L, oB L]
theorem termsE_le {e : Ev} {p : Int} {m : Nat} : ∀ k, (termsE e p m k).length ≤ k
  | 0 => by simp [termsE]
  | k + 1 => by
    have ih := termsE_le (e := e) (p := p) (m := m) k
    unfold termsE
    split
    · omega
    · split
      · simp; omega
      · split
        · simp; omega
        · omega
theorem termsE_succ {e : Ev} {p : Int} {m k : Nat} {y : Move} (h : e.moves[k]? = some y) : termsE e p m (k + 1) = if y.src = p then termsE e p m k ++ [(varE e k m, ((-1 : Int) : Rat))] else if y.dst = p then termsE e p m k ++ [(varE e k m, ((1 : Int) : Rat))] else termsE e p m k := by rw [termsE, h]
theorem deadB_ent {ρ : List (Option Nat)} {H : Hp} {el : TypeId} {size : Nat} : EntB ρ H (deadB el size) (deadB el size) := ⟨rfl, rfl, rfl, .inl ⟨rfl, by simp [rowsT]⟩⟩
set_option maxHeartbeats 4000000 in
theorem a_stock16 (e : Ev) (hm1 : 1 ≤ e.mats) (hm6 : e.mats ≤ 6) (hl : e.moves.length ≤ 220) {i : Nat} {x : Move} (hx : e.moves[i]? = some x) (L : List (RowP × OrP)) (hL : L.length ≤ 100000) :
    ACall Tryz.prog 75 [.c (.ptr 0 0 0), intS .i64 i] (hp0 e L) (.tup []) (hp1 e (L ++ stocksP e i x e.mats.toNat)) := by
  have hi := (List.getElem?_eq_some_iff.1 hx).1
  have m0 : (e.moves.map Move.row).length = e.moves.length := by simp
  have i0 := z_fInt 0 (by decide) (by decide)
  have i1 := z_fInt 1 (by decide) (by decide)
  have im := z_fInt (-1) (by decide) (by decide)
  have tk : (e.moves.map Move.row).take (i + 1) = (e.moves.take (i + 1)).map Move.row := (List.map_take ..).symm
  have tl : (e.moves.take (i + 1)).length = i + 1 := by simp; omega
  have mt : ((e.moves.take (i + 1)).map Move.row).length = i + 1 := by simp; omega
  have hti : ((i : Int) + 1).toNat = i + 1 := by omega
  let K : Int := if x.all then 2 else 0
  cases hal : x.all
  case' false => have hK : K = 0 := by show (if x.all then (2 : Int) else 0) = 0; rw [hal]; rfl
  case' true => have hK : K = 2 := by show (if x.all then (2 : Int) else 0) = 2; rw [hal]; rfl
  all_goals
    (refine acall_of tab_ok Tryz.func75 rfl (by decide) ?_; (conv => whnf); repeat (first | (refine LitB.data ?_; conv => whnf) | (refine BoxB.data ?_; conv => whnf)))
    (repeat' (first | ((refine DecB.mk (fun h => ?_) (fun h => ?_)) <;> first | (exfalso; omega) | (conv => whnf)) | ((refine BoolB.mk (fun h => ?_) (fun h => ?_)) <;> first | (exact absurd h (by decide)) | (conv => whnf)) | ((first | refine zzW ?_ | refine zzI ?_ | refine zzR ?_ | refine zzB ?_ | refine late_ok rfl rfl ?_ | refine src_ok rfl ?_ | refine ex_row hx ?_ | refine LitB.data ?_ | refine BoxB.own ?_); conv => whnf)))
    all_goals first
      | (exfalso; omega)
      | (exfalso; simp_all; done)
      | skip
    refine awp_for tab_ok (fun m => ([S.c (C.ptr 0 0 0), intS .i64 i, J, J, S.c (C.ptr 3 0 0), intS .i64 K, J, J, J, J, J, J, J, J, J, J, J, J, J, J, J, J, J, J, J, intS .i64 e.mats, intS .i64 m, J, J, J, J, J, J, J, J, J, J, J, J, J, J, J, J, J, J, J, J, J, J, J, J, J, J, J, J, J, J, J, J, J, J, J, J, J, J, J, J, J, J, J, J, J, J, J, J, J, J], hpM e x (L ++ stocksP e i x m) m)) e.mats.toNat (fun _ => True) [some 0, some 1, some 2, some 3] trivial ?_ ?_
    · have e0 : L ++ stocksP e i x 0 = L := by simp [stocksP]
      show Ent _ _ _ _ _ (hpM e x (L ++ stocksP e i x 0) 0)
      rw [e0, hK]
      exact ⟨rfl, rfl, ⟨⟨rfl, rfl, rfl, .inr ⟨⟨rfl, rfl, rfl, rfl, rfl, rfl, rfl, rfl, ⟨rfl, rfl, rfl, fun h => h⟩, ⟨rfl, rfl, rfl, fun h => h⟩, trivial⟩, trivial⟩⟩, entB_rows rfl rfl rfl rfl rfl, entB_rows rfl rfl rfl rfl rfl, ⟨rfl, rfl, rfl, .inl ⟨rfl, rowsT_mvB x⟩⟩, trivial⟩, ⟨⟨rfl, rfl, rfl⟩, rfl, ⟨rfl, rfl, rfl⟩, rfl, rfl, rfl, trivial⟩⟩
    intro m hm _
    have sl : (L ++ stocksP e i x m).length ≤ 100006 := by simp [stocksP]; omega
    by_cases hlt : m < e.mats.toNat
    · have hst : L ++ stocksP e i x (m + 1) = (L ++ stocksP e i x m) ++ [stockP e i x m] := by simp [stocksP, List.range_succ]
      obtain ⟨M, hM⟩ : ∃ M, M = L ++ stocksP e i x m := ⟨_, rfl⟩
      rw [← hM] at hst sl ⊢
      cases m with
      | zero =>
        conv => whnf
        (repeat' (first | ((refine DecB.mk (fun h => ?_) (fun h => ?_)) <;> first | (exfalso; omega) | (conv => whnf)) | ((refine BoolB.mk (fun h => ?_) (fun h => ?_)) <;> first | (exact absurd h (by decide)) | (conv => whnf)) | ((first | refine zzW ?_ | refine zzI ?_ | refine zzR ?_ | refine zzB ?_ | refine late_ok rfl rfl ?_ | refine src_ok rfl ?_ | refine sl_ok (by omega) (by omega) (by omega) ?_ | refine LitB.data ?_ | refine BoxB.own ?_); conv => whnf)))
        all_goals try (exfalso; omega)
        refine awp_weak ?_
        refine awp_for tab_ok (fun k => ([S.c (C.ptr 0 0 0), intS .i64 i, J, J, S.c (C.ptr 3 0 0), intS .i64 K, intS .i64 ((0 : Nat) : Int), S.c (C.own 4 0 (termsE e x.src 0 k).length true), J, J, J, J, J, J, J, J, J, J, J, J, J, J, J, J, J, intS .i64 e.mats, intS .i64 ((0 : Nat) : Int), J, J, J, J, J, J, J, J, J, S.c (C.t (movesT (e.moves.take (i + 1)))), intS .i64 ((i + 1 : Nat) : Int), intS .i64 k, J, J, J, J, J, J, J, J, J, J, J, J, J, J, J, J, J, J, J, J, J, J, J, J, J, J, J, J, J, J, J, J, J, J, J, J, J, J], hpM e x M 0 ++ [termsB (termsE e x.src 0 k)])) (i + 1) (fun _ => True) [some 0, some 1, some 2, some 3, none] trivial
          ⟨rfl, rfl, ⟨⟨rfl, rfl, rfl, .inr ⟨⟨rfl, rfl, rfl, rfl, rfl, rfl, rfl, rfl, ⟨rfl, rfl, rfl, fun h => h⟩, ⟨rfl, rfl, rfl, fun h => h⟩, trivial⟩, trivial⟩⟩, ⟨rfl, rfl, rfl, .inl ⟨rfl, rowsT_toC _⟩⟩, ⟨rfl, rfl, rfl, .inl ⟨rfl, rowsT_toC _⟩⟩, ⟨rfl, rfl, rfl, .inl ⟨rfl, rowsT_mvB x⟩⟩, ⟨rfl, rfl⟩, trivial⟩, ⟨⟨rfl, rfl, rfl⟩, rfl, ⟨rfl, rfl, rfl⟩, rfl, rfl, ⟨rfl, rfl, rfl⟩, rfl, rfl, ent_t ?_, ent_i ?_, rfl, trivial⟩⟩ ?_
        · show T.sl 6 _ (((e.moves.map Move.row).take ((i : Int) + 1).toNat).drop 0) = _
          rw [hti, tk]; rfl
        · show ((((e.moves.map Move.row).take ((i : Int) + 1).toNat).drop 0).length : Int) = ((i + 1 : Nat) : Int)
          rw [hti, tk, List.drop_zero, mt]
        intro k hk _
        have kl := termsE_le (e := e) (p := x.src) (m := 0) k
        by_cases hkt : k < i + 1
        · obtain ⟨y, hy⟩ : ∃ y, e.moves[k]? = some y := ⟨_, List.getElem?_eq_getElem (by omega)⟩
          have hyt : (e.moves.take (i + 1))[k]? = some y := by rw [List.getElem?_take, if_pos hkt]; exact hy
          have n0 : 0 ≤ (k : Int) * e.mats := Int.mul_nonneg (by omega) (by omega)
          have n1 : (k : Int) * e.mats ≤ 220 * 6 := Int.mul_le_mul (by omega) hm6 (by omega) (by decide)
          have lA : (termsE e x.src 0 k).length ≤ (termsB (termsE e x.src 0 k)).rows.length := by show _ ≤ (toC _).length; simp [toC]
          have lC : ((termsE e x.src 0 k).length + 1) * 73 ≤ 140737488355328 := by omega
          by_cases c1 : y.src = x.src
          · have et : termsE e x.src 0 (k + 1) = termsE e x.src 0 k ++ [(varE e k 0, ((-1 : Int) : Rat))] := by rw [termsE_succ hy, if_pos c1]
            conv => whnf
            have vq := fun (R : Hp) => q_var16 (H := hpM e x M 0 ++ R) (e := e) (L := M) (r := 1) (o := 2) rfl rfl rfl ⟨(by intro h; cases h), rfl, rfl, rfl⟩ ⟨(by intro h; cases h), rfl, rfl, rfl⟩ ⟨(by intro h; cases h), rfl, rfl, rfl⟩ k 0 n0 (by omega) (by omega)
            (repeat' (first | ((refine DecB.mk (fun h => ?_) (fun h => ?_)) <;> first | (exfalso; omega) | (conv => whnf)) | ((refine BoolB.mk (fun h => ?_) (fun h => ?_)) <;> first | (exact absurd h (by decide)) | (conv => whnf)) | ((first | refine zzW ?_ | refine zzI ?_ | refine zzR ?_ | refine zzB ?_ | refine late_ok rfl rfl ?_ | refine src_ok rfl ?_ | refine .inl ⟨_, _, qcall_pure (i1) rfl rfl, ?_⟩ | refine .inl ⟨_, _, qcall_pure (im) rfl rfl, ?_⟩ | refine ex_row hyt ?_ | refine .inl ⟨_, _, vq _, ?_⟩ | refine app_ok lA lC ?_ | refine LitB.data ?_ | refine BoxB.own ?_); conv => whnf)))
            all_goals try (exfalso; omega)
            refine ⟨hkt, trivial, [some 0, some 1, some 2, some 3, some 6], rfl, rfl, ⟨⟨rfl, rfl, rfl, .inr ⟨⟨rfl, rfl, rfl, rfl, rfl, rfl, rfl, rfl, ⟨rfl, rfl, rfl, fun h => h⟩, ⟨rfl, rfl, rfl, fun h => h⟩, trivial⟩, trivial⟩⟩, ⟨rfl, rfl, rfl, .inl ⟨rfl, rowsT_toC _⟩⟩, ⟨rfl, rfl, rfl, .inl ⟨rfl, rowsT_toC _⟩⟩, ⟨rfl, rfl, rfl, .inl ⟨rfl, rowsT_mvB x⟩⟩, entB_rows rfl rfl rfl ?_ rfl, trivial⟩, ⟨⟨rfl, rfl, rfl⟩, rfl, ⟨rfl, rfl, rfl⟩, rfl, rfl, ⟨rfl, rfl, ?_, fun h => h⟩, rfl, rfl, rfl, rfl, rfl, trivial⟩⟩
            · rw [et]; exact ext_termsE (w := (varE e k 0, ((-1 : Int) : Rat))) rfl
            · rw [et]; simp [toC]
          by_cases c2 : y.dst = x.src
          · have et : termsE e x.src 0 (k + 1) = termsE e x.src 0 k ++ [(varE e k 0, ((1 : Int) : Rat))] := by rw [termsE_succ hy, if_neg c1, if_pos c2]
            conv => whnf
            have vq := fun (R : Hp) => q_var16 (H := hpM e x M 0 ++ R) (e := e) (L := M) (r := 1) (o := 2) rfl rfl rfl ⟨(by intro h; cases h), rfl, rfl, rfl⟩ ⟨(by intro h; cases h), rfl, rfl, rfl⟩ ⟨(by intro h; cases h), rfl, rfl, rfl⟩ k 0 n0 (by omega) (by omega)
            (repeat' (first | ((refine DecB.mk (fun h => ?_) (fun h => ?_)) <;> first | (exfalso; omega) | (conv => whnf)) | ((refine BoolB.mk (fun h => ?_) (fun h => ?_)) <;> first | (exact absurd h (by decide)) | (conv => whnf)) | ((first | refine zzW ?_ | refine zzI ?_ | refine zzR ?_ | refine zzB ?_ | refine late_ok rfl rfl ?_ | refine src_ok rfl ?_ | refine .inl ⟨_, _, qcall_pure (i1) rfl rfl, ?_⟩ | refine .inl ⟨_, _, qcall_pure (im) rfl rfl, ?_⟩ | refine ex_row hyt ?_ | refine .inl ⟨_, _, vq _, ?_⟩ | refine app_ok lA lC ?_ | refine LitB.data ?_ | refine BoxB.own ?_); conv => whnf)))
            all_goals try (exfalso; omega)
            refine ⟨hkt, trivial, [some 0, some 1, some 2, some 3, some 6], rfl, rfl, ⟨⟨rfl, rfl, rfl, .inr ⟨⟨rfl, rfl, rfl, rfl, rfl, rfl, rfl, rfl, ⟨rfl, rfl, rfl, fun h => h⟩, ⟨rfl, rfl, rfl, fun h => h⟩, trivial⟩, trivial⟩⟩, ⟨rfl, rfl, rfl, .inl ⟨rfl, rowsT_toC _⟩⟩, ⟨rfl, rfl, rfl, .inl ⟨rfl, rowsT_toC _⟩⟩, ⟨rfl, rfl, rfl, .inl ⟨rfl, rowsT_mvB x⟩⟩, entB_rows rfl rfl rfl ?_ rfl, trivial⟩, ⟨⟨rfl, rfl, rfl⟩, rfl, ⟨rfl, rfl, rfl⟩, rfl, rfl, ⟨rfl, rfl, ?_, fun h => h⟩, rfl, rfl, rfl, rfl, rfl, trivial⟩⟩
            · rw [et]; exact ext_termsE (w := (varE e k 0, ((1 : Int) : Rat))) rfl
            · rw [et]; simp [toC]
          · have et : termsE e x.src 0 (k + 1) = termsE e x.src 0 k := by rw [termsE_succ hy, if_neg c1, if_neg c2]
            conv => whnf
            (repeat' (first | ((refine DecB.mk (fun h => ?_) (fun h => ?_)) <;> first | (exfalso; omega) | (conv => whnf)) | ((refine BoolB.mk (fun h => ?_) (fun h => ?_)) <;> first | (exact absurd h (by decide)) | (conv => whnf)) | ((first | refine zzW ?_ | refine zzI ?_ | refine zzR ?_ | refine zzB ?_ | refine late_ok rfl rfl ?_ | refine src_ok rfl ?_ | refine .inl ⟨_, _, qcall_pure (i1) rfl rfl, ?_⟩ | refine .inl ⟨_, _, qcall_pure (im) rfl rfl, ?_⟩ | refine ex_row hyt ?_ | refine app_ok lA lC ?_ | refine LitB.data ?_ | refine BoxB.own ?_); conv => whnf)))
            all_goals try (exfalso; omega)
            refine ⟨hkt, trivial, [some 0, some 1, some 2, some 3, some 4], rfl, rfl, ⟨⟨rfl, rfl, rfl, .inr ⟨⟨rfl, rfl, rfl, rfl, rfl, rfl, rfl, rfl, ⟨rfl, rfl, rfl, fun h => h⟩, ⟨rfl, rfl, rfl, fun h => h⟩, trivial⟩, trivial⟩⟩, ⟨rfl, rfl, rfl, .inl ⟨rfl, rowsT_toC _⟩⟩, ⟨rfl, rfl, rfl, .inl ⟨rfl, rowsT_toC _⟩⟩, ⟨rfl, rfl, rfl, .inl ⟨rfl, rowsT_mvB x⟩⟩, entB_rows rfl rfl rfl ?_ rfl, trivial⟩, ⟨⟨rfl, rfl, rfl⟩, rfl, ⟨rfl, rfl, rfl⟩, rfl, rfl, ⟨rfl, rfl, ?_, fun h => h⟩, rfl, rfl, rfl, rfl, rfl, trivial⟩⟩
            · rw [et]
            · rw [et]
        have hke : k = i + 1 := by omega
        subst hke
        conv => whnf
        (repeat' (first | ((refine DecB.mk (fun h => ?_) (fun h => ?_)) <;> first | (exfalso; omega) | (conv => whnf)) | ((refine BoolB.mk (fun h => ?_) (fun h => ?_)) <;> first | (exact absurd h (by decide)) | (conv => whnf)) | ((first | refine zzW ?_ | refine zzI ?_ | refine zzR ?_ | refine zzB ?_ | refine late_ok rfl rfl ?_ | refine src_ok rfl ?_ | refine LitB.data ?_ | refine BoxB.own ?_); conv => whnf)))
        all_goals try (exfalso; omega)
        refine .inr ⟨[some 0, some 1, some 2, some 3], [S.c (C.ptr 0 0 0), intS .i64 i, J, J, S.c (C.ptr 3 0 0), intS .i64 K, intS .i64 ((0 : Nat) : Int), S.c (C.t (termsT (termsE e x.src 0 (i + 1)))), J, J, J, J, J, J, J, J, J, J, J, J, J, J, J, J, J, intS .i64 e.mats, intS .i64 ((0 : Nat) : Int), J, J, J, J, J, J, J, J, J, S.c (C.t (movesT (e.moves.take (i + 1)))), intS .i64 ((i + 1 : Nat) : Int), intS .i64 ((i + 1 : Nat) : Int), J, J, J, J, J, J, J, J, J, J, J, J, J, J, J, J, J, J, J, J, J, J, J, J, J, J, J, J, J, J, J, J, J, J, J, J, J, J], hpM e x M 0, ⟨rfl, rfl, ⟨⟨rfl, rfl, rfl, .inr ⟨⟨rfl, rfl, rfl, rfl, rfl, rfl, rfl, rfl, ⟨rfl, rfl, rfl, fun h => h⟩, ⟨rfl, rfl, rfl, fun h => h⟩, trivial⟩, trivial⟩⟩, ⟨rfl, rfl, rfl, .inl ⟨rfl, rowsT_toC _⟩⟩, ⟨rfl, rfl, rfl, .inl ⟨rfl, rowsT_toC _⟩⟩, ⟨rfl, rfl, rfl, .inl ⟨rfl, rowsT_mvB x⟩⟩, trivial⟩, ⟨⟨rfl, rfl, rfl⟩, rfl, ⟨rfl, rfl, rfl⟩, rfl, rfl, ent_view (k := termsB (termsE e x.src 0 (i + 1))) rfl rfl (by intro h; cases h) rfl rfl (by rw [List.length_map]), rfl, rfl, rfl, rfl, rfl, trivial⟩⟩, ?_⟩
        have ad := a_addG (H := hpM e x M 0) (e := e) (L := M) (r := 1) (o := 2) rfl rfl rfl rfl rfl rfl (by decide) (by decide) (by decide) (by omega) (termsE e x.src 0 (i + 1)) K ((0 : Int) : Rat) ⟨0, i, ((0 : Nat) : Int), -1⟩
        rw [show M ++ [((⟨termsE e x.src 0 (i + 1), K, ((0 : Int) : Rat)⟩ : RowP), (⟨0, i, ((0 : Nat) : Int), -1⟩ : OrP))] = L ++ stocksP e i x (0 + 1) from hst.symm] at ad
        conv => whnf
        (repeat' (first | ((refine DecB.mk (fun h => ?_) (fun h => ?_)) <;> first | (exfalso; omega) | (conv => whnf)) | ((refine BoolB.mk (fun h => ?_) (fun h => ?_)) <;> first | (exact absurd h (by decide)) | (conv => whnf)) | ((first | refine zzW ?_ | refine zzI ?_ | refine zzR ?_ | refine zzB ?_ | refine late_ok rfl rfl ?_ | refine src_ok rfl ?_ | refine .inl ⟨_, _, qcall_pure (i0) rfl rfl, ?_⟩ | refine .inr ⟨_, _, ad, ?_⟩ | refine LitB.data ?_ | refine BoxB.own ?_); conv => whnf)))
        all_goals try (exfalso; omega)
        exact ⟨hlt, trivial, [some 0, some 1, some 2, some 3, some 4, some 5], rfl, rfl, ⟨⟨rfl, rfl, rfl, .inr ⟨⟨rfl, rfl, rfl, rfl, rfl, rfl, rfl, rfl, ⟨rfl, rfl, rfl, fun h => h⟩, ⟨rfl, rfl, rfl, fun h => h⟩, trivial⟩, trivial⟩⟩, deadB_ent, deadB_ent, ⟨rfl, rfl, rfl, .inl ⟨rfl, rowsT_mvB x⟩⟩, ⟨rfl, rfl, rfl, .inl ⟨rfl, rowsT_toC _⟩⟩, ⟨rfl, rfl, rfl, .inl ⟨rfl, rowsT_toC _⟩⟩, trivial⟩, ⟨⟨rfl, rfl, rfl⟩, rfl, ⟨rfl, rfl, rfl⟩, rfl, rfl, rfl, trivial⟩⟩
      | succ m' =>
        conv => whnf
        (repeat' (first | ((refine DecB.mk (fun h => ?_) (fun h => ?_)) <;> first | (exfalso; omega) | (conv => whnf)) | ((refine BoolB.mk (fun h => ?_) (fun h => ?_)) <;> first | (exact absurd h (by decide)) | (conv => whnf)) | ((first | refine zzW ?_ | refine zzI ?_ | refine zzR ?_ | refine zzB ?_ | refine late_ok rfl rfl ?_ | refine src_ok rfl ?_ | refine sl_ok (by omega) (by omega) (by omega) ?_ | refine LitB.data ?_ | refine BoxB.own ?_); conv => whnf)))
        all_goals try (exfalso; omega)
        refine awp_weak ?_
        refine awp_for tab_ok (fun k => ([S.c (C.ptr 0 0 0), intS .i64 i, J, J, S.c (C.ptr 3 0 0), intS .i64 K, intS .i64 (((m' + 1) : Nat) : Int), S.c (C.own 6 0 (termsE e x.src (m' + 1) k).length true), J, J, J, J, J, J, J, J, J, J, J, J, J, J, J, J, J, intS .i64 e.mats, intS .i64 (((m' + 1) : Nat) : Int), J, J, J, J, J, J, J, J, J, S.c (C.t (movesT (e.moves.take (i + 1)))), intS .i64 ((i + 1 : Nat) : Int), intS .i64 k, J, J, J, J, J, J, J, J, J, J, J, J, J, J, J, J, J, J, J, J, J, J, J, J, J, J, J, J, J, J, J, J, J, J, J, J, J, J], hpM e x M (m' + 1) ++ [termsB (termsE e x.src (m' + 1) k)])) (i + 1) (fun _ => True) [some 0, some 1, some 2, some 3, some 4, some 5, none] trivial
          ⟨rfl, rfl, ⟨⟨rfl, rfl, rfl, .inr ⟨⟨rfl, rfl, rfl, rfl, rfl, rfl, rfl, rfl, ⟨rfl, rfl, rfl, fun h => h⟩, ⟨rfl, rfl, rfl, fun h => h⟩, trivial⟩, trivial⟩⟩, deadB_ent, deadB_ent, ⟨rfl, rfl, rfl, .inl ⟨rfl, rowsT_mvB x⟩⟩, ⟨rfl, rfl, rfl, .inl ⟨rfl, rowsT_toC _⟩⟩, ⟨rfl, rfl, rfl, .inl ⟨rfl, rowsT_toC _⟩⟩, ⟨rfl, rfl⟩, trivial⟩, ⟨⟨rfl, rfl, rfl⟩, rfl, ⟨rfl, rfl, rfl⟩, rfl, rfl, ⟨rfl, rfl, rfl⟩, rfl, rfl, ent_t ?_, ent_i ?_, rfl, trivial⟩⟩ ?_
        · show T.sl 6 _ (((e.moves.map Move.row).take ((i : Int) + 1).toNat).drop 0) = _
          rw [hti, tk]; rfl
        · show ((((e.moves.map Move.row).take ((i : Int) + 1).toNat).drop 0).length : Int) = ((i + 1 : Nat) : Int)
          rw [hti, tk, List.drop_zero, mt]
        intro k hk _
        have kl := termsE_le (e := e) (p := x.src) (m := (m' + 1)) k
        by_cases hkt : k < i + 1
        · obtain ⟨y, hy⟩ : ∃ y, e.moves[k]? = some y := ⟨_, List.getElem?_eq_getElem (by omega)⟩
          have hyt : (e.moves.take (i + 1))[k]? = some y := by rw [List.getElem?_take, if_pos hkt]; exact hy
          have n0 : 0 ≤ (k : Int) * e.mats := Int.mul_nonneg (by omega) (by omega)
          have n1 : (k : Int) * e.mats ≤ 220 * 6 := Int.mul_le_mul (by omega) hm6 (by omega) (by decide)
          have lA : (termsE e x.src (m' + 1) k).length ≤ (termsB (termsE e x.src (m' + 1) k)).rows.length := by show _ ≤ (toC _).length; simp [toC]
          have lC : ((termsE e x.src (m' + 1) k).length + 1) * 73 ≤ 140737488355328 := by omega
          by_cases c1 : y.src = x.src
          · have et : termsE e x.src (m' + 1) (k + 1) = termsE e x.src (m' + 1) k ++ [(varE e k (m' + 1), ((-1 : Int) : Rat))] := by rw [termsE_succ hy, if_pos c1]
            conv => whnf
            have vq := fun (R : Hp) => q_var16 (H := hpM e x M (m' + 1) ++ R) (e := e) (L := M) (r := 4) (o := 5) rfl rfl rfl ⟨(by intro h; cases h), rfl, rfl, rfl⟩ ⟨(by intro h; cases h), rfl, rfl, rfl⟩ ⟨(by intro h; cases h), rfl, rfl, rfl⟩ k (m' + 1) n0 (by omega) (by omega)
            (repeat' (first | ((refine DecB.mk (fun h => ?_) (fun h => ?_)) <;> first | (exfalso; omega) | (conv => whnf)) | ((refine BoolB.mk (fun h => ?_) (fun h => ?_)) <;> first | (exact absurd h (by decide)) | (conv => whnf)) | ((first | refine zzW ?_ | refine zzI ?_ | refine zzR ?_ | refine zzB ?_ | refine late_ok rfl rfl ?_ | refine src_ok rfl ?_ | refine .inl ⟨_, _, qcall_pure (i1) rfl rfl, ?_⟩ | refine .inl ⟨_, _, qcall_pure (im) rfl rfl, ?_⟩ | refine ex_row hyt ?_ | refine .inl ⟨_, _, vq _, ?_⟩ | refine app_ok lA lC ?_ | refine LitB.data ?_ | refine BoxB.own ?_); conv => whnf)))
            all_goals try (exfalso; omega)
            refine ⟨hkt, trivial, [some 0, some 1, some 2, some 3, some 4, some 5, some 8], rfl, rfl, ⟨⟨rfl, rfl, rfl, .inr ⟨⟨rfl, rfl, rfl, rfl, rfl, rfl, rfl, rfl, ⟨rfl, rfl, rfl, fun h => h⟩, ⟨rfl, rfl, rfl, fun h => h⟩, trivial⟩, trivial⟩⟩, deadB_ent, deadB_ent, ⟨rfl, rfl, rfl, .inl ⟨rfl, rowsT_mvB x⟩⟩, ⟨rfl, rfl, rfl, .inl ⟨rfl, rowsT_toC _⟩⟩, ⟨rfl, rfl, rfl, .inl ⟨rfl, rowsT_toC _⟩⟩, entB_rows rfl rfl rfl ?_ rfl, trivial⟩, ⟨⟨rfl, rfl, rfl⟩, rfl, ⟨rfl, rfl, rfl⟩, rfl, rfl, ⟨rfl, rfl, ?_, fun h => h⟩, rfl, rfl, rfl, rfl, rfl, trivial⟩⟩
            · rw [et]; exact ext_termsE (w := (varE e k (m' + 1), ((-1 : Int) : Rat))) rfl
            · rw [et]; simp [toC]
          by_cases c2 : y.dst = x.src
          · have et : termsE e x.src (m' + 1) (k + 1) = termsE e x.src (m' + 1) k ++ [(varE e k (m' + 1), ((1 : Int) : Rat))] := by rw [termsE_succ hy, if_neg c1, if_pos c2]
            conv => whnf
            have vq := fun (R : Hp) => q_var16 (H := hpM e x M (m' + 1) ++ R) (e := e) (L := M) (r := 4) (o := 5) rfl rfl rfl ⟨(by intro h; cases h), rfl, rfl, rfl⟩ ⟨(by intro h; cases h), rfl, rfl, rfl⟩ ⟨(by intro h; cases h), rfl, rfl, rfl⟩ k (m' + 1) n0 (by omega) (by omega)
            (repeat' (first | ((refine DecB.mk (fun h => ?_) (fun h => ?_)) <;> first | (exfalso; omega) | (conv => whnf)) | ((refine BoolB.mk (fun h => ?_) (fun h => ?_)) <;> first | (exact absurd h (by decide)) | (conv => whnf)) | ((first | refine zzW ?_ | refine zzI ?_ | refine zzR ?_ | refine zzB ?_ | refine late_ok rfl rfl ?_ | refine src_ok rfl ?_ | refine .inl ⟨_, _, qcall_pure (i1) rfl rfl, ?_⟩ | refine .inl ⟨_, _, qcall_pure (im) rfl rfl, ?_⟩ | refine ex_row hyt ?_ | refine .inl ⟨_, _, vq _, ?_⟩ | refine app_ok lA lC ?_ | refine LitB.data ?_ | refine BoxB.own ?_); conv => whnf)))
            all_goals try (exfalso; omega)
            refine ⟨hkt, trivial, [some 0, some 1, some 2, some 3, some 4, some 5, some 8], rfl, rfl, ⟨⟨rfl, rfl, rfl, .inr ⟨⟨rfl, rfl, rfl, rfl, rfl, rfl, rfl, rfl, ⟨rfl, rfl, rfl, fun h => h⟩, ⟨rfl, rfl, rfl, fun h => h⟩, trivial⟩, trivial⟩⟩, deadB_ent, deadB_ent, ⟨rfl, rfl, rfl, .inl ⟨rfl, rowsT_mvB x⟩⟩, ⟨rfl, rfl, rfl, .inl ⟨rfl, rowsT_toC _⟩⟩, ⟨rfl, rfl, rfl, .inl ⟨rfl, rowsT_toC _⟩⟩, entB_rows rfl rfl rfl ?_ rfl, trivial⟩, ⟨⟨rfl, rfl, rfl⟩, rfl, ⟨rfl, rfl, rfl⟩, rfl, rfl, ⟨rfl, rfl, ?_, fun h => h⟩, rfl, rfl, rfl, rfl, rfl, trivial⟩⟩
            · rw [et]; exact ext_termsE (w := (varE e k (m' + 1), ((1 : Int) : Rat))) rfl
            · rw [et]; simp [toC]
          · have et : termsE e x.src (m' + 1) (k + 1) = termsE e x.src (m' + 1) k := by rw [termsE_succ hy, if_neg c1, if_neg c2]
            conv => whnf
            (repeat' (first | ((refine DecB.mk (fun h => ?_) (fun h => ?_)) <;> first | (exfalso; omega) | (conv => whnf)) | ((refine BoolB.mk (fun h => ?_) (fun h => ?_)) <;> first | (exact absurd h (by decide)) | (conv => whnf)) | ((first | refine zzW ?_ | refine zzI ?_ | refine zzR ?_ | refine zzB ?_ | refine late_ok rfl rfl ?_ | refine src_ok rfl ?_ | refine .inl ⟨_, _, qcall_pure (i1) rfl rfl, ?_⟩ | refine .inl ⟨_, _, qcall_pure (im) rfl rfl, ?_⟩ | refine ex_row hyt ?_ | refine app_ok lA lC ?_ | refine LitB.data ?_ | refine BoxB.own ?_); conv => whnf)))
            all_goals try (exfalso; omega)
            refine ⟨hkt, trivial, [some 0, some 1, some 2, some 3, some 4, some 5, some 6], rfl, rfl, ⟨⟨rfl, rfl, rfl, .inr ⟨⟨rfl, rfl, rfl, rfl, rfl, rfl, rfl, rfl, ⟨rfl, rfl, rfl, fun h => h⟩, ⟨rfl, rfl, rfl, fun h => h⟩, trivial⟩, trivial⟩⟩, deadB_ent, deadB_ent, ⟨rfl, rfl, rfl, .inl ⟨rfl, rowsT_mvB x⟩⟩, ⟨rfl, rfl, rfl, .inl ⟨rfl, rowsT_toC _⟩⟩, ⟨rfl, rfl, rfl, .inl ⟨rfl, rowsT_toC _⟩⟩, entB_rows rfl rfl rfl ?_ rfl, trivial⟩, ⟨⟨rfl, rfl, rfl⟩, rfl, ⟨rfl, rfl, rfl⟩, rfl, rfl, ⟨rfl, rfl, ?_, fun h => h⟩, rfl, rfl, rfl, rfl, rfl, trivial⟩⟩
            · rw [et]
            · rw [et]
        have hke : k = i + 1 := by omega
        subst hke
        conv => whnf
        (repeat' (first | ((refine DecB.mk (fun h => ?_) (fun h => ?_)) <;> first | (exfalso; omega) | (conv => whnf)) | ((refine BoolB.mk (fun h => ?_) (fun h => ?_)) <;> first | (exact absurd h (by decide)) | (conv => whnf)) | ((first | refine zzW ?_ | refine zzI ?_ | refine zzR ?_ | refine zzB ?_ | refine late_ok rfl rfl ?_ | refine src_ok rfl ?_ | refine LitB.data ?_ | refine BoxB.own ?_); conv => whnf)))
        all_goals try (exfalso; omega)
        refine .inr ⟨[some 0, some 1, some 2, some 3, some 4, some 5], [S.c (C.ptr 0 0 0), intS .i64 i, J, J, S.c (C.ptr 3 0 0), intS .i64 K, intS .i64 (((m' + 1) : Nat) : Int), S.c (C.t (termsT (termsE e x.src (m' + 1) (i + 1)))), J, J, J, J, J, J, J, J, J, J, J, J, J, J, J, J, J, intS .i64 e.mats, intS .i64 (((m' + 1) : Nat) : Int), J, J, J, J, J, J, J, J, J, S.c (C.t (movesT (e.moves.take (i + 1)))), intS .i64 ((i + 1 : Nat) : Int), intS .i64 ((i + 1 : Nat) : Int), J, J, J, J, J, J, J, J, J, J, J, J, J, J, J, J, J, J, J, J, J, J, J, J, J, J, J, J, J, J, J, J, J, J, J, J, J, J], hpM e x M (m' + 1), ⟨rfl, rfl, ⟨⟨rfl, rfl, rfl, .inr ⟨⟨rfl, rfl, rfl, rfl, rfl, rfl, rfl, rfl, ⟨rfl, rfl, rfl, fun h => h⟩, ⟨rfl, rfl, rfl, fun h => h⟩, trivial⟩, trivial⟩⟩, deadB_ent, deadB_ent, ⟨rfl, rfl, rfl, .inl ⟨rfl, rowsT_mvB x⟩⟩, ⟨rfl, rfl, rfl, .inl ⟨rfl, rowsT_toC _⟩⟩, ⟨rfl, rfl, rfl, .inl ⟨rfl, rowsT_toC _⟩⟩, trivial⟩, ⟨⟨rfl, rfl, rfl⟩, rfl, ⟨rfl, rfl, rfl⟩, rfl, rfl, ent_view (k := termsB (termsE e x.src (m' + 1) (i + 1))) rfl rfl (by intro h; cases h) rfl rfl (by rw [List.length_map]), rfl, rfl, rfl, rfl, rfl, trivial⟩⟩, ?_⟩
        have ad := a_addG (H := hpM e x M (m' + 1)) (e := e) (L := M) (r := 4) (o := 5) rfl rfl rfl rfl rfl rfl (by decide) (by decide) (by decide) (by omega) (termsE e x.src (m' + 1) (i + 1)) K ((0 : Int) : Rat) ⟨0, i, (((m' + 1) : Nat) : Int), -1⟩
        rw [show M ++ [((⟨termsE e x.src (m' + 1) (i + 1), K, ((0 : Int) : Rat)⟩ : RowP), (⟨0, i, (((m' + 1) : Nat) : Int), -1⟩ : OrP))] = L ++ stocksP e i x ((m' + 1) + 1) from hst.symm] at ad
        conv => whnf
        (repeat' (first | ((refine DecB.mk (fun h => ?_) (fun h => ?_)) <;> first | (exfalso; omega) | (conv => whnf)) | ((refine BoolB.mk (fun h => ?_) (fun h => ?_)) <;> first | (exact absurd h (by decide)) | (conv => whnf)) | ((first | refine zzW ?_ | refine zzI ?_ | refine zzR ?_ | refine zzB ?_ | refine late_ok rfl rfl ?_ | refine src_ok rfl ?_ | refine .inl ⟨_, _, qcall_pure (i0) rfl rfl, ?_⟩ | refine .inr ⟨_, _, ad, ?_⟩ | refine LitB.data ?_ | refine BoxB.own ?_); conv => whnf)))
        all_goals try (exfalso; omega)
        exact ⟨hlt, trivial, [some 0, some 1, some 2, some 3, some 6, some 7], rfl, rfl, ⟨⟨rfl, rfl, rfl, .inr ⟨⟨rfl, rfl, rfl, rfl, rfl, rfl, rfl, rfl, ⟨rfl, rfl, rfl, fun h => h⟩, ⟨rfl, rfl, rfl, fun h => h⟩, trivial⟩, trivial⟩⟩, deadB_ent, deadB_ent, ⟨rfl, rfl, rfl, .inl ⟨rfl, rowsT_mvB x⟩⟩, ⟨rfl, rfl, rfl, .inl ⟨rfl, rowsT_toC _⟩⟩, ⟨rfl, rfl, rfl, .inl ⟨rfl, rowsT_toC _⟩⟩, trivial⟩, ⟨⟨rfl, rfl, rfl⟩, rfl, ⟨rfl, rfl, rfl⟩, rfl, rfl, rfl, trivial⟩⟩
    · obtain ⟨m', rfl⟩ : ∃ m', m = m' + 1 := ⟨m - 1, by omega⟩
      have hme : m' + 1 = e.mats.toNat := by omega
      show acode _ _ _ _ (_, _).1 (_, _).2 _
      conv => whnf
      (repeat' (first | ((refine DecB.mk (fun h => ?_) (fun h => ?_)) <;> first | (exfalso; omega) | (conv => whnf)) | ((refine BoolB.mk (fun h => ?_) (fun h => ?_)) <;> first | (exact absurd h (by decide)) | (conv => whnf)) | ((first | refine zzW ?_ | refine zzI ?_ | refine zzR ?_ | refine zzB ?_ | refine late_ok rfl rfl ?_ | refine src_ok rfl ?_ | refine LitB.data ?_ | refine BoxB.own ?_); conv => whnf)))
      all_goals try (exfalso; omega)
      rw [← hme]
      exact ⟨⟨[some 0, some 1, some 2, some 4, some 5], rfl, rfl, ⟨⟨rfl, rfl, rfl, .inr ⟨⟨rfl, rfl, rfl, rfl, rfl, rfl, rfl, rfl, ⟨rfl, rfl, rfl, fun h => h⟩, ⟨rfl, rfl, rfl, fun h => h⟩, trivial⟩, trivial⟩⟩, deadB_ent, deadB_ent, ⟨rfl, rfl, rfl, .inl ⟨rfl, rowsT_toC _⟩⟩, ⟨rfl, rfl, rfl, .inl ⟨rfl, rowsT_toC _⟩⟩, trivial⟩, trivial⟩⟩
end Go.Proofs.YtfieodjihaodiaaGreat
/- evidence: weight, purities of the maker. -/
namespace Go.Proofs.YtfieodjihaodiaaGreat
open Go.RowKit
set_option linter.unusedVariables false
set_option linter.unusedSimpArgs false
set_option maxRecDepth 100000

theorem mk_ent {ρ : List (Option Nat)} {H : Hp} {e : Ev} {r o r' o' n n' : Nat} (h1 : ρ[r']? = some (some r)) (h2 : ρ[o']? = some (some o)) (hn : n = n') : EntB ρ H (mkB e r o n) (mkB e r' o' n') :=
  ⟨rfl, rfl, rfl, .inr ⟨⟨rfl, rfl, rfl, rfl, rfl, rfl, rfl, rfl, ⟨h1, rfl, hn, fun h => h⟩, ⟨h2, rfl, hn, fun h => h⟩, trivial⟩, trivial⟩⟩
theorem rows_ent {ρ : List (Option Nat)} {H : Hp} {k : Blk} {rows : List (List T)} (h : k.rows = toC rows) : EntB ρ H k k := ⟨by unfold leMode; cases k.mode <;> simp, rfl, rfl, .inl ⟨rfl, h ▸ rowsT_toC rows⟩⟩
set_option maxHeartbeats 4000000 in
theorem a_weightN (e : Ev) (hs : e.Sized) {i : Nat} {x : Move} (hx : e.moves[i]? = some x) (L : List (RowP × OrP)) (hiv : ivOf e x = none) :
    ACall Tryz.prog 76 [.c (.ptr 0 0 0), intS .i64 i] (hp0 e L) (.tup []) (hp0 e L) := by
  have m0 : (e.moves.map Move.row).length = e.moves.length := by simp
  have iv := a_Interval e.certs e.recalls hs.s3 hs.s4 x.scale x.reading x.day
  have fin0 : ∀ R : Hp, Fin 3 (.tup []) (hp0 e L ++ R) (.tup []) (hp0 e L) := fun R => ⟨[some 0, some 1, some 2], rfl, rfl, ⟨mk_ent rfl rfl rfl, rows_ent rfl, rows_ent rfl, trivial⟩, trivial⟩
  by_cases hsc : x.scale = -1
  · (refine acall_of tab_ok Tryz.func76 rfl (by decide) ?_; (conv => whnf); repeat (first | (refine LitB.data ?_; conv => whnf) | (refine BoxB.data ?_; conv => whnf)))
    (repeat' (first | ((refine DecB.mk (fun h => ?_) (fun h => ?_)) <;> first | (exfalso; omega) | (conv => whnf)) | ((refine BoolB.mk (fun h => ?_) (fun h => ?_)) <;> first | (exact absurd h (by decide)) | (conv => whnf)) | ((first | refine zzW ?_ | refine zzI ?_ | refine zzR ?_ | refine zzB ?_ | refine late_ok rfl rfl ?_ | refine src_ok rfl ?_ | refine ex_row hx ?_ | refine LitB.data ?_ | refine BoxB.own ?_); conv => whnf)))
    all_goals first
      | (exfalso; omega)
      | exact fin0 [_]
  · have hiv2 : interval e.certs e.recalls x.scale x.reading x.day = none := by unfold ivOf at hiv; rwa [if_neg hsc] at hiv
    rw [hiv2] at iv
    (refine acall_of tab_ok Tryz.func76 rfl (by decide) ?_; (conv => whnf); repeat (first | (refine LitB.data ?_; conv => whnf) | (refine BoxB.data ?_; conv => whnf)))
    (repeat' (first | ((refine DecB.mk (fun h => ?_) (fun h => ?_)) <;> first | (exfalso; omega) | (conv => whnf)) | ((refine BoolB.mk (fun h => ?_) (fun h => ?_)) <;> first | (exact absurd h (by decide)) | (conv => whnf)) | ((first | refine zzW ?_ | refine zzI ?_ | refine zzR ?_ | refine zzB ?_ | refine late_ok rfl rfl ?_ | refine src_ok rfl ?_ | refine .inl ⟨_, _, qcall_pure (iv) rfl rfl, ?_⟩ | refine .inl ⟨_, _, qcall_pure (19, 20) rfl rfl, ?_⟩ | refine .inl ⟨_, _, qcall_pure (20) rfl rfl, ?_⟩ | refine ex_row hx ?_ | refine bar_late [19, 20] (by decide +kernel) (by decide +kernel) ?_ | refine bar_late [20] (by decide +kernel) (by decide +kernel) ?_ | refine LitB.data ?_ | refine BoxB.own ?_); conv => whnf)))
    all_goals first
      | (exfalso; omega)
      | exact fin0 [_, _, _]
set_option maxHeartbeats 4000000 in
theorem a_weightS (e : Ev) (hs : e.Sized) (hm0 : 0 ≤ e.mats) (hm6 : e.mats ≤ 6) {i : Nat} {x : Move} (hx : e.moves[i]? = some x) (hi2 : i ≤ 1000) (L : List (RowP × OrP)) (hL : L.length ≤ 100000) {lo hi : Rat} (hiv : ivOf e x = some (lo, hi)) :
    ACall Tryz.prog 76 [.c (.ptr 0 0 0), intS .i64 i] (hp0 e L) (.tup []) (hp1 e (L ++ weightP e i x)) := by
  have m0 : (e.moves.map Move.row).length = e.moves.length := by simp
  have iv := a_Interval e.certs e.recalls hs.s3 hs.s4 x.scale x.reading x.day
  have hsc : x.scale ≠ -1 := fun h => by unfold ivOf at hiv; rw [if_pos h] at hiv; cases hiv
  have hiv2 : interval e.certs e.recalls x.scale x.reading x.day = some (lo, hi) := by unfold ivOf at hiv; rwa [if_neg hsc] at hiv
  rw [hiv2] at iv
  obtain ⟨L1, hL1⟩ : ∃ L1 : List (RowP × OrP), L1 = L ++ [((⟨sumA e i 1 (-1) 0, 0, lo⟩ : RowP), (⟨1, i, -1, -1⟩ : OrP))] := ⟨_, rfl⟩
  obtain ⟨L2, hL2⟩ : ∃ L2 : List (RowP × OrP), L2 = L1 ++ [((⟨sumA e i 1 (-1) 0, 1, hi⟩ : RowP), (⟨2, i, -1, -1⟩ : OrP))] := ⟨_, rfl⟩
  have hW : L ++ weightP e i x = L2 := by rw [hL2, hL1]; unfold weightP; rw [hiv]; simp
  have l1 : L1.length ≤ 100001 := by rw [hL1]; simp; omega
  rw [hW]
  have s1 := fun (R : Hp) => q_sum16 (H := hp0 e L ++ R) (e := e) (L := L) (r := 1) (o := 2) rfl rfl rfl ⟨(by intro h; cases h), rfl, rfl, rfl⟩ ⟨(by intro h; cases h), rfl, rfl, rfl⟩ ⟨(by intro h; cases h), rfl, rfl, rfl⟩ hm0 hm6 i hi2 1 (-1) 0 (by decide) (by decide)
  have a1 := fun (R : Hp) => a_addG (H := hp0 e L ++ R) (e := e) (L := L) (r := 1) (o := 2) rfl rfl rfl rfl rfl rfl (by decide) (by decide) (by decide) (by omega) (sumA e i 1 (-1) 0) 0 lo ⟨1, i, -1, -1⟩
  rw [← hL1] at a1
  have s2 := fun (k1 k2 k3 k4 k5 k6 : Blk) => q_sum16 (H := [mkB e 7 8 L1.length, k1, k2, k3, k4, k5, k6, rB L1, oB L1]) (e := e) (L := L1) (r := 7) (o := 8) rfl rfl rfl ⟨(by intro h; cases h), rfl, rfl, rfl⟩ ⟨(by intro h; cases h), rfl, rfl, rfl⟩ ⟨(by intro h; cases h), rfl, rfl, rfl⟩ hm0 hm6 i hi2 1 (-1) 0 (by decide) (by decide)
  have a2 := fun (k1 k2 k3 k4 k5 k6 : Blk) => a_addG (H := [mkB e 7 8 L1.length, k1, k2, k3, k4, k5, k6, rB L1, oB L1]) (e := e) (L := L1) (r := 7) (o := 8) rfl rfl rfl rfl rfl rfl (by decide) (by decide) (by decide) (by omega) (sumA e i 1 (-1) 0) 1 hi ⟨2, i, -1, -1⟩
  rw [← hL2] at a2
  (refine acall_of tab_ok Tryz.func76 rfl (by decide) ?_; (conv => whnf); repeat (first | (refine LitB.data ?_; conv => whnf) | (refine BoxB.data ?_; conv => whnf)))
  (repeat' (first | ((refine DecB.mk (fun h => ?_) (fun h => ?_)) <;> first | (exfalso; omega) | (conv => whnf)) | ((refine BoolB.mk (fun h => ?_) (fun h => ?_)) <;> first | (exact absurd h (by decide)) | (conv => whnf)) | ((first | refine zzW ?_ | refine zzI ?_ | refine zzR ?_ | refine zzB ?_ | refine late_ok rfl rfl ?_ | refine src_ok rfl ?_ | refine .inl ⟨_, _, qcall_pure (iv) rfl rfl, ?_⟩ | refine .inl ⟨_, _, qcall_pure (19, 20) rfl rfl, ?_⟩ | refine .inl ⟨_, _, qcall_pure (20) rfl rfl, ?_⟩ | refine .inl ⟨_, _, qcall_pure (_, _, _, _) rfl rfl, ?_⟩ | refine .inl ⟨_, _, qcall_pure (_, _, _, _) rfl rfl, ?_⟩ | refine ex_row hx ?_ | refine bar_late [19, 20] (by decide +kernel) (by decide +kernel) ?_ | refine bar_late [20] (by decide +kernel) (by decide +kernel) ?_ | refine .inl ⟨_, _, s1 [_, _, _, _], ?_⟩ | refine .inr ⟨_, _, a1 [_, _, _, _], ?_⟩ | refine .inl ⟨_, _, s2 _ _ _ _ _ _, ?_⟩ | refine .inr ⟨_, _, a2 _ _ _ _ _ _, ?_⟩ | refine LitB.data ?_ | refine BoxB.own ?_); conv => whnf)))
  all_goals first
    | (exfalso; omega)
    | exact ⟨⟨[some 0, some 1, some 2, some 9, some 10], rfl, rfl, ⟨mk_ent rfl rfl rfl, deadB_ent, deadB_ent, rows_ent rfl, rows_ent rfl, trivial⟩, trivial⟩⟩
end Go.Proofs.YtfieodjihaodiaaGreat
/- evidence: purities of the maker. -/
namespace Go.Proofs.YtfieodjihaodiaaGreat
open Go.RowKit
set_option linter.unusedVariables false
set_option linter.unusedSimpArgs false
set_option maxRecDepth 100000

/-- nothing was added yet, or something -/
def hpP (e : Ev) (L : List (RowP × OrP)) : List (RowP × OrP) → Hp
  | [] => hp0 e L
  | l => hp1 e (L ++ l)
theorem hpP_add {e : Ev} {L l : List (RowP × OrP)} {a b : RowP × OrP} : hpP e L (l ++ [a, b]) = hp1 e (L ++ (l ++ [a, b])) := by
  cases l <;> rfl
theorem pur2_eq {e : Ev} {i k : Nat} {p : Purity} {l : List (RowP × OrP)} : l ++ pur2 e i k p = l ++ [((⟨sumA e i (-p.least) p.mat 1000, 0, ((0 : Int) : Rat)⟩ : RowP), (⟨3, i, -1, k⟩ : OrP)), ((⟨sumA e i p.most p.mat (-1000), 0, ((0 : Int) : Rat)⟩ : RowP), (⟨4, i, -1, k⟩ : OrP))] := rfl
set_option maxHeartbeats 4000000 in
theorem a_pur16 (e : Ev) (hm0 : 0 ≤ e.mats) (hm6 : e.mats ≤ 6) {i : Nat} (hi2 : i ≤ 1000) (hp : e.purities.length ≤ 1000) (hq : ∀ p ∈ e.purities, -1000 ≤ p.least ∧ p.least ≤ 1000 ∧ -1000 ≤ p.most ∧ p.most ≤ 1000) (L : List (RowP × OrP)) (hL : L.length ≤ 100000) :
    ACall Tryz.prog 77 [.c (.ptr 0 0 0), intS .i64 i] (hp0 e L) (.tup []) (hpP e L (purTo e i e.purities.length)) := by
  have m0 : (e.purities.map Purity.row).length = e.purities.length := by simp
  have i0 := z_fInt 0 (by decide) (by decide)
  (refine acall_of tab_ok Tryz.func77 rfl (by decide) ?_; (conv => whnf); repeat (first | (refine LitB.data ?_; conv => whnf) | (refine BoxB.data ?_; conv => whnf)))
  (repeat' (first | ((refine DecB.mk (fun h => ?_) (fun h => ?_)) <;> first | (exfalso; omega) | (conv => whnf)) | ((refine BoolB.mk (fun h => ?_) (fun h => ?_)) <;> first | (exact absurd h (by decide)) | (conv => whnf)) | ((first | refine zzW ?_ | refine zzI ?_ | refine zzR ?_ | refine zzB ?_ | refine late_ok rfl rfl ?_ | refine src_ok rfl ?_ | refine LitB.data ?_ | refine BoxB.own ?_); conv => whnf)))
  refine awp_for tab_ok (fun k => ([S.c (C.ptr 0 0 0), intS .i64 i, J, J, J, J, J, J, J, J, J, S.c (C.t (puritiesT e.purities)), intS .i64 e.purities.length, intS .i64 k, J, J, J, J, J, J, J, J, J, J, J, J, J, J, J, J, J, J, J, J, J, J, J, J, J, J, J, J, J, J, J, J, J, J, J, J], hpP e L (purTo e i k))) e.purities.length (fun _ => True) [some 0, some 1, some 2] trivial
    ⟨rfl, rfl, ⟨mk_ent rfl rfl rfl, rows_ent rfl, rows_ent rfl, trivial⟩, ⟨⟨rfl, rfl, rfl⟩, rfl, rfl, ent_i (by simp), rfl, trivial⟩⟩ ?_
  intro k hk _
  have pl := purTo_len (e := e) (i := i) k
  by_cases hlt : k < e.purities.length
  · obtain ⟨p, hpk⟩ : ∃ p, e.purities[k]? = some p := ⟨_, List.getElem?_eq_getElem hlt⟩
    obtain ⟨q1, q2, q3, q4⟩ := hq p (List.mem_of_getElem? hpk)
    by_cases hmv : p.move = (i : Int)
    · have hsu : purTo e i (k + 1) = purTo e i k ++ pur2 e i k p := by rw [purTo, hpk]; simp only; rw [if_pos hmv]
      show acode _ _ _ _ (_, hpP e L (purTo e i k)).1 (_, hpP e L (purTo e i k)).2 _
      rw [hsu, pur2_eq, hpP_add]
      obtain ⟨M, hM⟩ : ∃ M : List (RowP × OrP), M = L ++ purTo e i k := ⟨_, rfl⟩
      have ml : M.length ≤ 110000 := by rw [hM]; simp; omega
      obtain ⟨L1, hL1⟩ : ∃ L1 : List (RowP × OrP), L1 = M ++ [((⟨sumA e i (-p.least) p.mat 1000, 0, ((0 : Int) : Rat)⟩ : RowP), (⟨3, i, -1, k⟩ : OrP))] := ⟨_, rfl⟩
      obtain ⟨L2, hL2⟩ : ∃ L2 : List (RowP × OrP), L2 = L1 ++ [((⟨sumA e i p.most p.mat (-1000), 0, ((0 : Int) : Rat)⟩ : RowP), (⟨4, i, -1, k⟩ : OrP))] := ⟨_, rfl⟩
      have l1 : L1.length ≤ 110001 := by rw [hL1]; simp; omega
      have hE : L ++ (purTo e i k ++ [((⟨sumA e i (-p.least) p.mat 1000, 0, ((0 : Int) : Rat)⟩ : RowP), (⟨3, i, -1, k⟩ : OrP)), ((⟨sumA e i p.most p.mat (-1000), 0, ((0 : Int) : Rat)⟩ : RowP), (⟨4, i, -1, k⟩ : OrP))]) = L2 := by rw [hL2, hL1, hM]; simp
      rw [hE]
      cases hl : purTo e i k with
      | nil =>
        have hML : M = L := by rw [hM, hl, List.append_nil]
        subst hML
        have s1 := fun (R : Hp) => q_sum16 (H := hp0 e M ++ R) (e := e) (L := M) (r := 1) (o := 2) rfl rfl rfl ⟨(by intro h; cases h), rfl, rfl, rfl⟩ ⟨(by intro h; cases h), rfl, rfl, rfl⟩ ⟨(by intro h; cases h), rfl, rfl, rfl⟩ hm0 hm6 i hi2 (0 - p.least) p.mat 1000 (by omega) (by decide)
        rw [show sumA e i (0 - p.least) p.mat 1000 = sumA e i (-p.least) p.mat 1000 by rw [Int.zero_sub]] at s1
        have a1 := fun (R : Hp) => a_addG (H := hp0 e M ++ R) (e := e) (L := M) (r := 1) (o := 2) rfl rfl rfl rfl rfl rfl (by decide) (by decide) (by decide) (by omega) (sumA e i (-p.least) p.mat 1000) 0 ((0 : Int) : Rat) ⟨3, i, -1, k⟩
        rw [← hL1] at a1
        have s2 := fun (k1 k2 k3 k4 : Blk) => q_sum16 (H := [mkB e 5 6 L1.length, k1, k2, k3, k4, rB L1, oB L1]) (e := e) (L := L1) (r := 5) (o := 6) rfl rfl rfl ⟨(by intro h; cases h), rfl, rfl, rfl⟩ ⟨(by intro h; cases h), rfl, rfl, rfl⟩ ⟨(by intro h; cases h), rfl, rfl, rfl⟩ hm0 hm6 i hi2 p.most p.mat (-1000) (by omega) (by decide)
        have a2 := fun (k1 k2 k3 k4 : Blk) => a_addG (H := [mkB e 5 6 L1.length, k1, k2, k3, k4, rB L1, oB L1]) (e := e) (L := L1) (r := 5) (o := 6) rfl rfl rfl rfl rfl rfl (by decide) (by decide) (by decide) (by omega) (sumA e i p.most p.mat (-1000)) 0 ((0 : Int) : Rat) ⟨4, i, -1, k⟩
        rw [← hL2] at a2
        conv => whnf
        (repeat' (first | ((refine DecB.mk (fun h => ?_) (fun h => ?_)) <;> first | (exfalso; omega) | (conv => whnf)) | ((refine BoolB.mk (fun h => ?_) (fun h => ?_)) <;> first | (exact absurd h (by decide)) | (conv => whnf)) | ((first | refine zzW ?_ | refine zzI ?_ | refine zzR ?_ | refine zzB ?_ | refine late_ok rfl rfl ?_ | refine src_ok rfl ?_ | refine .inl ⟨_, _, qcall_pure (i0) rfl rfl, ?_⟩ | refine .inl ⟨_, _, qcall_pure (_, _) rfl rfl, ?_⟩ | refine .inl ⟨_, _, qcall_pure (_, _) rfl rfl, ?_⟩ | refine ex_row hpk ?_ | refine .inl ⟨_, _, s1 [_, _], ?_⟩ | refine .inr ⟨_, _, a1 [_, _], ?_⟩ | refine .inl ⟨_, _, s2 _ _ _ _, ?_⟩ | refine .inr ⟨_, _, a2 _ _ _ _, ?_⟩ | refine LitB.data ?_ | refine BoxB.own ?_); conv => whnf)))
        all_goals first
          | (exfalso; omega)
          | exact ⟨hlt, trivial, [some 0, some 1, some 2, some 7, some 8], rfl, rfl, ⟨mk_ent rfl rfl rfl, deadB_ent, deadB_ent, rows_ent rfl, rows_ent rfl, trivial⟩, ⟨⟨rfl, rfl, rfl⟩, rfl, rfl, rfl, rfl, trivial⟩⟩
      | cons w rr =>
        have hml : L ++ w :: rr = M := by rw [hM, hl]
        show acode _ _ _ _ (_, hp1 e (L ++ w :: rr)).1 (_, hp1 e (L ++ w :: rr)).2 _
        rw [hml]
        have s1 := fun (R : Hp) => q_sum16 (H := hp1 e M ++ R) (e := e) (L := M) (r := 3) (o := 4) rfl rfl rfl ⟨(by intro h; cases h), rfl, rfl, rfl⟩ ⟨(by intro h; cases h), rfl, rfl, rfl⟩ ⟨(by intro h; cases h), rfl, rfl, rfl⟩ hm0 hm6 i hi2 (0 - p.least) p.mat 1000 (by omega) (by decide)
        rw [show sumA e i (0 - p.least) p.mat 1000 = sumA e i (-p.least) p.mat 1000 by rw [Int.zero_sub]] at s1
        have a1 := fun (R : Hp) => a_addG (H := hp1 e M ++ R) (e := e) (L := M) (r := 3) (o := 4) rfl rfl rfl rfl rfl rfl (by decide) (by decide) (by decide) (by omega) (sumA e i (-p.least) p.mat 1000) 0 ((0 : Int) : Rat) ⟨3, i, -1, k⟩
        rw [← hL1] at a1
        have s2 := fun (k1 k2 k3 k4 k5 k6 : Blk) => q_sum16 (H := [mkB e 7 8 L1.length, k1, k2, k3, k4, k5, k6, rB L1, oB L1]) (e := e) (L := L1) (r := 7) (o := 8) rfl rfl rfl ⟨(by intro h; cases h), rfl, rfl, rfl⟩ ⟨(by intro h; cases h), rfl, rfl, rfl⟩ ⟨(by intro h; cases h), rfl, rfl, rfl⟩ hm0 hm6 i hi2 p.most p.mat (-1000) (by omega) (by decide)
        have a2 := fun (k1 k2 k3 k4 k5 k6 : Blk) => a_addG (H := [mkB e 7 8 L1.length, k1, k2, k3, k4, k5, k6, rB L1, oB L1]) (e := e) (L := L1) (r := 7) (o := 8) rfl rfl rfl rfl rfl rfl (by decide) (by decide) (by decide) (by omega) (sumA e i p.most p.mat (-1000)) 0 ((0 : Int) : Rat) ⟨4, i, -1, k⟩
        rw [← hL2] at a2
        conv => whnf
        (repeat' (first | ((refine DecB.mk (fun h => ?_) (fun h => ?_)) <;> first | (exfalso; omega) | (conv => whnf)) | ((refine BoolB.mk (fun h => ?_) (fun h => ?_)) <;> first | (exact absurd h (by decide)) | (conv => whnf)) | ((first | refine zzW ?_ | refine zzI ?_ | refine zzR ?_ | refine zzB ?_ | refine late_ok rfl rfl ?_ | refine src_ok rfl ?_ | refine .inl ⟨_, _, qcall_pure (i0) rfl rfl, ?_⟩ | refine .inl ⟨_, _, qcall_pure (_, _) rfl rfl, ?_⟩ | refine .inl ⟨_, _, qcall_pure (_, _) rfl rfl, ?_⟩ | refine ex_row hpk ?_ | refine .inl ⟨_, _, s1 [_, _], ?_⟩ | refine .inr ⟨_, _, a1 [_, _], ?_⟩ | refine .inl ⟨_, _, s2 _ _ _ _ _ _, ?_⟩ | refine .inr ⟨_, _, a2 _ _ _ _ _ _, ?_⟩ | refine LitB.data ?_ | refine BoxB.own ?_); conv => whnf)))
        all_goals first
          | (exfalso; omega)
          | exact ⟨hlt, trivial, [some 0, some 1, some 2, some 9, some 10], rfl, rfl, ⟨mk_ent rfl rfl rfl, deadB_ent, deadB_ent, rows_ent rfl, rows_ent rfl, trivial⟩, ⟨⟨rfl, rfl, rfl⟩, rfl, rfl, rfl, rfl, trivial⟩⟩
    · have hsu : purTo e i (k + 1) = purTo e i k := by rw [purTo, hpk]; simp only; rw [if_neg hmv]
      show acode _ _ _ _ (_, hpP e L (purTo e i k)).1 (_, hpP e L (purTo e i k)).2 _
      rw [hsu]
      cases hl : purTo e i k with
      | nil =>
        conv => whnf
        (repeat' (first | ((refine DecB.mk (fun h => ?_) (fun h => ?_)) <;> first | (exfalso; omega) | (conv => whnf)) | ((refine BoolB.mk (fun h => ?_) (fun h => ?_)) <;> first | (exact absurd h (by decide)) | (conv => whnf)) | ((first | refine zzW ?_ | refine zzI ?_ | refine zzR ?_ | refine zzB ?_ | refine late_ok rfl rfl ?_ | refine src_ok rfl ?_ | refine ex_row hpk ?_ | refine LitB.data ?_ | refine BoxB.own ?_); conv => whnf)))
        all_goals first
          | (exfalso; omega)
          | exact ⟨hlt, trivial, [some 0, some 1, some 2], rfl, rfl, ⟨mk_ent rfl rfl rfl, rows_ent rfl, rows_ent rfl, trivial⟩, ⟨⟨rfl, rfl, rfl⟩, rfl, rfl, rfl, rfl, trivial⟩⟩
      | cons w rr =>
        conv => whnf
        (repeat' (first | ((refine DecB.mk (fun h => ?_) (fun h => ?_)) <;> first | (exfalso; omega) | (conv => whnf)) | ((refine BoolB.mk (fun h => ?_) (fun h => ?_)) <;> first | (exact absurd h (by decide)) | (conv => whnf)) | ((first | refine zzW ?_ | refine zzI ?_ | refine zzR ?_ | refine zzB ?_ | refine late_ok rfl rfl ?_ | refine src_ok rfl ?_ | refine ex_row hpk ?_ | refine LitB.data ?_ | refine BoxB.own ?_); conv => whnf)))
        all_goals first
          | (exfalso; omega)
          | exact ⟨hlt, trivial, [some 0, some 1, some 2, some 3, some 4], rfl, rfl, ⟨mk_ent rfl rfl rfl, deadB_ent, deadB_ent, rows_ent rfl, rows_ent rfl, trivial⟩, ⟨⟨rfl, rfl, rfl⟩, rfl, rfl, rfl, rfl, trivial⟩⟩
  · have hke : k = e.purities.length := by omega
    subst hke
    show acode _ _ _ _ (_, hpP e L (purTo e i e.purities.length)).1 (_, hpP e L (purTo e i e.purities.length)).2 _
    cases hl : purTo e i e.purities.length with
    | nil =>
      conv => whnf
      (repeat' (first | ((refine DecB.mk (fun h => ?_) (fun h => ?_)) <;> first | (exfalso; omega) | (conv => whnf)) | ((refine BoolB.mk (fun h => ?_) (fun h => ?_)) <;> first | (exact absurd h (by decide)) | (conv => whnf)) | ((first | refine zzW ?_ | refine zzI ?_ | refine zzR ?_ | refine zzB ?_ | refine late_ok rfl rfl ?_ | refine src_ok rfl ?_ | refine LitB.data ?_ | refine BoxB.own ?_); conv => whnf)))
      all_goals first
        | (exfalso; omega)
        | exact ⟨⟨[some 0, some 1, some 2], rfl, rfl, ⟨mk_ent rfl rfl rfl, rows_ent rfl, rows_ent rfl, trivial⟩, trivial⟩⟩
    | cons w rr =>
      conv => whnf
      (repeat' (first | ((refine DecB.mk (fun h => ?_) (fun h => ?_)) <;> first | (exfalso; omega) | (conv => whnf)) | ((refine BoolB.mk (fun h => ?_) (fun h => ?_)) <;> first | (exact absurd h (by decide)) | (conv => whnf)) | ((first | refine zzW ?_ | refine zzI ?_ | refine zzR ?_ | refine zzB ?_ | refine late_ok rfl rfl ?_ | refine src_ok rfl ?_ | refine LitB.data ?_ | refine BoxB.own ?_); conv => whnf)))
      all_goals first
        | (exfalso; omega)
        | exact ⟨⟨[some 0, some 1, some 2, some 3, some 4], rfl, rfl, ⟨mk_ent rfl rfl rfl, deadB_ent, deadB_ent, rows_ent rfl, rows_ent rfl, trivial⟩, trivial⟩⟩
end Go.Proofs.YtfieodjihaodiaaGreat
/- evidence: made, System, Origin. -/
namespace Go.Proofs.YtfieodjihaodiaaGreat
open Go.RowKit
set_option linter.unusedVariables false
set_option linter.unusedSimpArgs false
set_option maxRecDepth 100000

/-- a call that adds, beside one more block -/
theorem a_frM {g : FuncId} {e : Ev} {L L' : List (RowP × OrP)} {n : Int} (T : Blk) (h : ACall Tryz.prog g [.c (.ptr 0 0 0), intS .i64 n] (hp0 e L) (.tup []) (hp1 e L')) :
    ACall Tryz.prog g [.c (.ptr 0 0 0), intS .i64 n] (hp0 e L ++ [T]) (.tup []) [mkB e 4 5 L'.length, deadR, deadO, T, rB L', oB L'] := by
  refine acall_frame [0, 1, 2] h rfl rfl rfl (by decide) ?_ ?_ (by simp) rfl rfl (by simp) ?_ ?_
  · intro i k hk
    match i, hk with
    | 0, hk => injection hk with hk; subst hk; exact ⟨rfl, rfl, by intro r hr; simp at hr; subst hr; rfl, _, rfl, ⟨rfl, rfl, rfl, rfl, rfl⟩⟩
    | 1, hk => injection hk with hk; subst hk; exact ⟨rfl, rfl, okRows_toC _, _, rfl, renB_data rfl⟩
    | 2, hk => injection hk with hk; subst hk; exact ⟨rfl, rfl, okRows_toC _, _, rfl, renB_data rfl⟩
  · intro k hk
    simp at hk
    rcases hk with rfl | rfl | rfl | rfl | rfl <;> (intro h; cases h)
  · intro i k hk
    match i, hk with
    | 0, hk => injection hk with hk; subst hk; exact ⟨_, rfl, ⟨rfl, rfl, rfl, rfl, rfl⟩⟩
    | 1, hk => injection hk with hk; subst hk; exact ⟨_, rfl, ⟨rfl, rfl, rfl, rfl, rfl⟩⟩
    | 2, hk => injection hk with hk; subst hk; exact ⟨_, rfl, ⟨rfl, rfl, rfl, rfl, rfl⟩⟩
    | 3, hk => injection hk with hk; subst hk; exact ⟨_, rfl, renB_data rfl⟩
    | 4, hk => injection hk with hk; subst hk; exact ⟨_, rfl, renB_data rfl⟩
  · intro j hj hjn
    simp at hjn hj
    have : j = 3 := by omega
    subst this; rfl
theorem hp0_ent {H : Hp} {e : Ev} {r o : Nat} {L : List (RowP × OrP)} (h1 : H[0]? = some (mkB e r o L.length)) (h2 : H[r]? = some (rB L)) (h3 : H[o]? = some (oB L)) : EntH [some 0, some r, some o] H [some 0, some r, some o] (hp0 e L) := by
  refine ⟨?_, ?_, ?_, trivial⟩
  · simp only [h1]; exact mk_ent rfl rfl rfl
  · simp only [h2]; exact rows_ent rfl
  · simp only [h3]; exact rows_ent rfl
structure EvSm (e : Ev) : Prop where
  sz : e.Sized
  m1 : 1 ≤ e.mats
  m6 : e.mats ≤ 6
  mv : e.moves.length ≤ 8
  pu : e.purities.length ≤ 20
  src : ∀ x ∈ e.moves, 0 ≤ x.src ∧ x.src < e.places.length
  pq : ∀ p ∈ e.purities, -1000 ≤ p.least ∧ p.least ≤ 1000 ∧ -1000 ≤ p.most ∧ p.most ≤ 1000
theorem evTo_small {e : Ev} (h : EvSm e) {k : Nat} (hk : k ≤ e.moves.length) : (evTo e k).length ≤ 400 := by
  have h1 := evTo_len h.m6 k
  have h2 : k * (8 + 2 * e.purities.length) ≤ 8 * 48 := Nat.mul_le_mul (by have := h.mv; omega) (by have := h.pu; omega)
  omega
theorem evTo_succ {e : Ev} {k : Nat} {x : Move} (h : e.moves[k]? = some x) : evTo e (k + 1) = evTo e k ++ moveP e k x := by rw [evTo, h]
set_option maxHeartbeats 4000000 in
theorem a_made16 (e : Ev) (hE : EvSm e) : ACall Tryz.prog 37 [evS e] [] (.c (.ptr 0 0 0)) (hp0 e (evRows e)) := by
  have m0 : (e.moves.map Move.row).length = e.moves.length := by simp
  have hm1 := hE.m1
  have hm6 := hE.m6
  have hmv := hE.mv
  have hpu := hE.pu
  (refine acall_of tab_ok Tryz.func37 rfl (by decide) ?_; conv => whnf)
  refine BoxB.data ?_
  conv => whnf
  (repeat' (first | ((refine DecB.mk (fun h => ?_) (fun h => ?_)) <;> first | (exfalso; omega) | (conv => whnf)) | ((refine BoolB.mk (fun h => ?_) (fun h => ?_)) <;> first | (exact absurd h (by decide)) | (conv => whnf)) | ((first | refine zzW ?_ | refine zzI ?_ | refine zzR ?_ | refine zzB ?_ | refine late_ok rfl rfl ?_ | refine src_ok rfl ?_ | refine LitB.data ?_ | refine BoxB.own ?_); conv => whnf)))
  refine awp_forW (fun k => ([J, S.c (C.t (T.ptr (evT e))), J, S.c (C.ptr 0 0 0), J, J, J, J, J, J, S.c (C.t (movesT e.moves)), intS .i64 e.moves.length, intS .i64 k, J, J, J, J, J, J, J, J, J, J, J, J, J, J, J, J, J, J, J, J, J, J, J], hp0 e (evTo e k))) e.moves.length (fun _ => True) [some 0, none, none] trivial
    ⟨rfl, rfl, ⟨⟨rfl, rfl, rfl, .inr ⟨⟨rfl, rfl, rfl, rfl, rfl, rfl, rfl, rfl, ⟨rfl, rfl, rfl⟩, ⟨rfl, rfl, rfl⟩, trivial⟩, trivial⟩⟩, ⟨rfl, rfl⟩, ⟨rfl, rfl⟩, trivial⟩, ⟨rfl, ⟨rfl, rfl, rfl⟩, rfl, ent_i (by simp), rfl, trivial⟩⟩ ?_
  intro k hk _
  refine awp_seq tab_ok ?_
  conv => whnf
  (repeat' (first | ((refine DecB.mk (fun h => ?_) (fun h => ?_)) <;> first | (exfalso; omega) | (conv => whnf)) | ((refine BoolB.mk (fun h => ?_) (fun h => ?_)) <;> first | (exact absurd h (by decide)) | (conv => whnf)) | ((first | refine zzW ?_ | refine zzI ?_ | refine zzR ?_ | refine zzB ?_ | refine late_ok rfl rfl ?_ | refine src_ok rfl ?_ | refine LitB.data ?_ | refine BoxB.own ?_); conv => whnf)))
  · obtain ⟨x, hx⟩ : ∃ x, e.moves[k]? = some x := ⟨_, List.getElem?_eq_getElem (by omega)⟩
    have hlt : k < e.moves.length := by omega
    have ms := hE.src x (List.mem_of_getElem? hx)
    obtain ⟨s, hsn⟩ : ∃ s : Nat, x.src = s := ⟨x.src.toNat, by omega⟩
    obtain ⟨pl, hpl⟩ : ∃ pl, e.places[s]? = some pl := ⟨_, List.getElem?_eq_getElem (by omega)⟩
    have hkd : kindAt e x.src = pl.kind := by rw [hsn]; exact kindAt_of hpl
    have l0 := evTo_small hE (k := k) (by omega)
    obtain ⟨M1, hM1⟩ : ∃ M1 : List (RowP × OrP), M1 = evTo e k ++ (if pl.kind = 0 then [] else stocksP e k x e.mats.toNat) := ⟨_, rfl⟩
    have l1 : M1.length ≤ 500 := by rw [hM1]; split <;> simp [stocksP] <;> omega
    obtain ⟨M2, hM2⟩ : ∃ M2 : List (RowP × OrP), M2 = M1 ++ weightP e k x := ⟨_, rfl⟩
    have l2 : M2.length ≤ 502 := by rw [hM2, List.length_append, weightP_len]; split <;> omega
    have hM3 : evTo e (k + 1) = M2 ++ purTo e k e.purities.length := by rw [evTo_succ hx, hM2, hM1]; unfold moveP; rw [hkd]; simp only [List.append_assoc]
    have st := a_frM (mvB x) (a_stock16 e hm1 hm6 (by omega) hx (evTo e k) (by omega))
    have pu := a_pur16 e (by omega) hm6 (i := k) (by omega) (by omega) hE.pq M2 (by omega)
    refine awp_seq tab_ok ?_
    conv => whnf
    refine awp_seqW (awp_blockW ?_)
    refine awp_seq tab_ok ?_
    conv => whnf
    (repeat' (first | ((refine DecB.mk (fun h => ?_) (fun h => ?_)) <;> first | (exfalso; omega) | (conv => whnf)) | ((refine BoolB.mk (fun h => ?_) (fun h => ?_)) <;> first | (exact absurd h (by decide)) | (conv => whnf)) | ((first | refine zzW ?_ | refine zzI ?_ | refine zzR ?_ | refine zzB ?_ | refine late_ok rfl rfl ?_ | refine src_ok rfl ?_ | refine ex_row hx ?_ | refine LitB.data ?_ | refine BoxB.own ?_); conv => whnf)))
    refine awp_cut tab_ok ([J, S.c (C.t (T.ptr (evT e))), J, S.c (C.ptr 0 0 0), intS .i64 k, J, J, J, J, J, S.c (C.t (movesT e.moves)), intS .i64 e.moves.length, intS .i64 k, J, J, J, J, J, J, J, J, J, J, J, J, J, J, J, J, J, J, J, J, J, J, J]) (hp0 e M1) ?_ ?_
    · by_cases hk0 : pl.kind = 0
      · have eM : M1 = evTo e k := by rw [hM1, if_pos hk0, List.append_nil]
        rw [eM]
        conv => whnf
        (repeat' (first | ((refine DecB.mk (fun h => ?_) (fun h => ?_)) <;> first | (exfalso; omega) | (conv => whnf)) | ((refine BoolB.mk (fun h => ?_) (fun h => ?_)) <;> first | (exact absurd h (by decide)) | (conv => whnf)) | ((first | refine zzW ?_ | refine zzI ?_ | refine zzR ?_ | refine zzB ?_ | refine late_ok rfl rfl ?_ | refine src_ok rfl ?_ | refine ex_rowE hsn hpl ?_ | refine LitB.data ?_ | refine BoxB.own ?_); conv => whnf)))
        all_goals first
          | (exfalso; omega)
          | exact ⟨[some 0, some 1, some 2], rfl, rfl, hp0_ent rfl rfl rfl, ⟨rfl, ⟨rfl, rfl, rfl⟩, rfl, rfl, rfl, rfl, trivial⟩⟩
      · have eM : M1 = evTo e k ++ stocksP e k x e.mats.toNat := by rw [hM1, if_neg hk0]
        rw [← eM] at st
        conv => whnf
        (repeat' (first | ((refine DecB.mk (fun h => ?_) (fun h => ?_)) <;> first | (exfalso; omega) | (conv => whnf)) | ((refine BoolB.mk (fun h => ?_) (fun h => ?_)) <;> first | (exact absurd h (by decide)) | (conv => whnf)) | ((first | refine zzW ?_ | refine zzI ?_ | refine zzR ?_ | refine zzB ?_ | refine late_ok rfl rfl ?_ | refine src_ok rfl ?_ | refine ex_rowE hsn hpl ?_ | refine .inr ⟨_, _, st, ?_⟩ | refine LitB.data ?_ | refine BoxB.own ?_); conv => whnf)))
        all_goals first
          | (exfalso; omega)
          | exact ⟨[some 0, some 4, some 5], rfl, rfl, hp0_ent rfl rfl rfl, ⟨rfl, ⟨rfl, rfl, rfl⟩, rfl, rfl, rfl, rfl, trivial⟩⟩
    refine awp_cut tab_ok ([J, S.c (C.t (T.ptr (evT e))), J, S.c (C.ptr 0 0 0), intS .i64 k, J, J, J, J, J, S.c (C.t (movesT e.moves)), intS .i64 e.moves.length, intS .i64 k, J, J, J, J, J, J, J, J, J, J, J, J, J, J, J, J, J, J, J, J, J, J, J]) (hp0 e M2) ?_ ?_
    · cases hiv : ivOf e x with
      | none =>
        have eM : M2 = M1 := by rw [hM2]; unfold weightP; rw [hiv]; simp
        have we := a_weightN e hE.sz hx M1 hiv
        rw [eM]
        conv => whnf
        (repeat' (first | ((refine DecB.mk (fun h => ?_) (fun h => ?_)) <;> first | (exfalso; omega) | (conv => whnf)) | ((refine BoolB.mk (fun h => ?_) (fun h => ?_)) <;> first | (exact absurd h (by decide)) | (conv => whnf)) | ((first | refine zzW ?_ | refine zzI ?_ | refine zzR ?_ | refine zzB ?_ | refine late_ok rfl rfl ?_ | refine src_ok rfl ?_ | refine .inr ⟨_, _, we, ?_⟩ | refine LitB.data ?_ | refine BoxB.own ?_); conv => whnf)))
        exact ⟨[some 0, some 1, some 2], rfl, rfl, hp0_ent rfl rfl rfl, ⟨rfl, ⟨rfl, rfl, rfl⟩, rfl, rfl, rfl, rfl, trivial⟩⟩
      | some pr =>
        obtain ⟨lo, hi⟩ := pr
        have we := a_weightS e hE.sz (by omega) hm6 hx (by omega) M1 (by omega) hiv
        rw [← hM2] at we
        conv => whnf
        (repeat' (first | ((refine DecB.mk (fun h => ?_) (fun h => ?_)) <;> first | (exfalso; omega) | (conv => whnf)) | ((refine BoolB.mk (fun h => ?_) (fun h => ?_)) <;> first | (exact absurd h (by decide)) | (conv => whnf)) | ((first | refine zzW ?_ | refine zzI ?_ | refine zzR ?_ | refine zzB ?_ | refine late_ok rfl rfl ?_ | refine src_ok rfl ?_ | refine .inr ⟨_, _, we, ?_⟩ | refine LitB.data ?_ | refine BoxB.own ?_); conv => whnf)))
        exact ⟨[some 0, some 3, some 4], rfl, rfl, hp0_ent rfl rfl rfl, ⟨rfl, ⟨rfl, rfl, rfl⟩, rfl, rfl, rfl, rfl, trivial⟩⟩
    refine acode_sound tab_ok _ ?_
    rw [hM3]
    cases hl : purTo e k e.purities.length with
    | nil =>
      rw [hl] at pu
      conv => whnf
      (repeat' (first | ((refine DecB.mk (fun h => ?_) (fun h => ?_)) <;> first | (exfalso; omega) | (conv => whnf)) | ((refine BoolB.mk (fun h => ?_) (fun h => ?_)) <;> first | (exact absurd h (by decide)) | (conv => whnf)) | ((first | refine zzW ?_ | refine zzI ?_ | refine zzR ?_ | refine zzB ?_ | refine late_ok rfl rfl ?_ | refine src_ok rfl ?_ | refine .inr ⟨_, _, pu, ?_⟩ | refine LitB.data ?_ | refine BoxB.own ?_); conv => whnf)))
      refine acode_sound tab_ok _ ?_
      conv => whnf
      (repeat' (first | ((refine DecB.mk (fun h => ?_) (fun h => ?_)) <;> first | (exfalso; omega) | (conv => whnf)) | ((refine BoolB.mk (fun h => ?_) (fun h => ?_)) <;> first | (exact absurd h (by decide)) | (conv => whnf)) | ((first | refine zzW ?_ | refine zzI ?_ | refine zzR ?_ | refine zzB ?_ | refine late_ok rfl rfl ?_ | refine src_ok rfl ?_ | refine LitB.data ?_ | refine BoxB.own ?_); conv => whnf)))
      all_goals first
        | (exfalso; omega)
        | skip
      rw [List.append_nil]
      exact ⟨hlt, trivial, [some 0, some 1, some 2], rfl, rfl, hp0_ent rfl rfl rfl, ⟨rfl, ⟨rfl, rfl, rfl⟩, rfl, rfl, rfl, trivial⟩⟩
    | cons w rr =>
      rw [hl] at pu
      conv => whnf
      (repeat' (first | ((refine DecB.mk (fun h => ?_) (fun h => ?_)) <;> first | (exfalso; omega) | (conv => whnf)) | ((refine BoolB.mk (fun h => ?_) (fun h => ?_)) <;> first | (exact absurd h (by decide)) | (conv => whnf)) | ((first | refine zzW ?_ | refine zzI ?_ | refine zzR ?_ | refine zzB ?_ | refine late_ok rfl rfl ?_ | refine src_ok rfl ?_ | refine .inr ⟨_, _, pu, ?_⟩ | refine LitB.data ?_ | refine BoxB.own ?_); conv => whnf)))
      refine acode_sound tab_ok _ ?_
      conv => whnf
      (repeat' (first | ((refine DecB.mk (fun h => ?_) (fun h => ?_)) <;> first | (exfalso; omega) | (conv => whnf)) | ((refine BoolB.mk (fun h => ?_) (fun h => ?_)) <;> first | (exact absurd h (by decide)) | (conv => whnf)) | ((first | refine zzW ?_ | refine zzI ?_ | refine zzR ?_ | refine zzB ?_ | refine late_ok rfl rfl ?_ | refine src_ok rfl ?_ | refine LitB.data ?_ | refine BoxB.own ?_); conv => whnf)))
      all_goals first
        | (exfalso; omega)
        | exact ⟨hlt, trivial, [some 0, some 3, some 4], rfl, rfl, hp0_ent rfl rfl rfl, ⟨rfl, ⟨rfl, rfl, rfl⟩, rfl, rfl, rfl, trivial⟩⟩
  · have hke : k = e.moves.length := by omega
    subst hke
    refine awp_seq tab_ok ?_
    conv => whnf
    (repeat' (first | ((refine DecB.mk (fun h => ?_) (fun h => ?_)) <;> first | (exfalso; omega) | (conv => whnf)) | ((refine BoolB.mk (fun h => ?_) (fun h => ?_)) <;> first | (exact absurd h (by decide)) | (conv => whnf)) | ((first | refine zzW ?_ | refine zzI ?_ | refine zzR ?_ | refine zzB ?_ | refine late_ok rfl rfl ?_ | refine src_ok rfl ?_ | refine LitB.data ?_ | refine BoxB.own ?_); conv => whnf)))
    refine ⟨⟨[some 0, some 1, some 2], rfl, rfl, hp0_ent rfl rfl rfl, ⟨rfl, rfl, rfl⟩⟩⟩
theorem a_madeF (e : Ev) (hE : EvSm e) (T : Blk) : ACall Tryz.prog 37 [evS e] [T] (.c (.ptr 1 0 0)) [T, mkB e 2 3 (evRows e).length, rB (evRows e), oB (evRows e)] := by
  refine acall_frame [] (a_made16 e hE) rfl rfl rfl (by decide) ?_ ?_ (by simp) rfl rfl (by simp) ?_ ?_
  · intro i k hk
    simp at hk
  · intro k hk
    simp at hk
    rcases hk with rfl | rfl | rfl <;> (intro h; cases h)
  · intro i k hk
    match i, hk with
    | 0, hk => injection hk with hk; subst hk; exact ⟨_, rfl, ⟨rfl, rfl, rfl, rfl, rfl⟩⟩
    | 1, hk => injection hk with hk; subst hk; exact ⟨_, rfl, renB_data rfl⟩
    | 2, hk => injection hk with hk; subst hk; exact ⟨_, rfl, renB_data rfl⟩
  · intro j hj _
    simp at hj
    subst hj; rfl
def evSysR (e : Ev) : SysP := if check e ≠ 0 then ⟨0, []⟩ else evSys e
theorem rows_fst (L : List (RowP × OrP)) : (L.map Prod.fst).map rowRow = L.map fun w => rowRow w.1 := by rw [List.map_map]; rfl
set_option maxHeartbeats 4000000 in
theorem a_ESystem (e : Ev) (hs : e.Sized) (hE : check e = 0 → EvSm e) : ACall Tryz.prog 14 [evS e] [] (.tup [sysS (evSysR e), intS .i64 (check e)]) [] := by
  have ck := a_Check e hs
  have m0 : (e.moves.map Move.row).length = e.moves.length := by simp
  by_cases h0 : check e ≠ 0
  · have e1 : evSysR e = ⟨0, []⟩ := by unfold evSysR; rw [if_pos h0]
    rw [e1]
    (refine acall_of tab_ok Tryz.func14 rfl (by decide) ?_; (conv => whnf); repeat (first | (refine LitB.data ?_; conv => whnf) | (refine BoxB.data ?_; conv => whnf)))
    (repeat' (first | ((refine DecB.mk (fun h => ?_) (fun h => ?_)) <;> first | (exfalso; omega) | (conv => whnf)) | ((refine BoolB.mk (fun h => ?_) (fun h => ?_)) <;> first | (exact absurd h (by decide)) | (conv => whnf)) | ((first | refine zzW ?_ | refine zzI ?_ | refine zzR ?_ | refine zzB ?_ | refine late_ok rfl rfl ?_ | refine src_ok rfl ?_ | refine .inl ⟨_, _, qcall_pure (ck) rfl rfl, ?_⟩ | refine LitB.data ?_ | refine BoxB.own ?_); conv => whnf)))
    all_goals first
      | (exfalso; omega)
      | exact fin_t ⟨⟨rfl, rfl, trivial⟩, rfl, trivial⟩
  · have h0 : check e = 0 := by omega
    have hE := hE h0
    have e1 : evSysR e = evSys e := by unfold evSysR; rw [if_neg (by omega)]
    rw [e1]
    rw [h0] at ck ⊢
    have h1 := hE.m1
    have h6 := hE.m6
    have hmv := hE.mv
    have n0 : 0 ≤ (e.moves.length : Int) * e.mats := Int.mul_nonneg (by omega) (by omega)
    have n1 : (e.moves.length : Int) * e.mats ≤ 8 * 6 := Int.mul_le_mul (by omega) h6 (by omega) (by decide)
    have mm : ((e.moves.map Move.row).length : Int) * e.mats = (e.moves.length : Int) * e.mats := by rw [m0]
    have md := a_madeF e hE
    (refine acall_of tab_ok Tryz.func14 rfl (by decide) ?_; (conv => whnf); repeat (first | (refine LitB.data ?_; conv => whnf) | (refine BoxB.data ?_; conv => whnf)))
    (repeat' (first | ((refine DecB.mk (fun h => ?_) (fun h => ?_)) <;> first | (exfalso; omega) | (conv => whnf)) | ((refine BoolB.mk (fun h => ?_) (fun h => ?_)) <;> first | (exact absurd h (by decide)) | (conv => whnf)) | ((first | refine zzW ?_ | refine zzI ?_ | refine zzR ?_ | refine zzB ?_ | refine late_ok rfl rfl ?_ | refine src_ok rfl ?_ | refine .inl ⟨_, _, qcall_pure (ck) rfl rfl, ?_⟩ | refine .inl ⟨_, _, qcall_pure (0, 1, 2, 3, 4, 5) rfl rfl, ?_⟩ | refine bar_late [0, 1, 2, 3, 4, 5] (by decide +kernel) (by decide +kernel) ?_ | refine .inr ⟨_, _, md _, ?_⟩ | refine LitB.data ?_ | refine BoxB.own ?_); conv => whnf)))
    all_goals first
      | (exfalso; omega)
      | skip
    refine fin_t ⟨⟨by rw [m0]; rfl, show VC _ (fun id => notIn [] id = true) _ _ from vc_all rfl rfl (by intro h; cases h) rfl (by show (rB (evRows e)).rows = toC ((List.map Prod.fst (evRows e)).map rowRow); rw [rows_fst]) (by simp [evSys]), trivial⟩, rfl, trivial⟩
theorem ex_ownO {L : List (RowP × OrP)} {n j : Nat} {w : RowP × OrP} {K : List C → Prop} (e : j = n) (hw : L[n]? = some w) (h : K ((orRow w.2).map C.t)) : ∃ row, (oB L).rows[j]? = some row ∧ K row := by
  subst e; exact ⟨_, by simp [toC, hw], h⟩
/-- the row that a column of the system came from -/
def orAt (e : Ev) (i : Int) : Option OrP := if check e ≠ 0 then none else if i < 0 then none else (evRows e)[i.toNat]?.map Prod.snd
def orZ : OrP := ⟨0, 0, 0, 0⟩
set_option maxHeartbeats 4000000 in
theorem a_EOrigin (e : Ev) (hs : e.Sized) (hE : check e = 0 → EvSm e) (i : Int) : ACall Tryz.prog 16 [evS e, intS .i64 i] [] (.tup [.agg ((orRow ((orAt e i).getD orZ)).map C.t), boolS (orAt e i).isSome]) [] := by
  have ck := a_Check e hs
  by_cases h0 : check e ≠ 0 ∨ i < 0
  · have e1 : orAt e i = none := by unfold orAt; split; rfl; rw [if_pos (by omega)]
    rw [e1]
    (refine acall_of tab_ok Tryz.func16 rfl (by decide) ?_; (conv => whnf); repeat (first | (refine LitB.data ?_; conv => whnf) | (refine BoxB.data ?_; conv => whnf)))
    (repeat' (first | ((refine DecB.mk (fun h => ?_) (fun h => ?_)) <;> first | (exfalso; omega) | (conv => whnf)) | ((refine BoolB.mk (fun h => ?_) (fun h => ?_)) <;> first | (exact absurd h (by decide)) | (conv => whnf)) | ((first | refine zzW ?_ | refine zzI ?_ | refine zzR ?_ | refine zzB ?_ | refine late_ok rfl rfl ?_ | refine src_ok rfl ?_ | refine .inl ⟨_, _, qcall_pure (ck) rfl rfl, ?_⟩ | refine LitB.data ?_ | refine BoxB.own ?_); conv => whnf)))
    all_goals first
      | (exfalso; omega)
      | exact fin_t ⟨⟨rfl, rfl, rfl, rfl, trivial⟩, rfl, trivial⟩
  · have h1 : check e = 0 := by omega
    have hE := hE h1
    obtain ⟨n, hn⟩ : ∃ n : Nat, i = n := ⟨i.toNat, by omega⟩
    subst hn
    rw [h1] at ck
    have e1 : orAt e n = (evRows e)[n]?.map Prod.snd := by unfold orAt; rw [if_neg (by omega), if_neg (by omega)]; rfl
    rw [e1]
    have md := a_madeF e hE
    have l0 := evTo_small hE (Nat.le_refl _)
    cases hw : (evRows e)[n]? with
    | none =>
      have hl : (evRows e).length ≤ n := List.getElem?_eq_none_iff.1 hw
      (refine acall_of tab_ok Tryz.func16 rfl (by decide) ?_; (conv => whnf); repeat (first | (refine LitB.data ?_; conv => whnf) | (refine BoxB.data ?_; conv => whnf)))
      (repeat' (first | ((refine DecB.mk (fun h => ?_) (fun h => ?_)) <;> first | (exfalso; omega) | (conv => whnf)) | ((refine BoolB.mk (fun h => ?_) (fun h => ?_)) <;> first | (exact absurd h (by decide)) | (conv => whnf)) | ((first | refine zzW ?_ | refine zzI ?_ | refine zzR ?_ | refine zzB ?_ | refine late_ok rfl rfl ?_ | refine src_ok rfl ?_ | refine .inl ⟨_, _, qcall_pure (ck) rfl rfl, ?_⟩ | refine .inr ⟨_, _, md _, ?_⟩ | refine LitB.data ?_ | refine BoxB.own ?_); conv => whnf)))
      all_goals first
        | (exfalso; omega)
        | exact fin_t ⟨⟨rfl, rfl, rfl, rfl, trivial⟩, rfl, trivial⟩
    | some w =>
      have hl := (List.getElem?_eq_some_iff.1 hw).1
      (refine acall_of tab_ok Tryz.func16 rfl (by decide) ?_; (conv => whnf); repeat (first | (refine LitB.data ?_; conv => whnf) | (refine BoxB.data ?_; conv => whnf)))
      (repeat' (first | ((refine DecB.mk (fun h => ?_) (fun h => ?_)) <;> first | (exfalso; omega) | (conv => whnf)) | ((refine BoolB.mk (fun h => ?_) (fun h => ?_)) <;> first | (exact absurd h (by decide)) | (conv => whnf)) | ((first | refine zzW ?_ | refine zzI ?_ | refine zzR ?_ | refine zzB ?_ | refine late_ok rfl rfl ?_ | refine src_ok rfl ?_ | refine .inl ⟨_, _, qcall_pure (ck) rfl rfl, ?_⟩ | refine .inr ⟨_, _, md _, ?_⟩ | refine ex_ownO (by omega) hw ?_ | refine LitB.data ?_ | refine BoxB.own ?_); conv => whnf)))
      all_goals first
        | (exfalso; omega)
        | exact fin_t ⟨⟨rfl, rfl, rfl, rfl, trivial⟩, rfl, trivial⟩
end Go.Proofs.YtfieodjihaodiaaGreat
/- evidence: Point; slices.Grow, slices.Concat, slices.ContainsFunc over lists of fractions. -/
namespace Go.Proofs.YtfieodjihaodiaaGreat
open Go.RowKit
set_option linter.unusedVariables false
set_option linter.unusedSimpArgs false
set_option maxRecDepth 100000

abbrev nilS : S := .c (.t (.sl 0 .nil []))
theorem a_Grow0 : ACall Tryz.prog 86 [nilS, intS .i64 0] [] nilS [] := by
  (refine acall_of tab_ok Tryz.func86 rfl (by decide) ?_; (conv => whnf); repeat (first | (refine LitB.data ?_; conv => whnf) | (refine BoxB.own ?_; conv => whnf)))
  (repeat' (first | ((refine DecB.mk (fun h => ?_) (fun h => ?_)) <;> first | (exfalso; omega) | (conv => whnf)) | ((refine BoolB.mk (fun h => ?_) (fun h => ?_)) <;> first | (exact absurd h (by decide)) | (conv => whnf)) | ((first | refine zzW ?_ | refine zzI ?_ | refine zzR ?_ | refine zzB ?_ | refine late_ok rfl rfl ?_ | refine src_ok rfl ?_ | refine ⟨0, wrap_eq (by simp) (by omega) (by omega), ?_⟩ | refine LitB.data ?_ | refine BoxB.own ?_); conv => whnf)))
  all_goals first
    | (exfalso; omega)
    | exact fin_t ⟨rfl, rfl, rfl⟩
    | exact fin_t (show VC [] (fun id => notIn [] id = true) (C.t (T.sl 0 .nil [])) (T.sl 0 .nil []) from vc_t (weak_refl _))
abbrev frKB (rows : List (List C)) : Blk := { mode := .live, elem := 63, size := 4, rows := rows, box := false }
abbrev zeroRow : List C := [.t (.atm (.int .i64 0)), .t (.sl 0 .nil []), .t (.atm (.int .i64 0)), .t (.sl 0 .nil [])]
theorem rowsT_zero (n : Nat) : rowsT (List.replicate n zeroRow) := by
  intro r hr c hc
  rw [(List.mem_replicate.1 hr).2] at hc
  simp only [zeroRow, List.mem_cons, List.not_mem_nil, or_false] at hc
  rcases hc with rfl | rfl | rfl | rfl <;> rfl
theorem mkz_ok {m : Int} {b : Nat} {K : Prop} (h1 : 1 ≤ m) (h2 : m.toNat * b ≤ 140737488355328) (k : K) : (1 ≤ m ∧ m.toNat * b ≤ 140737488355328) ∧ K := ⟨⟨h1, h2⟩, k⟩
theorem a_GrowN (n : Nat) (h : 1 ≤ n) (hn : n ≤ 100000) : ACall Tryz.prog 86 [nilS, intS .i64 n] [] (.c (.own 0 0 0 true)) [frKB (List.replicate n zeroRow)] := by
  (refine acall_of tab_ok Tryz.func86 rfl (by decide) ?_; (conv => whnf); repeat (first | (refine LitB.data ?_; conv => whnf) | (refine BoxB.own ?_; conv => whnf)))
  (repeat' (first | ((refine DecB.mk (fun h => ?_) (fun h => ?_)) <;> first | (exfalso; omega) | (conv => whnf)) | ((refine BoolB.mk (fun h => ?_) (fun h => ?_)) <;> first | (exact absurd h (by decide)) | (conv => whnf)) | ((first | refine zzW ?_ | refine zzI ?_ | refine zzR ?_ | refine zzB ?_ | refine late_ok rfl rfl ?_ | refine src_ok rfl ?_ | refine ⟨0, wrap_eq (by simp) (by omega) (by omega), ?_⟩ | refine ⟨(n : Int), wrap_eq (by simp) (by omega) (by omega), ?_⟩ | refine sl_ok (by omega) (by first | omega | simp) (by first | omega | simp) ?_ | refine mkz_ok (by omega) (by show ((n : Int) - 0).toNat * (64 + 1) ≤ 140737488355328; omega) ?_ | refine LitB.data ?_ | refine BoxB.own ?_); conv => whnf)))
  all_goals first
    | (exfalso; omega)
    | skip
  rw [show ((n : Int) - 0).toNat = n by omega]
  exact ⟨[some 0], rfl, rfl, ⟨⟨rfl, rfl, rfl, .inl ⟨rfl, rowsT_zero n⟩⟩, trivial⟩, ⟨rfl, rfl, rfl, fun h => h⟩⟩
theorem flat_succ {α : Type} {hh : List (List α)} {k : Nat} {l : List α} (h : hh[k]? = some l) : (hh.take (k + 1)).flatten = (hh.take k).flatten ++ l := by
  rw [List.take_add_one, h]; simp
theorem flat_le {α : Type} (hh : List (List α)) (k : Nat) : (hh.take k).flatten.length ≤ hh.flatten.length := by
  conv => rhs; rw [← List.take_append_drop k hh, List.flatten_append, List.length_append]
  omega
def zKB (hh : List (List Fr)) (n : Nat) : Nat → Blk
  | 0 => frKB (List.replicate n zeroRow)
  | k + 1 => frKB (toC ((hh.take (k + 1)).flatten.map frRow))
theorem flat_ext {hh : List (List Fr)} {k n : Nat} {l : List Fr} (h : hh[k]? = some l) (hn : n = (hh.take k).flatten.length) :
    List.take n (toC ((hh.take k).flatten.map frRow)) ++ toC (l.map frRow) = toC ((hh.take (k + 1)).flatten.map frRow) := by
  rw [flat_succ h, List.take_of_length_le (by simp only [toC, List.length_map]; omega)]
  simp [toC]
set_option maxHeartbeats 4000000 in
theorem a_ConcatF (hh : List (List Fr)) (h1 : hh.length ≤ 100000) (h2 : hh.flatten.length ≤ 100000) : ACall Tryz.prog 44 [histS hh] [] (fracsS hh.flatten) [] := by
  have m1 : (hh.map fracsRow).length = hh.length := by simp
  (refine acall_of tab_ok Tryz.func44 rfl (by decide) ?_; (conv => whnf); repeat (first | (refine LitB.data ?_; conv => whnf) | (refine BoxB.own ?_; conv => whnf)))
  (repeat' (first | ((refine DecB.mk (fun h => ?_) (fun h => ?_)) <;> first | (exfalso; omega) | (conv => whnf)) | ((refine BoolB.mk (fun h => ?_) (fun h => ?_)) <;> first | (exact absurd h (by decide)) | (conv => whnf)) | ((first | refine zzW ?_ | refine zzI ?_ | refine zzR ?_ | refine zzB ?_ | refine late_ok rfl rfl ?_ | refine src_ok rfl ?_ | refine LitB.data ?_ | refine BoxB.own ?_); conv => whnf)))
  refine awp_for tab_ok (fun k => ([histS hh, J, J, intS .i64 (hh.take k).flatten.length, J, J, J, J, J, histS hh, intS .i64 hh.length, intS .i64 k, J, J, J, J, J, J, J, J, J, J, J, J, J, J, J, J, J, J, J, J, J, J, J, J], [])) hh.length (fun _ => True) [] trivial
    ⟨rfl, rfl, trivial, ⟨rfl, rfl, rfl, ent_i (by simp), rfl, trivial⟩⟩ ?_
  intro k hk _
  by_cases hlt : k < hh.length
  · obtain ⟨l, hl⟩ : ∃ l, hh[k]? = some l := ⟨_, List.getElem?_eq_getElem hlt⟩
    have m3 : (l.map frRow).length = l.length := by simp
    have e1 := flat_succ hl
    have e2 := flat_le hh (k + 1)
    have e3 : (hh.take (k + 1)).flatten.length = (hh.take k).flatten.length + l.length := by rw [e1, List.length_append]
    conv => whnf
    (repeat' (first | ((refine DecB.mk (fun h => ?_) (fun h => ?_)) <;> first | (exfalso; omega) | (conv => whnf)) | ((refine BoolB.mk (fun h => ?_) (fun h => ?_)) <;> first | (exact absurd h (by decide)) | (conv => whnf)) | ((first | refine zzW ?_ | refine zzI ?_ | refine zzR ?_ | refine zzB ?_ | refine late_ok rfl rfl ?_ | refine src_ok rfl ?_ | refine .inl ⟨_, _, qcall_pure (e3, m3) rfl rfl, ?_⟩ | refine ex_row hl ?_ | refine ⟨(((hh.take (k + 1)).flatten.length : Nat) : Int), wrap_eq (by rw [e3, m3]; simp) (by omega) (by omega), ?_⟩ | refine LitB.data ?_ | refine BoxB.own ?_); conv => whnf)))
    all_goals first
      | (exfalso; omega)
      | exact ⟨hlt, trivial, [], rfl, rfl, trivial, ⟨rfl, ent_i (by rw [e3, m3]; simp), rfl, rfl, rfl, trivial⟩⟩
  · have hke : k = hh.length := by omega
    subst hke
    have et : (hh.take hh.length) = hh := List.take_of_length_le (Nat.le_refl _)
    rw [et]
    by_cases hz : hh.flatten.length = 0
    · have g0 := a_Grow0
      rw [hz]
      conv => whnf
      (repeat' (first | ((refine DecB.mk (fun h => ?_) (fun h => ?_)) <;> first | (exfalso; omega) | (conv => whnf)) | ((refine BoolB.mk (fun h => ?_) (fun h => ?_)) <;> first | (exact absurd h (by decide)) | (conv => whnf)) | ((first | refine zzW ?_ | refine zzI ?_ | refine zzR ?_ | refine zzB ?_ | refine late_ok rfl rfl ?_ | refine src_ok rfl ?_ | refine .inl ⟨_, _, qcall_pure (g0) rfl rfl, ?_⟩ | refine LitB.data ?_ | refine BoxB.own ?_); conv => whnf)))
      all_goals try (exfalso; omega)
      refine awp_for tab_ok (fun k => ([histS hh, J, J, J, J, J, S.c (C.own 0 0 (hh.take k).flatten.length true), J, J, J, J, J, J, J, J, J, J, J, J, J, J, J, J, J, J, histS hh, intS .i64 hh.length, intS .i64 k, J, J, J, J, J, J, J, J], [frKB (toC ((hh.take k).flatten.map frRow))])) hh.length (fun _ => True) [none] trivial
        ⟨rfl, rfl, ⟨⟨rfl, rfl⟩, trivial⟩, ⟨rfl, ⟨rfl, rfl, rfl⟩, rfl, ent_i (by simp), rfl, trivial⟩⟩ ?_
      intro k hk _
      by_cases hlt : k < hh.length
      · obtain ⟨l, hl⟩ : ∃ l, hh[k]? = some l := ⟨_, List.getElem?_eq_getElem hlt⟩
        have e1 := flat_succ hl
        have e2 := flat_le hh (k + 1)
        have e3 : (hh.take (k + 1)).flatten.length = (hh.take k).flatten.length + l.length := by rw [e1, List.length_append]
        conv => whnf
        (repeat' (first | ((refine DecB.mk (fun h => ?_) (fun h => ?_)) <;> first | (exfalso; omega) | (conv => whnf)) | ((refine BoolB.mk (fun h => ?_) (fun h => ?_)) <;> first | (exact absurd h (by decide)) | (conv => whnf)) | ((first | refine zzW ?_ | refine zzI ?_ | refine zzR ?_ | refine zzB ?_ | refine late_ok rfl rfl ?_ | refine src_ok rfl ?_ | refine .inl ⟨_, _, qcall_pure (toC, List.length_map) rfl rfl, ?_⟩ | refine .inl ⟨_, _, qcall_pure (toC, List.length_map) rfl rfl, ?_⟩ | refine ex_row hl ?_ | refine src_ok rfl ?_ | refine app_ok (by simp only [toC, List.length_map]; exact Nat.le_refl _) (by simp only [toC, List.length_map]; omega) ?_ | refine LitB.data ?_ | refine BoxB.own ?_); conv => whnf)))
        all_goals first
          | (exfalso; omega)
          | exact ⟨hlt, trivial, [some 1], rfl, rfl, ⟨entB_rows rfl rfl rfl (flat_ext hl rfl) rfl, trivial⟩, ⟨rfl, ent_own rfl (by simp only [toC, List.length_map]; omega), rfl, rfl, rfl, trivial⟩⟩
      · have hke : k = hh.length := by omega
        subst hke
        rw [et]
        conv => whnf
        (repeat' (first | ((refine DecB.mk (fun h => ?_) (fun h => ?_)) <;> first | (exfalso; omega) | (conv => whnf)) | ((refine BoolB.mk (fun h => ?_) (fun h => ?_)) <;> first | (exact absurd h (by decide)) | (conv => whnf)) | ((first | refine zzW ?_ | refine zzI ?_ | refine zzR ?_ | refine zzB ?_ | refine late_ok rfl rfl ?_ | refine src_ok rfl ?_ | refine LitB.data ?_ | refine BoxB.own ?_); conv => whnf)))
        all_goals first
          | (exfalso; omega)
          | exact fin_own rfl (by intro h; cases h) rfl rfl (by simp only [List.length_map])
    · have gn := a_GrowN hh.flatten.length (by omega) h2
      conv => whnf
      (repeat' (first | ((refine DecB.mk (fun h => ?_) (fun h => ?_)) <;> first | (exfalso; omega) | (conv => whnf)) | ((refine BoolB.mk (fun h => ?_) (fun h => ?_)) <;> first | (exact absurd h (by decide)) | (conv => whnf)) | ((first | refine zzW ?_ | refine zzI ?_ | refine zzR ?_ | refine zzB ?_ | refine late_ok rfl rfl ?_ | refine src_ok rfl ?_ | refine .inr ⟨_, _, gn, ?_⟩ | refine LitB.data ?_ | refine BoxB.own ?_); conv => whnf)))
      all_goals try (exfalso; omega)
      refine awp_for tab_ok (fun k => ([histS hh, J, J, J, J, J, S.c (C.own 0 0 (hh.take k).flatten.length true), J, J, J, J, J, J, J, J, J, J, J, J, J, J, J, J, J, J, histS hh, intS .i64 hh.length, intS .i64 k, J, J, J, J, J, J, J, J], [zKB hh hh.flatten.length k])) hh.length (fun _ => True) [some 0] trivial
        ⟨rfl, rfl, ⟨⟨rfl, rfl, rfl, .inl ⟨rfl, rowsT_zero _⟩⟩, trivial⟩, ⟨rfl, ent_own rfl (by simp), rfl, ent_i (by simp), rfl, trivial⟩⟩ ?_
      intro k hk _
      by_cases hlt : k < hh.length
      · obtain ⟨l, hl⟩ : ∃ l, hh[k]? = some l := ⟨_, List.getElem?_eq_getElem hlt⟩
        have e1 := flat_succ hl
        have e2 := flat_le hh (k + 1)
        have e3 : (hh.take (k + 1)).flatten.length = (hh.take k).flatten.length + l.length := by rw [e1, List.length_append]
        cases k with
        | zero =>
          conv => whnf
          (repeat' (first | ((refine DecB.mk (fun h => ?_) (fun h => ?_)) <;> first | (exfalso; omega) | (conv => whnf)) | ((refine BoolB.mk (fun h => ?_) (fun h => ?_)) <;> first | (exact absurd h (by decide)) | (conv => whnf)) | ((first | refine zzW ?_ | refine zzI ?_ | refine zzR ?_ | refine zzB ?_ | refine late_ok rfl rfl ?_ | refine src_ok rfl ?_ | refine .inl ⟨_, _, qcall_pure (toC, List.length_map) rfl rfl, ?_⟩ | refine ex_row hl ?_ | refine src_ok rfl ?_ | refine app_ok (Nat.zero_le _) (by simp only [toC, List.length_map]; omega) ?_ | refine LitB.data ?_ | refine BoxB.own ?_); conv => whnf)))
          all_goals first
            | (exfalso; omega)
            | exact ⟨hlt, trivial, [some 1], rfl, rfl, ⟨entB_rows rfl rfl rfl (by rw [flat_succ hl]; simp; rfl) rfl, trivial⟩, ⟨rfl, ent_own rfl (by simp only [toC, List.length_map]; omega), rfl, rfl, rfl, trivial⟩⟩
        | succ k =>
          conv => whnf
          (repeat' (first | ((refine DecB.mk (fun h => ?_) (fun h => ?_)) <;> first | (exfalso; omega) | (conv => whnf)) | ((refine BoolB.mk (fun h => ?_) (fun h => ?_)) <;> first | (exact absurd h (by decide)) | (conv => whnf)) | ((first | refine zzW ?_ | refine zzI ?_ | refine zzR ?_ | refine zzB ?_ | refine late_ok rfl rfl ?_ | refine src_ok rfl ?_ | refine .inl ⟨_, _, qcall_pure (zKB, toC, List.length_map) rfl rfl, ?_⟩ | refine .inl ⟨_, _, qcall_pure (zKB, toC, List.length_map) rfl rfl, ?_⟩ | refine ex_row hl ?_ | refine src_ok rfl ?_ | refine app_ok (by simp only [zKB, toC, List.length_map]; exact Nat.le_refl _) (by simp only [zKB, toC, List.length_map]; omega) ?_ | refine LitB.data ?_ | refine BoxB.own ?_); conv => whnf)))
          all_goals first
            | (exfalso; omega)
            | exact ⟨hlt, trivial, [some 1], rfl, rfl, ⟨entB_rows rfl rfl rfl (flat_ext hl rfl) rfl, trivial⟩, ⟨rfl, ent_own rfl (by simp only [zKB, toC, List.length_map]; omega), rfl, rfl, rfl, trivial⟩⟩
      · have hke : k = hh.length := by omega
        subst hke
        obtain ⟨m, hm⟩ : ∃ m, hh.length = m + 1 := ⟨hh.length - 1, by
          have : hh.length ≠ 0 := by intro h0; rw [List.length_eq_zero_iff.1 h0] at hz; exact hz rfl
          omega⟩
        have eB : zKB hh hh.flatten.length hh.length = frKB (toC (hh.flatten.map frRow)) := by rw [hm]; show frKB (toC ((hh.take (m + 1)).flatten.map frRow)) = _; rw [← hm, et]
        rw [eB, et]
        conv => whnf
        (repeat' (first | ((refine DecB.mk (fun h => ?_) (fun h => ?_)) <;> first | (exfalso; omega) | (conv => whnf)) | ((refine BoolB.mk (fun h => ?_) (fun h => ?_)) <;> first | (exact absurd h (by decide)) | (conv => whnf)) | ((first | refine zzW ?_ | refine zzI ?_ | refine zzR ?_ | refine zzB ?_ | refine late_ok rfl rfl ?_ | refine src_ok rfl ?_ | refine LitB.data ?_ | refine BoxB.own ?_); conv => whnf)))
        all_goals first
          | (exfalso; omega)
          | exact fin_own rfl (by intro h; cases h) rfl rfl (by simp only [List.length_map])
end Go.Proofs.YtfieodjihaodiaaGreat
/- evidence.Point. -/
namespace Go.Proofs.YtfieodjihaodiaaGreat
open Go.RowKit
set_option linter.unusedVariables false
set_option linter.unusedSimpArgs false
set_option maxRecDepth 100000

theorem a_IndexLs (rs : List (List Fr)) (hl : rs.length ≤ 1000000) (g : FuncId) (caps : List T) (q : List Fr → Bool) (hg : ∀ r ∈ rs, ACall Tryz.prog g (fracsS r :: caps.map fun x => .c (.t x)) [] (boolS (q r)) []) :
    ACall Tryz.prog 85 [.c (.t (histT rs)), .c (.t (.fn (.func g) caps))] [] (intS .i64 (indexI q rs 0)) [] := by
  have l1 : (rs.map fracsRow).length = rs.length := by simp
  (refine acall_of tab_ok Tryz.func85 rfl (by decide) ?_; (conv => whnf); repeat (first | (refine LitB.data ?_; conv => whnf) | (refine BoxB.own ?_; conv => whnf)))
  (repeat' (first | ((refine DecB.mk (fun h => ?_) (fun h => ?_)) <;> first | (exfalso; omega) | (conv => whnf)) | ((refine BoolB.mk (fun h => ?_) (fun h => ?_)) <;> first | (exact absurd h (by decide)) | (conv => whnf)) | ((first | refine zzW ?_ | refine zzI ?_ | refine zzR ?_ | refine zzB ?_ | refine late_ok rfl rfl ?_ | refine src_ok rfl ?_ | refine LitB.data ?_ | refine BoxB.own ?_); conv => whnf)))
  refine awp_for tab_ok (fun k => ([S.c (C.t (histT rs)), S.c (C.t (T.fn (.func g) caps)), J, J, J, J, J, intS .i64 rs.length, intS .i64 k, J, J, J, J, J, J, J, J, J, J], [])) rs.length (fun k => indexI q (rs.drop k) k = indexI q rs 0) [] rfl
    ⟨rfl, rfl, trivial, ⟨ent_t rfl, ent_t rfl, ent_i (by simp), rfl, trivial⟩⟩ ?_
  intro k hk hI
  by_cases hlt : k < rs.length
  · obtain ⟨r, hr⟩ : ∃ r, rs[k]? = some r := ⟨_, List.getElem?_eq_getElem hlt⟩
    have hd : rs.drop k = r :: rs.drop (k + 1) := by
      rw [List.drop_eq_getElem_cons hlt]
      rw [List.getElem?_eq_getElem hlt] at hr
      injection hr with hr
      rw [hr]
    have hgr := hg r (List.mem_of_getElem? hr)
    have ha : (fracsS r :: caps.map fun x => S.c (C.t x)).all S.isT = true := by simp [S.isT, C.isT]
    rw [hd] at hI
    have hI : (if q r then (k : Int) else indexI q (rs.drop (k + 1)) (k + 1)) = indexI q rs 0 := hI
    cases hq : q r with
    | true =>
      rw [hq] at hgr hI
      conv => whnf
      (repeat' (first | ((refine DecB.mk (fun h => ?_) (fun h => ?_)) <;> first | (exfalso; omega) | (conv => whnf)) | ((refine BoolB.mk (fun h => ?_) (fun h => ?_)) <;> first | (exact absurd h (by decide)) | (conv => whnf)) | ((first | refine zzW ?_ | refine zzI ?_ | refine zzR ?_ | refine zzB ?_ | refine late_ok rfl rfl ?_ | refine src_ok rfl ?_ | refine .inl ⟨_, _, qcall_pure hgr ha rfl, ?_⟩ | refine ex_row hr ?_ | refine LitB.data ?_ | refine BoxB.own ?_); conv => whnf)))
      all_goals first
        | (exfalso; omega)
        | exact fin_int hI
    | false =>
      rw [hq] at hgr hI
      conv => whnf
      (repeat' (first | ((refine DecB.mk (fun h => ?_) (fun h => ?_)) <;> first | (exfalso; omega) | (conv => whnf)) | ((refine BoolB.mk (fun h => ?_) (fun h => ?_)) <;> first | (exact absurd h (by decide)) | (conv => whnf)) | ((first | refine zzW ?_ | refine zzI ?_ | refine zzR ?_ | refine zzB ?_ | refine late_ok rfl rfl ?_ | refine src_ok rfl ?_ | refine .inl ⟨_, _, qcall_pure hgr ha rfl, ?_⟩ | refine ex_row hr ?_ | refine LitB.data ?_ | refine BoxB.own ?_); conv => whnf)))
      all_goals first
        | (exfalso; omega)
        | exact ⟨hlt, by simpa using hI, [], rfl, rfl, trivial, ⟨rfl, rfl, rfl, rfl, trivial⟩⟩
  · have hke : k = rs.length := by omega
    subst hke
    rw [List.drop_of_length_le (Nat.le_refl _)] at hI
    conv => whnf
    (repeat' (first | ((refine DecB.mk (fun h => ?_) (fun h => ?_)) <;> first | (exfalso; omega) | (conv => whnf)) | ((refine BoolB.mk (fun h => ?_) (fun h => ?_)) <;> first | (exact absurd h (by decide)) | (conv => whnf)) | ((first | refine zzW ?_ | refine zzI ?_ | refine zzR ?_ | refine zzB ?_ | refine late_ok rfl rfl ?_ | refine src_ok rfl ?_ | refine LitB.data ?_ | refine BoxB.own ?_); conv => whnf)))
    all_goals first
      | (exfalso; omega)
      | exact fin_int hI
theorem a_ContainsLs (rs : List (List Fr)) (hl : rs.length ≤ 1000000) (g : FuncId) (caps : List T) (q : List Fr → Bool) (hg : ∀ r ∈ rs, ACall Tryz.prog g (fracsS r :: caps.map fun x => .c (.t x)) [] (boolS (q r)) []) :
    ACall Tryz.prog 43 [.c (.t (histT rs)), .c (.t (.fn (.func g) caps))] [] (boolS (rs.any q)) [] := by
  have ix := a_IndexLs rs hl g caps q hg
  (refine acall_of tab_ok Tryz.func43 rfl (by decide) ?_; (conv => whnf); repeat (first | (refine LitB.data ?_; conv => whnf) | (refine BoxB.own ?_; conv => whnf)))
  (repeat' (first | ((refine DecB.mk (fun h => ?_) (fun h => ?_)) <;> first | (exfalso; omega) | (conv => whnf)) | ((refine BoolB.mk (fun h => ?_) (fun h => ?_)) <;> first | (exact absurd h (by decide)) | (conv => whnf)) | ((first | refine zzW ?_ | refine zzI ?_ | refine zzR ?_ | refine zzB ?_ | refine late_ok rfl rfl ?_ | refine src_ok rfl ?_ | refine .inl ⟨_, _, qcall_pure (ix) rfl rfl, ?_⟩ | refine LitB.data ?_ | refine BoxB.own ?_); conv => whnf)))
  all_goals (refine fin_bool ?_; rw [← indexI_any q rs 0]; simp; omega)
theorem a_Point1 (e : Ev) (l : List Fr) : ACall Tryz.prog 42 (fracsS l :: [T.ptr (evT e)].map fun x => .c (.t x)) [] (boolS (decide ((l.length : Int) ≠ e.mats))) [] := by
  have m1 : (l.map frRow).length = l.length := by simp
  (refine acall_of tab_ok Tryz.func42 rfl (by decide) ?_; (conv => whnf); repeat (first | (refine LitB.data ?_; conv => whnf) | (refine BoxB.own ?_; conv => whnf)))
  (repeat' (first | ((refine DecB.mk (fun h => ?_) (fun h => ?_)) <;> first | (exfalso; omega) | (conv => whnf)) | ((refine BoolB.mk (fun h => ?_) (fun h => ?_)) <;> first | (exact absurd h (by decide)) | (conv => whnf)) | ((first | refine zzW ?_ | refine zzI ?_ | refine zzR ?_ | refine zzB ?_ | refine late_ok rfl rfl ?_ | refine src_ok rfl ?_ | refine LitB.data ?_ | refine BoxB.own ?_); conv => whnf)))
  all_goals (refine fin_bool ?_; simp; omega)
/-- the point of a history's masses -/
def pointR (e : Ev) (hh : List (List Fr)) : List Fr := if check e ≠ 0 ∨ hh.length ≠ e.moves.length ∨ hh.any (fun l => decide ((l.length : Int) ≠ e.mats)) then [] else hh.flatten
set_option maxHeartbeats 4000000 in
theorem a_EPoint (e : Ev) (hs : e.Sized) (hh : List (List Fr)) (h1 : hh.length ≤ 100000) (h2 : hh.flatten.length ≤ 100000) : ACall Tryz.prog 20 [evS e, histS hh] [] (fracsS (pointR e hh)) [] := by
  have ck := a_Check e hs
  have m0 : (e.moves.map Move.row).length = e.moves.length := by simp
  have m1 : (hh.map fracsRow).length = hh.length := by simp
  have ct := a_ContainsLs hh (by omega) 42 [T.ptr (evT e)] _ (fun l _ => a_Point1 e l)
  have cc := a_ConcatF hh h1 h2
  by_cases h0 : check e ≠ 0 ∨ hh.length ≠ e.moves.length
  · have e1 : pointR e hh = [] := by unfold pointR; rw [if_pos (by rcases h0 with h | h; exact .inl h; exact .inr (.inl h))]
    rw [e1]
    by_cases h3 : check e = 0
    · rw [h3] at ck
      (refine acall_of tab_ok Tryz.func20 rfl (by decide) ?_; (conv => whnf); repeat (first | (refine LitB.data ?_; conv => whnf) | (refine BoxB.data ?_; conv => whnf)))
      (repeat' (first | ((refine DecB.mk (fun h => ?_) (fun h => ?_)) <;> first | (exfalso; omega) | (conv => whnf)) | ((refine BoolB.mk (fun h => ?_) (fun h => ?_)) <;> first | (exact absurd h (by decide)) | (conv => whnf)) | ((first | refine zzW ?_ | refine zzI ?_ | refine zzR ?_ | refine zzB ?_ | refine late_ok rfl rfl ?_ | refine src_ok rfl ?_ | refine .inl ⟨_, _, qcall_pure (ck) rfl rfl, ?_⟩ | refine LitB.data ?_ | refine BoxB.own ?_); conv => whnf)))
      all_goals first
        | (exfalso; omega)
        | exact fin_t rfl
    · (refine acall_of tab_ok Tryz.func20 rfl (by decide) ?_; (conv => whnf); repeat (first | (refine LitB.data ?_; conv => whnf) | (refine BoxB.data ?_; conv => whnf)))
      (repeat' (first | ((refine DecB.mk (fun h => ?_) (fun h => ?_)) <;> first | (exfalso; omega) | (conv => whnf)) | ((refine BoolB.mk (fun h => ?_) (fun h => ?_)) <;> first | (exact absurd h (by decide)) | (conv => whnf)) | ((first | refine zzW ?_ | refine zzI ?_ | refine zzR ?_ | refine zzB ?_ | refine late_ok rfl rfl ?_ | refine src_ok rfl ?_ | refine .inl ⟨_, _, qcall_pure (ck) rfl rfl, ?_⟩ | refine LitB.data ?_ | refine BoxB.own ?_); conv => whnf)))
      all_goals first
        | (exfalso; omega)
        | exact fin_t rfl
  · have h3 : check e = 0 := by omega
    rw [h3] at ck
    cases ha : hh.any (fun l => decide ((l.length : Int) ≠ e.mats)) with
    | true =>
      have e1 : pointR e hh = [] := by unfold pointR; rw [if_pos (.inr (.inr ha))]
      rw [e1]
      rw [ha] at ct
      (refine acall_of tab_ok Tryz.func20 rfl (by decide) ?_; (conv => whnf); repeat (first | (refine LitB.data ?_; conv => whnf) | (refine BoxB.data ?_; conv => whnf)))
      (repeat' (first | ((refine DecB.mk (fun h => ?_) (fun h => ?_)) <;> first | (exfalso; omega) | (conv => whnf)) | ((refine BoolB.mk (fun h => ?_) (fun h => ?_)) <;> first | (exact absurd h (by decide)) | (conv => whnf)) | ((first | refine zzW ?_ | refine zzI ?_ | refine zzR ?_ | refine zzB ?_ | refine late_ok rfl rfl ?_ | refine src_ok rfl ?_ | refine .inl ⟨_, _, qcall_pure (ck) rfl rfl, ?_⟩ | refine .inl ⟨_, _, qcall_pure (ct) rfl rfl, ?_⟩ | refine LitB.data ?_ | refine BoxB.own ?_); conv => whnf)))
      all_goals first
        | (exfalso; omega)
        | exact fin_t rfl
    | false =>
      have e1 : pointR e hh = hh.flatten := by unfold pointR; rw [if_neg (by rw [ha]; simp; omega)]
      rw [e1]
      rw [ha] at ct
      (refine acall_of tab_ok Tryz.func20 rfl (by decide) ?_; (conv => whnf); repeat (first | (refine LitB.data ?_; conv => whnf) | (refine BoxB.data ?_; conv => whnf)))
      (repeat' (first | ((refine DecB.mk (fun h => ?_) (fun h => ?_)) <;> first | (exfalso; omega) | (conv => whnf)) | ((refine BoolB.mk (fun h => ?_) (fun h => ?_)) <;> first | (exact absurd h (by decide)) | (conv => whnf)) | ((first | refine zzW ?_ | refine zzI ?_ | refine zzR ?_ | refine zzB ?_ | refine late_ok rfl rfl ?_ | refine src_ok rfl ?_ | refine .inl ⟨_, _, qcall_pure (ck) rfl rfl, ?_⟩ | refine .inl ⟨_, _, qcall_pure (ct) rfl rfl, ?_⟩ | refine .inl ⟨_, _, qcall_pure (cc) rfl rfl, ?_⟩ | refine LitB.data ?_ | refine BoxB.own ?_); conv => whnf)))
      all_goals first
        | (exfalso; omega)
        | exact fin_t rfl
end Go.Proofs.YtfieodjihaodiaaGreat
/- history: Mass. -/
namespace Go.Proofs.YtfieodjihaodiaaGreat
open Go.RowKit
set_option linter.unusedVariables false
set_option linter.unusedSimpArgs false
set_option maxRecDepth 100000

structure Pick where
  mv : Int
  mat : Int
def Pick.row (p : Pick) : List T := [ti p.mv, ti p.mat]
end Go.Proofs.YtfieodjihaodiaaGreat
/- Reference of big: trim, made, digit, Right, Of. -/
namespace Go.Proofs.YtfieodjihaodiaaGreat
open Go.RowKit
set_option linter.unusedVariables false
set_option linter.unusedSimpArgs false
set_option maxRecDepth 100000

theorem r_trim (l : List Int) (hl : l.length ≤ 1000000) : ACall Tryz.prog 152 [intsS l] [] (intsS (trimL l)) [] := by
  have l2 : (l.map intRow).length = l.length := by simp
  (refine acall_of tab_ok Tryz.func152 rfl (by decide) ?_; (conv => whnf); repeat (first | (refine LitB.data ?_; conv => whnf) | (refine BoxB.own ?_; conv => whnf)))
  (repeat' (first | ((refine DecB.mk (fun h => ?_) (fun h => ?_)) <;> first | (exfalso; omega) | (conv => whnf)) | ((refine BoolB.mk (fun h => ?_) (fun h => ?_)) <;> first | (exact absurd h (by decide)) | (conv => whnf)) | ((first | refine zzW ?_ | refine zzI ?_ | refine zzR ?_ | refine zzB ?_ | refine late_ok rfl rfl ?_ | refine src_ok rfl ?_ | refine LitB.data ?_ | refine BoxB.own ?_); conv => whnf)))
  refine awp_while tab_ok (σ := Nat) (fun n => ([intsS l, J, J, intS .i64 n, J, J, J, J, J, J, J, J, J, J, J, J, J, J, J, J, J, J, J], [])) (fun n => n ≤ l.length ∧ ∀ j x, n ≤ j → l[j]? = some x → x = 0) (fun n => n) l.length []
    ⟨Nat.le_refl _, fun j x hj hx => by rw [List.getElem?_eq_none hj] at hx; cases hx⟩ ⟨rfl, rfl, trivial, ⟨ent_t rfl, ent_i (by simp), trivial⟩⟩ ?_
  rintro n ⟨hn, hz⟩
  have hn : n ≤ l.length := hn
  conv => whnf
  (repeat' (first | ((refine DecB.mk (fun h => ?_) (fun h => ?_)) <;> first | (exfalso; omega) | (conv => whnf)) | ((refine BoolB.mk (fun h => ?_) (fun h => ?_)) <;> first | (exact absurd h (by decide)) | (conv => whnf)) | ((first | refine zzW ?_ | refine zzI ?_ | refine zzR ?_ | refine zzB ?_ | refine late_ok rfl rfl ?_ | refine src_ok rfl ?_ | refine .inl ⟨_, _, qcall_pure (toC) rfl rfl, ?_⟩ | refine .inl ⟨_, _, qcall_pure (toC) rfl rfl, ?_⟩ | refine LitB.own ?_ | refine ex_rowI (by omega) (get_pred (by omega) hn) ?_ | refine sl_ok (by omega) (by omega) (by omega) ?_ | refine app_ok (by simp [toC]) (by simp [toC]; omega) ?_ | refine LitB.data ?_ | refine BoxB.own ?_); conv => whnf)))
  · have h0 : dat l (n - 1) = 0 := by assumption
    have h1 : 0 < n := by omega
    refine ⟨[], n - 1, ⟨rfl, rfl, trivial, ⟨rfl, ent_i (by omega), trivial⟩⟩, ⟨by omega, fun j x hj hxj => ?_⟩, by show n - 1 < n; omega⟩
    by_cases hj2 : j = n - 1
    · subst hj2; rw [get_dat (by omega)] at hxj; injection hxj with hx; rw [← hx]; exact h0
    · exact hz j x (by omega) hxj
  all_goals
    have e : l.take n = trimL l := trimL_take hz (fun x h0 hx => by
      first
        | (exfalso; omega)
        | (rw [get_dat (by omega)] at hx; injection hx with hx; rw [← hx]; assumption)) hn
    rw [← e]
    refine fin_own rfl (by intro h; cases h) rfl ?_ ?_
    · simp [toC, newBlk, List.map_take]
    · simp [toC]
theorem r_made (s : Int) (l : List Int) (hl : l.length ≤ 1000000) : ACall Tryz.prog 129 [intS .i64 s, intsS l] [] (bgS (sgn s l)) [] := by
  (refine acall_of tab_ok Tryz.func129 rfl (by decide) ?_; (conv => whnf); repeat (first | (refine LitB.data ?_; conv => whnf) | (refine BoxB.own ?_; conv => whnf)))
  (repeat' (first | ((refine DecB.mk (fun h => ?_) (fun h => ?_)) <;> first | (exfalso; omega) | (conv => whnf)) | ((refine BoolB.mk (fun h => ?_) (fun h => ?_)) <;> first | (exact absurd h (by decide)) | (conv => whnf)) | ((first | refine zzW ?_ | refine zzI ?_ | refine zzR ?_ | refine zzB ?_ | refine late_ok rfl rfl ?_ | refine src_ok rfl ?_ | refine .inl ⟨_, _, qcall_pure (r_trim l hl) rfl rfl, ?_⟩ | refine LitB.data ?_ | refine BoxB.own ?_); conv => whnf)))
  · have h0 : (trimL l).length = 0 := by simp at *; assumption
    unfold sgn
    rw [if_pos h0]
    exact fin_t ⟨rfl, rfl, trivial⟩
  · have h0 : ¬ (trimL l).length = 0 := by simp at *; assumption
    unfold sgn
    rw [if_neg h0]
    exact fin_t ⟨rfl, rfl, trivial⟩
theorem r_madeD (s : Int) (k : Nat) (h : s = 1 ∨ s = -1 ∨ k = 0) (lk : (dg k).length ≤ 700000) :
    ACall Tryz.prog 129 [intS .i64 s, intsS (dg k)] [] (bgS (bz (s * k))) [] := by
  have e := r_made s (dg k) (by omega)
  rw [sgn_bz (okd_dg k) (by rw [val_dg]; omega), val_dg] at e
  exact e
theorem r_digit (l : List Int) (i : Nat) (hl : l.length ≤ 1000000) : ACall Tryz.prog 155 [intsS l, intS .i64 i] [] (intS .i64 (dat l i)) [] := by
  have l2 : (l.map intRow).length = l.length := by simp
  (refine acall_of tab_ok Tryz.func155 rfl (by decide) ?_; (conv => whnf); repeat (first | (refine LitB.data ?_; conv => whnf) | (refine BoxB.own ?_; conv => whnf)))
  (repeat' (first | ((refine DecB.mk (fun h => ?_) (fun h => ?_)) <;> first | (exfalso; omega) | (conv => whnf)) | ((refine BoolB.mk (fun h => ?_) (fun h => ?_)) <;> first | (exact absurd h (by decide)) | (conv => whnf)) | ((first | refine zzW ?_ | refine zzI ?_ | refine zzR ?_ | refine zzB ?_ | refine late_ok rfl rfl ?_ | refine src_ok rfl ?_ | refine ex_row (get_dat (by omega)) ?_ | refine LitB.data ?_ | refine BoxB.own ?_); conv => whnf)))
  all_goals first
    | exact fin_int rfl
    | exact fin_int (dat_none (by omega)).symm
end Go.Proofs.YtfieodjihaodiaaGreat
/- Digits, for the reference of big: less, minus, times, over. No program is in sight. -/
namespace Go.Proofs.YtfieodjihaodiaaGreat
set_option linter.unusedVariables false
set_option linter.unusedSimpArgs false

theorem drop_dat' (l : List Int) (i : Nat) : val (l.drop i) = dat l i + 1048576 * val (l.drop (i + 1)) := by
  by_cases h : i < l.length
  · exact drop_dat h
  · rw [List.drop_of_length_le (by omega), List.drop_of_length_le (by omega), dat_none (by omega)]; rfl
theorem val_split' (l : List Int) (i : Nat) : val l = val (l.take i) + pw i * val (l.drop i) := by
  by_cases h : i ≤ l.length
  · exact val_split l i h
  · rw [List.drop_of_length_le (by omega), List.take_of_length_le (by omega)]; simp [val]
theorem val_take_rng {l : List Int} (h : Okd l) (i : Nat) : 0 ≤ val (l.take i) ∧ val (l.take i) < pw i := by
  refine ⟨val_nonneg (h.take i), ?_⟩
  have h1 := val_lt (h.take i)
  have h2 := pw_mono (i := (l.take i).length) (j := i) (by simp; omega)
  omega
theorem less_top {a b : List Int} (ha : Okd a) (hb : Okd b) {i : Nat} (h : val (a.drop (i + 1)) = val (b.drop (i + 1))) (hd : dat a i < dat b i) : val a < val b := by
  rw [val_split' a i, val_split' b i, drop_dat' a i, drop_dat' b i, h]
  have h1 := val_take_rng ha i
  have h2 := val_take_rng hb i
  have hp := pw_pos i
  have h3 := Int.mul_le_mul_of_nonneg_left (a := dat a i + 1048576 * val (b.drop (i + 1)) + 1) (b := dat b i + 1048576 * val (b.drop (i + 1))) (c := pw i) (by omega) (by omega)
  rw [Int.mul_add _ _ (1 : Int)] at h3
  omega
theorem drop_zero_val (l : List Int) : val (l.drop 0) = val l := by rw [List.drop_zero]
/-- the difference, digit by digit, appended -/
structure MinI (a b : List Int) (i : Nat) (out : List Int) (c : Int) : Prop where
  len : out.length = i
  ok : Okd out
  le : i ≤ a.length
  c0 : 0 ≤ c
  c1 : c ≤ 1
  eq : val out - pw i * c = val (a.take i) - val (b.take i)
theorem MinI.init (a b : List Int) : MinI a b 0 [] 0 := ⟨rfl, .nil, Nat.zero_le _, by decide, by decide, by simp [val]⟩
theorem MinI.step {a b out : List Int} {i : Nat} {c n c' : Int} (h : MinI a b i out c) (ha : Okd a) (hb : Okd b) (hi : i < a.length) (hn : n = dat a i - dat b i - c + 1048576 * c') (h0 : 0 ≤ n ∧ n < 1048576) (hc : 0 ≤ c' ∧ c' ≤ 1) :
    MinI a b (i + 1) (out ++ [n]) c' := by
  refine ⟨by simp [h.len], h.ok.append (Okd.cons h0 .nil), hi, hc.1, hc.2, ?_⟩
  rw [val_append, h.len, val_take_dat, val_take_dat, pw_succ]
  have := h.eq
  simp only [val]
  rw [hn]
  grind
theorem MinI.fin {a b out : List Int} {c : Int} (h : MinI a b a.length out c) (ha : Okd a) (hb : Okd b) (hl : b.length ≤ a.length) (hv : val b ≤ val a) : trimL out = dg (val a - val b).toNat := by
  have h1 := h.eq
  rw [List.take_of_length_le (Nat.le_refl _), List.take_of_length_le hl] at h1
  have h2 := val_lt h.ok
  rw [h.len] at h2
  have hc : c = 0 := by
    have := h.c0
    have := h.c1
    rcases Int.lt_or_le 0 c with h3 | h3
    · have : c = 1 := by omega
      subst this
      omega
    · omega
  subst hc
  rw [trimL_dg h.ok]
  congr 2
  simp at h1
  exact h1
/-- the reference's product, its inner loop -/
structure TimK (a b : List Int) (i k : Nat) (out : List Int) (c : Int) : Prop where
  out : (MulK a b i k out c ∧ k ≤ b.length) ∨ (k = b.length + 1 ∧ c = 0 ∧ MulI a b (i + 1) out)
theorem set_dat {l : List Int} {i : Nat} : l.set i (dat l i) = l := by
  by_cases h : i < l.length
  · apply List.ext_getElem?
    intro j
    by_cases hj : i = j
    · subst hj; rw [List.getElem?_set_self h]; unfold dat; rw [List.getD_eq_getElem?_getD, List.getElem?_eq_getElem h]; rfl
    · rw [List.getElem?_set_ne hj]
  · rw [List.set_eq_of_length_le (by omega)]
theorem TimK.exit {a b out : List Int} {i k : Nat} {c : Int} (h : TimK a b i k out c) (ha : Okd a) (hb : Okd b) (hi : i < a.length) (hk : b.length ≤ k) (hc : c ≤ 0) : MulI a b (i + 1) out := by
  rcases h.out with ⟨h1, h2⟩ | ⟨h1, h2, h3⟩
  · have hk : k = b.length := by omega
    subst hk
    have hc : c = 0 := by have := h1.c0; omega
    subst hc
    have := h1.done ha hb hi
    rw [Int.add_zero, set_dat] at this
    exact this
  · exact h3
theorem over_val {r d : Nat} {x : Int} (hx : 0 ≤ x ∧ x < 1048576) : trimL (x :: dg r) = dg (r * 1048576 + x.toNat) := by
  rw [trimL_dg (Okd.cons hx (okd_dg r))]
  congr 1
  simp only [val, val_dg]
  omega
end Go.Proofs.YtfieodjihaodiaaGreat
/- Reference of big: less, minus, times. -/
namespace Go.Proofs.YtfieodjihaodiaaGreat
open Go.RowKit
set_option linter.unusedVariables false
set_option linter.unusedSimpArgs false
set_option maxRecDepth 100000

theorem r_less (a b : List Int) (ha : Okd a) (hb : Okd b) (la : a.length ≤ 1000000) (lb : b.length ≤ 1000000) : ACall Tryz.prog 131 [intsS a, intsS b] [] (boolS (decide (val a < val b))) [] := by
  have l1 : (a.map intRow).length = a.length := by simp
  have l2 : (b.map intRow).length = b.length := by simp
  (refine acall_of tab_ok Tryz.func131 rfl (by decide) ?_; (conv => whnf); repeat (first | (refine LitB.data ?_; conv => whnf) | (refine BoxB.own ?_; conv => whnf)))
  (repeat' (first | ((refine DecB.mk (fun h => ?_) (fun h => ?_)) <;> first | (exfalso; omega) | (conv => whnf)) | ((refine BoolB.mk (fun h => ?_) (fun h => ?_)) <;> first | (exact absurd h (by decide)) | (conv => whnf)) | ((first | refine zzW ?_ | refine zzI ?_ | refine zzR ?_ | refine zzB ?_ | refine late_ok rfl rfl ?_ | refine src_ok rfl ?_ | refine .inl ⟨_, _, qcall_pure (cond) rfl rfl, ?_⟩ | refine ⟨_, wrap_eq (y := ((max a.length b.length : Nat) : Int) - 1) (by simp only [cond]; split <;> omega) (by omega) (by omega), ?_⟩ | refine LitB.data ?_ | refine BoxB.own ?_); conv => whnf)))
  refine awp_while tab_ok (σ := Nat) (fun k => ([intsS a, intsS b, J, J, J, intS .i64 ((k : Int) - 1), J, J, J, J, J, J, J, J, J, J, J, J, J, J, J, J, J, J, J, J, J, J, J, J], [])) (fun k => k ≤ 1000000 ∧ val (a.drop k) = val (b.drop k)) (fun k => k) (max a.length b.length) []
    ⟨by omega, by rw [List.drop_of_length_le (by omega), List.drop_of_length_le (by omega)]⟩ ⟨rfl, rfl, trivial, ⟨ent_t rfl, ent_t rfl, rfl, trivial⟩⟩ ?_
  rintro k ⟨hk, hd⟩
  have hk : k ≤ 1000000 := hk
  have hd : val (a.drop k) = val (b.drop k) := hd
  by_cases h0 : 0 < k
  · obtain ⟨i, rfl⟩ : ∃ i, k = i + 1 := ⟨k - 1, by omega⟩
    have d1 := r_digit a i la
    have d2 := r_digit b i lb
    have ei : (((i + 1 : Nat) : Int) - 1) = i := by omega
    rw [ei]
    conv => whnf
    (repeat' (first | ((refine DecB.mk (fun h => ?_) (fun h => ?_)) <;> first | (exfalso; omega) | (conv => whnf)) | ((refine BoolB.mk (fun h => ?_) (fun h => ?_)) <;> first | (exact absurd h (by decide)) | (conv => whnf)) | ((first | refine zzW ?_ | refine zzI ?_ | refine zzR ?_ | refine zzB ?_ | refine late_ok rfl rfl ?_ | refine src_ok rfl ?_ | refine .inl ⟨_, _, qcall_pure (d1) rfl rfl, ?_⟩ | refine .inl ⟨_, _, qcall_pure (d2) rfl rfl, ?_⟩ | refine LitB.data ?_ | refine BoxB.own ?_); conv => whnf)))
    · have h := less_top ha hb hd (by assumption)
      exact fin_bool (by simp [h])
    · have h := less_top hb ha hd.symm (by omega)
      exact fin_bool (by simp; omega)
    · have he : dat a i = dat b i := by omega
      refine ⟨[], i, ⟨rfl, rfl, trivial, ⟨rfl, rfl, rfl, trivial⟩⟩, ⟨by omega, ?_⟩, by show i < i + 1; omega⟩
      rw [drop_dat' a i, drop_dat' b i, he, hd]
  · obtain rfl : k = 0 := by omega
    rw [drop_zero_val, drop_zero_val] at hd
    conv => whnf
    (repeat' (first | ((refine DecB.mk (fun h => ?_) (fun h => ?_)) <;> first | (exfalso; omega) | (conv => whnf)) | ((refine BoolB.mk (fun h => ?_) (fun h => ?_)) <;> first | (exact absurd h (by decide)) | (conv => whnf)) | ((first | refine zzW ?_ | refine zzI ?_ | refine zzR ?_ | refine zzB ?_ | refine late_ok rfl rfl ?_ | refine src_ok rfl ?_ | refine LitB.data ?_ | refine BoxB.own ?_); conv => whnf)))
    all_goals first
      | (exfalso; omega)
      | exact fin_bool (by simp; omega)
theorem r_minus (a b : List Int) (ha : Okd a) (hb : Okd b) (la : a.length ≤ 400000) (lb : b.length ≤ a.length) (hv : val b ≤ val a) :
    ACall Tryz.prog 154 [intsS a, intsS b] [] (intsS (dg (val a - val b).toNat)) [] := by
  have l1 : (a.map intRow).length = a.length := by simp
  have l2 : (b.map intRow).length = b.length := by simp
  (refine acall_of tab_ok Tryz.func154 rfl (by decide) ?_; (conv => whnf); repeat (first | (refine LitB.data ?_; conv => whnf) | (refine BoxB.own ?_; conv => whnf)))
  (repeat' (first | ((refine DecB.mk (fun h => ?_) (fun h => ?_)) <;> first | (exfalso; omega) | (conv => whnf)) | ((refine BoolB.mk (fun h => ?_) (fun h => ?_)) <;> first | (exact absurd h (by decide)) | (conv => whnf)) | ((first | refine zzW ?_ | refine zzI ?_ | refine zzR ?_ | refine zzB ?_ | refine late_ok rfl rfl ?_ | refine src_ok rfl ?_ | refine LitB.data ?_ | refine BoxB.own ?_); conv => whnf)))
  refine awp_while tab_ok (σ := Nat × List Int × Int) (fun | (k, out, c) => ([intsS a, intsS b, J, J, J, ownI 0 out, intS .i64 c, intS .i64 k, J, J, J, J, J, J, J, J, J, J, J, J, J, J, J, J, J, J, J, J, J, J, J, J, J, J, J], [intsB out])) (fun x => MinI a b x.1 x.2.1 x.2.2) (fun x => a.length - x.1) (0, [], 0) [none]
    (MinI.init a b) ⟨rfl, rfl, ⟨⟨rfl, rfl⟩, trivial⟩, ⟨ent_t rfl, ent_t rfl, ⟨rfl, rfl, rfl⟩, rfl, rfl, trivial⟩⟩ ?_
  rintro ⟨k, out, c⟩ hI
  have hI : MinI a b k out c := hI
  have hlen := hI.len
  have hle := hI.le
  have hc0 := hI.c0
  have hc1 := hI.c1
  have hda := ha.dat k
  have hdb := hb.dat k
  have d2 := r_digit b k (by omega)
  conv => whnf
  (repeat' (first | ((refine DecB.mk (fun h => ?_) (fun h => ?_)) <;> first | (exfalso; omega) | (conv => whnf)) | ((refine BoolB.mk (fun h => ?_) (fun h => ?_)) <;> first | (exact absurd h (by decide)) | (conv => whnf)) | ((first | refine zzW ?_ | refine zzI ?_ | refine zzR ?_ | refine zzB ?_ | refine late_ok rfl rfl ?_ | refine src_ok rfl ?_ | refine .inl ⟨_, _, qcall_pure (d2) rfl rfl, ?_⟩ | refine .inl ⟨_, _, qcall_pure (toC) rfl rfl, ?_⟩ | refine .inl ⟨_, _, qcall_pure (toC) rfl rfl, ?_⟩ | refine ex_row (get_dat (by omega)) ?_ | refine app_ok (by simp [toC]) (by simp [toC]; omega) ?_ | refine LitB.data ?_ | refine BoxB.own ?_); conv => whnf)))
  · have hst := hI.step ha hb (n := dat a k - dat b k - c + 1048576) (c' := 1) (by omega) (by omega) (by omega) (by omega)
    refine ⟨[some 1], (k + 1, out ++ [dat a k - dat b k - c + 1048576], 1), ⟨rfl, rfl, ⟨entB_rows rfl rfl rfl toC_app1 rfl, trivial⟩, ⟨rfl, rfl, ent_own rfl (by simp [toC]), rfl, ent_i (by omega), trivial⟩⟩, hst, ?_⟩
    show a.length - (k + 1) < a.length - k
    omega
  · have hst := hI.step ha hb (n := dat a k - dat b k - c) (c' := 0) (by omega) (by omega) (by omega) (by omega)
    refine ⟨[some 1], (k + 1, out ++ [dat a k - dat b k - c], 0), ⟨rfl, rfl, ⟨entB_rows rfl rfl rfl toC_app1 rfl, trivial⟩, ⟨rfl, rfl, ent_own rfl (by simp [toC]), rfl, ent_i (by omega), trivial⟩⟩, hst, ?_⟩
    show a.length - (k + 1) < a.length - k
    omega
  · have hk : k = a.length := by omega
    subst hk
    have hf := hI.fin ha hb lb hv
    have t := r_trim out (by omega)
    rw [hf] at t
    refine .inr ⟨_, _, acall_freeze [0] t ⟨vs_c (vc_all (by simp) rfl (by intro h; cases h) rfl rfl (by simp)), trivial⟩ rfl, ?_⟩
    conv => whnf
    exact fin_d rfl
end Go.Proofs.YtfieodjihaodiaaGreat
/- Reference of big: times. -/
namespace Go.Proofs.YtfieodjihaodiaaGreat
open Go.RowKit
set_option linter.unusedVariables false
set_option linter.unusedSimpArgs false
set_option maxRecDepth 100000

theorem tmodB {a : Int} (h : 0 ≤ a) : a.tmod 1048576 = a % 1048576 := Int.tmod_eq_emod_of_nonneg h
set_option maxHeartbeats 1000000 in
theorem r_times (a b : List Int) (ha : Okd a) (hb : Okd b) (la : a.length ≤ 400000) (lb : b.length ≤ 400000) :
    ACall Tryz.prog 153 [intsS a, intsS b] [] (intsS (dg (val a * val b).toNat)) [] := by
  have l1 : (a.map intRow).length = a.length := by simp
  have l2 : (b.map intRow).length = b.length := by simp
  (refine acall_of tab_ok Tryz.func153 rfl (by decide) ?_; (conv => whnf); repeat (first | (refine LitB.data ?_; conv => whnf) | (refine BoxB.own ?_; conv => whnf)))
  (repeat' (first | ((refine DecB.mk (fun h => ?_) (fun h => ?_)) <;> first | (exfalso; omega) | (conv => whnf)) | ((refine BoolB.mk (fun h => ?_) (fun h => ?_)) <;> first | (exact absurd h (by decide)) | (conv => whnf)) | ((first | refine zzW ?_ | refine zzI ?_ | refine zzR ?_ | refine zzB ?_ | refine late_ok rfl rfl ?_ | refine src_ok rfl ?_ | refine mk_ok (by omega) (by omega) (by omega) (by decide) ?_ | refine LitB.data ?_ | refine BoxB.own ?_); conv => whnf)))
  refine awp_while tab_ok (σ := Nat × List Int) (fun | (i, out) => ([intsS a, intsS b, J, J, J, ownI 0 out, intS .i64 i, J, J, J, J, J, J, J, J, J, J, J, J, J, J, J, J, J, J, J, J, J, J, J, J, J, J, J, J, J, J, J, J, J, J, J, J, J, J, J, J, J, J, J, J, J, J, J, J, J, J, J, J, J], [intsB out])) (fun x => MulI a b x.1 x.2) (fun x => a.length - x.1) (0, List.replicate (a.length + b.length) 0) [some 0]
    (MulI.init a b) ⟨rfl, rfl, ⟨entB_rows rfl rfl rfl ?_ rfl, trivial⟩, ⟨ent_t rfl, ent_t rfl, ent_own rfl (by simp; omega), rfl, trivial⟩⟩ ?_
  · show List.replicate _ _ = _
    rw [show ((((a.map intRow).length : Nat) : Int) + ((b.map intRow).length : Nat)).toNat = a.length + b.length by omega]
    simp [toC, intRow, constC]
  rintro ⟨i, out⟩ hI
  have hI : MulI a b i out := hI
  have hlen := hI.len
  have hle := hI.le
  conv => whnf
  (repeat' (first | ((refine DecB.mk (fun h => ?_) (fun h => ?_)) <;> first | (exfalso; omega) | (conv => whnf)) | ((refine BoolB.mk (fun h => ?_) (fun h => ?_)) <;> first | (exact absurd h (by decide)) | (conv => whnf)) | ((first | refine zzW ?_ | refine zzI ?_ | refine zzR ?_ | refine zzB ?_ | refine late_ok rfl rfl ?_ | refine src_ok rfl ?_ | refine LitB.data ?_ | refine BoxB.own ?_); conv => whnf)))
  · have hi : i < a.length := by omega
    refine awp_while tab_ok (σ := Nat × List Int × Int) (fun | (k, out, c) => ([intsS a, intsS b, J, J, J, ownI 0 out, intS .i64 i, intS .i64 c, intS .i64 k, J, J, J, J, J, J, J, J, J, J, J, J, J, J, J, J, J, J, J, J, J, J, J, J, J, J, J, J, J, J, J, J, J, J, J, J, J, J, J, J, J, J, J, J, J, J, J, J, J, J, J], [intsB out])) (fun x => TimK a b i x.1 x.2.1 x.2.2) (fun x => b.length + 1 - x.1) (0, out, 0) [some 0]
      ⟨.inl ⟨hI.start, Nat.zero_le _⟩⟩ ⟨rfl, rfl, ⟨entB_rows rfl rfl rfl rfl rfl, trivial⟩, ⟨ent_t rfl, ent_t rfl, ent_own rfl rfl, rfl, rfl, rfl, trivial⟩⟩ ?_
    rintro ⟨k, out, c⟩ hT
    have hT : TimK a b i k out c := hT
    have hdb := hb.dat k
    have hda := ha.dat i
    have hm := mul_rng (ha.dat i) (hb.dat k)
    have d2 := r_digit b k (by omega)
    have e1 : ((i : Int) + k).toNat = i + k := by omega
    rcases hT.out with ⟨hK, hkb⟩ | ⟨hk1, hc, hM⟩
    · have hlen := hK.len
      have hc0 := hK.c0
      have hc1 := hK.c1
      have hdo := hK.ok.dat (i + k)
      have hz : k = b.length → dat out (i + k) = 0 ∧ dat b k = 0 := fun h => ⟨hK.zero _ (by omega), dat_none (by omega)⟩
      have hzm : k = b.length → dat a i * dat b k = 0 := fun h => by rw [(hz h).2, Int.mul_zero]
      conv => whnf
      (repeat' (first | ((refine DecB.mk (fun h => ?_) (fun h => ?_)) <;> first | (exfalso; omega) | (conv => whnf)) | ((refine BoolB.mk (fun h => ?_) (fun h => ?_)) <;> first | (exact absurd h (by decide)) | (conv => whnf)) | ((first | refine zzW ?_ | refine zzI ?_ | refine zzR ?_ | refine zzB ?_ | refine late_ok rfl rfl ?_ | refine src_ok rfl ?_ | refine .inl ⟨_, _, qcall_pure (d2) rfl rfl, ?_⟩ | refine ex_row (get_dat (by omega)) ?_ | refine and_idx (by omega) (by show _ < ((out.length : Nat) : Int); omega) ?_ | refine ex_own (get_dat0 e1 (by omega)) ?_ | refine ⟨by decide, _, tdivq (by omega) (by omega) (by decide), ?_⟩ | refine ne_ok (by decide) ?_ | refine LitB.data ?_ | refine BoxB.own ?_); conv => whnf)))
      all_goals have hn : 0 ≤ dat out (i + k) + dat a i * dat b k + c := by omega
      · have hst := hK.step ha hb hi (by omega)
        refine ⟨[some 0], (k + 1, out.set (i + k) ((dat out (i + k) + dat a i * dat b k + c) % 1048576), (dat out (i + k) + dat a i * dat b k + c) / 1048576), ⟨rfl, rfl, ⟨entB_rows rfl rfl rfl ?_ rfl, trivial⟩, ⟨rfl, rfl, ent_own rfl (by simp), rfl, rfl, rfl, trivial⟩⟩, ⟨.inl ⟨hst, by omega⟩⟩, ?_⟩
        · rw [← tmodB hn]; exact toC_set (by omega)
        · show b.length + 1 - (k + 1) < b.length + 1 - k; omega
      · have hkb2 : k = b.length := by omega
        obtain ⟨z1, z2⟩ := hz hkb2
        have z3 := hzm hkb2
        have en : dat out (i + k) + dat a i * dat b k + c = c := by omega
        have hdone := hK
        rw [hkb2] at hdone
        have hdone := hdone.done ha hb hi
        rw [← hkb2] at hdone
        refine ⟨[some 0], (k + 1, out.set (i + k) ((dat out (i + k) + dat a i * dat b k + c) % 1048576), (dat out (i + k) + dat a i * dat b k + c) / 1048576), ⟨rfl, rfl, ⟨entB_rows rfl rfl rfl ?_ rfl, trivial⟩, ⟨rfl, rfl, ent_own rfl (by simp), rfl, rfl, rfl, trivial⟩⟩, ⟨.inr ⟨by show k + 1 = b.length + 1; omega, by show (dat out (i + k) + dat a i * dat b k + c) / 1048576 = 0; omega, ?_⟩⟩, ?_⟩
        · rw [← tmodB hn]; exact toC_set (by omega)
        · have e2 : (dat out (i + k) + dat a i * dat b k + c) % 1048576 = dat out (i + k) + c := by omega
          rw [e2]; exact hdone
        · show b.length + 1 - (k + 1) < b.length + 1 - k; omega
      · have hx := hT.exit ha hb hi (by omega) (by omega)
        exact ⟨[some 0], (i + 1, out), ⟨rfl, rfl, ⟨entB_rows rfl rfl rfl rfl rfl, trivial⟩, ⟨rfl, rfl, ent_own rfl rfl, ent_i (by omega), trivial⟩⟩, hx, by show a.length - (i + 1) < a.length - i; omega⟩
    · have hlen := hM.len
      have hx := hT.exit ha hb hi (by omega) (by omega)
      conv => whnf
      (repeat' (first | ((refine DecB.mk (fun h => ?_) (fun h => ?_)) <;> first | (exfalso; omega) | (conv => whnf)) | ((refine BoolB.mk (fun h => ?_) (fun h => ?_)) <;> first | (exact absurd h (by decide)) | (conv => whnf)) | ((first | refine zzW ?_ | refine zzI ?_ | refine zzR ?_ | refine zzB ?_ | refine late_ok rfl rfl ?_ | refine src_ok rfl ?_ | refine LitB.data ?_ | refine BoxB.own ?_); conv => whnf)))
      all_goals first
        | (exfalso; omega)
        | exact ⟨[some 0], (i + 1, out), ⟨rfl, rfl, ⟨entB_rows rfl rfl rfl rfl rfl, trivial⟩, ⟨rfl, rfl, ent_own rfl rfl, ent_i (by omega), trivial⟩⟩, hx, by show a.length - (i + 1) < a.length - i; omega⟩
  · have hi : i = a.length := by omega
    subst hi
    have hf := hI.fin
    have t := r_trim out (by omega)
    rw [hf] at t
    refine .inr ⟨_, _, acall_freeze [0] t ⟨vs_c (vc_all (by simp) rfl (by intro h; cases h) rfl rfl (by simp)), trivial⟩ rfl, ?_⟩
    conv => whnf
    exact fin_d rfl
theorem r_timesD (m n : Nat) (lm : (dg m).length ≤ 300000) (ln : (dg n).length ≤ 300000) :
    ACall Tryz.prog 153 [intsS (dg m), intsS (dg n)] [] (intsS (dg (m * n))) [] := by
  have h := r_times (dg m) (dg n) (okd_dg m) (okd_dg n) (by omega) (by omega)
  rw [val_dg, val_dg, show ((m : Int) * n).toNat = m * n by rw [← Int.natCast_mul]; rfl] at h
  exact h
end Go.Proofs.YtfieodjihaodiaaGreat
