/- Path. -/
import Derived.Deep.DeepMust
import Derived.BigQuiet
import Derived.Deep.Light
import Derived.Test.YthjgbjakpbfnoaaR3
namespace Go.Proofs.Ythjgbjakpbfnoaa
open Go.RowKit
set_option linter.unusedVariables false
set_option linter.unusedSimpArgs false
set_option maxRecDepth 100000

abbrev intsA (l : List Int) : Blk := { mode := .live, elem := 3, size := 1, rows := toC (l.map intRow), box := false, app := true }
abbrev intsO (l : List Int) : Blk := { mode := .old, elem := 3, size := 1, rows := toC (l.map intRow), box := false, app := true }
theorem nextI_of {e : Ev} {bl : List Bool} {m : Nat} {x : Move} (h : e.moves[m]? = some x) : nextI e bl m = pickFrom (nextIs e bl x.dst m) 0 e.moves := by
  unfold nextI; simp [h]
theorem a_nextI (e : Ev) (hs : e.Sized) (bl : List Bool) (m : Int) (h0 : 0 ≤ m) (h1 : m.toNat < e.moves.length) (hb : bl.length = e.moves.length) :
    ACall Try.prog 58 [evS e, intS .i64 m, boolsS bl] [] (intsS (nextI e bl m)) [] := by
  obtain ⟨n, rfl⟩ := Int.eq_ofNat_of_zero_le h0
  obtain ⟨x, hx⟩ : ∃ x, e.moves[n]? = some x := ⟨_, List.getElem?_eq_getElem (by simpa using h1)⟩
  rw [nextI_of hx]
  exact a_next e hs bl n x hx hb
theorem sl3_ok {l h m n : Int} {K : Prop} (h1 : 0 ≤ l) (h2 : l ≤ h) (h3 : m = h) (h4 : h ≤ n) (k : K) : (0 ≤ l ∧ l ≤ h ∧ m = h ∧ h ≤ n) ∧ K := ⟨⟨h1, h2, h3, h4⟩, k⟩
theorem ex_ownN {xs : List Int} {i : Nat} {x : Int} {K : List C → Prop} (hx : xs[i]? = some x) (h : K [C.t (ti x)]) : ∃ row, (toC (xs.map intRow))[i]? = some row ∧ K row :=
  ⟨[C.t (ti x)], by simp [toC, hx, intRow], h⟩
theorem appA_ok {len m n b : Nat} {K : Prop} (h1 : len = m) (h2 : (len + n) * b ≤ 140737488355328) (k : K) : (len = m ∧ (len + n) * b ≤ 140737488355328) ∧ K := ⟨⟨h1, h2⟩, k⟩
theorem ownI_congr {id : Nat} {l : List Int} {n : Nat} (h : n = l.length) : (S.c (.own id 0 n true)) = ownI id l := by rw [h]
theorem a_Path1 (e : Ev) (hs : e.Sized) (fr t : Nat) (bl : List Bool) (hf : fr < e.moves.length) (ht : t < e.moves.length) (hb : bl.length = e.moves.length) (hbf0 : bl.getD fr true = false) :
    ACall Try.prog 31 [evS e, intS .i64 fr, intS .i64 t, boolsS bl] [] (intsS (pathF e bl fr t)) [] := by
  have l1 := hs.s2
  have l2 : (e.moves.map Move.row).length = e.moves.length := by simp
  have l3 : (bl.map boolRow).length = bl.length := by simp
  have f1 := a_fits e fr bl
  have hfit : fitsB e fr bl = true := fits_iff.2 (by omega)
  rw [hfit] at f1
  have f2 := a_fits e t bl
  have hfit2 : fitsB e t bl = true := fits_iff.2 (by omega)
  rw [hfit2] at f2
  have hbx : bl[fr]? = some false := by
    obtain ⟨b, hb⟩ : ∃ b, bl[fr]? = some b := ⟨_, List.getElem?_eq_getElem (by omega)⟩
    rw [List.getD_eq_getElem?_getD, hb] at hbf0
    rw [hb]; exact congrArg some hbf0
  have rp := a_Repeat (-1) (e.moves.map Move.row).length (by omega) (by omega)
  have hN : ((e.moves.map Move.row).length : Int).toNat = e.moves.length := by omega
  rw [hN] at rp
  (refine acall_of tab_ok Try.func31 rfl (by decide) ?_; (conv => whnf); repeat (refine LitB.data ?_; conv => whnf))
  (repeat' (first | ((refine DecB.mk (fun h => ?_) (fun h => ?_)) <;> first | (exfalso; omega) | (conv => whnf)) | ((refine BoolB.mk (fun h => ?_) (fun h => ?_)) <;> first | (exact absurd h (by decide)) | (conv => whnf)) | (refine ⟨_, wrap_ok (by omega) (by omega), ?_⟩; conv => whnf) | (refine and_idx (by omega) (by omega) ?_; conv => whnf) | (refine reg_ok (by decide +kernel) ?_; conv => whnf) | (refine bar_ok (by decide +kernel) (by decide +kernel) ?_; conv => whnf) | (refine late_ok rfl rfl ?_; conv => whnf) | (refine src_ok rfl ?_; conv => whnf) | (refine .inl ⟨_, _, qcall_pure (f1) rfl rfl, ?_⟩; conv => whnf) | (refine .inl ⟨_, _, qcall_pure (f2) rfl rfl, ?_⟩; conv => whnf) | (refine ex_row hbx ?_; conv => whnf) | (refine LitB.data ?_; conv => whnf)))
  refine .inr ⟨_, _, acall_frame (H' := [evB e, intsB (List.replicate e.moves.length (-1))]) [] rp rfl rfl rfl List.nodup_nil (by simp) (by simp) (by simp) rfl rfl rfl ?_ ?_, ?_⟩
  · intro i k hk
    match i, hk with
    | 0, hk =>
      injection hk with hk
      subst hk
      exact ⟨_, rfl, renB_data rfl⟩
  · intro j hj _
    match j, hj with
    | 0, _ => rfl
  conv => whnf
  have hg0 := startQ_good (e := e) (fr := (fr : Int)) (by omega) (by simpa using hf)
  have hst : (startQ e fr).bef = (List.replicate e.moves.length (-1 : Int)).set fr fr := by simp [startQ]
  obtain ⟨a0, ha0⟩ : ∃ a, (List.replicate e.moves.length (-1 : Int))[0 + (fr : Int).toNat]? = some a := ⟨_, List.getElem?_eq_getElem (by simp; omega)⟩
  (repeat' (first | ((refine DecB.mk (fun h => ?_) (fun h => ?_)) <;> first | (exfalso; omega) | (conv => whnf)) | ((refine BoolB.mk (fun h => ?_) (fun h => ?_)) <;> first | (exact absurd h (by decide)) | (conv => whnf)) | (refine ⟨_, wrap_ok (by omega) (by omega), ?_⟩; conv => whnf) | (refine and_idx (by omega) (by omega) ?_; conv => whnf) | (refine reg_ok (by decide +kernel) ?_; conv => whnf) | (refine bar_ok (by decide +kernel) (by decide +kernel) ?_; conv => whnf) | (refine late_ok rfl rfl ?_; conv => whnf) | (refine src_ok rfl ?_; conv => whnf) | (refine LitB.own ?_; conv => whnf) | (refine ex_own ha0 ?_; conv => whnf) | (refine and_idx (by omega) (by simp; omega) ?_; conv => whnf) | (refine LitB.data ?_; conv => whnf)))
  refine awp_while tab_ok (σ := Nat × BQ × Nat) (fun | (f, s, b) => ([S.junk, intS .i64 fr, intS .i64 t, boolsS bl, S.c (C.ptr 0 0 0), S.junk, S.junk, S.junk, S.junk, ownI 1 s.bef, ownI 2 s.que, intS .i64 b, S.junk, S.junk, S.junk, S.junk, S.junk, S.junk, S.junk, S.junk, S.junk, S.junk, S.junk, S.junk, S.junk, S.junk, S.junk, S.junk, S.junk, S.junk, S.junk, S.junk, S.junk, S.junk, S.junk, S.junk, S.junk, S.junk, S.junk, S.junk, S.junk, S.junk, S.junk, S.junk, S.junk, S.junk, S.junk, S.junk, S.junk, S.junk, S.junk, S.junk, S.junk, S.junk, S.junk, S.junk, S.junk, S.junk, S.junk, S.junk, S.junk, S.junk, S.junk, S.junk, S.junk, S.junk, S.junk, S.junk, S.junk, S.junk, S.junk, S.junk, S.junk, S.junk, S.junk, S.junk, S.junk, S.junk, S.junk, S.junk, S.junk, S.junk, S.junk, S.junk, S.junk, S.junk, S.junk, S.junk, S.junk, S.junk, S.junk, S.junk, S.junk, S.junk, S.junk, S.junk, S.junk, S.junk, S.junk, S.junk, S.junk, S.junk, S.junk, S.junk, S.junk, S.junk, S.junk, S.junk, S.junk, S.junk, S.junk, S.junk, S.junk, S.junk, S.junk, S.junk, S.junk, S.junk, S.junk, S.junk, S.junk, S.junk, S.junk, S.junk, S.junk, S.junk, S.junk], [evB e, intsB s.bef, intsA s.que]))
    (fun x => GoodQ e.moves.length fr x.2.1 ∧ foundQ e bl fr t = bfsGo e bl t x.1 x.2.1 x.2.2 ∧ x.2.2 ≤ x.2.1.que.length ∧ e.moves.length < x.1 + x.2.2) (fun x => x.1) (e.moves.length + 1, startQ e fr, 0) [some 0, some 1, some 2]
    ⟨hg0, rfl, by simp, by simp⟩ ⟨rfl, rfl, ⟨⟨rfl, rfl, rfl, .inl ⟨rfl, rowsT_ev e⟩⟩, entB_rows rfl rfl rfl ?_ rfl, entB_rows rfl rfl rfl rfl rfl, trivial⟩, ⟨rfl, rfl, ent_t rfl, ⟨rfl, rfl, rfl⟩, ent_own rfl ?_, ent_own rfl rfl, ent_i rfl, trivial⟩⟩ ?_
  · rw [hst]
    show (toC ((List.replicate e.moves.length (-1)).map intRow)).set (0 + (fr : Int).toNat) [C.t (ti fr)] = _
    rw [show 0 + (fr : Int).toNat = fr by omega]
    simp [toC, intRow, List.map_set]
  · rw [hst]; simp
  rintro ⟨f, s, b⟩ ⟨hg, hbf, hbl, hfb⟩
  have hbl : b ≤ s.que.length := hbl
  have hfb : e.moves.length < f + b := hfb
  have hg : GoodQ e.moves.length fr s := hg
  have hbf : foundQ e bl fr t = bfsGo e bl t f s b := hbf
  have hsl := hg.len
  have hroom := hg.room
  obtain ⟨at0, hat0⟩ : ∃ a, s.bef[0 + (t : Int).toNat]? = some a := ⟨_, List.getElem?_eq_getElem (by omega)⟩
  have hgt : s.bef.getD (t : Int).toNat 0 = at0 := by rw [Nat.zero_add] at hat0; rw [List.getD_eq_getElem?_getD, hat0]; rfl
  conv => whnf
  (repeat' (first | ((refine DecB.mk (fun h => ?_) (fun h => ?_)) <;> first | (exfalso; omega) | (conv => whnf)) | ((refine BoolB.mk (fun h => ?_) (fun h => ?_)) <;> first | (exact absurd h (by decide)) | (conv => whnf)) | (refine ⟨_, wrap_ok (by omega) (by omega), ?_⟩; conv => whnf) | (refine and_idx (by omega) (by omega) ?_; conv => whnf) | (refine reg_ok (by decide +kernel) ?_; conv => whnf) | (refine bar_ok (by decide +kernel) (by decide +kernel) ?_; conv => whnf) | (refine late_ok rfl rfl ?_; conv => whnf) | (refine src_ok rfl ?_; conv => whnf) | (refine ex_own hat0 ?_; conv => whnf) | (refine and_idx (by omega) (by show _ < ((s.bef.length : Nat) : Int); omega) ?_; conv => whnf) | (refine sl3_ok (by omega) (by omega) rfl (by omega) ?_; conv => whnf) | (refine LitB.own ?_; conv => whnf) | (refine LitB.data ?_; conv => whnf)))
  · have hat1 : s.bef.getD (t : Int).toNat 0 = -1 := by rw [hgt]; omega
    have hblt : b < s.que.length := by have := ‹(b : Int) < _›; omega
    obtain ⟨f, rfl⟩ : ∃ k, f = k + 1 := ⟨f - 1, by omega⟩
    rw [bfsGo_go ⟨hblt, hat1⟩] at hbf
    let lev : List Int := s.que.drop b
    have hlev : lev.length = s.que.length - b := by simp [lev]
    let sa : Nat → BQ := fun a => (lev.take a).foldl (visitM e bl) s
    have hga : ∀ a, GoodQ e.moves.length fr (sa a) ∧ ∀ v, OkQ e.moves.length fr s v → OkQ e.moves.length fr (sa a) v := fun a =>
      hg.stepMs (fun m hm => hg.que m (List.mem_of_mem_drop (List.mem_of_mem_take hm)))
    refine awp_for tab_ok (fun a => ([S.junk, intS .i64 fr, intS .i64 t, boolsS bl, S.c (C.ptr 0 0 0), S.junk, S.junk, S.junk, S.junk, ownI 1 (sa a).bef, ownI 2 (sa a).que, intS .i64 s.que.length, S.junk, S.junk, S.junk, S.junk, S.junk, S.junk, S.junk, S.junk, S.junk, S.junk, S.junk, S.junk, S.junk, S.junk, S.junk, S.junk, S.junk, S.junk, S.junk, S.junk, S.junk, S.junk, S.junk, S.junk, S.junk, S.junk, S.junk, S.junk, S.junk, S.junk, S.junk, S.junk, S.junk, S.junk, S.junk, S.junk, S.junk, S.junk, S.junk, S.junk, S.junk, S.junk, S.junk, S.junk, S.junk, S.junk, S.junk, S.junk, S.junk, S.junk, S.junk, S.junk, S.junk, S.junk, S.junk, S.c (C.own 3 b (s.que.length - b) false), intS .i64 ((s.que.length - b : Nat) : Int), intS .i64 a, S.junk, S.junk, S.junk, S.junk, S.junk, S.junk, S.junk, S.junk, S.junk, S.junk, S.junk, S.junk, S.junk, S.junk, S.junk, S.junk, S.junk, S.junk, S.junk, S.junk, S.junk, S.junk, S.junk, S.junk, S.junk, S.junk, S.junk, S.junk, S.junk, S.junk, S.junk, S.junk, S.junk, S.junk, S.junk, S.junk, S.junk, S.junk, S.junk, S.junk, S.junk, S.junk, S.junk, S.junk, S.junk, S.junk, S.junk, S.junk, S.junk, S.junk, S.junk, S.junk, S.junk, S.junk, S.junk, S.junk, S.junk], [evB e, intsB (sa a).bef, intsA (sa a).que, intsO s.que])) (s.que.length - b) (fun k => True) [some 0, some 1, some 2, some 2] trivial
      ⟨rfl, rfl, ⟨⟨rfl, rfl, rfl, .inl ⟨rfl, rowsT_ev e⟩⟩, entB_rows rfl rfl rfl rfl rfl, entB_rows rfl rfl rfl rfl rfl, entB_rows rfl rfl rfl rfl rfl, trivial⟩, ⟨rfl, rfl, ent_t rfl, ⟨rfl, rfl, rfl⟩, ent_own rfl rfl, ent_own rfl rfl, ent_i rfl, ⟨rfl, ?_, ?_, fun h => h⟩, ent_i ?_, ent_i rfl, trivial⟩⟩ ?_
    · show 0 + (b : Int).toNat = b
      omega
    · omega
    · omega
    intro a ha hI
    obtain ⟨hgA, hokA⟩ := hga a
    have hroomA := hgA.room
    conv => whnf
    (repeat' (first | ((refine DecB.mk (fun h => ?_) (fun h => ?_)) <;> first | (exfalso; omega) | (conv => whnf)) | ((refine BoolB.mk (fun h => ?_) (fun h => ?_)) <;> first | (exact absurd h (by decide)) | (conv => whnf)) | (refine ⟨_, wrap_ok (by omega) (by omega), ?_⟩; conv => whnf) | (refine and_idx (by omega) (by omega) ?_; conv => whnf) | (refine reg_ok (by decide +kernel) ?_; conv => whnf) | (refine bar_ok (by decide +kernel) (by decide +kernel) ?_; conv => whnf) | (refine late_ok rfl rfl ?_; conv => whnf) | (refine src_ok rfl ?_; conv => whnf) | (refine LitB.data ?_; conv => whnf)))
    · have hlt : a < s.que.length - b := by omega
      obtain ⟨v, hv⟩ : ∃ v, s.que[b + (a : Int).toNat]? = some v := ⟨_, List.getElem?_eq_getElem (by omega)⟩
      have hva : lev[a]? = some v := by show (s.que.drop b)[a]? = _; rw [List.getElem?_drop, ← hv]; congr 1
      have hvq : v ∈ s.que := List.mem_of_getElem? hv
      have hov := hokA v (hg.que v hvq)
      have hsa1 : sa (a + 1) = visitM e bl (sa a) v := foldl_take_succ hva
      let ks := nextI e bl v
      have nx := a_nextI e hs bl v hov.1 hov.2.1 hb
      let tc : Nat → BQ := fun c => (ks.take c).foldl (visitK v) (sa a)
      have hgc : ∀ c, GoodQ e.moves.length fr (tc c) ∧ ∀ u, OkQ e.moves.length fr (sa a) u → OkQ e.moves.length fr (tc c) u := fun c => hgA.stepKs hov (fun k hk => by
        have := nextI_mem hov.1 (List.mem_of_mem_take hk)
        exact ⟨this.2.1, this.2.2⟩)
      have hkl : ks.length ≤ e.moves.length := by
        show (nextI e bl v).length ≤ _
        unfold nextI
        split
        · exact length_pickFrom _ _ _
        · simp
      have lks : (ks.map intRow).length = ks.length := by simp
      have lks' : (((ks.map intRow).length : Nat) : Int) = (ks.length : Nat) := by rw [lks]
      refine ex_ownN hv ?_
      conv => whnf
      (repeat' (first | ((refine DecB.mk (fun h => ?_) (fun h => ?_)) <;> first | (exfalso; omega) | (conv => whnf)) | ((refine BoolB.mk (fun h => ?_) (fun h => ?_)) <;> first | (exact absurd h (by decide)) | (conv => whnf)) | (refine ⟨_, wrap_ok (by omega) (by omega), ?_⟩; conv => whnf) | (refine and_idx (by omega) (by omega) ?_; conv => whnf) | (refine reg_ok (by decide +kernel) ?_; conv => whnf) | (refine bar_ok (by decide +kernel) (by decide +kernel) ?_; conv => whnf) | (refine late_ok rfl rfl ?_; conv => whnf) | (refine src_ok rfl ?_; conv => whnf) | (refine .inl ⟨_, _, qcall_pure (nx) rfl rfl, ?_⟩; conv => whnf) | (refine LitB.data ?_; conv => whnf)))
      refine awp_for tab_ok (fun c => ([S.junk, intS .i64 fr, intS .i64 t, boolsS bl, S.c (C.ptr 0 0 0), S.junk, S.junk, S.junk, S.junk, ownI 1 (tc c).bef, ownI 2 (tc c).que, intS .i64 s.que.length, S.junk, S.junk, intS .i64 v, S.junk, S.junk, S.junk, S.junk, S.junk, S.junk, S.junk, S.junk, S.junk, S.junk, S.junk, S.junk, S.junk, S.junk, S.junk, S.junk, S.junk, S.junk, S.junk, S.junk, S.junk, S.junk, S.junk, S.junk, S.junk, S.junk, S.junk, S.junk, S.junk, S.junk, S.junk, S.junk, S.junk, S.junk, S.junk, S.junk, S.junk, S.junk, S.junk, S.junk, S.junk, S.junk, S.junk, S.junk, S.junk, S.junk, S.junk, S.junk, S.junk, S.junk, S.junk, S.junk, S.c (C.own 3 b (s.que.length - b) false), intS .i64 ((s.que.length - b : Nat) : Int), intS .i64 a, S.junk, S.junk, S.junk, S.junk, S.junk, S.junk, intsS ks, intS .i64 ks.length, intS .i64 c, S.junk, S.junk, S.junk, S.junk, S.junk, S.junk, S.junk, S.junk, S.junk, S.junk, S.junk, S.junk, S.junk, S.junk, S.junk, S.junk, S.junk, S.junk, S.junk, S.junk, S.junk, S.junk, S.junk, S.junk, S.junk, S.junk, S.junk, S.junk, S.junk, S.junk, S.junk, S.junk, S.junk, S.junk, S.junk, S.junk, S.junk, S.junk, S.junk, S.junk, S.junk, S.junk, S.junk, S.junk, S.junk, S.junk, S.junk, S.junk], [evB e, intsB (tc c).bef, intsA (tc c).que, intsO s.que])) ks.length (fun k => True) [some 0, some 1, some 2, some 3] trivial
        ⟨rfl, rfl, ⟨⟨rfl, rfl, rfl, .inl ⟨rfl, rowsT_ev e⟩⟩, entB_rows rfl rfl rfl rfl rfl, entB_rows rfl rfl rfl rfl rfl, entB_rows rfl rfl rfl rfl rfl, trivial⟩, ⟨rfl, rfl, ent_t rfl, ⟨rfl, rfl, rfl⟩, ent_own rfl rfl, ent_own rfl rfl, ent_i rfl, ent_i rfl, ⟨rfl, rfl, rfl, fun h => h⟩, ent_i rfl, ent_i rfl, ent_t rfl, ent_i lks', ent_i rfl, trivial⟩⟩ ?_
      intro c hc hI
      obtain ⟨hgC, hokC⟩ := hgc c
      have hroomC := hgC.room
      have hlenC := hgC.len
      conv => whnf
      (repeat' (first | ((refine DecB.mk (fun h => ?_) (fun h => ?_)) <;> first | (exfalso; omega) | (conv => whnf)) | ((refine BoolB.mk (fun h => ?_) (fun h => ?_)) <;> first | (exact absurd h (by decide)) | (conv => whnf)) | (refine ⟨_, wrap_ok (by omega) (by omega), ?_⟩; conv => whnf) | (refine and_idx (by omega) (by omega) ?_; conv => whnf) | (refine reg_ok (by decide +kernel) ?_; conv => whnf) | (refine bar_ok (by decide +kernel) (by decide +kernel) ?_; conv => whnf) | (refine late_ok rfl rfl ?_; conv => whnf) | (refine src_ok rfl ?_; conv => whnf) | (refine LitB.data ?_; conv => whnf)))
      · have hlt2 : c < ks.length := by omega
        obtain ⟨k, hk⟩ : ∃ k, ks[c]? = some k := ⟨_, List.getElem?_eq_getElem hlt2⟩
        have hkm := nextI_mem hov.1 (List.mem_of_getElem? hk)
        have htc1 : tc (c + 1) = visitK v (tc c) k := foldl_take_succ hk
        obtain ⟨bk, hbk⟩ : ∃ a, (tc c).bef[0 + k.toNat]? = some a := ⟨_, List.getElem?_eq_getElem (by omega)⟩
        have hgk : (tc c).bef.getD k.toNat 0 = bk := by rw [Nat.zero_add] at hbk; rw [List.getD_eq_getElem?_getD, hbk]; rfl
        (repeat' (first | ((refine DecB.mk (fun h => ?_) (fun h => ?_)) <;> first | (exfalso; omega) | (conv => whnf)) | ((refine BoolB.mk (fun h => ?_) (fun h => ?_)) <;> first | (exact absurd h (by decide)) | (conv => whnf)) | (refine ⟨_, wrap_ok (by omega) (by omega), ?_⟩; conv => whnf) | (refine and_idx (by omega) (by omega) ?_; conv => whnf) | (refine reg_ok (by decide +kernel) ?_; conv => whnf) | (refine bar_ok (by decide +kernel) (by decide +kernel) ?_; conv => whnf) | (refine late_ok rfl rfl ?_; conv => whnf) | (refine src_ok rfl ?_; conv => whnf) | (refine .inl ⟨_, _, qcall_pure (toC) rfl rfl, ?_⟩; conv => whnf) | (refine .inl ⟨_, _, qcall_pure (toC) rfl rfl, ?_⟩; conv => whnf) | (refine ex_row hk ?_; conv => whnf) | (refine ex_own hbk ?_; conv => whnf) | (refine and_idx (by omega) (by show _ < (((tc c).bef.length : Nat) : Int); omega) ?_; conv => whnf) | (refine appA_ok (by simp [toC]) (by simp [toC]; omega) ?_; conv => whnf) | (refine LitB.data ?_; conv => whnf)))
        · have hbk1 : (tc c).bef.getD k.toNat 0 = -1 := by rw [hgk]; assumption
          have hv1 : tc (c + 1) = ⟨(tc c).bef.set k.toNat v, (tc c).que ++ [k]⟩ := by rw [htc1]; unfold visitK; rw [if_pos hbk1]
          refine ⟨hlt2, trivial, [some 0, some 1, some 4, some 3], rfl, rfl, ⟨⟨rfl, rfl, rfl, .inl ⟨rfl, rowsT_ev e⟩⟩, entB_rows rfl rfl rfl ?_ rfl, entB_rows rfl rfl rfl ?_ rfl, entB_rows rfl rfl rfl rfl rfl, trivial⟩, ⟨rfl, rfl, rfl, ⟨rfl, rfl, rfl⟩, ent_own rfl ?_, ent_own rfl ?_, rfl, rfl, ⟨rfl, rfl, rfl, fun h => h⟩, rfl, rfl, rfl, rfl, rfl, trivial⟩⟩
          · rw [hv1]; simp [toC, intRow, List.map_set, setRows]
          · rw [hv1]; simp [toC, intRow, oldBlk, appBlk]
          · rw [hv1]; simp
          · rw [hv1]; simp [toC]
        · have hbk1 : ¬ (tc c).bef.getD k.toNat 0 = -1 := by rw [hgk]; assumption
          have hv1 : tc (c + 1) = tc c := by rw [htc1]; unfold visitK; rw [if_neg hbk1]
          refine ⟨hlt2, trivial, [some 0, some 1, some 2, some 3], rfl, rfl, ⟨⟨rfl, rfl, rfl, .inl ⟨rfl, rowsT_ev e⟩⟩, entB_rows rfl rfl rfl ?_ rfl, entB_rows rfl rfl rfl ?_ rfl, entB_rows rfl rfl rfl rfl rfl, trivial⟩, ⟨rfl, rfl, rfl, ⟨rfl, rfl, rfl⟩, ent_own rfl ?_, ent_own rfl ?_, rfl, rfl, ⟨rfl, rfl, rfl, fun h => h⟩, rfl, rfl, rfl, rfl, rfl, trivial⟩⟩
          all_goals rw [hv1]
      · have hck : tc c = sa (a + 1) := by
          rw [hsa1]
          show (ks.take c).foldl _ _ = ks.foldl _ _
          rw [List.take_of_length_le (by omega)]
        refine ⟨hlt, trivial, [some 0, some 1, some 2, some 3], rfl, rfl, ⟨⟨rfl, rfl, rfl, .inl ⟨rfl, rowsT_ev e⟩⟩, entB_rows rfl rfl rfl ?_ rfl, entB_rows rfl rfl rfl ?_ rfl, entB_rows rfl rfl rfl rfl rfl, trivial⟩, ⟨rfl, rfl, rfl, ⟨rfl, rfl, rfl⟩, ent_own rfl ?_, ent_own rfl ?_, rfl, ⟨rfl, rfl, rfl, fun h => h⟩, rfl, rfl, trivial⟩⟩
        all_goals rw [hck]
    · have hra : sa a = roundQ e bl s b := by
        show (lev.take a).foldl _ _ = lev.foldl _ _
        rw [List.take_of_length_le (by omega)]
      refine ⟨[some 0, some 1, some 2], (f, roundQ e bl s b, s.que.length), ⟨rfl, rfl, ⟨⟨rfl, rfl, rfl, .inl ⟨rfl, rowsT_ev e⟩⟩, entB_rows rfl rfl rfl ?_ rfl, entB_rows rfl rfl rfl ?_ rfl, trivial⟩, ⟨rfl, rfl, rfl, ⟨rfl, rfl, rfl⟩, ent_own rfl ?_, ent_own rfl ?_, rfl, trivial⟩⟩, ⟨hg.stepR b, hbf, visitMs_que, ?_⟩, ?_⟩
      · rw [hra]
      · rw [hra]
      · rw [hra]
      · rw [hra]
      · show e.moves.length < f + s.que.length
        omega
      · show f < f + 1
        omega
  all_goals
    have hfs : foundQ e bl fr t = s := by
      rw [hbf]
      refine bfsGo_stop ?_
      rw [hgt]
      omega
    have hpf : pathF e bl fr t = if at0 = -1 then [] else (backGo s.bef fr (t + 1) t).reverse := by
      unfold pathF
      rw [if_pos ⟨hfit, hfit2, by simpa using hbf0⟩, hfs, hgt]
      rfl
    rw [hpf]
  rotate_left
  · rw [if_pos (by assumption)]
    exact fin_t rfl
  all_goals
    have hat2 : at0 ≠ -1 := by assumption
    have hgt2 : s.bef.getD t 0 ≠ -1 := by have := hgt; simp only [Int.toNat_natCast] at this; rw [this]; exact hat2
    rw [if_neg hat2]
    have hokt : OkQ e.moves.length fr s t := ⟨by omega, by simpa using ht, hg.ge t ht hgt2, by simpa using hgt2⟩
    refine awp_while tab_ok (σ := List Int × Int) (fun | (acc, v) => ([S.junk, intS .i64 fr, S.junk, S.junk, S.junk, S.junk, S.junk, S.junk, S.junk, ownI 0 s.bef, S.junk, S.junk, S.junk, S.junk, S.junk, S.junk, S.junk, ownI 1 (acc ++ [v]), S.junk, S.junk, S.junk, S.junk, S.junk, S.junk, S.junk, S.junk, S.junk, S.junk, S.junk, S.junk, S.junk, S.junk, S.junk, S.junk, S.junk, S.junk, S.junk, S.junk, S.junk, S.junk, S.junk, S.junk, S.junk, S.junk, S.junk, S.junk, S.junk, S.junk, S.junk, S.junk, S.junk, S.junk, S.junk, S.junk, S.junk, S.junk, S.junk, S.junk, S.junk, S.junk, S.junk, S.junk, S.junk, S.junk, S.junk, S.junk, S.junk, S.junk, S.junk, S.junk, S.junk, S.junk, S.junk, S.junk, S.junk, S.junk, S.junk, S.junk, S.junk, S.junk, S.junk, S.junk, S.junk, S.junk, S.junk, S.junk, S.junk, S.junk, S.junk, S.junk, S.junk, S.junk, S.junk, S.junk, S.junk, S.junk, S.junk, S.junk, S.junk, S.junk, S.junk, S.junk, S.junk, S.junk, S.junk, S.junk, S.junk, S.junk, S.junk, S.junk, S.junk, S.junk, S.junk, S.junk, S.junk, S.junk, S.junk, S.junk, S.junk, S.junk, S.junk, S.junk, S.junk, S.junk, S.junk, S.junk, S.junk], [intsB s.bef, intsB (acc ++ [v])])) (fun x => OkQ e.moves.length fr s x.2 ∧ backGo s.bef fr (t + 1) t = x.1 ++ backGo s.bef fr (x.2.toNat + 1) x.2 ∧ x.1.length + x.2.toNat ≤ t) (fun x => x.2.toNat) ([], (t : Int)) [some 1, some 3]
      ⟨hokt, rfl, by simp⟩ ⟨rfl, rfl, ⟨entB_rows rfl rfl rfl rfl rfl, entB_rows rfl rfl rfl rfl rfl, trivial⟩, ⟨rfl, ent_own rfl rfl, ent_own rfl rfl, trivial⟩⟩ ?_
    rintro ⟨acc, v⟩ ⟨hov, hback, hlen⟩
    have hov : OkQ e.moves.length fr s v := hov
    have hback : backGo s.bef fr (t + 1) t = acc ++ backGo s.bef fr (v.toNat + 1) v := hback
    have hlen : acc.length + v.toNat ≤ t := hlen
    have hov1 := hov.1
    have hov2 := hov.2.1
    have hpl : (acc ++ [v]).length = acc.length + 1 := by simp
    have hpv : (acc ++ [v])[0 + ((((acc ++ [v]).length : Nat) : Int) - 1).toNat]? = some v := by
      rw [show 0 + ((((acc ++ [v]).length : Nat) : Int) - 1).toNat = acc.length by omega]; simp
    obtain ⟨u, hu⟩ : ∃ a, s.bef[0 + v.toNat]? = some a := ⟨_, List.getElem?_eq_getElem (by omega)⟩
    conv => whnf
    (repeat' (first | ((refine DecB.mk (fun h => ?_) (fun h => ?_)) <;> first | (exfalso; omega) | (conv => whnf)) | ((refine BoolB.mk (fun h => ?_) (fun h => ?_)) <;> first | (exact absurd h (by decide)) | (conv => whnf)) | (refine ⟨_, wrap_ok (by omega) (by omega), ?_⟩; conv => whnf) | (refine and_idx (by omega) (by omega) ?_; conv => whnf) | (refine reg_ok (by decide +kernel) ?_; conv => whnf) | (refine bar_ok (by decide +kernel) (by decide +kernel) ?_; conv => whnf) | (refine late_ok rfl rfl ?_; conv => whnf) | (refine src_ok rfl ?_; conv => whnf) | (refine .inl ⟨_, _, qcall_pure (toC) rfl rfl, ?_⟩; conv => whnf) | (refine .inl ⟨_, _, qcall_pure (toC) rfl rfl, ?_⟩; conv => whnf) | (refine ex_own hpv ?_; conv => whnf) | (refine ex_own hu ?_; conv => whnf) | (refine app_ok (by simp [toC]) (by simp [toC]; omega) ?_; conv => whnf) | (refine LitB.data ?_; conv => whnf)))
    · have hne : v ≠ fr := by assumption
      have hbv : backGo s.bef fr (v.toNat + 1) v = v :: backGo s.bef fr v.toNat (s.bef.getD v.toNat 0) := by rw [backGo, if_neg hne]
      have hgu : s.bef.getD v.toNat 0 = u := by rw [Nat.zero_add] at hu; rw [List.getD_eq_getElem?_getD, hu]; rfl
      rcases hg.bef v.toNat hov.2.1 hov.2.2.2 with h1 | ⟨h1, h2, h3, h4⟩
      · omega
      · rw [hgu] at h1 h2 h3
        obtain ⟨w, rfl⟩ := Int.eq_ofNat_of_zero_le h1
        refine ⟨[some 0, some 2], (acc ++ [v], (w : Int)), ⟨rfl, rfl, ⟨entB_rows rfl rfl rfl rfl rfl, entB_rows rfl rfl rfl ?_ rfl, trivial⟩, ⟨rfl, ent_own rfl rfl, ent_own rfl ?_, trivial⟩⟩, ⟨⟨h1, by omega, ?_, h3⟩, ?_, ?_⟩, ?_⟩
        · exact toC_app (f := intRow) (xs := acc ++ [v]) (x := (w : Int))
        · simp [toC]
        · exact hg.ge w (by omega) (by simpa using h3)
        · rw [hback, hbv, hgu, List.append_assoc]
          show _ = acc ++ (v :: backGo s.bef fr ((w : Int).toNat + 1) w)
          rw [back_fuel hg w v.toNat ((w : Int).toNat + 1) (by omega) (by simpa using h3) (by omega) (by omega)]
        · show (acc ++ [v]).length + (w : Int).toNat ≤ t
          simp; omega
        · show (w : Int).toNat < v.toNat
          omega
    · have hvf : v = fr := by omega
      subst hvf
      refine .inr ⟨_, _, acall_frame (H' := [intsB s.bef, intsB (acc ++ [(fr : Int)]).reverse]) [1] (a_Reverse (acc ++ [(fr : Int)]) (by omega)) rfl rfl rfl (by decide) ?_ (by simp) (by simp) rfl rfl rfl ?_ ?_, ?_⟩
      · intro i k hk
        match i, hk with
        | 0, hk =>
          injection hk with hk
          subst hk
          exact ⟨rfl, rfl, okRows_toC _, _, rfl, renB_data rfl⟩
      · intro i k hk
        match i, hk with
        | 0, hk =>
          injection hk with hk
          subst hk
          exact ⟨_, rfl, renB_data rfl⟩
      · intro j hj hn
        match j, hj, hn with
        | 0, _, _ => rfl
        | 1, _, hn => simp at hn
      conv => whnf
      (repeat' (first | ((refine DecB.mk (fun h => ?_) (fun h => ?_)) <;> first | (exfalso; omega) | (conv => whnf)) | ((refine BoolB.mk (fun h => ?_) (fun h => ?_)) <;> first | (exact absurd h (by decide)) | (conv => whnf)) | (refine ⟨_, wrap_ok (by omega) (by omega), ?_⟩; conv => whnf) | (refine and_idx (by omega) (by omega) ?_; conv => whnf) | (refine reg_ok (by decide +kernel) ?_; conv => whnf) | (refine bar_ok (by decide +kernel) (by decide +kernel) ?_; conv => whnf) | (refine late_ok rfl rfl ?_; conv => whnf) | (refine src_ok rfl ?_; conv => whnf) | (refine LitB.data ?_; conv => whnf)))
      refine fin_t (ent_view (app := true) rfl rfl (by intro h; cases h) rfl ?_ ?_)
      · rw [hback]
        show toC (((acc ++ [(fr : Int)]).reverse).map intRow) = toC ((acc ++ backGo s.bef fr ((fr : Int).toNat + 1) fr).reverse.map intRow)
        rw [backGo, if_pos rfl]
      · rw [hback, backGo, if_pos rfl]; simp
theorem a_Path (e : Ev) (hs : e.Sized) (fr t : Int) (bl : List Bool) : ACall Try.prog 31 [evS e, intS .i64 fr, intS .i64 t, boolsS bl] [] (intsS (pathF e bl fr t)) [] := by
  have f1 := a_fits e fr bl
  have f2 := a_fits e t bl
  cases hfit : fitsB e fr bl with
  | false =>
    rw [hfit] at f1
    have hp : pathF e bl fr t = [] := by unfold pathF; rw [if_neg (by simp [hfit])]
    rw [hp]
    (refine acall_of tab_ok Try.func31 rfl (by decide) ?_; (conv => whnf); repeat (refine LitB.data ?_; conv => whnf))
    (repeat' (first | ((refine DecB.mk (fun h => ?_) (fun h => ?_)) <;> first | (exfalso; omega) | (conv => whnf)) | ((refine BoolB.mk (fun h => ?_) (fun h => ?_)) <;> first | (exact absurd h (by decide)) | (conv => whnf)) | (refine ⟨_, wrap_ok (by omega) (by omega), ?_⟩; conv => whnf) | (refine and_idx (by omega) (by omega) ?_; conv => whnf) | (refine reg_ok (by decide +kernel) ?_; conv => whnf) | (refine bar_ok (by decide +kernel) (by decide +kernel) ?_; conv => whnf) | (refine late_ok rfl rfl ?_; conv => whnf) | (refine src_ok rfl ?_; conv => whnf) | (refine .inl ⟨_, _, qcall_pure (f1) rfl rfl, ?_⟩; conv => whnf) | (refine LitB.data ?_; conv => whnf)))
    all_goals first | (exfalso; simp_all; done) | exact fin_t rfl
  | true =>
    rw [hfit] at f1
    cases hfit2 : fitsB e t bl with
    | false =>
      rw [hfit2] at f2
      have hp : pathF e bl fr t = [] := by unfold pathF; rw [if_neg (by simp [hfit2])]
      rw [hp]
      (refine acall_of tab_ok Try.func31 rfl (by decide) ?_; (conv => whnf); repeat (refine LitB.data ?_; conv => whnf))
      (repeat' (first | ((refine DecB.mk (fun h => ?_) (fun h => ?_)) <;> first | (exfalso; omega) | (conv => whnf)) | ((refine BoolB.mk (fun h => ?_) (fun h => ?_)) <;> first | (exact absurd h (by decide)) | (conv => whnf)) | (refine ⟨_, wrap_ok (by omega) (by omega), ?_⟩; conv => whnf) | (refine and_idx (by omega) (by omega) ?_; conv => whnf) | (refine reg_ok (by decide +kernel) ?_; conv => whnf) | (refine bar_ok (by decide +kernel) (by decide +kernel) ?_; conv => whnf) | (refine late_ok rfl rfl ?_; conv => whnf) | (refine src_ok rfl ?_; conv => whnf) | (refine .inl ⟨_, _, qcall_pure (f1) rfl rfl, ?_⟩; conv => whnf) | (refine .inl ⟨_, _, qcall_pure (f2) rfl rfl, ?_⟩; conv => whnf) | (refine LitB.data ?_; conv => whnf)))
      all_goals first | (exfalso; simp_all; done) | exact fin_t rfl
    | true =>
      rw [hfit2] at f2
      obtain ⟨⟨h1, h2⟩, h3⟩ := fits_iff.1 hfit
      obtain ⟨⟨h4, h5⟩, _⟩ := fits_iff.1 hfit2
      obtain ⟨n, rfl⟩ := Int.eq_ofNat_of_zero_le h1
      obtain ⟨q, rfl⟩ := Int.eq_ofNat_of_zero_le h4
      obtain ⟨b, hb⟩ : ∃ b, bl[n]? = some b := ⟨_, List.getElem?_eq_getElem (by omega)⟩
      have hg : bl.getD n true = b := by rw [List.getD_eq_getElem?_getD, hb]; rfl
      cases b with
      | false => exact a_Path1 e hs n q bl (by omega) (by omega) (by omega) hg
      | true =>
        have hp : pathF e bl n q = [] := by unfold pathF; rw [if_neg (by simp only [Int.toNat_natCast, hg]; simp)]
        rw [hp]
        (refine acall_of tab_ok Try.func31 rfl (by decide) ?_; (conv => whnf); repeat (refine LitB.data ?_; conv => whnf))
        (repeat' (first | ((refine DecB.mk (fun h => ?_) (fun h => ?_)) <;> first | (exfalso; omega) | (conv => whnf)) | ((refine BoolB.mk (fun h => ?_) (fun h => ?_)) <;> first | (exact absurd h (by decide)) | (conv => whnf)) | (refine ⟨_, wrap_ok (by omega) (by omega), ?_⟩; conv => whnf) | (refine and_idx (by omega) (by omega) ?_; conv => whnf) | (refine reg_ok (by decide +kernel) ?_; conv => whnf) | (refine bar_ok (by decide +kernel) (by decide +kernel) ?_; conv => whnf) | (refine late_ok rfl rfl ?_; conv => whnf) | (refine src_ok rfl ?_; conv => whnf) | (refine .inl ⟨_, _, qcall_pure (f1) rfl rfl, ?_⟩; conv => whnf) | (refine .inl ⟨_, _, qcall_pure (f2) rfl rfl, ?_⟩; conv => whnf) | (refine ex_row hb ?_; conv => whnf) | (refine LitB.data ?_; conv => whnf)))
        all_goals first | (exfalso; simp_all; done) | exact fin_t rfl
end Go.Proofs.Ythjgbjakpbfnoaa
/- The reference's better, Paths, Path. -/
namespace Go.Proofs.Ythjgbjakpbfnoaa
open Go.RowKit
set_option linter.unusedVariables false
set_option linter.unusedSimpArgs false
set_option maxRecDepth 100000

def lexB : List Int → List Int → Bool
  | x :: a, y :: b => if x = y then lexB a b else decide (x < y)
  | _, _ => false
def betterB (a b : List Int) : Bool := if b = [] ∨ a.length ≠ b.length then decide (b = []) || decide (a.length < b.length) else lexB a b
theorem lexB_take {a b : List Int} : ∀ k, a.take k = b.take k → lexB a b = lexB (a.drop k) (b.drop k) := by
  intro k
  induction k generalizing a b with
  | zero => intro _; rfl
  | succ k ih =>
    intro h
    cases a with
    | nil => cases b with
      | nil => rfl
      | cons y b => simp at h
    | cons x a => cases b with
      | nil => simp at h
      | cons y b =>
        simp at h
        obtain ⟨rfl, h⟩ := h
        rw [lexB, if_pos rfl, ih h]
        rfl
theorem a_better (a b : List Int) (ha : a.length ≤ 1000000) (hb : b.length ≤ 1000000) : ACall Try.prog 65 [intsS a, intsS b] [] (boolS (betterB a b)) [] := by
  have l1 : (a.map intRow).length = a.length := by simp
  have l2 : (b.map intRow).length = b.length := by simp
  have hb0 : (b = []) ↔ b.length = 0 := by simp
  have hbd : decide (b = []) = decide (b.length = 0) := by simp
  by_cases hc : b = [] ∨ a.length ≠ b.length
  · (refine acall_of tab_ok Try.func65 rfl (by decide) ?_; (conv => whnf); repeat (refine LitB.data ?_; conv => whnf))
    (repeat' (first | ((refine DecB.mk (fun h => ?_) (fun h => ?_)) <;> first | (exfalso; omega) | (conv => whnf)) | ((refine BoolB.mk (fun h => ?_) (fun h => ?_)) <;> first | (exact absurd h (by decide)) | (conv => whnf)) | (refine ⟨_, wrap_ok (by omega) (by omega), ?_⟩; conv => whnf) | (refine and_idx (by omega) (by omega) ?_; conv => whnf) | (refine reg_ok (by decide +kernel) ?_; conv => whnf) | (refine bar_ok (by decide +kernel) (by decide +kernel) ?_; conv => whnf) | (refine late_ok rfl rfl ?_; conv => whnf) | (refine src_ok rfl ?_; conv => whnf) | (refine LitB.data ?_; conv => whnf)))
    all_goals first
      | (refine fin_bool ?_; unfold betterB; rw [if_pos hc, hbd]; clear hb0 hbd hc; generalize (a.map intRow).length = la1 at *; generalize (b.map intRow).length = lb1 at *; generalize b.length = lb at *; generalize a.length = la at *; subst l1 l2; simp; omega)
      | (exfalso; rw [hb0] at hc; omega)
  · have hl : a.length = b.length := by rw [hb0] at hc; omega
    (refine acall_of tab_ok Try.func65 rfl (by decide) ?_; (conv => whnf); repeat (refine LitB.data ?_; conv => whnf))
    (repeat' (first | ((refine DecB.mk (fun h => ?_) (fun h => ?_)) <;> first | (exfalso; omega) | (conv => whnf)) | ((refine BoolB.mk (fun h => ?_) (fun h => ?_)) <;> first | (exact absurd h (by decide)) | (conv => whnf)) | (refine ⟨_, wrap_ok (by omega) (by omega), ?_⟩; conv => whnf) | (refine and_idx (by omega) (by omega) ?_; conv => whnf) | (refine reg_ok (by decide +kernel) ?_; conv => whnf) | (refine bar_ok (by decide +kernel) (by decide +kernel) ?_; conv => whnf) | (refine late_ok rfl rfl ?_; conv => whnf) | (refine src_ok rfl ?_; conv => whnf) | (refine LitB.data ?_; conv => whnf)))
    all_goals try (exfalso; rw [hb0] at hc; omega)
    refine awp_for tab_ok (fun k => ([intsS a, intsS b, S.junk, S.junk, S.junk, intS .i64 k, S.junk, S.junk, S.junk, S.junk, S.junk, S.junk, S.junk, S.junk, S.junk, S.junk, S.junk, S.junk, S.junk, S.junk, S.junk, S.junk, S.junk, S.junk, S.junk, S.junk, S.junk, S.junk, S.junk, S.junk, S.junk, S.junk, S.junk, S.junk, S.junk, S.junk, S.junk, S.junk, S.junk, S.junk, S.junk, S.junk, S.junk, S.junk, S.junk, S.junk, S.junk, S.junk, S.junk, S.junk], [])) a.length (fun k => a.take k = b.take k) [] rfl
      ⟨rfl, rfl, trivial, ⟨ent_t rfl, ent_t rfl, ent_i rfl, trivial⟩⟩ ?_
    intro k hk hI
    conv => whnf
    (repeat' (first | ((refine DecB.mk (fun h => ?_) (fun h => ?_)) <;> first | (exfalso; omega) | (conv => whnf)) | ((refine BoolB.mk (fun h => ?_) (fun h => ?_)) <;> first | (exact absurd h (by decide)) | (conv => whnf)) | (refine ⟨_, wrap_ok (by omega) (by omega), ?_⟩; conv => whnf) | (refine and_idx (by omega) (by omega) ?_; conv => whnf) | (refine reg_ok (by decide +kernel) ?_; conv => whnf) | (refine bar_ok (by decide +kernel) (by decide +kernel) ?_; conv => whnf) | (refine late_ok rfl rfl ?_; conv => whnf) | (refine src_ok rfl ?_; conv => whnf) | (refine LitB.data ?_; conv => whnf)))
    · have hlt : k < a.length := by omega
      obtain ⟨x, hx⟩ : ∃ x, a[k]? = some x := ⟨_, List.getElem?_eq_getElem hlt⟩
      obtain ⟨y, hy⟩ : ∃ y, b[k]? = some y := ⟨_, List.getElem?_eq_getElem (by omega)⟩
      have hda : a.drop k = x :: a.drop (k + 1) := by
        rw [List.drop_eq_getElem_cons hlt]; congr 1; exact (List.getElem?_eq_some_iff.1 hx).2
      have hdb : b.drop k = y :: b.drop (k + 1) := by
        rw [List.drop_eq_getElem_cons (by omega)]; congr 1; exact (List.getElem?_eq_some_iff.1 hy).2
      have hbt : betterB a b = if x = y then lexB (a.drop (k + 1)) (b.drop (k + 1)) else decide (x < y) := by
        unfold betterB; rw [if_neg hc, lexB_take k hI, hda, hdb, lexB]
      (repeat' (first | ((refine DecB.mk (fun h => ?_) (fun h => ?_)) <;> first | (exfalso; omega) | (conv => whnf)) | ((refine BoolB.mk (fun h => ?_) (fun h => ?_)) <;> first | (exact absurd h (by decide)) | (conv => whnf)) | (refine ⟨_, wrap_ok (by omega) (by omega), ?_⟩; conv => whnf) | (refine and_idx (by omega) (by omega) ?_; conv => whnf) | (refine reg_ok (by decide +kernel) ?_; conv => whnf) | (refine bar_ok (by decide +kernel) (by decide +kernel) ?_; conv => whnf) | (refine late_ok rfl rfl ?_; conv => whnf) | (refine src_ok rfl ?_; conv => whnf) | (refine ex_row hx ?_; conv => whnf) | (refine ex_row hy ?_; conv => whnf) | (refine LitB.data ?_; conv => whnf)))
      all_goals first
        | (refine fin_bool ?_; rw [hbt, if_neg (by omega)]; simp; omega)
        | (have hxy : x = y := by omega
           refine ⟨hlt, ?_, [], rfl, rfl, trivial, ⟨ent_t rfl, ent_t rfl, rfl, trivial⟩⟩
           rw [take_snoc hx, take_snoc hy, hI, hxy])
    · refine fin_bool ?_
      unfold betterB
      rw [if_neg hc, lexB_take k hI, List.drop_eq_nil_of_le (by omega), List.drop_eq_nil_of_le (by omega)]
      rfl
end Go.Proofs.Ythjgbjakpbfnoaa
/- Breadth first, level by level: the first path that is found is the best one. No program is in sight. -/
namespace Go.Proofs.Ythjgbjakpbfnoaa
set_option linter.unusedVariables false
set_option linter.unusedSimpArgs false

def lastI (p : List Int) : Int := p.getLast?.getD 0
theorem lastI_snoc {p : List Int} {k : Int} : lastI (p ++ [k]) = k := by simp [lastI]
/-- shorter, or as long and lexicographically less -/
def ltP (p q : List Int) : Prop := p.length < q.length ∨ (p.length = q.length ∧ lexB p q = true)
theorem lexB_irrefl : ∀ p, lexB p p = false
  | [] => rfl
  | x :: p => by rw [lexB, if_pos rfl]; exact lexB_irrefl p
theorem lexB_snoc {a b : Int} : ∀ {p q : List Int}, lexB p q = true → lexB (p ++ [a]) (q ++ [b]) = true
  | x :: p, y :: q, h => by
    rw [lexB] at h
    show lexB (x :: (p ++ [a])) (y :: (q ++ [b])) = true
    rw [lexB]
    split at h
    · rename_i hxy; rw [if_pos hxy]; exact lexB_snoc h
    · rename_i hxy; rw [if_neg hxy]; exact h
  | [], _, h => by cases h
  | _ :: _, [], h => by cases h
theorem lexB_last {a b : Int} (h : a < b) : ∀ p, lexB (p ++ [a]) (p ++ [b]) = true
  | [] => by show lexB [a] [b] = true; rw [lexB, if_neg (by omega)]; simpa using h
  | x :: p => by show lexB (x :: (p ++ [a])) (x :: (p ++ [b])) = true; rw [lexB, if_pos rfl]; exact lexB_last h p
theorem lexB_total : ∀ {p q : List Int}, p.length = q.length → p = q ∨ lexB p q = true ∨ lexB q p = true
  | [], [], _ => .inl rfl
  | x :: p, y :: q, h => by
    by_cases hxy : x = y
    · subst hxy
      rcases lexB_total (p := p) (q := q) (by simpa using h) with h | h | h
      · exact .inl (by rw [h])
      · exact .inr (.inl (by rw [lexB, if_pos rfl]; exact h))
      · exact .inr (.inr (by rw [lexB, if_pos rfl]; exact h))
    · rcases Int.lt_or_gt_of_ne hxy with hlt | hgt
      · exact .inr (.inl (by rw [lexB, if_neg hxy]; simpa using hlt))
      · exact .inr (.inr (by rw [lexB, if_neg (Ne.symm hxy)]; simpa using hgt))
  | [], _ :: _, h => by simp at h
  | _ :: _, [], h => by simp at h
theorem lexB_asymm : ∀ {p q : List Int}, lexB p q = true → lexB q p = false
  | x :: p, y :: q, h => by
    rw [lexB] at h ⊢
    split at h
    · rename_i hxy; rw [if_pos hxy.symm]; exact lexB_asymm h
    · rename_i hxy; rw [if_neg (Ne.symm hxy)]; simp at h ⊢; omega
  | [], _, h => by cases h
  | _ :: _, [], h => by cases h
theorem lexB_trans : ∀ {p q r : List Int}, lexB p q = true → lexB q r = true → lexB p r = true
  | x :: p, y :: q, z :: r, h, h' => by
    rw [lexB] at h h' ⊢
    split at h
    · rename_i hxy
      split at h'
      · rename_i hyz; rw [if_pos (hxy.trans hyz)]; exact lexB_trans h h'
      · rename_i hyz; rw [if_neg (by rw [hxy]; exact hyz)]; simp at h' ⊢; omega
    · rename_i hxy
      split at h'
      · rename_i hyz; rw [if_neg (by rw [← hyz]; exact hxy)]; simp at h ⊢; omega
      · rename_i hyz; simp at h h'; rw [if_neg (by omega)]; simp; omega
  | [], _, _, h, _ => by cases h
  | _ :: _, [], _, h, _ => by cases h
  | _ :: _, _ :: _, [], _, h => by cases h
theorem ltP_irrefl {p : List Int} : ¬ ltP p p := by
  rintro (h | ⟨_, h⟩)
  · omega
  · rw [lexB_irrefl] at h; cases h
theorem ltP_asymm {p q : List Int} (h : ltP p q) : ¬ ltP q p := by
  rintro (h' | ⟨h1, h'⟩)
  · rcases h with h | ⟨h, _⟩ <;> omega
  · rcases h with h | ⟨_, h⟩
    · omega
    · rw [lexB_asymm h] at h'; cases h'
theorem ltP_trans {p q r : List Int} (h : ltP p q) (h' : ltP q r) : ltP p r := by
  rcases h with h | ⟨h1, h2⟩
  · rcases h' with h' | ⟨h', _⟩ <;> exact .inl (by omega)
  · rcases h' with h' | ⟨h3, h4⟩
    · exact .inl (by omega)
    · exact .inr ⟨by omega, lexB_trans h2 h4⟩
theorem ltP_snoc {p q : List Int} {a b : Int} (h : ltP p q) : ltP (p ++ [a]) (q ++ [b]) := by
  rcases h with h | ⟨h1, h2⟩
  · exact .inl (by simp; exact h)
  · exact .inr ⟨by simp [h1], lexB_snoc h2⟩
theorem ltP_last {p : List Int} {a b : Int} (h : a < b) : ltP (p ++ [a]) (p ++ [b]) := .inr ⟨by simp, lexB_last h p⟩
theorem ltP_total (p q : List Int) : p = q ∨ ltP p q ∨ ltP q p := by
  rcases Nat.lt_trichotomy p.length q.length with h | h | h
  · exact .inr (.inl (.inl h))
  · rcases lexB_total h with h' | h' | h'
    · exact .inl h'
    · exact .inr (.inl (.inr ⟨h, h'⟩))
    · exact .inr (.inr (.inr ⟨h.symm, h'⟩))
  · exact .inr (.inr (.inl h))

/-- the paths from fr on -/
inductive Pa (fr : Int) (nxt : Int → List Int) : List Int → Prop
  | one : Pa fr nxt [fr]
  | snoc {p : List Int} {k : Int} (h : Pa fr nxt p) (hk : k ∈ nxt (lastI p)) : Pa fr nxt (p ++ [k])

def seenP (ps : List (List Int)) (k : Int) : Bool := ps.any fun q => decide (lastI q = k)
def visitPs (p : List Int) (ps : List (List Int)) (k : Int) : List (List Int) := if seenP ps k = true then ps else ps ++ [p ++ [k]]
theorem seenP_iff {ps : List (List Int)} {k : Int} : seenP ps k = true ↔ ∃ q ∈ ps, lastI q = k := by
  unfold seenP
  rw [List.any_eq_true]
  constructor
  · rintro ⟨q, h1, h2⟩; exact ⟨q, h1, by simpa using h2⟩
  · rintro ⟨q, h1, h2⟩; exact ⟨q, h1, by simpa using h2⟩

section
variable {fr : Int} {nxt : Int → List Int}
theorem Pa.pos {p : List Int} (h : Pa fr nxt p) : 0 < p.length := by cases h <;> simp
theorem snoc_inj {p q : List Int} {a b : Int} (h : p ++ [a] = q ++ [b]) : p = q ∧ a = b := by
  have := List.append_inj' h rfl
  exact ⟨this.1, by simpa using this.2⟩
theorem Pa.inv {p : List Int} {k : Int} (hp : p ≠ []) (h : Pa fr nxt (p ++ [k])) : Pa fr nxt p ∧ k ∈ nxt (lastI p) := by
  generalize hq : p ++ [k] = q at h
  cases h with
  | one =>
    have := congrArg List.length hq
    simp at this
    exact absurd this hp
  | snoc h hk =>
    obtain ⟨rfl, rfl⟩ := snoc_inj hq
    exact ⟨h, hk⟩
theorem Pa.ge (hgt : ∀ m k, k ∈ nxt m → m < k) {p : List Int} (h : Pa fr nxt p) : fr ≤ lastI p := by
  induction h with
  | one => simp [lastI]
  | snoc h hk ih => rw [lastI_snoc]; have := hgt _ _ hk; omega

/-- what stays true while paths are found: of those before b all that follow are there, of the b-th one those in ds -/
structure JJ (fr : Int) (nxt : Int → List Int) (ps : List (List Int)) (b : Nat) (ds : List Int) : Prop where
  from0 : [fr] ∈ ps
  pa : ∀ p ∈ ps, Pa fr nxt p
  srt : ps.Pairwise ltP
  dist : ps.Pairwise fun p q => lastI p ≠ lastI q
  don : ∀ (j : Nat) (p : List Int), j < b → ps[j]? = some p → ∀ k ∈ nxt (lastI p), ∃ q ∈ ps, lastI q = k ∧ (q = p ++ [k] ∨ ltP q (p ++ [k]))
  dcur : ∀ (p : List Int), ps[b]? = some p → ∀ k ∈ ds, ∃ q ∈ ps, lastI q = k ∧ (q = p ++ [k] ∨ ltP q (p ++ [k]))
  par : ∀ q ∈ ps, q = [fr] ∨ ∃ (j : Nat) (p : List Int) (k : Int), ps[j]? = some p ∧ q = p ++ [k] ∧ (j < b ∨ (j = b ∧ k ∈ ds))
theorem pair_get {α : Type} {R : α → α → Prop} {l : List α} (h : l.Pairwise R) {i j : Nat} {x y : α} (hi : l[i]? = some x) (hj : l[j]? = some y) (hij : i < j) : R x y := by
  obtain ⟨h1, rfl⟩ := List.getElem?_eq_some_iff.1 hi
  obtain ⟨h2, rfl⟩ := List.getElem?_eq_some_iff.1 hj
  exact List.pairwise_iff_getElem.1 h i j h1 h2 hij
theorem JJ.step (hgt : ∀ m k, k ∈ nxt m → m < k) {ps : List (List Int)} {b : Nat} {ds : List Int} (h : JJ fr nxt ps b ds) {p : List Int} (hb : ps[b]? = some p) {k : Int} (hk : k ∈ nxt (lastI p)) (hd : ∀ d ∈ ds, d < k) :
    JJ fr nxt (visitPs p ps k) b (ds ++ [k]) := by
  have hp := h.pa p (List.mem_of_getElem? hb)
  have hblt := (List.getElem?_eq_some_iff.1 hb).1
  have hfk : fr < k := by have := hp.ge hgt; have := hgt _ _ hk; omega
  have hcmp : ∀ q ∈ ps, ltP q (p ++ [k]) ∨ q = p ++ [k] ∨ (∃ k', q = p ++ [k'] ∧ k' ∈ ds) ∨ q = [fr] := fun q hq => by
    rcases h.par q hq with rfl | ⟨j, p', k', hj, rfl, hjb | ⟨rfl, hjd⟩⟩
    · exact .inr (.inr (.inr rfl))
    · exact .inl (ltP_snoc (pair_get h.srt hj hb hjb))
    · rw [hb] at hj
      injection hj with hj
      subst hj
      exact .inr (.inr (.inl ⟨k', rfl, hjd⟩))
  unfold visitPs
  split
  · rename_i hs
    obtain ⟨q, hq, hqk⟩ := seenP_iff.1 hs
    refine ⟨h.from0, h.pa, h.srt, h.dist, h.don, ?_, ?_⟩
    · intro p' hp' k' hk'
      rw [hb] at hp'
      injection hp' with hp'
      subst hp'
      rcases List.mem_append.1 hk' with hk' | hk'
      · exact h.dcur p hb k' hk'
      · simp at hk'
        subst hk'
        refine ⟨q, hq, hqk, ?_⟩
        rcases hcmp q hq with h1 | h1 | ⟨k2, rfl, h1⟩ | rfl
        · exact .inr h1
        · exact .inl h1
        · rw [lastI_snoc] at hqk; subst hqk; exact .inl rfl
        · simp [lastI] at hqk; omega
    · intro q hq
      rcases h.par q hq with h1 | ⟨j, p', k', hj, h2, h3⟩
      · exact .inl h1
      · exact .inr ⟨j, p', k', hj, h2, h3.imp id fun h => ⟨h.1, List.mem_append.2 (.inl h.2)⟩⟩
  · rename_i hs
    have hns : ∀ q ∈ ps, lastI q ≠ k := fun q hq hqk => hs (seenP_iff.2 ⟨q, hq, hqk⟩)
    have hget : ∀ (j : Nat) (x : List Int), ps[j]? = some x → (ps ++ [p ++ [k]])[j]? = some x := fun j x hj => by
      rw [List.getElem?_append_left (List.getElem?_eq_some_iff.1 hj).1]; exact hj
    have hget' : ∀ (j : Nat) (x : List Int), j ≤ b → (ps ++ [p ++ [k]])[j]? = some x → ps[j]? = some x := fun j x hjb hj => by
      rwa [List.getElem?_append_left (by omega)] at hj
    refine ⟨List.mem_append.2 (.inl h.from0), ?_, ?_, ?_, ?_, ?_, ?_⟩
    · intro q hq
      rcases List.mem_append.1 hq with hq | hq
      · exact h.pa q hq
      · simp at hq; subst hq; exact .snoc hp hk
    · refine List.pairwise_append.2 ⟨h.srt, by simp, fun q hq r hr => ?_⟩
      simp at hr
      subst hr
      rcases hcmp q hq with h1 | h1 | ⟨k2, rfl, h1⟩ | rfl
      · exact h1
      · subst h1; exact absurd lastI_snoc (hns _ hq)
      · exact ltP_last (hd _ h1)
      · exact .inl (by have := hp.pos; simp; omega)
    · refine List.pairwise_append.2 ⟨h.dist, by simp, fun q hq r hr => ?_⟩
      simp at hr
      subst hr
      rw [lastI_snoc]
      exact hns q hq
    · intro j x hj hx k' hk'
      obtain ⟨q, h1, h2⟩ := h.don j x hj (hget' j x (by omega) hx) k' hk'
      exact ⟨q, List.mem_append.2 (.inl h1), h2⟩
    · intro x hx0 k' hk'
      have hx := hget' b x (Nat.le_refl _) hx0
      clear hx0
      rcases List.mem_append.1 hk' with hk' | hk'
      · obtain ⟨q, h1, h2⟩ := h.dcur x hx k' hk'
        exact ⟨q, List.mem_append.2 (.inl h1), h2⟩
      · simp at hk'
        subst hk'
        rw [hb] at hx
        injection hx with hx
        subst hx
        exact ⟨_, List.mem_append.2 (.inr (by simp)), lastI_snoc, .inl rfl⟩
    · intro q hq
      rcases List.mem_append.1 hq with hq | hq
      · rcases h.par q hq with h1 | ⟨j, p', k', hj, h2, h3⟩
        · exact .inl h1
        · exact .inr ⟨j, p', k', hget _ _ hj, h2, h3.imp id fun h => ⟨h.1, List.mem_append.2 (.inl h.2)⟩⟩
      · simp at hq
        subst hq
        exact .inr ⟨b, p, k, hget _ _ hb, rfl, .inr ⟨rfl, List.mem_append.2 (.inr (by simp))⟩⟩
theorem visitPs_ext (p : List Int) (ps : List (List Int)) (k : Int) : ∃ X, visitPs p ps k = ps ++ X := by
  unfold visitPs
  split
  · exact ⟨[], by simp⟩
  · exact ⟨_, rfl⟩
theorem visitKsP_ext (p : List Int) : ∀ (ks : List Int) (ps : List (List Int)), ∃ X, ks.foldl (visitPs p) ps = ps ++ X
  | [], ps => ⟨[], by simp⟩
  | k :: ks, ps => by
    obtain ⟨X, hX⟩ := visitPs_ext p ps k
    obtain ⟨Y, hY⟩ := visitKsP_ext p ks (visitPs p ps k)
    exact ⟨X ++ Y, by rw [List.foldl_cons, hY, hX, List.append_assoc]⟩
theorem JJ.all (hgt : ∀ m k, k ∈ nxt m → m < k) (hasc : ∀ m, (nxt m).Pairwise (· < ·)) {b : Nat} {p : List Int} : ∀ (ks ds : List Int) {ps : List (List Int)}, nxt (lastI p) = ds ++ ks → JJ fr nxt ps b ds → ps[b]? = some p → JJ fr nxt (ks.foldl (visitPs p) ps) b (ds ++ ks)
  | [], ds, ps, hn, h, hb => by simpa using h
  | k :: ks, ds, ps, hn, h, hb => by
    have h1 := h.step hgt hb (k := k) (by rw [hn]; simp) (fun d hd => by
      have := hasc (lastI p)
      rw [hn] at this
      exact (List.pairwise_append.1 this).2.2 d hd k (by simp))
    obtain ⟨X, hX⟩ := visitPs_ext p ps k
    have := JJ.all hgt hasc ks (ds ++ [k]) (by rw [hn]; simp) h1 (by rw [hX, List.getElem?_append_left (List.getElem?_eq_some_iff.1 hb).1]; exact hb)
    simpa using this
def visitP1 (nxt : Int → List Int) (ps : List (List Int)) (p : List Int) : List (List Int) := (nxt (lastI p)).foldl (visitPs p) ps
theorem JJ.next (hgt : ∀ m k, k ∈ nxt m → m < k) (hasc : ∀ m, (nxt m).Pairwise (· < ·)) {b : Nat} {p : List Int} {ps : List (List Int)} (h : JJ fr nxt ps b []) (hb : ps[b]? = some p) : JJ fr nxt (visitP1 nxt ps p) (b + 1) [] := by
  have h1 := JJ.all hgt hasc (nxt (lastI p)) [] rfl h hb
  obtain ⟨X, hX⟩ := visitKsP_ext p (nxt (lastI p)) ps
  have hb' : (visitP1 nxt ps p)[b]? = some p := by unfold visitP1; rw [hX, List.getElem?_append_left (List.getElem?_eq_some_iff.1 hb).1]; exact hb
  refine ⟨h1.from0, h1.pa, h1.srt, h1.dist, ?_, fun _ _ k hk => (by cases hk), fun q hq => ?_⟩
  · intro j x hj hx k hk
    by_cases hjb : j = b
    · subst hjb
      rw [hb'] at hx
      injection hx with hx
      subst hx
      exact h1.dcur p hb' k (by simpa using hk)
    · exact h1.don j x (by omega) hx k hk
  · rcases h1.par q hq with h2 | ⟨j, p', k', hj, h2, h3⟩
    · exact .inl h2
    · exact .inr ⟨j, p', k', hj, h2, .inl (by omega)⟩
theorem JJ.run (hgt : ∀ m k, k ∈ nxt m → m < k) (hasc : ∀ m, (nxt m).Pairwise (· < ·)) : ∀ (l : List (List Int)) {ps : List (List Int)} {b : Nat}, (∀ i p, l[i]? = some p → ps[b + i]? = some p) → JJ fr nxt ps b [] →
    JJ fr nxt (l.foldl (visitP1 nxt) ps) (b + l.length) [] ∧ ∃ X, l.foldl (visitP1 nxt) ps = ps ++ X
  | [], ps, b, _, h => ⟨by simpa using h, [], by simp⟩
  | p :: l, ps, b, hl, h => by
    have hb := hl 0 p rfl
    obtain ⟨X, hX⟩ := visitKsP_ext p (nxt (lastI p)) ps
    obtain ⟨h1, Y, hY⟩ := JJ.run hgt hasc l (ps := visitP1 nxt ps p) (b := b + 1) (fun i q hi => by
      have := hl (i + 1) q (by simpa using hi)
      unfold visitP1
      rw [hX, List.getElem?_append_left (by have := (List.getElem?_eq_some_iff.1 this).1; omega), show b + 1 + i = b + (i + 1) by omega]
      exact this) (h.next hgt hasc hb)
    refine ⟨?_, X ++ Y, ?_⟩
    · rw [List.foldl_cons, List.length_cons, show b + (l.length + 1) = b + 1 + l.length by omega]; exact h1
    · rw [List.foldl_cons, hY]
      unfold visitP1
      rw [hX, List.append_assoc]
def roundP (nxt : Int → List Int) (ps : List (List Int)) (b : Nat) : List (List Int) := (ps.drop b).foldl (visitP1 nxt) ps
/-- the lengths of the paths -/
def Lev (ps : List (List Int)) (b L : Nat) : Prop := ∀ (j : Nat) (p : List Int), ps[j]? = some p → (j < b → p.length < L) ∧ (b ≤ j → p.length = L)
theorem JJ.round (hgt : ∀ m k, k ∈ nxt m → m < k) (hasc : ∀ m, (nxt m).Pairwise (· < ·)) {ps : List (List Int)} {b L : Nat} (h : JJ fr nxt ps b []) (hb : b ≤ ps.length) (hl : Lev ps b L) :
    JJ fr nxt (roundP nxt ps b) ps.length [] ∧ Lev (roundP nxt ps b) ps.length (L + 1) ∧ ps.length ≤ (roundP nxt ps b).length := by
  obtain ⟨h1, X, hX⟩ := JJ.run hgt hasc (ps.drop b) (ps := ps) (b := b) (fun i p hi => by rwa [List.getElem?_drop] at hi) h
  rw [List.length_drop, show b + (ps.length - b) = ps.length by omega] at h1
  have hX' : roundP nxt ps b = ps ++ X := hX
  have h1' : JJ fr nxt (roundP nxt ps b) ps.length [] := h1
  refine ⟨h1', ?_, by rw [hX']; simp⟩
  intro j p hj
  refine ⟨fun hjl => ?_, fun hjl => ?_⟩
  · rw [hX', List.getElem?_append_left hjl] at hj
    obtain ⟨q1, q2⟩ := hl j p hj
    rcases Nat.lt_or_ge j b with hlt | hge
    · have := q1 hlt; omega
    · have := q2 hge; omega
  · have hpm := List.mem_of_getElem? hj
    have hold : ∀ (i : Nat) (q : List Int), ps[i]? = some q → (roundP nxt ps b)[i]? = some q := fun i q hi => by
      rw [hX', List.getElem?_append_left (List.getElem?_eq_some_iff.1 hi).1]; exact hi
    have hclash : ∀ q ∈ ps, lastI q ≠ lastI p := fun q hq => by
      obtain ⟨i, hi⟩ := List.mem_iff_getElem?.1 hq
      exact pair_get h1'.dist (hold i q hi) hj (by have := (List.getElem?_eq_some_iff.1 hi).1; omega)
    rcases h1'.par p hpm with rfl | ⟨i, q, k, hi, rfl, hib | ⟨_, hk⟩⟩
    · exact absurd rfl (hclash _ h.from0)
    · have hi' : ps[i]? = some q := by rwa [hX', List.getElem?_append_left hib] at hi
      have hqp := (h.pa q (List.mem_of_getElem? hi')).pos
      have hk := ((h1'.pa _ hpm).inv (by intro e; subst e; simp at hqp)).2
      obtain ⟨q1, q2⟩ := hl i q hi'
      rcases Nat.lt_or_ge i b with hlt | hge
      · obtain ⟨q3, h3, h4, _⟩ := h.don i q hlt hi' k hk
        exact absurd (by rw [h4, lastI_snoc]) (hclash q3 h3)
      · have := q2 hge
        simp; omega
    · cases hk
/-- at the end: the path that was found is the best one; or there is none -/
theorem JJ.found {ps : List (List Int)} {b L : Nat} {t : Int} (h : JJ fr nxt ps b []) (hl : Lev ps b L) {p : List Int} (hp : p ∈ ps) (ht : lastI p = t) : ∀ q, Pa fr nxt q → lastI q = t → p = q ∨ ltP p q := by
  have key : ∀ q, Pa fr nxt q → (∃ p ∈ ps, lastI p = lastI q ∧ (p = q ∨ ltP p q)) ∨ L < q.length := by
    intro q hq
    induction hq with
    | one => exact .inl ⟨_, h.from0, rfl, .inl rfl⟩
    | @snoc q k hq hk ih =>
      rcases ih with ⟨r, hr, h1, h2⟩ | h1
      · obtain ⟨j, hj⟩ := List.mem_iff_getElem?.1 hr
        rcases Nat.lt_or_ge j b with hlt | hge
        · obtain ⟨r2, h3, h4, h5⟩ := h.don j r hlt hj k (by rw [h1]; exact hk)
          refine .inl ⟨r2, h3, by rw [h4, lastI_snoc], ?_⟩
          have h6 : r ++ [k] = q ++ [k] ∨ ltP (r ++ [k]) (q ++ [k]) := h2.imp (fun h => by rw [h]) ltP_snoc
          rcases h5 with rfl | h5
          · exact h6
          · rcases h6 with h6 | h6
            · rw [← h6]; exact .inr h5
            · exact .inr (ltP_trans h5 h6)
        · refine .inr ?_
          have hL := (hl j r hj).2 hge
          rcases h2 with rfl | h2 | ⟨h2, _⟩ <;> simp <;> omega
      · exact .inr (by simp; omega)
  intro q hq hqt
  rcases key q hq with ⟨r, hr, h1, h2⟩ | h1
  · have : r = p := by
      obtain ⟨i, hi⟩ := List.mem_iff_getElem?.1 hr
      obtain ⟨j, hj⟩ := List.mem_iff_getElem?.1 hp
      rcases Nat.lt_trichotomy i j with hlt | heq | hgt
      · exact absurd (by rw [h1, hqt, ht]) (pair_get h.dist hi hj hlt)
      · subst heq; rw [hi] at hj; injection hj
      · exact absurd (by rw [h1, hqt, ht]) (pair_get h.dist hj hi hgt)
    subst this
    exact h2
  · obtain ⟨j, hj⟩ := List.mem_iff_getElem?.1 hp
    obtain ⟨q1, q2⟩ := hl j p hj
    refine .inr (.inl ?_)
    rcases Nat.lt_or_ge j b with hlt | hge
    · have := q1 hlt; omega
    · have := q2 hge; omega
theorem JJ.none {ps : List (List Int)} {b : Nat} {t : Int} (h : JJ fr nxt ps b []) (hb : ps.length ≤ b) (ht : ∀ p ∈ ps, lastI p ≠ t) : ∀ q, Pa fr nxt q → lastI q ≠ t := by
  have key : ∀ q, Pa fr nxt q → ∃ p ∈ ps, lastI p = lastI q := by
    intro q hq
    induction hq with
    | one => exact ⟨_, h.from0, rfl⟩
    | @snoc q k hq hk ih =>
      obtain ⟨r, hr, h1⟩ := ih
      obtain ⟨j, hj⟩ := List.mem_iff_getElem?.1 hr
      obtain ⟨r2, h3, h4, _⟩ := h.don j r (by have := (List.getElem?_eq_some_iff.1 hj).1; omega) hj k (by rw [h1]; exact hk)
      exact ⟨r2, h3, by rw [h4, lastI_snoc]⟩
  intro q hq hqt
  obtain ⟨p, h1, h2⟩ := key q hq
  exact ht p h1 (h2.trans hqt)
theorem JJ.start : JJ fr nxt [[fr]] 0 [] := ⟨(by simp), (by simp; exact .one), (by simp), (by simp), (fun j p h => by omega), (fun _ _ k hk => by cases hk), (by simp)⟩
end
end Go.Proofs.Ythjgbjakpbfnoaa
/- The search of package reach finds the best path. -/
namespace Go.Proofs.Ythjgbjakpbfnoaa
open Go.RowKit
set_option linter.unusedVariables false
set_option linter.unusedSimpArgs false

theorem pickFrom_pair {α : Type} (P : Nat → α → Bool) : ∀ (l : List α) (n : Nat), (pickFrom P n l).Pairwise (· < ·) ∧ ∀ x ∈ pickFrom P n l, (n : Int) ≤ x
  | [], n => by simp [pickFrom]
  | y :: l, n => by
    obtain ⟨h1, h2⟩ := pickFrom_pair P l (n + 1)
    unfold pickFrom
    split
    · refine ⟨List.pairwise_cons.2 ⟨fun x hx => by have := h2 x hx; omega, h1⟩, fun x hx => ?_⟩
      rcases List.mem_cons.1 hx with rfl | hx
      · omega
      · have := h2 x hx; omega
    · exact ⟨h1, fun x hx => by have := h2 x hx; omega⟩
theorem nextI_asc {e : Ev} {bl : List Bool} (m : Int) : (nextI e bl m).Pairwise (· < ·) := by
  unfold nextI
  split
  · exact (pickFrom_pair _ _ _).1
  · simp
theorem nextI_gt {e : Ev} {bl : List Bool} (m k : Int) (h : k ∈ nextI e bl m) : m < k := by
  unfold nextI at h
  split at h
  · obtain ⟨i, z, hz, hP, rfl⟩ := mem_pickFrom.1 h
    simp [nextIs] at hP
    omega
  · cases h
theorem back_set {n : Nat} {fr : Int} {s : BQ} (h : GoodQ n fr s) {k : Nat} {m : Int} (hk : s.bef.getD k 0 = -1) (hkn : k < n) : ∀ (f : Nat) (v : Nat), v < n → s.bef.getD v 0 ≠ -1 → backGo (s.bef.set k m) fr f v = backGo s.bef fr f v
  | 0, _, _, _ => rfl
  | f + 1, v, hv, hb => by
    have hvk : v ≠ k := by rintro rfl; exact hb hk
    unfold backGo
    by_cases hfr : (v : Int) = fr
    · rw [if_pos hfr, if_pos hfr]
    · rw [if_neg hfr, if_neg hfr]
      congr 1
      rw [Int.toNat_natCast, getD_set_eq (by rw [h.len]; exact hkn), if_neg hvk]
      rcases h.bef v hv hb with h1 | ⟨h1, h2, h3, h4⟩
      · exact absurd h1.1 hfr
      · obtain ⟨w, hw⟩ := Int.eq_ofNat_of_zero_le h1
        rw [hw] at h2 h3 ⊢
        exact back_set h hk hkn f w (by omega) (by simpa using h3)
/-- what was found, and the paths that led to it -/
structure RelQ (n : Nat) (fr : Int) (s : BQ) (ps : List (List Int)) : Prop where
  que : s.que = ps.map lastI
  vis : ∀ k, k < n → (s.bef.getD k 0 = -1 ↔ seenP ps k = false)
  tree : ∀ p ∈ ps, 0 ≤ lastI p ∧ (lastI p).toNat < n ∧ backGo s.bef fr ((lastI p).toNat + 1) (lastI p) = p.reverse
theorem seenP_snoc {ps : List (List Int)} {p : List Int} {k j : Int} : seenP (ps ++ [p ++ [k]]) j = (seenP ps j || decide (k = j)) := by
  unfold seenP
  rw [List.any_append]
  simp [lastI_snoc]
theorem RelQ.step {e : Ev} {bl : List Bool} {fr : Int} {s : BQ} {ps : List (List Int)} (hg : GoodQ e.moves.length fr s) (h : RelQ e.moves.length fr s ps) {p : List Int} (hp : p ∈ ps) {k : Int} (hk : k ∈ nextI e bl (lastI p)) :
    RelQ e.moves.length fr (visitK (lastI p) s k) (visitPs p ps k) := by
  obtain ⟨h0, h1, h2⟩ := h.tree p hp
  obtain ⟨k0, k1, k2⟩ := nextI_mem h0 hk
  have hov : OkQ e.moves.length fr s (lastI p) := hg.que _ (by rw [h.que]; exact List.mem_map.2 ⟨p, hp, rfl⟩)
  obtain ⟨kn, rfl⟩ := Int.eq_ofNat_of_zero_le k0
  rw [Int.toNat_natCast] at k1
  have hv := h.vis kn k1
  unfold visitK visitPs
  rw [Int.toNat_natCast]
  by_cases hb : s.bef.getD kn 0 = -1
  · rw [if_pos hb, if_neg (by rw [hv.1 hb]; decide)]
    obtain ⟨m, hm⟩ := Int.eq_ofNat_of_zero_le h0
    rw [hm] at h2 h1 k2 ⊢
    rw [hm] at hov
    rw [Int.toNat_natCast] at h1 h2
    have hbm : s.bef.getD m 0 ≠ -1 := by simpa using hov.2.2.2
    refine ⟨?_, ?_, ?_⟩
    · show s.que ++ [(kn : Int)] = _
      rw [h.que, List.map_append]; simp [lastI_snoc]
    · intro j hj
      show (s.bef.set kn (m : Int)).getD j 0 = -1 ↔ _
      rw [getD_set_eq (by rw [hg.len]; exact k1), seenP_snoc]
      by_cases hjk : j = kn
      · subst hjk
        rw [if_pos rfl]
        simp
      · rw [if_neg hjk, h.vis j hj]
        have : decide ((kn : Int) = (j : Int)) = false := by simp; omega
        rw [this, Bool.or_false]
    · intro q hq
      rcases List.mem_append.1 hq with hq | hq
      · obtain ⟨q0, q1, q2⟩ := h.tree q hq
        refine ⟨q0, q1, ?_⟩
        have hoq : OkQ e.moves.length fr s (lastI q) := hg.que _ (by rw [h.que]; exact List.mem_map.2 ⟨q, hq, rfl⟩)
        obtain ⟨v, hvq⟩ := Int.eq_ofNat_of_zero_le q0
        rw [hvq] at q1 q2 ⊢
        rw [hvq] at hoq
        show backGo (s.bef.set kn (m : Int)) fr _ _ = _
        rw [back_set hg hb k1 _ v (by simpa using q1) (by simpa using hoq.2.2.2)]
        exact q2
      · simp at hq
        subst hq
        rw [lastI_snoc]
        refine ⟨by omega, by simpa using k1, ?_⟩
        show backGo (s.bef.set kn (m : Int)) fr _ _ = _
        have hfr : ¬ (kn : Int) = fr := by have := hov.2.2.1; omega
        rw [backGo, if_neg hfr, List.reverse_append]
        show _ = (kn : Int) :: p.reverse
        congr 1
        rw [Int.toNat_natCast, getD_set_eq (by rw [hg.len]; exact k1), if_pos rfl, back_set hg hb k1 _ m h1 hbm, back_fuel hg m kn (m + 1) h1 hbm (by omega) (by omega)]
        exact h2
  · have hs : seenP ps kn = true := by
      cases hq : seenP ps kn with
      | true => rfl
      | false => exact absurd (hv.2 hq) hb
    rw [if_neg hb, if_pos hs]
    exact h
theorem RelQ.ks {e : Ev} {bl : List Bool} {fr : Int} {p : List Int} : ∀ (ks : List Int) {s : BQ} {ps : List (List Int)}, GoodQ e.moves.length fr s → RelQ e.moves.length fr s ps → p ∈ ps → (∀ k ∈ ks, k ∈ nextI e bl (lastI p)) →
    GoodQ e.moves.length fr (ks.foldl (visitK (lastI p)) s) ∧ RelQ e.moves.length fr (ks.foldl (visitK (lastI p)) s) (ks.foldl (visitPs p) ps)
  | [], s, ps, hg, h, _, _ => ⟨hg, h⟩
  | k :: ks, s, ps, hg, h, hp, hk => by
    have hov : OkQ e.moves.length fr s (lastI p) := hg.que _ (by rw [h.que]; exact List.mem_map.2 ⟨p, hp, rfl⟩)
    have hkm := nextI_mem hov.1 (hk k (by simp))
    obtain ⟨X, hX⟩ := visitPs_ext p ps k
    exact RelQ.ks ks (hg.stepK hov.1 hov.2.1 hov.2.2.2 hkm.2.1 hkm.2.2 hov.2.2.1) (h.step hg hp (hk k (by simp))) (by rw [hX]; exact List.mem_append.2 (.inl hp)) (fun k' hk' => hk k' (by simp [hk']))
theorem RelQ.run {e : Ev} {bl : List Bool} {fr : Int} : ∀ (l : List (List Int)) {s : BQ} {ps : List (List Int)}, GoodQ e.moves.length fr s → RelQ e.moves.length fr s ps → (∀ p ∈ l, p ∈ ps) →
    GoodQ e.moves.length fr ((l.map lastI).foldl (visitM e bl) s) ∧ RelQ e.moves.length fr ((l.map lastI).foldl (visitM e bl) s) (l.foldl (visitP1 (nextI e bl)) ps)
  | [], s, ps, hg, h, _ => ⟨hg, h⟩
  | p :: l, s, ps, hg, h, hl => by
    obtain ⟨h1, h2⟩ := RelQ.ks (bl := bl) (nextI e bl (lastI p)) hg h (hl p (by simp)) (fun k hk => hk)
    obtain ⟨X, hX⟩ := visitKsP_ext p (nextI e bl (lastI p)) ps
    exact RelQ.run l h1 h2 (fun q hq => by
      unfold visitP1; rw [hX]; exact List.mem_append.2 (.inl (hl q (by simp [hq]))))
theorem RelQ.round {e : Ev} {bl : List Bool} {fr : Int} {s : BQ} {ps : List (List Int)} (hg : GoodQ e.moves.length fr s) (h : RelQ e.moves.length fr s ps) (b : Nat) :
    GoodQ e.moves.length fr (roundQ e bl s b) ∧ RelQ e.moves.length fr (roundQ e bl s b) (roundP (nextI e bl) ps b) := by
  have := RelQ.run (bl := bl) (ps.drop b) hg h (fun p hp => List.mem_of_mem_drop hp)
  unfold roundQ roundP
  rw [h.que, ← List.map_drop]
  exact this
theorem bfs_spec {e : Ev} {bl : List Bool} {fr t : Int} (ht : t.toNat < e.moves.length) (ht0 : 0 ≤ t) : ∀ (f : Nat) (s : BQ) (ps : List (List Int)) (b L : Nat), GoodQ e.moves.length fr s → RelQ e.moves.length fr s ps → JJ fr (nextI e bl) ps b [] → Lev ps b L → b ≤ ps.length → e.moves.length < f + b →
    ∃ ps' b' L', GoodQ e.moves.length fr (bfsGo e bl t f s b) ∧ RelQ e.moves.length fr (bfsGo e bl t f s b) ps' ∧ JJ fr (nextI e bl) ps' b' [] ∧ Lev ps' b' L' ∧ (seenP ps' t = true ∨ ps'.length ≤ b')
  | 0, s, ps, b, L, hg, h, hj, hl, hb, hf => by
    have h1 := hg.room
    rw [h.que, List.length_map] at h1
    omega
  | f + 1, s, ps, b, L, hg, h, hj, hl, hb, hf => by
    have hlen : s.que.length = ps.length := by rw [h.que, List.length_map]
    by_cases hc : b < s.que.length ∧ s.bef.getD t.toNat 0 = -1
    · rw [bfsGo_go hc]
      obtain ⟨h1, h2⟩ := h.round hg (bl := bl) b
      obtain ⟨h3, h4, h5⟩ := hj.round nextI_gt nextI_asc hb hl
      rw [hlen]
      exact bfs_spec ht ht0 f _ _ _ _ h1 h2 h3 h4 h5 (by omega)
    · rw [bfsGo_stop hc]
      refine ⟨ps, b, L, hg, h, hj, hl, ?_⟩
      by_cases hbl : b < ps.length
      · left
        have hv := h.vis t.toNat ht
        rw [Int.toNat_of_nonneg ht0] at hv
        cases hq : seenP ps t with
        | true => rfl
        | false => exact absurd ⟨by omega, hv.2 hq⟩ hc
      · right; omega
theorem startQ_rel {e : Ev} {fr : Int} (h0 : 0 ≤ fr) (h1 : fr.toNat < e.moves.length) : RelQ e.moves.length fr (startQ e fr) [[fr]] := by
  have hl : fr.toNat < (List.replicate e.moves.length (-1 : Int)).length := by simpa using h1
  refine ⟨by simp [startQ, lastI], fun k hk => ?_, fun p hp => ?_⟩
  · unfold startQ
    simp only [getD_set_eq hl]
    by_cases hkf : k = fr.toNat
    · rw [if_pos hkf]
      have e1 : (k : Int) = fr := by omega
      simp [seenP, lastI, e1]
      omega
    · rw [if_neg hkf]
      have e1 : ¬ fr = (k : Int) := by omega
      simp [seenP, lastI, e1, List.getD_eq_getElem?_getD, List.getElem?_replicate, hk]
  · simp at hp
    subst hp
    have e1 : lastI [fr] = fr := rfl
    rw [e1]
    refine ⟨h0, h1, ?_⟩
    rw [backGo, if_pos rfl]; rfl
/-- what Path returns is the best path; or there is none -/
theorem pathF_spec {e : Ev} {bl : List Bool} {fr t : Int} (hf : fitsB e fr bl = true) (ht : fitsB e t bl = true) (hb : bl.getD fr.toNat true = false) :
    (Pa fr (nextI e bl) (pathF e bl fr t) ∧ lastI (pathF e bl fr t) = t ∧ ∀ q, Pa fr (nextI e bl) q → lastI q = t → pathF e bl fr t = q ∨ ltP (pathF e bl fr t) q) ∨ (pathF e bl fr t = [] ∧ ∀ q, Pa fr (nextI e bl) q → lastI q ≠ t) := by
  have f1 : (0 ≤ fr ∧ fr < e.moves.length) ∧ (bl.length : Int) = e.moves.length := by simpa [fitsB] using hf
  have f2 : (0 ≤ t ∧ t < e.moves.length) ∧ (bl.length : Int) = e.moves.length := by simpa [fitsB] using ht
  obtain ⟨ps, b, L, hg, hr, hj, hl, hs⟩ := bfs_spec (e := e) (bl := bl) (fr := fr) (t := t) (by omega) f2.1.1 (e.moves.length + 1) (startQ e fr) [[fr]] 0 1 (startQ_good f1.1.1 (by omega)) (startQ_rel f1.1.1 (by omega)) JJ.start
    (fun j p hj => ⟨fun h => by omega, fun _ => by
      match j, hj with
      | 0, hj => simp at hj; subst hj; rfl⟩) (by simp) (by omega)
  have hv := hr.vis t.toNat (by omega)
  rw [Int.toNat_of_nonneg f2.1.1] at hv
  have hpf : pathF e bl fr t = if (bfsGo e bl t (e.moves.length + 1) (startQ e fr) 0).bef.getD t.toNat 0 = -1 then [] else (backGo (bfsGo e bl t (e.moves.length + 1) (startQ e fr) 0).bef fr (t.toNat + 1) t).reverse := by
    unfold pathF foundQ; rw [if_pos ⟨hf, ht, hb⟩]
  cases hq : seenP ps t with
  | true =>
    left
    obtain ⟨p, hp, hpt⟩ := seenP_iff.1 hq
    have hne : ¬ (bfsGo e bl t (e.moves.length + 1) (startQ e fr) 0).bef.getD t.toNat 0 = -1 := fun h => by rw [hv.1 h] at hq; cases hq
    have htr := (hr.tree p hp).2.2
    rw [hpt] at htr
    have hpp : pathF e bl fr t = p := by rw [hpf, if_neg hne, htr, List.reverse_reverse]
    rw [hpp]
    exact ⟨hj.pa p hp, hpt, hj.found hl hp hpt⟩
  | false =>
    right
    refine ⟨by rw [hpf, if_pos (hv.2 hq)], hj.none ?_ ?_⟩
    · rcases hs with h | h
      · rw [hq] at h; cases h
      · exact h
    · intro p hp hpt
      have := seenP_iff.2 ⟨p, hp, hpt⟩
      rw [hq] at this; cases this
end Go.Proofs.Ythjgbjakpbfnoaa
/- The reference's search: the best path from a move to each one, as a function. -/
namespace Go.Proofs.Ythjgbjakpbfnoaa
open Go.RowKit
set_option linter.unusedVariables false
set_option linter.unusedSimpArgs false

def stepB (e : Ev) (i k : Nat) : Bool := match e.moves[i]?, e.moves[k]? with
  | some u, some v => decide (i < k) && decide (v.src = u.dst) && clearB e u.dst i k
  | _, _ => false
def innerStep (e : Ev) (k : Nat) (b : List (List Int)) (i : Nat) : List (List Int) :=
  if b.getD i [] = [] ∨ stepB e i k = false then b else if betterB (b.getD i [] ++ [(k : Int)]) (b.getD k []) = true then b.set k (b.getD i [] ++ [(k : Int)]) else b
def innerTo (e : Ev) (fr k : Nat) (b : List (List Int)) (c : Nat) : List (List Int) := (List.range c).foldl (fun b j => innerStep e k b (fr + j)) b
def outerStep (e : Ev) (bl : List Bool) (fr : Nat) (b : List (List Int)) (k : Nat) : List (List Int) :=
  if bl.getD k true = true then b else innerTo e fr k (if k = fr then b.set k [(k : Int)] else b) (k - fr)
def refTo (e : Ev) (bl : List Bool) (fr c : Nat) : List (List Int) := (List.range c).foldl (fun b j => outerStep e bl fr b (fr + j)) (List.replicate e.moves.length [])
def refPaths (e : Ev) (bl : List Bool) (fr : Nat) : List (List Int) := refTo e bl fr (e.moves.length - fr)
def refPath (e : Ev) (bl : List Bool) (fr t : Int) : List Int :=
  if fitsB e fr bl = true ∧ fitsB e t bl = true then (refPaths e bl fr.toNat).getD t.toNat [] else []

theorem range_foldl_succ {α : Type} {f : α → Nat → α} {s : α} {c : Nat} : (List.range (c + 1)).foldl f s = f ((List.range c).foldl f s) c := by
  rw [List.range_succ, List.foldl_append]; rfl
theorem innerTo_succ {e : Ev} {fr k c : Nat} {b : List (List Int)} : innerTo e fr k b (c + 1) = innerStep e k (innerTo e fr k b c) (fr + c) := range_foldl_succ
theorem refTo_succ {e : Ev} {bl : List Bool} {fr c : Nat} : refTo e bl fr (c + 1) = outerStep e bl fr (refTo e bl fr c) (fr + c) := range_foldl_succ
/-- how many lists there are, and how long they are -/
structure ShortP (n : Nat) (b : List (List Int)) : Prop where
  len : b.length = n
  short : ∀ j, (b.getD j []).length ≤ j + 1
theorem getD_setL {b : List (List Int)} {k j : Nat} {p : List Int} (hk : k < b.length) : (b.set k p).getD j [] = if j = k then p else b.getD j [] := by
  rw [List.getD_eq_getElem?_getD, List.getD_eq_getElem?_getD]
  by_cases h : j = k
  · subst h; rw [List.getElem?_set_self hk, if_pos rfl]; rfl
  · rw [List.getElem?_set_ne (Ne.symm h), if_neg h]
theorem ShortP.set {n k : Nat} {b : List (List Int)} {p : List Int} (h : ShortP n b) (hk : k < n) (hp : p.length ≤ k + 1) : ShortP n (b.set k p) := by
  refine ⟨by simpa using h.len, fun j => ?_⟩
  rw [getD_setL (by rw [h.len]; exact hk)]
  split
  · rename_i hj; subst hj; exact hp
  · exact h.short j
theorem ShortP.inner {e : Ev} {n k i : Nat} {b : List (List Int)} (h : ShortP n b) (hk : k < n) (hi : i < k) : ShortP n (innerStep e k b i) := by
  unfold innerStep
  split
  · exact h
  · split
    · exact h.set hk (by have := h.short i; rw [List.length_append, List.length_singleton]; omega)
    · exact h
theorem ShortP.innerTo {e : Ev} {n fr k : Nat} {b : List (List Int)} (h : ShortP n b) (hk : k < n) : ∀ c, fr + c ≤ k → ShortP n (innerTo e fr k b c)
  | 0, _ => h
  | c + 1, hc => by
    rw [innerTo_succ]
    exact (ShortP.innerTo h hk c (by omega)).inner hk (by omega)
theorem ShortP.outer {e : Ev} {bl : List Bool} {n fr k : Nat} {b : List (List Int)} (h : ShortP n b) (hk : k < n) (hf : fr ≤ k) : ShortP n (outerStep e bl fr b k) := by
  unfold outerStep
  split
  · exact h
  · refine ShortP.innerTo ?_ hk _ (by omega)
    split
    · exact h.set hk (by simp)
    · exact h
theorem ShortP.refTo {e : Ev} {bl : List Bool} {fr : Nat} : ∀ c, fr + c ≤ e.moves.length → ShortP e.moves.length (refTo e bl fr c)
  | 0, _ => ⟨by simp [Go.Proofs.Ythjgbjakpbfnoaa.refTo], fun j => by simp [Go.Proofs.Ythjgbjakpbfnoaa.refTo, List.getD_eq_getElem?_getD, List.getElem?_replicate]; split <;> simp⟩
  | c + 1, hc => by
    rw [refTo_succ]
    exact (ShortP.refTo c (by omega)).outer (by omega) (by omega)
end Go.Proofs.Ythjgbjakpbfnoaa
/- The reference's Paths. -/
namespace Go.Proofs.Ythjgbjakpbfnoaa
open Go.RowKit
set_option linter.unusedVariables false
set_option linter.unusedSimpArgs false
set_option maxRecDepth 100000

theorem entL_ts {ρ : List (Option Nat)} {H : Hp} : ∀ l : List T, EntL ρ H (l.map C.t) (l.map C.t)
  | [] => trivial
  | x :: r => ⟨weak_refl x, entL_ts r⟩
theorem entR_refl {ρ : List (Option Nat)} {H : Hp} : ∀ R : List (List T), EntR ρ H (toC R) (toC R)
  | [] => trivial
  | r :: R => ⟨entL_ts r, entR_refl R⟩
theorem entR_set {ρ : List (Option Nat)} {H : Hp} {x y : C} (h : EntC ρ H x y) : ∀ {A B : List (List C)} (k : Nat), EntR ρ H A B → EntR ρ H (A.set k [x]) (B.set k [y])
  | [], [], _, _ => trivial
  | a :: A, b :: B, 0, hr => ⟨⟨h, trivial⟩, hr.2⟩
  | a :: A, b :: B, k + 1, hr => ⟨hr.1, entR_set h k hr.2⟩
  | [], _ :: _, _, hr => hr.elim
  | _ :: _, [], _, hr => hr.elim
theorem entR_rep {ρ : List (Option Nat)} {H : Hp} {x y : C} (h : EntC ρ H x y) : ∀ n, EntR ρ H (List.replicate n [x]) (List.replicate n [y])
  | 0 => trivial
  | n + 1 => ⟨⟨h, trivial⟩, entR_rep h n⟩
def bestRow (p : List Int) : List T := [intsT p]
abbrev bestB (L : List (List Int)) : Blk := { mode := .live, elem := 35, size := 1, rows := toC (L.map bestRow), box := false }
theorem ex_best {L : List (List Int)} {i : Nat} {p : List Int} {K : List C → Prop} (hx : L[i]? = some p) (h : K [C.t (intsT p)]) : ∃ row, (toC (L.map bestRow))[i]? = some row ∧ K row :=
  ⟨[C.t (intsT p)], by simp [toC, hx, bestRow], h⟩
theorem toC_best_set {L : List (List Int)} {k : Nat} {p : List Int} : toC ((L.set k p).map bestRow) = (toC (L.map bestRow)).set k [C.t (intsT p)] := by
  simp [toC, bestRow, List.map_set]
theorem a_Paths (e : Ev) (hs : e.Sized) (fr : Nat) (bl : List Bool) (hf : fr < e.moves.length) (hb : bl.length = e.moves.length) :
    ACall Try.prog 62 [evS e, intS .i64 fr, boolsS bl] [] (.c (.t (.sl 1 .any ((refPaths e bl fr).map bestRow)))) [] := by
  have l1 := hs.s2
  have l2 : (e.moves.map Move.row).length = e.moves.length := by simp
  have l3 : (bl.map boolRow).length = bl.length := by simp
  (refine acall_of tab_ok Try.func62 rfl (by decide) ?_; (conv => whnf); repeat (refine LitB.data ?_; conv => whnf))
  (repeat' (first | ((refine DecB.mk (fun h => ?_) (fun h => ?_)) <;> first | (exfalso; omega) | (conv => whnf)) | ((refine BoolB.mk (fun h => ?_) (fun h => ?_)) <;> first | (exact absurd h (by decide)) | (conv => whnf)) | (refine ⟨_, wrap_ok (by omega) (by omega), ?_⟩; conv => whnf) | (refine and_idx (by omega) (by omega) ?_; conv => whnf) | (refine reg_ok (by decide +kernel) ?_; conv => whnf) | (refine bar_ok (by decide +kernel) (by decide +kernel) ?_; conv => whnf) | (refine late_ok rfl rfl ?_; conv => whnf) | (refine src_ok rfl ?_; conv => whnf) | (refine mk_ok (by omega) (by omega) (by omega) (by decide) ?_; conv => whnf) | (refine LitB.data ?_; conv => whnf)))
  refine awp_for tab_ok (fun c => ([S.junk, intS .i64 fr, boolsS bl, S.c (C.ptr 0 0 0), S.junk, S.junk, S.junk, S.c (C.own 1 0 e.moves.length true), intS .i64 ((fr + c : Nat) : Int), S.junk, S.junk, S.junk, S.junk, S.junk, S.junk, S.junk, S.junk, S.junk, S.junk, S.junk, S.junk, S.junk, S.junk, S.junk, S.junk, S.junk, S.junk, S.junk, S.junk, S.junk, S.junk, S.junk, S.junk, S.junk, S.junk, S.junk, S.junk, S.junk, S.junk, S.junk, S.junk, S.junk, S.junk, S.junk, S.junk, S.junk, S.junk, S.junk, S.junk, S.junk, S.junk, S.junk, S.junk, S.junk, S.junk, S.junk, S.junk, S.junk, S.junk, S.junk, S.junk, S.junk, S.junk, S.junk, S.junk, S.junk, S.junk, S.junk, S.junk, S.junk, S.junk, S.junk, S.junk, S.junk], [evB e, bestB (refTo e bl fr c)])) (e.moves.length - fr) (fun k => True) [some 0, some 1] trivial
    ⟨rfl, rfl, ⟨⟨rfl, rfl, rfl, .inl ⟨rfl, rowsT_ev e⟩⟩, ⟨rfl, rfl, rfl, .inr ?_⟩, trivial⟩, ⟨rfl, ent_t rfl, ⟨rfl, rfl, rfl⟩, ⟨rfl, rfl, ?_, fun h => h⟩, ent_i rfl, trivial⟩⟩ ?_
  · have e1 : ((e.moves.map Move.row).length : Int).toNat = e.moves.length := by omega
    have e2 : toC ((refTo e bl fr 0).map bestRow) = List.replicate e.moves.length [C.t (intsT [])] := by simp [refTo, toC, bestRow]
    show EntR _ _ (List.replicate ((e.moves.map Move.row).length : Int).toNat [C.t (.sl 0 .nil [])]) (toC ((refTo e bl fr 0).map bestRow))
    rw [e1, e2]
    exact entR_rep (x := .t (.sl 0 .nil [])) (y := .t (intsT [])) rfl _
  · omega
  intro c hc hI
  have hsh := ShortP.refTo (e := e) (bl := bl) (fr := fr) c (by omega)
  generalize hbest : refTo e bl fr c = best at *
  have hbl := hsh.len
  conv => whnf
  (repeat' (first | ((refine DecB.mk (fun h => ?_) (fun h => ?_)) <;> first | (exfalso; omega) | (conv => whnf)) | ((refine BoolB.mk (fun h => ?_) (fun h => ?_)) <;> first | (exact absurd h (by decide)) | (conv => whnf)) | (refine ⟨_, wrap_ok (by omega) (by omega), ?_⟩; conv => whnf) | (refine and_idx (by omega) (by omega) ?_; conv => whnf) | (refine reg_ok (by decide +kernel) ?_; conv => whnf) | (refine bar_ok (by decide +kernel) (by decide +kernel) ?_; conv => whnf) | (refine late_ok rfl rfl ?_; conv => whnf) | (refine src_ok rfl ?_; conv => whnf) | (refine LitB.data ?_; conv => whnf)))
  · have hlt : fr + c < e.moves.length := by omega
    obtain ⟨b, hbx⟩ : ∃ b, bl[fr + c]? = some b := ⟨_, List.getElem?_eq_getElem (by omega)⟩
    have hgb : bl.getD (fr + c) true = b := by rw [List.getD_eq_getElem?_getD, hbx]; rfl
    obtain ⟨bk, hbk⟩ : ∃ p, best[0 + ((fr + c : Nat) : Int).toNat]? = some p := ⟨_, List.getElem?_eq_getElem (by omega)⟩
    (repeat' (first | ((refine DecB.mk (fun h => ?_) (fun h => ?_)) <;> first | (exfalso; omega) | (conv => whnf)) | ((refine BoolB.mk (fun h => ?_) (fun h => ?_)) <;> first | (exact absurd h (by decide)) | (conv => whnf)) | (refine ⟨_, wrap_ok (by omega) (by omega), ?_⟩; conv => whnf) | (refine and_idx (by omega) (by omega) ?_; conv => whnf) | (refine reg_ok (by decide +kernel) ?_; conv => whnf) | (refine bar_ok (by decide +kernel) (by decide +kernel) ?_; conv => whnf) | (refine late_ok rfl rfl ?_; conv => whnf) | (refine src_ok rfl ?_; conv => whnf) | (refine ex_row hbx ?_; conv => whnf) | (refine ex_best hbk ?_; conv => whnf) | (refine LitB.data ?_; conv => whnf)))
    · have hr : refTo e bl fr (c + 1) = best := by
        rw [refTo_succ, hbest]; unfold outerStep
        rw [if_pos (by rw [hgb]; assumption)]
      refine ⟨by omega, trivial, [some 0, some 1], rfl, rfl, ⟨⟨rfl, rfl, rfl, .inl ⟨rfl, rowsT_ev e⟩⟩, entB_rows rfl rfl rfl ?_ rfl, trivial⟩, ⟨rfl, rfl, ⟨rfl, rfl, rfl⟩, ⟨rfl, rfl, rfl, fun h => h⟩, rfl, trivial⟩⟩
      rw [hr]
    all_goals
      have hbf : b = false := by assumption
      have hr : refTo e bl fr (c + 1) = innerTo e fr (fr + c) (if fr + c = fr then best.set (fr + c) [((fr + c : Nat) : Int)] else best) c := by
        rw [refTo_succ, hbest]; unfold outerStep
        rw [if_neg (by rw [hgb, hbf]; decide), show fr + c - fr = c by omega]
      have hsh0 : ShortP e.moves.length (if fr + c = fr then best.set (fr + c) [((fr + c : Nat) : Int)] else best) := by
        split
        · exact hsh.set hlt (by simp)
        · exact hsh
      refine awp_for tab_ok (fun j => ([S.junk, intS .i64 fr, boolsS bl, S.c (C.ptr 0 0 0), S.junk, S.junk, S.junk, S.c (C.own 1 0 e.moves.length true), intS .i64 ((fr + c : Nat) : Int), intS .i64 ((fr + j : Nat) : Int), S.junk, S.junk, S.junk, S.junk, S.junk, S.junk, S.junk, S.junk, S.junk, S.junk, S.junk, S.junk, S.junk, S.junk, S.junk, S.junk, S.junk, S.junk, S.junk, S.junk, S.junk, S.junk, S.junk, S.junk, S.junk, S.junk, S.junk, S.junk, S.junk, S.junk, S.junk, S.junk, S.junk, S.junk, S.junk, S.junk, S.junk, S.junk, S.junk, S.junk, S.junk, S.junk, S.junk, S.junk, S.junk, S.junk, S.junk, S.junk, S.junk, S.junk, S.junk, S.junk, S.junk, S.junk, S.junk, S.junk, S.junk, S.junk, S.junk, S.junk, S.junk, S.junk, S.junk, S.junk], [evB e, bestB (innerTo e fr (fr + c) (if fr + c = fr then best.set (fr + c) [((fr + c : Nat) : Int)] else best) j)])) c (fun k => True) [some 0, some 1] trivial
        ⟨rfl, rfl, ⟨⟨rfl, rfl, rfl, .inl ⟨rfl, rowsT_ev e⟩⟩, ⟨rfl, rfl, rfl, .inr ?_⟩, trivial⟩, ⟨rfl, rfl, ⟨rfl, rfl, rfl⟩, ⟨rfl, rfl, rfl, fun h => h⟩, rfl, ent_i rfl, trivial⟩⟩ ?_
      · first
          | (have hcz : fr + c = fr := by omega
             show EntR _ _ ((toC (best.map bestRow)).set (0 + ((fr + c : Nat) : Int).toNat) [C.t (.sl 1 .full [[ti ((fr + c : Nat) : Int)]])]) (toC ((if fr + c = fr then best.set (fr + c) [((fr + c : Nat) : Int)] else best).map bestRow))
             rw [if_pos hcz, toC_best_set, show 0 + ((fr + c : Nat) : Int).toNat = fr + c by omega]
             exact entR_set (x := .t (.sl 1 .full [[ti ((fr + c : Nat) : Int)]])) (y := .t (intsT [((fr + c : Nat) : Int)])) rfl _ (entR_refl _))
          | (have hcz : ¬ fr + c = fr := by omega
             show EntR _ _ (toC (best.map bestRow)) (toC ((if fr + c = fr then best.set (fr + c) [((fr + c : Nat) : Int)] else best).map bestRow))
             rw [if_neg hcz]
             exact entR_refl _)
      clear h
      generalize (if fr + c = fr then best.set (fr + c) [((fr + c : Nat) : Int)] else best) = b0 at *
      intro j hj hI
      have hsi := hsh0.innerTo (e := e) (fr := fr) hlt j (by omega)
      have hin := innerTo_succ (e := e) (fr := fr) (k := fr + c) (c := j) (b := b0)
      generalize hbi : innerTo e fr (fr + c) b0 j = bi at *
      have hbil := hsi.len
      conv => whnf
      (repeat' (first | ((refine DecB.mk (fun h => ?_) (fun h => ?_)) <;> first | (exfalso; omega) | (conv => whnf)) | ((refine BoolB.mk (fun h => ?_) (fun h => ?_)) <;> first | (exact absurd h (by decide)) | (conv => whnf)) | (refine ⟨_, wrap_ok (by omega) (by omega), ?_⟩; conv => whnf) | (refine and_idx (by omega) (by omega) ?_; conv => whnf) | (refine reg_ok (by decide +kernel) ?_; conv => whnf) | (refine bar_ok (by decide +kernel) (by decide +kernel) ?_; conv => whnf) | (refine late_ok rfl rfl ?_; conv => whnf) | (refine src_ok rfl ?_; conv => whnf) | (refine LitB.data ?_; conv => whnf)))
      · have hlj : fr + j < fr + c := by omega
        obtain ⟨p, hp⟩ : ∃ p, bi[0 + ((fr + j : Nat) : Int).toNat]? = some p := ⟨_, List.getElem?_eq_getElem (by omega)⟩
        obtain ⟨q, hq⟩ : ∃ p, bi[0 + ((fr + c : Nat) : Int).toNat]? = some p := ⟨_, List.getElem?_eq_getElem (by omega)⟩
        obtain ⟨u, hu⟩ : ∃ p, e.moves[fr + j]? = some p := ⟨_, List.getElem?_eq_getElem (by omega)⟩
        obtain ⟨v, hv⟩ : ∃ p, e.moves[fr + c]? = some p := ⟨_, List.getElem?_eq_getElem (by omega)⟩
        have st := a_step e hs (fr + j) (fr + c) u v hu hv
        have hst : stepB e (fr + j) (fr + c) = (decide (fr + j < fr + c) && decide (v.src = u.dst) && clearB e u.dst (fr + j) (fr + c)) := by unfold stepB; rw [hu, hv]
        rw [← hst] at st
        have hgp : bi.getD (fr + j) [] = p := by
          rw [List.getD_eq_getElem?_getD]
          rw [show 0 + ((fr + j : Nat) : Int).toNat = fr + j by omega] at hp
          rw [hp]; rfl
        have hgq : bi.getD (fr + c) [] = q := by
          rw [List.getD_eq_getElem?_getD]
          rw [show 0 + ((fr + c : Nat) : Int).toNat = fr + c by omega] at hq
          rw [hq]; rfl
        have hpl := hsi.short (fr + j)
        rw [hgp] at hpl
        have hql := hsi.short (fr + c)
        rw [hgq] at hql
        have bt := a_better (p ++ [((fr + c : Nat) : Int)]) q (by simp; omega) (by omega)
        have lp : (p.map intRow).length = p.length := by simp
        unfold innerStep at hin
        rw [hgp, hgq] at hin
        by_cases hp0 : p.length = 0
        · have hn : innerTo e fr (fr + c) b0 (j + 1) = bi := by
            rw [hin, if_pos (.inl (List.eq_nil_of_length_eq_zero hp0))]
          (repeat' (first | ((refine DecB.mk (fun h => ?_) (fun h => ?_)) <;> first | (exfalso; omega) | (conv => whnf)) | ((refine BoolB.mk (fun h => ?_) (fun h => ?_)) <;> first | (exact absurd h (by decide)) | (conv => whnf)) | (refine ⟨_, wrap_ok (by omega) (by omega), ?_⟩; conv => whnf) | (refine and_idx (by omega) (by omega) ?_; conv => whnf) | (refine reg_ok (by decide +kernel) ?_; conv => whnf) | (refine bar_ok (by decide +kernel) (by decide +kernel) ?_; conv => whnf) | (refine late_ok rfl rfl ?_; conv => whnf) | (refine src_ok rfl ?_; conv => whnf) | (refine ex_best hp ?_; conv => whnf) | (refine LitB.data ?_; conv => whnf)))
          refine ⟨by omega, trivial, [some 0, some 1], rfl, rfl, ⟨⟨rfl, rfl, rfl, .inl ⟨rfl, rowsT_ev e⟩⟩, entB_rows rfl rfl rfl ?_ rfl, trivial⟩, ⟨rfl, rfl, ⟨rfl, rfl, rfl⟩, ⟨rfl, rfl, rfl, fun h => h⟩, rfl, rfl, trivial⟩⟩
          rw [hn]
        · have hpn : p ≠ [] := by intro h; subst h; exact hp0 rfl
          cases hsb : stepB e (fr + j) (fr + c) with
          | false =>
            rw [hsb] at st
            have hn : innerTo e fr (fr + c) b0 (j + 1) = bi := by
              rw [hin, if_pos (.inr hsb)]
            (repeat' (first | ((refine DecB.mk (fun h => ?_) (fun h => ?_)) <;> first | (exfalso; omega) | (conv => whnf)) | ((refine BoolB.mk (fun h => ?_) (fun h => ?_)) <;> first | (exact absurd h (by decide)) | (conv => whnf)) | (refine ⟨_, wrap_ok (by omega) (by omega), ?_⟩; conv => whnf) | (refine and_idx (by omega) (by omega) ?_; conv => whnf) | (refine reg_ok (by decide +kernel) ?_; conv => whnf) | (refine bar_ok (by decide +kernel) (by decide +kernel) ?_; conv => whnf) | (refine late_ok rfl rfl ?_; conv => whnf) | (refine src_ok rfl ?_; conv => whnf) | (refine .inl ⟨_, _, qcall_pure (st) rfl rfl, ?_⟩; conv => whnf) | (refine ex_best hp ?_; conv => whnf) | (refine LitB.data ?_; conv => whnf)))
            refine ⟨by omega, trivial, [some 0, some 1], rfl, rfl, ⟨⟨rfl, rfl, rfl, .inl ⟨rfl, rowsT_ev e⟩⟩, entB_rows rfl rfl rfl ?_ rfl, trivial⟩, ⟨rfl, rfl, ⟨rfl, rfl, rfl⟩, ⟨rfl, rfl, rfl, fun h => h⟩, rfl, rfl, trivial⟩⟩
            rw [hn]
          | true =>
            rw [hsb] at st hin
            rw [if_neg (by simp [hpn])] at hin
            cases hbb : betterB (p ++ [((fr + c : Nat) : Int)]) q with
            | false =>
              rw [hbb] at bt hin
              (repeat' (first | ((refine DecB.mk (fun h => ?_) (fun h => ?_)) <;> first | (exfalso; omega) | (conv => whnf)) | ((refine BoolB.mk (fun h => ?_) (fun h => ?_)) <;> first | (exact absurd h (by decide)) | (conv => whnf)) | (refine ⟨_, wrap_ok (by omega) (by omega), ?_⟩; conv => whnf) | (refine and_idx (by omega) (by omega) ?_; conv => whnf) | (refine reg_ok (by decide +kernel) ?_; conv => whnf) | (refine bar_ok (by decide +kernel) (by decide +kernel) ?_; conv => whnf) | (refine late_ok rfl rfl ?_; conv => whnf) | (refine src_ok rfl ?_; conv => whnf) | (refine .inl ⟨_, _, qcall_pure (st) rfl rfl, ?_⟩; conv => whnf) | (refine .inl ⟨_, _, qcall_pure (toC) rfl rfl, ?_⟩; conv => whnf) | (refine .inl ⟨_, _, qcall_pure (toC, newBlk) rfl rfl, ?_⟩; conv => whnf) | (refine .inl ⟨_, _, qcall_pure (toC) rfl rfl, ?_⟩; conv => whnf) | (refine .inl ⟨_, _, qcall_pure (0) rfl rfl, ?_⟩; conv => whnf) | (refine .inl ⟨_, _, qcall_pure (((fr + c : Nat) : Int)) rfl rfl, ?_⟩; conv => whnf) | (refine .inl ⟨_, _, qcall_pure (toC, newBlk, intRow, List.take_of_length_le) rfl rfl, ?_⟩; conv => whnf) | (refine .inl ⟨_, _, qcall_pure (toC) rfl rfl, ?_⟩; conv => whnf) | (refine ex_best hp ?_; conv => whnf) | (refine ex_best hq ?_; conv => whnf) | (refine app_nil rfl (by simp [toC]; omega) ?_; conv => whnf) | (refine app_ok (by simp [toC, newBlk]) (by simp [toC]; omega) ?_; conv => whnf) | (refine bar_late [0] (by decide +kernel) (by decide +kernel) ?_; conv => whnf) | (refine .inl ⟨_, _, qcall_view bt ⟨vs_c (vc_all (rows := (p ++ [((fr + c : Nat) : Int)]).map intRow) trivial rfl (by intro h; cases h) rfl (by simp [toC, newBlk, intRow, List.take_of_length_le]) (by simp [toC])), vs_t, trivial⟩ rfl, ?_⟩; conv => whnf) | (refine LitB.data ?_; conv => whnf)))
              refine ⟨by omega, trivial, [some 0, some 1], rfl, rfl, ⟨⟨rfl, rfl, rfl, .inl ⟨rfl, rowsT_ev e⟩⟩, entB_rows rfl rfl rfl ?_ rfl, trivial⟩, ⟨rfl, rfl, ⟨rfl, rfl, rfl⟩, ⟨rfl, rfl, rfl, fun h => h⟩, rfl, rfl, trivial⟩⟩
              rw [hin, if_neg (by decide)]
            | true =>
              rw [hbb] at bt hin
              (repeat' (first | ((refine DecB.mk (fun h => ?_) (fun h => ?_)) <;> first | (exfalso; omega) | (conv => whnf)) | ((refine BoolB.mk (fun h => ?_) (fun h => ?_)) <;> first | (exact absurd h (by decide)) | (conv => whnf)) | (refine ⟨_, wrap_ok (by omega) (by omega), ?_⟩; conv => whnf) | (refine and_idx (by omega) (by omega) ?_; conv => whnf) | (refine reg_ok (by decide +kernel) ?_; conv => whnf) | (refine bar_ok (by decide +kernel) (by decide +kernel) ?_; conv => whnf) | (refine late_ok rfl rfl ?_; conv => whnf) | (refine src_ok rfl ?_; conv => whnf) | (refine .inl ⟨_, _, qcall_pure (st) rfl rfl, ?_⟩; conv => whnf) | (refine .inl ⟨_, _, qcall_pure (toC) rfl rfl, ?_⟩; conv => whnf) | (refine .inl ⟨_, _, qcall_pure (toC, newBlk) rfl rfl, ?_⟩; conv => whnf) | (refine .inl ⟨_, _, qcall_pure (toC) rfl rfl, ?_⟩; conv => whnf) | (refine .inl ⟨_, _, qcall_pure (0) rfl rfl, ?_⟩; conv => whnf) | (refine .inl ⟨_, _, qcall_pure (((fr + c : Nat) : Int)) rfl rfl, ?_⟩; conv => whnf) | (refine .inl ⟨_, _, qcall_pure (toC, newBlk, intRow, List.take_of_length_le) rfl rfl, ?_⟩; conv => whnf) | (refine .inl ⟨_, _, qcall_pure (toC) rfl rfl, ?_⟩; conv => whnf) | (refine ex_best hp ?_; conv => whnf) | (refine ex_best hq ?_; conv => whnf) | (refine app_nil rfl (by simp [toC]; omega) ?_; conv => whnf) | (refine app_ok (by simp [toC, newBlk]) (by simp [toC]; omega) ?_; conv => whnf) | (refine bar_late [0] (by decide +kernel) (by decide +kernel) ?_; conv => whnf) | (refine .inl ⟨_, _, qcall_view bt ⟨vs_c (vc_all (rows := (p ++ [((fr + c : Nat) : Int)]).map intRow) trivial rfl (by intro h; cases h) rfl (by simp [toC, newBlk, intRow, List.take_of_length_le]) (by simp [toC])), vs_t, trivial⟩ rfl, ?_⟩; conv => whnf) | (refine LitB.data ?_; conv => whnf)))
              refine ⟨by omega, trivial, [some 0, some 1], rfl, rfl, ⟨⟨rfl, rfl, rfl, .inl ⟨rfl, rowsT_ev e⟩⟩, ⟨rfl, rfl, rfl, .inr ?_⟩, trivial⟩, ⟨rfl, rfl, ⟨rfl, rfl, rfl⟩, ⟨rfl, rfl, rfl, fun h => h⟩, rfl, rfl, trivial⟩⟩
              rw [hin, if_pos rfl]
              show EntR _ _ ((toC (bi.map bestRow)).set (0 + ((fr + c : Nat) : Int).toNat) [C.own 3 0 _ true]) (toC ((bi.set (fr + c) (p ++ [((fr + c : Nat) : Int)])).map bestRow))
              rw [toC_best_set, show 0 + ((fr + c : Nat) : Int).toNat = fr + c by omega]
              refine entR_set (x := .own 3 0 _ true) (y := .t (intsT (p ++ [((fr + c : Nat) : Int)]))) ?_ _ (entR_refl _)
              exact (show VC _ _ _ _ from vc_all rfl rfl (by intro h; cases h) rfl (by simp [toC, newBlk, intRow, List.take_of_length_le]) (by simp [toC]))
      · have hjc : j = c := by omega
        refine ⟨by omega, trivial, [some 0, some 1], rfl, rfl, ⟨⟨rfl, rfl, rfl, .inl ⟨rfl, rowsT_ev e⟩⟩, entB_rows rfl rfl rfl ?_ rfl, trivial⟩, ⟨rfl, rfl, ⟨rfl, rfl, rfl⟩, ⟨rfl, rfl, rfl, fun h => h⟩, rfl, trivial⟩⟩
        rw [hr]
        rw [hjc] at hbi
        rw [hbi]
  · have hcn : c = e.moves.length - fr := by omega
    refine fin_t (ent_view (app := true) rfl rfl (by intro h; cases h) rfl ?_ ?_)
    · show toC (best.map bestRow) = toC ((refPaths e bl fr).map bestRow)
      unfold refPaths; rw [← hcn, hbest]
    · unfold refPaths; rw [← hcn, hbest]; simp; omega
theorem a_RPath (e : Ev) (hs : e.Sized) (fr t : Int) (bl : List Bool) : ACall Try.prog 32 [evS e, intS .i64 fr, intS .i64 t, boolsS bl] [] (intsS (refPath e bl fr t)) [] := by
  have f1 := a_Fits e fr bl
  have f2 := a_Fits e t bl
  cases hfit : fitsB e fr bl with
  | false =>
    rw [hfit] at f1
    have hp : refPath e bl fr t = [] := by unfold refPath; rw [if_neg (by simp [hfit])]
    rw [hp]
    (refine acall_of tab_ok Try.func32 rfl (by decide) ?_; (conv => whnf); repeat (refine LitB.data ?_; conv => whnf))
    (repeat' (first | ((refine DecB.mk (fun h => ?_) (fun h => ?_)) <;> first | (exfalso; omega) | (conv => whnf)) | ((refine BoolB.mk (fun h => ?_) (fun h => ?_)) <;> first | (exact absurd h (by decide)) | (conv => whnf)) | (refine ⟨_, wrap_ok (by omega) (by omega), ?_⟩; conv => whnf) | (refine and_idx (by omega) (by omega) ?_; conv => whnf) | (refine reg_ok (by decide +kernel) ?_; conv => whnf) | (refine bar_ok (by decide +kernel) (by decide +kernel) ?_; conv => whnf) | (refine late_ok rfl rfl ?_; conv => whnf) | (refine src_ok rfl ?_; conv => whnf) | (refine .inl ⟨_, _, qcall_pure (f1) rfl rfl, ?_⟩; conv => whnf) | (refine LitB.data ?_; conv => whnf)))
    all_goals first | (exfalso; simp_all; done) | exact fin_t rfl
  | true =>
    rw [hfit] at f1
    cases hfit2 : fitsB e t bl with
    | false =>
      rw [hfit2] at f2
      have hp : refPath e bl fr t = [] := by unfold refPath; rw [if_neg (by simp [hfit2])]
      rw [hp]
      (refine acall_of tab_ok Try.func32 rfl (by decide) ?_; (conv => whnf); repeat (refine LitB.data ?_; conv => whnf))
      (repeat' (first | ((refine DecB.mk (fun h => ?_) (fun h => ?_)) <;> first | (exfalso; omega) | (conv => whnf)) | ((refine BoolB.mk (fun h => ?_) (fun h => ?_)) <;> first | (exact absurd h (by decide)) | (conv => whnf)) | (refine ⟨_, wrap_ok (by omega) (by omega), ?_⟩; conv => whnf) | (refine and_idx (by omega) (by omega) ?_; conv => whnf) | (refine reg_ok (by decide +kernel) ?_; conv => whnf) | (refine bar_ok (by decide +kernel) (by decide +kernel) ?_; conv => whnf) | (refine late_ok rfl rfl ?_; conv => whnf) | (refine src_ok rfl ?_; conv => whnf) | (refine .inl ⟨_, _, qcall_pure (f1) rfl rfl, ?_⟩; conv => whnf) | (refine .inl ⟨_, _, qcall_pure (f2) rfl rfl, ?_⟩; conv => whnf) | (refine LitB.data ?_; conv => whnf)))
      all_goals first | (exfalso; simp_all; done) | exact fin_t rfl
    | true =>
      rw [hfit2] at f2
      obtain ⟨⟨h1, h2⟩, h3⟩ := fits_iff.1 hfit
      obtain ⟨⟨h4, h5⟩, _⟩ := fits_iff.1 hfit2
      obtain ⟨n, rfl⟩ := Int.eq_ofNat_of_zero_le h1
      obtain ⟨q, rfl⟩ := Int.eq_ofNat_of_zero_le h4
      have hsh := ShortP.refTo (e := e) (bl := bl) (fr := n) (e.moves.length - n) (by omega)
      have hpl : (refPaths e bl n).length = e.moves.length := hsh.len
      obtain ⟨p, hp⟩ : ∃ p, (refPaths e bl n)[q]? = some p := ⟨_, List.getElem?_eq_getElem (by omega)⟩
      have hpp : refPath e bl n q = p := by
        unfold refPath
        rw [if_pos ⟨hfit, hfit2⟩, Int.toNat_natCast, Int.toNat_natCast, List.getD_eq_getElem?_getD, hp]; rfl
      rw [hpp]
      have pa := a_Paths e hs n bl (by omega) (by omega)
      (refine acall_of tab_ok Try.func32 rfl (by decide) ?_; (conv => whnf); repeat (refine LitB.data ?_; conv => whnf))
      (repeat' (first | ((refine DecB.mk (fun h => ?_) (fun h => ?_)) <;> first | (exfalso; omega) | (conv => whnf)) | ((refine BoolB.mk (fun h => ?_) (fun h => ?_)) <;> first | (exact absurd h (by decide)) | (conv => whnf)) | (refine ⟨_, wrap_ok (by omega) (by omega), ?_⟩; conv => whnf) | (refine and_idx (by omega) (by omega) ?_; conv => whnf) | (refine reg_ok (by decide +kernel) ?_; conv => whnf) | (refine bar_ok (by decide +kernel) (by decide +kernel) ?_; conv => whnf) | (refine late_ok rfl rfl ?_; conv => whnf) | (refine src_ok rfl ?_; conv => whnf) | (refine .inl ⟨_, _, qcall_pure (f1) rfl rfl, ?_⟩; conv => whnf) | (refine .inl ⟨_, _, qcall_pure (f2) rfl rfl, ?_⟩; conv => whnf) | (refine .inl ⟨_, _, qcall_pure (pa) rfl rfl, ?_⟩; conv => whnf) | (refine ex_row (f := bestRow) hp ?_; conv => whnf) | (refine LitB.data ?_; conv => whnf)))
      all_goals first | (exfalso; simp_all; done) | exact fin_t rfl
end Go.Proofs.Ythjgbjakpbfnoaa
/- Lifts. -/
namespace Go.Proofs.Ythjgbjakpbfnoaa
open Go.RowKit
set_option linter.unusedVariables false
set_option linter.unusedSimpArgs false
set_option maxRecDepth 100000

def liftP (e : Ev) (pf : Int → List Int) (i : Nat) (x : Move) : Bool := decide (kindAt e x.src = 0) && decide (0 < (pf i).length)
def liftsF (e : Ev) (bl : List Bool) (t : Int) : List Int := if fitsB e t bl = true then pickFrom (liftP e fun i => pathF e bl i t) 0 e.moves else []
def refLifts (e : Ev) (bl : List Bool) (t : Int) : List Int := if fitsB e t bl = true then pickTo (liftP e fun i => refPath e bl i t) e.moves (t.toNat + 1) else []
theorem a_RLifts24 (e : Ev) (hs : e.Sized) (h0 : check e = 0) (t : Int) (bl : List Bool) : ACall Try.prog 34 [evS e, intS .i64 t, boolsS bl] [] (intsS (refLifts e bl t)) [] := by
  have f1 := a_Fits e t bl
  cases hfit : fitsB e t bl with
  | false =>
    rw [hfit] at f1
    have hp : refLifts e bl t = [] := by unfold refLifts; rw [if_neg (by simp [hfit])]
    rw [hp]
    (refine acall_of tab_ok Try.func34 rfl (by decide) ?_; (conv => whnf); repeat (refine LitB.data ?_; conv => whnf))
    (repeat' (first | ((refine DecB.mk (fun h => ?_) (fun h => ?_)) <;> first | (exfalso; omega) | (conv => whnf)) | ((refine BoolB.mk (fun h => ?_) (fun h => ?_)) <;> first | (exact absurd h (by decide)) | (conv => whnf)) | (refine ⟨_, wrap_ok (by omega) (by omega), ?_⟩; conv => whnf) | (refine and_idx (by omega) (by omega) ?_; conv => whnf) | (refine reg_ok (by decide +kernel) ?_; conv => whnf) | (refine bar_ok (by decide +kernel) (by decide +kernel) ?_; conv => whnf) | (refine late_ok rfl rfl ?_; conv => whnf) | (refine src_ok rfl ?_; conv => whnf) | (refine .inl ⟨_, _, qcall_pure (f1) rfl rfl, ?_⟩; conv => whnf) | (refine LitB.data ?_; conv => whnf)))
    all_goals first | (exfalso; simp_all; done) | exact fin_t rfl
  | true =>
    rw [hfit] at f1
    obtain ⟨⟨h1, h2⟩, h3⟩ := fits_iff.1 hfit
    obtain ⟨q, rfl⟩ := Int.eq_ofNat_of_zero_le h1
    have hp : refLifts e bl q = pickTo (liftP e fun i => refPath e bl i q) e.moves (q + 1) := by unfold refLifts; rw [if_pos hfit]; rfl
    rw [hp]
    have l1 := hs.s2
    have l2 : (e.moves.map Move.row).length = e.moves.length := by simp
    let P : Nat → Move → Bool := liftP e fun i => refPath e bl i q
    have hpP : (liftP e fun i => refPath e bl i q) = P := rfl
    rw [hpP]
    (refine acall_of tab_ok Try.func34 rfl (by decide) ?_; (conv => whnf); repeat (refine LitB.data ?_; conv => whnf))
    (repeat' (first | ((refine DecB.mk (fun h => ?_) (fun h => ?_)) <;> first | (exfalso; omega) | (conv => whnf)) | ((refine BoolB.mk (fun h => ?_) (fun h => ?_)) <;> first | (exact absurd h (by decide)) | (conv => whnf)) | (refine ⟨_, wrap_ok (by omega) (by omega), ?_⟩; conv => whnf) | (refine and_idx (by omega) (by omega) ?_; conv => whnf) | (refine reg_ok (by decide +kernel) ?_; conv => whnf) | (refine bar_ok (by decide +kernel) (by decide +kernel) ?_; conv => whnf) | (refine late_ok rfl rfl ?_; conv => whnf) | (refine src_ok rfl ?_; conv => whnf) | (refine .inl ⟨_, _, qcall_pure (f1) rfl rfl, ?_⟩; conv => whnf) | (refine LitB.data ?_; conv => whnf)))
    refine awp_for tab_ok (fun k => ([S.junk, intS .i64 q, boolsS bl, S.c (C.ptr 0 0 0), S.junk, S.junk, S.junk, ownI 1 (pickTo P e.moves k), intS .i64 k, S.junk, S.junk, S.junk, S.junk, S.junk, S.junk, S.junk, S.junk, S.junk, S.junk, S.junk, S.junk, S.junk, S.junk, S.junk, S.junk, S.junk, S.junk, S.junk, S.junk, S.junk, S.junk, S.junk, S.junk, S.junk, S.junk, S.junk, S.junk, S.junk, S.junk, S.junk, S.junk, S.junk, S.junk, S.junk, S.junk, S.junk, S.junk], [evB e, intsB (pickTo P e.moves k)])) (q + 1) (fun k => True) [some 0, none] trivial
      ⟨rfl, rfl, ⟨⟨rfl, rfl, rfl, .inl ⟨rfl, rowsT_ev e⟩⟩, ⟨rfl, rfl⟩, trivial⟩, ⟨rfl, ent_t rfl, ⟨rfl, rfl, rfl⟩, ⟨rfl, rfl, rfl⟩, ent_i rfl, trivial⟩⟩ ?_
    intro k hk hI
    have hpl := length_pickTo P e.moves k
    conv => whnf
    (repeat' (first | ((refine DecB.mk (fun h => ?_) (fun h => ?_)) <;> first | (exfalso; omega) | (conv => whnf)) | ((refine BoolB.mk (fun h => ?_) (fun h => ?_)) <;> first | (exact absurd h (by decide)) | (conv => whnf)) | (refine ⟨_, wrap_ok (by omega) (by omega), ?_⟩; conv => whnf) | (refine and_idx (by omega) (by omega) ?_; conv => whnf) | (refine reg_ok (by decide +kernel) ?_; conv => whnf) | (refine bar_ok (by decide +kernel) (by decide +kernel) ?_; conv => whnf) | (refine late_ok rfl rfl ?_; conv => whnf) | (refine src_ok rfl ?_; conv => whnf) | (refine LitB.data ?_; conv => whnf)))
    · have hlt : k < e.moves.length := by omega
      obtain ⟨x, hx⟩ : ∃ x, e.moves[k]? = some x := ⟨_, List.getElem?_eq_getElem hlt⟩
      obtain ⟨i, p, hsrc, hpl2, -⟩ := place_at h0 (List.mem_of_getElem? hx)
      have hkx : kindAt e x.src = p.kind := by rw [hsrc, kindAt_of hpl2]
      have pa := a_RPath e hs k q bl
      have lpa : ((refPath e bl k q).map intRow).length = (refPath e bl k q).length := by simp
      have hP : P k x = (decide (p.kind = 0) && decide (0 < (refPath e bl k q).length)) := by show liftP _ _ _ _ = _; unfold liftP; rw [hkx]
      (repeat' (first | ((refine DecB.mk (fun h => ?_) (fun h => ?_)) <;> first | (exfalso; omega) | (conv => whnf)) | ((refine BoolB.mk (fun h => ?_) (fun h => ?_)) <;> first | (exact absurd h (by decide)) | (conv => whnf)) | (refine ⟨_, wrap_ok (by omega) (by omega), ?_⟩; conv => whnf) | (refine and_idx (by omega) (by omega) ?_; conv => whnf) | (refine reg_ok (by decide +kernel) ?_; conv => whnf) | (refine bar_ok (by decide +kernel) (by decide +kernel) ?_; conv => whnf) | (refine late_ok rfl rfl ?_; conv => whnf) | (refine src_ok rfl ?_; conv => whnf) | (refine .inl ⟨_, _, qcall_pure (pa) rfl rfl, ?_⟩; conv => whnf) | (refine .inl ⟨_, _, qcall_pure (toC) rfl rfl, ?_⟩; conv => whnf) | (refine .inl ⟨_, _, qcall_pure (toC) rfl rfl, ?_⟩; conv => whnf) | (refine ex_row hx ?_; conv => whnf) | (refine ex_rowE hsrc hpl2 ?_; conv => whnf) | (refine app_ok (by simp [toC]) (by simp [toC]; omega) ?_; conv => whnf) | (refine LitB.data ?_; conv => whnf)))
      · have hP' : P k x = true := by rw [hP, Bool.and_eq_true, decide_eq_true_iff, decide_eq_true_iff]; exact ⟨by assumption, by omega⟩
        have hy := pickTo_yes P hx hP'
        refine ⟨by omega, trivial, [some 0, some 2], rfl, rfl, ⟨⟨rfl, rfl, rfl, .inl ⟨rfl, rowsT_ev e⟩⟩, entB_rows (rows := (pickTo P e.moves (k + 1)).map intRow) rfl rfl rfl ?_ rfl, trivial⟩, ⟨rfl, rfl, ⟨rfl, rfl, rfl⟩, ent_own rfl ?_, rfl, trivial⟩⟩
        · rw [hy, List.map_append]
          exact (congrArg (fun n => List.take n (toC ((pickTo P e.moves k).map intRow)) ++ toC [[ti (k : Nat)]]) (by simp)).trans toC_snoc
        · show _ = (pickTo P e.moves (k + 1)).length
          rw [hy]; simp [toC]
      all_goals
        have hP' : P k x = false := by
          rw [hP, Bool.and_eq_false_iff, decide_eq_false_iff_not, decide_eq_false_iff_not]
          first | (refine .inr ?_; omega) | (refine .inl ?_; assumption)
        have hy := pickTo_no P hx hP'
        refine ⟨by omega, trivial, [some 0, some 1], rfl, rfl, ⟨⟨rfl, rfl, rfl, .inl ⟨rfl, rowsT_ev e⟩⟩, entB_rows rfl rfl rfl ?_ rfl, trivial⟩, ⟨rfl, rfl, ⟨rfl, rfl, rfl⟩, ent_own rfl ?_, rfl, trivial⟩⟩
        · exact congrArg (fun l => toC (l.map intRow)) hy.symm
        · exact congrArg List.length hy.symm
    · refine fin_t (ent_view (app := true) rfl rfl (by intro h; cases h) rfl ?_ ?_)
      · rw [show k = q + 1 by omega]
      · rw [show k = q + 1 by omega]; simp
theorem a_Lifts24 (e : Ev) (hs : e.Sized) (h0 : check e = 0) (t : Int) (bl : List Bool) : ACall Try.prog 33 [evS e, intS .i64 t, boolsS bl] [] (intsS (liftsF e bl t)) [] := by
  have f1 := a_fits e t bl
  cases hfit : fitsB e t bl with
  | false =>
    rw [hfit] at f1
    have hp : liftsF e bl t = [] := by unfold liftsF; rw [if_neg (by simp [hfit])]
    rw [hp]
    (refine acall_of tab_ok Try.func33 rfl (by decide) ?_; (conv => whnf); repeat (refine LitB.data ?_; conv => whnf))
    (repeat' (first | ((refine DecB.mk (fun h => ?_) (fun h => ?_)) <;> first | (exfalso; omega) | (conv => whnf)) | ((refine BoolB.mk (fun h => ?_) (fun h => ?_)) <;> first | (exact absurd h (by decide)) | (conv => whnf)) | (refine ⟨_, wrap_ok (by omega) (by omega), ?_⟩; conv => whnf) | (refine and_idx (by omega) (by omega) ?_; conv => whnf) | (refine reg_ok (by decide +kernel) ?_; conv => whnf) | (refine bar_ok (by decide +kernel) (by decide +kernel) ?_; conv => whnf) | (refine late_ok rfl rfl ?_; conv => whnf) | (refine src_ok rfl ?_; conv => whnf) | (refine .inl ⟨_, _, qcall_pure (f1) rfl rfl, ?_⟩; conv => whnf) | (refine LitB.data ?_; conv => whnf)))
    all_goals first | (exfalso; simp_all; done) | exact fin_t rfl
  | true =>
    rw [hfit] at f1
    have hp : liftsF e bl t = pickFrom (liftP e fun i => pathF e bl i t) 0 e.moves := by unfold liftsF; rw [if_pos hfit]
    rw [hp]
    have l1 := hs.s2
    have l2 : (e.moves.map Move.row).length = e.moves.length := by simp
    let P : Nat → Move → Bool := liftP e fun i => pathF e bl i t
    have hpP : (liftP e fun i => pathF e bl i t) = P := rfl
    rw [hpP]
    (refine acall_of tab_ok Try.func33 rfl (by decide) ?_; (conv => whnf); repeat (refine LitB.data ?_; conv => whnf))
    (repeat' (first | ((refine DecB.mk (fun h => ?_) (fun h => ?_)) <;> first | (exfalso; omega) | (conv => whnf)) | ((refine BoolB.mk (fun h => ?_) (fun h => ?_)) <;> first | (exact absurd h (by decide)) | (conv => whnf)) | (refine ⟨_, wrap_ok (by omega) (by omega), ?_⟩; conv => whnf) | (refine and_idx (by omega) (by omega) ?_; conv => whnf) | (refine reg_ok (by decide +kernel) ?_; conv => whnf) | (refine bar_ok (by decide +kernel) (by decide +kernel) ?_; conv => whnf) | (refine late_ok rfl rfl ?_; conv => whnf) | (refine src_ok rfl ?_; conv => whnf) | (refine .inl ⟨_, _, qcall_pure (f1) rfl rfl, ?_⟩; conv => whnf) | (refine LitB.data ?_; conv => whnf)))
    refine awp_for tab_ok (fun k => ([S.junk, intS .i64 t, boolsS bl, S.c (C.ptr 0 0 0), S.junk, S.junk, S.junk, ownI 1 (pickTo P e.moves k), S.junk, S.junk, S.junk, S.junk, S.junk, S.junk, S.junk, S.junk, S.c (C.t (movesT e.moves)), intS .i64 e.moves.length, intS .i64 k, S.junk, S.junk, S.junk, S.junk, S.junk, S.junk, S.junk, S.junk, S.junk, S.junk, S.junk, S.junk, S.junk, S.junk, S.junk, S.junk, S.junk, S.junk, S.junk, S.junk, S.junk, S.junk, S.junk, S.junk, S.junk, S.junk, S.junk], [evB e, intsB (pickTo P e.moves k)])) e.moves.length (fun k => True) [some 0, none] trivial
      ⟨rfl, rfl, ⟨⟨rfl, rfl, rfl, .inl ⟨rfl, rowsT_ev e⟩⟩, ⟨rfl, rfl⟩, trivial⟩, ⟨rfl, ent_t rfl, ⟨rfl, rfl, rfl⟩, ⟨rfl, rfl, rfl⟩, ent_t rfl, ent_i (by simp), ent_i rfl, trivial⟩⟩ ?_
    intro k hk hI
    have hpl := length_pickTo P e.moves k
    conv => whnf
    (repeat' (first | ((refine DecB.mk (fun h => ?_) (fun h => ?_)) <;> first | (exfalso; omega) | (conv => whnf)) | ((refine BoolB.mk (fun h => ?_) (fun h => ?_)) <;> first | (exact absurd h (by decide)) | (conv => whnf)) | (refine ⟨_, wrap_ok (by omega) (by omega), ?_⟩; conv => whnf) | (refine and_idx (by omega) (by omega) ?_; conv => whnf) | (refine reg_ok (by decide +kernel) ?_; conv => whnf) | (refine bar_ok (by decide +kernel) (by decide +kernel) ?_; conv => whnf) | (refine late_ok rfl rfl ?_; conv => whnf) | (refine src_ok rfl ?_; conv => whnf) | (refine LitB.data ?_; conv => whnf)))
    · have hlt : k < e.moves.length := by omega
      obtain ⟨x, hx⟩ : ∃ x, e.moves[k]? = some x := ⟨_, List.getElem?_eq_getElem hlt⟩
      obtain ⟨i, p, hsrc, hpl2, -⟩ := place_at h0 (List.mem_of_getElem? hx)
      have hkx : kindAt e x.src = p.kind := by rw [hsrc, kindAt_of hpl2]
      have pa := a_Path e hs k t bl
      have lpa : ((pathF e bl k t).map intRow).length = (pathF e bl k t).length := by simp
      have hP : P k x = (decide (p.kind = 0) && decide (0 < (pathF e bl k t).length)) := by show liftP _ _ _ _ = _; unfold liftP; rw [hkx]
      (repeat' (first | ((refine DecB.mk (fun h => ?_) (fun h => ?_)) <;> first | (exfalso; omega) | (conv => whnf)) | ((refine BoolB.mk (fun h => ?_) (fun h => ?_)) <;> first | (exact absurd h (by decide)) | (conv => whnf)) | (refine ⟨_, wrap_ok (by omega) (by omega), ?_⟩; conv => whnf) | (refine and_idx (by omega) (by omega) ?_; conv => whnf) | (refine reg_ok (by decide +kernel) ?_; conv => whnf) | (refine bar_ok (by decide +kernel) (by decide +kernel) ?_; conv => whnf) | (refine late_ok rfl rfl ?_; conv => whnf) | (refine src_ok rfl ?_; conv => whnf) | (refine .inl ⟨_, _, qcall_pure (pa) rfl rfl, ?_⟩; conv => whnf) | (refine .inl ⟨_, _, qcall_pure (toC) rfl rfl, ?_⟩; conv => whnf) | (refine .inl ⟨_, _, qcall_pure (toC) rfl rfl, ?_⟩; conv => whnf) | (refine ex_row hx ?_; conv => whnf) | (refine ex_rowE hsrc hpl2 ?_; conv => whnf) | (refine app_ok (by simp [toC]) (by simp [toC]; omega) ?_; conv => whnf) | (refine LitB.data ?_; conv => whnf)))
      · have hP' : P k x = true := by rw [hP, Bool.and_eq_true, decide_eq_true_iff, decide_eq_true_iff]; exact ⟨by assumption, by omega⟩
        have hy := pickTo_yes P hx hP'
        refine ⟨by omega, trivial, [some 0, some 3], rfl, rfl, ⟨⟨rfl, rfl, rfl, .inl ⟨rfl, rowsT_ev e⟩⟩, entB_rows (rows := (pickTo P e.moves (k + 1)).map intRow) rfl rfl rfl ?_ rfl, trivial⟩, ⟨rfl, rfl, ⟨rfl, rfl, rfl⟩, ent_own rfl ?_, rfl, rfl, rfl, trivial⟩⟩
        · rw [hy, List.map_append]
          exact (congrArg (fun n => List.take n (toC ((pickTo P e.moves k).map intRow)) ++ toC [[ti (k : Nat)]]) (by simp)).trans toC_snoc
        · show _ = (pickTo P e.moves (k + 1)).length
          rw [hy]; simp [toC]
      all_goals
        have hP' : P k x = false := by
          rw [hP, Bool.and_eq_false_iff, decide_eq_false_iff_not, decide_eq_false_iff_not]
          first | (refine .inr ?_; omega) | (refine .inl ?_; assumption)
        have hy := pickTo_no P hx hP'
        refine ⟨by omega, trivial, [some 0, some 1], rfl, rfl, ⟨⟨rfl, rfl, rfl, .inl ⟨rfl, rowsT_ev e⟩⟩, entB_rows rfl rfl rfl ?_ rfl, trivial⟩, ⟨rfl, rfl, ⟨rfl, rfl, rfl⟩, ent_own rfl ?_, rfl, rfl, rfl, trivial⟩⟩
        · exact congrArg (fun l => toC (l.map intRow)) hy.symm
        · exact congrArg List.length hy.symm
    · have hk' : pickFrom P 0 e.moves = pickTo P e.moves k := (pickTo_all P (by omega)).symm
      show Fin 0 _ _ (intsS (pickFrom P 0 e.moves)) []
      rw [hk']
      exact fin_own rfl (by intro h; cases h) rfl rfl (by simp)
end Go.Proofs.Ythjgbjakpbfnoaa
/- The reference's search finds the best path, too: both are equal. -/
namespace Go.Proofs.Ythjgbjakpbfnoaa
open Go.RowKit
set_option linter.unusedVariables false
set_option linter.unusedSimpArgs false

theorem nextI_iff {e : Ev} {bl : List Bool} {i j : Nat} : (j : Int) ∈ nextI e bl i ↔ stepB e i j = true ∧ bl.getD j true = false := by
  unfold nextI stepB
  rw [Int.toNat_natCast]
  cases hi : e.moves[i]? with
  | none => simp
  | some u =>
    simp only
    constructor
    · intro h
      obtain ⟨k, z, hz, hP, hk⟩ := mem_pickFrom.1 h
      have : k = j := by omega
      subst this
      rw [Nat.zero_add] at hP
      simp only [nextIs, Bool.and_eq_true, Bool.not_eq_true'] at hP
      rw [hz]
      exact ⟨by simp only [Bool.and_eq_true]; exact hP.1, hP.2⟩
    · rintro ⟨h1, h2⟩
      cases hj : e.moves[j]? with
      | none => rw [hj] at h1; cases h1
      | some v =>
        rw [hj] at h1
        refine mem_pickFrom.2 ⟨j, v, hj, ?_, by omega⟩
        rw [Nat.zero_add]
        simp only [nextIs, Bool.and_eq_true, Bool.not_eq_true']
        simp only [Bool.and_eq_true] at h1
        exact ⟨h1, h2⟩
theorem stepB_lt {e : Ev} {i j : Nat} (h : stepB e i j = true) : i < j ∧ j < e.moves.length := by
  unfold stepB at h
  split at h
  · rename_i u v hu hv
    simp only [Bool.and_eq_true, decide_eq_true_eq] at h
    exact ⟨h.1.1, (List.getElem?_eq_some_iff.1 hv).1⟩
  · cases h
theorem betterB_iff {p q : List Int} (hq : q ≠ []) : betterB p q = true ↔ ltP p q := by
  unfold betterB ltP
  by_cases h : p.length = q.length
  · rw [if_neg (by simp [hq, h])]
    constructor
    · intro h2; exact .inr ⟨h, h2⟩
    · rintro (h2 | ⟨_, h2⟩)
      · omega
      · exact h2
  · rw [if_pos (.inr h)]
    simp [hq, h]
theorem betterB_nil {p : List Int} : betterB p [] = true := by
  unfold betterB; rw [if_pos (.inl rfl)]; rfl
/-- a list that ends at t and is the best path, or there is none -/
def BestP (e : Ev) (bl : List Bool) (fr : Nat) (p : List Int) (t : Int) : Prop :=
  (Pa fr (nextI e bl) p ∧ lastI p = t ∧ ∀ q, Pa fr (nextI e bl) q → lastI q = t → p = q ∨ ltP p q) ∨ (p = [] ∧ ∀ q, Pa fr (nextI e bl) q → lastI q ≠ t)
theorem BestP.uniq {e : Ev} {bl : List Bool} {fr : Nat} {p q : List Int} {t : Int} (h : BestP e bl fr p t) (h' : BestP e bl fr q t) : p = q := by
  rcases h with ⟨h1, h2, h3⟩ | ⟨h1, h2⟩
  · rcases h' with ⟨h4, h5, h6⟩ | ⟨h4, h5⟩
    · rcases h3 q h4 h5 with h | h
      · exact h
      · rcases h6 p h1 h2 with h' | h'
        · exact h'.symm
        · exact absurd h' (ltP_asymm h)
    · exact absurd h2 (h5 p h1)
  · rcases h' with ⟨h4, h5, h6⟩ | ⟨h4, h5⟩
    · exact absurd h5 (h2 q h4)
    · rw [h1, h4]
/-- where a path comes from -/
theorem Pa.case {e : Ev} {bl : List Bool} {fr : Nat} {q : List Int} (h : Pa fr (nextI e bl) q) {k : Nat} (hk : lastI q = k) : (q = [(fr : Int)] ∧ k = fr) ∨ ∃ (p : List Int) (i : Nat), q = p ++ [(k : Int)] ∧ Pa fr (nextI e bl) p ∧ lastI p = i ∧ fr ≤ i ∧ stepB e i k = true ∧ bl.getD k true = false := by
  cases h with
  | one => left; simp [lastI] at hk; exact ⟨rfl, by omega⟩
  | @snoc p j hp hj =>
    right
    rw [lastI_snoc] at hk
    subst hk
    have hge := hp.ge nextI_gt
    obtain ⟨i, hi⟩ := Int.eq_ofNat_of_zero_le (show 0 ≤ lastI p by omega)
    rw [hi] at hj
    obtain ⟨h1, h2⟩ := nextI_iff.1 hj
    exact ⟨p, i, rfl, hp, hi, by omega, h1, h2⟩
theorem innerStep_other {e : Ev} {k i j : Nat} {b : List (List Int)} (h : j ≠ k) (hk : k < b.length) : (innerStep e k b i).getD j [] = b.getD j [] := by
  unfold innerStep
  split
  · rfl
  · split
    · rw [getD_setL hk, if_neg h]
    · rfl
/-- the paths to k that come from before i -/
def Cand (e : Ev) (bl : List Bool) (fr k i : Nat) (q : List Int) : Prop := Pa fr (nextI e bl) q ∧ lastI q = k ∧ (q = [(fr : Int)] ∨ ∃ (p : List Int) (j : Nat), q = p ++ [(k : Int)] ∧ Pa fr (nextI e bl) p ∧ lastI p = j ∧ j < i ∧ stepB e j k = true)
theorem inner_spec {e : Ev} {bl : List Bool} {fr k n : Nat} {b : List (List Int)} (hk : k < n) (hbl : bl.getD k true = false) (hb : ∀ i, fr ≤ i → i < k → BestP e bl fr (b.getD i []) i) {b0 : List (List Int)} (hs0 : ShortP n b0)
    (h0 : ∀ j, j ≠ k → b0.getD j [] = b.getD j []) (hc0 : (b0.getD k [] = [] ∧ k ≠ fr) ∨ (b0.getD k [] = [(k : Int)] ∧ k = fr)) : ∀ c, fr + c ≤ k →
    (∀ j, j ≠ k → (innerTo e fr k b0 c).getD j [] = b.getD j []) ∧
    ((∃ q, (innerTo e fr k b0 c).getD k [] = q ∧ Cand e bl fr k (fr + c) q ∧ ∀ r, Cand e bl fr k (fr + c) r → q = r ∨ ltP q r) ∨ ((innerTo e fr k b0 c).getD k [] = [] ∧ ∀ r, ¬ Cand e bl fr k (fr + c) r)) := by
  have nocand : ∀ r, Cand e bl fr k (fr + 0) r → r = [(fr : Int)] ∧ k = fr := by
    rintro r ⟨h1, h2, h3⟩
    rcases h3 with rfl | ⟨p, j, rfl, hp, hj, hlt, _⟩
    · exact ⟨rfl, by simp [lastI] at h2; omega⟩
    · have := hp.ge nextI_gt
      omega
  intro c
  induction c with
  | zero =>
    intro _
    refine ⟨h0, ?_⟩
    show (∃ q, b0.getD k [] = q ∧ _) ∨ (b0.getD k [] = [] ∧ _)
    rcases hc0 with ⟨h1, h2⟩ | ⟨h1, h2⟩
    · exact .inr ⟨h1, fun r hr => h2 (nocand r hr).2⟩
    · subst h2
      exact .inl ⟨_, h1, ⟨.one, rfl, .inl rfl⟩, fun r hr => .inl (nocand r hr).1.symm⟩
  | succ c ih =>
    intro hc
    obtain ⟨i1, i2⟩ := ih (by omega)
    have hsh := hs0.innerTo (e := e) (fr := fr) hk c (by omega)
    rw [innerTo_succ]
    generalize hbi : innerTo e fr k b0 c = bi at *
    have hkl : k < bi.length := by rw [hsh.len]; exact hk
    refine ⟨fun j hj => by rw [innerStep_other hj hkl]; exact i1 j hj, ?_⟩
    have hi : bi.getD (fr + c) [] = b.getD (fr + c) [] := i1 _ (by omega)
    have hbest := hb (fr + c) (by omega) (by omega)
    rw [← hi] at hbest
    have grow : ∀ r, Cand e bl fr k (fr + c) r → Cand e bl fr k (fr + (c + 1)) r := by
      rintro r ⟨h1, h2, h3⟩
      refine ⟨h1, h2, h3.imp id ?_⟩
      rintro ⟨p, j, q1, q2, q3, q4, q5⟩
      exact ⟨p, j, q1, q2, q3, by omega, q5⟩
    have back : ∀ r, Cand e bl fr k (fr + (c + 1)) r → Cand e bl fr k (fr + c) r ∨ ∃ p, r = p ++ [(k : Int)] ∧ Pa fr (nextI e bl) p ∧ lastI p = ((fr + c : Nat) : Int) ∧ stepB e (fr + c) k = true := by
      rintro r ⟨h1, h2, h3⟩
      rcases h3 with rfl | ⟨p, j, q1, q2, q3, q4, q5⟩
      · exact .inl ⟨h1, h2, .inl rfl⟩
      · by_cases hj : j = fr + c
        · subst hj; exact .inr ⟨p, q1, q2, q3, q5⟩
        · exact .inl ⟨h1, h2, .inr ⟨p, j, q1, q2, q3, by omega, q5⟩⟩
    unfold innerStep
    by_cases hno : bi.getD (fr + c) [] = [] ∨ stepB e (fr + c) k = false
    · rw [if_pos hno]
      have same : ∀ r, Cand e bl fr k (fr + (c + 1)) r → Cand e bl fr k (fr + c) r := fun r hr => by
        rcases back r hr with h | ⟨p, rfl, hp, hpl, hst⟩
        · exact h
        · exfalso
          rcases hno with h | h
          · rcases hbest with ⟨h1, _, _⟩ | ⟨_, h2⟩
            · rw [h] at h1; have := h1.pos; simp at this
            · exact h2 p hp hpl
          · rw [hst] at h; cases h
      rcases i2 with ⟨q, q1, q2, q3⟩ | ⟨q1, q2⟩
      · exact .inl ⟨q, q1, grow q q2, fun r hr => q3 r (same r hr)⟩
      · exact .inr ⟨q1, fun r hr => q2 r (same r hr)⟩
    · rw [if_neg hno]
      have hne : bi.getD (fr + c) [] ≠ [] := fun h => hno (.inl h)
      have hst : stepB e (fr + c) k = true := by
        cases hq : stepB e (fr + c) k with
        | true => rfl
        | false => exact absurd (.inr hq) hno
      obtain ⟨hp1, hp2, hp3⟩ : Pa fr (nextI e bl) (bi.getD (fr + c) []) ∧ lastI (bi.getD (fr + c) []) = ((fr + c : Nat) : Int) ∧ ∀ q, Pa fr (nextI e bl) q → lastI q = ((fr + c : Nat) : Int) → bi.getD (fr + c) [] = q ∨ ltP (bi.getD (fr + c) []) q := by
        rcases hbest with h | ⟨h, _⟩
        · exact h
        · exact absurd h hne
      generalize hpp : bi.getD (fr + c) [] = p at *
      have hnew : Cand e bl fr k (fr + (c + 1)) (p ++ [(k : Int)]) := by
        refine ⟨.snoc hp1 (by rw [hp2]; exact nextI_iff.2 ⟨hst, hbl⟩), lastI_snoc, .inr ⟨p, fr + c, rfl, hp1, hp2, by omega, hst⟩⟩
      have hmin : ∀ r, (∃ p', r = p' ++ [(k : Int)] ∧ Pa fr (nextI e bl) p' ∧ lastI p' = ((fr + c : Nat) : Int) ∧ stepB e (fr + c) k = true) → p ++ [(k : Int)] = r ∨ ltP (p ++ [(k : Int)]) r := by
        rintro r ⟨p', rfl, hp', hpl', _⟩
        rcases hp3 p' hp' hpl' with h | h
        · exact .inl (by rw [h])
        · exact .inr (ltP_snoc h)
      rcases i2 with ⟨q, q1, q2, q3⟩ | ⟨q1, q2⟩
      · have hqn : q ≠ [] := by have := q2.1.pos; intro h; subst h; simp at this
        rw [q1]
        by_cases hbt : betterB (p ++ [(k : Int)]) q = true
        · rw [if_pos hbt, getD_setL hkl, if_pos rfl]
          have hlt := (betterB_iff hqn).1 hbt
          refine .inl ⟨_, rfl, hnew, fun r hr => ?_⟩
          rcases back r hr with h | h
          · rcases q3 r h with rfl | h'
            · exact .inr hlt
            · exact .inr (ltP_trans hlt h')
          · exact hmin r h
        · rw [if_neg hbt]
          have hnlt : ¬ ltP (p ++ [(k : Int)]) q := fun h => hbt ((betterB_iff hqn).2 h)
          have hqp : q = p ++ [(k : Int)] ∨ ltP q (p ++ [(k : Int)]) := by
            rcases ltP_total q (p ++ [(k : Int)]) with h | h | h
            · exact .inl h
            · exact .inr h
            · exact absurd h hnlt
          refine .inl ⟨q, q1, grow q q2, fun r hr => ?_⟩
          rcases back r hr with h | h
          · exact q3 r h
          · rcases hqp with rfl | hqp
            · exact hmin r h
            · rcases hmin r h with h' | h'
              · rw [← h']; exact .inr hqp
              · exact .inr (ltP_trans hqp h')
      · rw [q1, if_pos betterB_nil, getD_setL hkl, if_pos rfl]
        refine .inl ⟨_, rfl, hnew, fun r hr => ?_⟩
        rcases back r hr with h | h
        · exact absurd h (q2 r)
        · exact hmin r h
theorem refTo_spec {e : Ev} {bl : List Bool} {fr : Nat} (hf : fr < e.moves.length) (hb : bl.getD fr true = false) : ∀ c, fr + c ≤ e.moves.length →
    (∀ k, fr ≤ k → k < fr + c → BestP e bl fr ((refTo e bl fr c).getD k []) k) ∧ ∀ k, fr + c ≤ k → (refTo e bl fr c).getD k [] = [] := by
  intro c
  induction c with
  | zero =>
    intro _
    refine ⟨fun k h1 h2 => by omega, fun k _ => ?_⟩
    simp [refTo, List.getD_eq_getElem?_getD, List.getElem?_replicate]
    split <;> rfl
  | succ c ih =>
    intro hc
    obtain ⟨i1, i2⟩ := ih (by omega)
    have hsh := ShortP.refTo (e := e) (bl := bl) (fr := fr) c (by omega)
    rw [refTo_succ]
    generalize hbc : refTo e bl fr c = b at *
    have hkl : fr + c < b.length := by rw [hsh.len]; omega
    unfold outerStep
    by_cases hblk : bl.getD (fr + c) true = true
    · rw [if_pos hblk]
      refine ⟨fun k h1 h2 => ?_, fun k h => i2 k (by omega)⟩
      by_cases hk : k = fr + c
      · subst hk
        refine .inr ⟨i2 _ (Nat.le_refl _), fun q hq hql => ?_⟩
        rcases hq.case hql with ⟨_, h⟩ | ⟨_, _, _, _, _, _, _, h⟩
        · rw [h, hb] at hblk; cases hblk
        · rw [hblk] at h; cases h
      · exact i1 k h1 (by omega)
    · rw [if_neg hblk, show fr + c - fr = c by omega]
      have hblk' : bl.getD (fr + c) true = false := by simpa using hblk
      have hs0 : ShortP e.moves.length (if fr + c = fr then b.set (fr + c) [((fr + c : Nat) : Int)] else b) := by
        split
        · exact hsh.set (by omega) (by simp)
        · exact hsh
      have hb0 : ∀ j, j ≠ fr + c → (if fr + c = fr then b.set (fr + c) [((fr + c : Nat) : Int)] else b).getD j [] = b.getD j [] := fun j hj => by
        split
        · rw [getD_setL hkl, if_neg hj]
        · rfl
      have hc0 : ((if fr + c = fr then b.set (fr + c) [((fr + c : Nat) : Int)] else b).getD (fr + c) [] = [] ∧ fr + c ≠ fr) ∨ ((if fr + c = fr then b.set (fr + c) [((fr + c : Nat) : Int)] else b).getD (fr + c) [] = [((fr + c : Nat) : Int)] ∧ fr + c = fr) := by
        by_cases h : fr + c = fr
        · right; rw [if_pos h, getD_setL hkl, if_pos rfl]; exact ⟨rfl, h⟩
        · left; rw [if_neg h]; exact ⟨i2 _ (Nat.le_refl _), h⟩
      obtain ⟨j1, j2⟩ := inner_spec (n := e.moves.length) (show fr + c < e.moves.length by omega) hblk' i1 hs0 hb0 hc0 c (Nat.le_refl _)
      refine ⟨fun k h1 h2 => ?_, fun k h => by rw [j1 k (by omega)]; exact i2 k (by omega)⟩
      by_cases hk : k = fr + c
      · subst hk
        have all : ∀ q, Pa fr (nextI e bl) q → lastI q = ((fr + c : Nat) : Int) → Cand e bl fr (fr + c) (fr + c) q := fun q hq hql => by
          rcases hq.case hql with ⟨h, _⟩ | ⟨p, i, h3, h4, h5, h6, h7, h8⟩
          · exact ⟨hq, hql, .inl h⟩
          · exact ⟨hq, hql, .inr ⟨p, i, h3, h4, h5, (stepB_lt h7).1, h7⟩⟩
        rcases j2 with ⟨q, q1, q2, q3⟩ | ⟨q1, q2⟩
        · rw [q1]
          exact .inl ⟨q2.1, q2.2.1, fun r hr hrl => q3 r (all r hr hrl)⟩
        · exact .inr ⟨q1, fun q hq hql => q2 q (all q hq hql)⟩
      · rw [j1 k hk]
        exact i1 k h1 (by omega)
theorem innerTo_nil {e : Ev} {fr k : Nat} {b : List (List Int)} (h : ∀ j, b.getD j [] = []) : ∀ c, innerTo e fr k b c = b
  | 0 => rfl
  | c + 1 => by
    rw [innerTo_succ, innerTo_nil h c]
    unfold innerStep
    rw [if_pos (.inl (h _))]
theorem refTo_nil {e : Ev} {bl : List Bool} {fr : Nat} (hb : bl.getD fr true = true) : ∀ c j, (refTo e bl fr c).getD j [] = []
  | 0, j => by
    simp [refTo, List.getD_eq_getElem?_getD, List.getElem?_replicate]
    split <;> rfl
  | c + 1, j => by
    rw [refTo_succ]
    unfold outerStep
    split
    · exact refTo_nil hb c j
    · rename_i h
      have hne : ¬ fr + c = fr := fun hq => h (by rw [hq]; exact hb)
      rw [if_neg hne, innerTo_nil (refTo_nil hb c)]
      exact refTo_nil hb c j
theorem innerTo_low {e : Ev} {fr k : Nat} {b : List (List Int)} (hk : k < b.length) {j : Nat} (hj : j ≠ k) : ∀ c, (innerTo e fr k b c).getD j [] = b.getD j [] ∧ (innerTo e fr k b c).length = b.length
  | 0 => ⟨rfl, rfl⟩
  | c + 1 => by
    obtain ⟨h1, h2⟩ := innerTo_low hk hj c
    rw [innerTo_succ, innerStep_other hj (by rw [h2]; exact hk)]
    refine ⟨h1, ?_⟩
    unfold innerStep
    split
    · exact h2
    · split
      · rw [List.length_set, h2]
      · exact h2
theorem refTo_low {e : Ev} {bl : List Bool} {fr q : Nat} (hq : q < fr) : ∀ c, fr + c ≤ e.moves.length → (refTo e bl fr c).getD q [] = []
  | 0, _ => by
    simp [refTo, List.getD_eq_getElem?_getD, List.getElem?_replicate]
    split <;> rfl
  | c + 1, hc => by
    have hsh := ShortP.refTo (e := e) (bl := bl) (fr := fr) c (by omega)
    have ih := refTo_low (e := e) (bl := bl) hq c (by omega)
    have hkl : fr + c < (refTo e bl fr c).length := by rw [hsh.len]; omega
    rw [refTo_succ]
    unfold outerStep
    split
    · exact ih
    · split
      · rw [(innerTo_low (by simpa using hkl) (show q ≠ fr + c by omega) _).1, getD_setL hkl, if_neg (by omega)]
        exact ih
      · rw [(innerTo_low hkl (show q ≠ fr + c by omega) _).1]
        exact ih
/-- package reach and the reference find the same path -/
theorem path_eq {e : Ev} {bl : List Bool} {fr t : Int} : pathF e bl fr t = refPath e bl fr t := by
  cases hf : fitsB e fr bl with
  | false => unfold pathF refPath; rw [if_neg (by simp [hf]), if_neg (by simp [hf])]
  | true =>
    cases ht : fitsB e t bl with
    | false => unfold pathF refPath; rw [if_neg (by simp [ht]), if_neg (by simp [ht])]
    | true =>
      have hrp : refPath e bl fr t = (refPaths e bl fr.toNat).getD t.toNat [] := by unfold refPath; rw [if_pos ⟨hf, ht⟩]
      rw [hrp]
      obtain ⟨⟨h1, h2⟩, h3⟩ := fits_iff.1 hf
      obtain ⟨⟨h4, h5⟩, _⟩ := fits_iff.1 ht
      obtain ⟨n, rfl⟩ := Int.eq_ofNat_of_zero_le h1
      obtain ⟨q, rfl⟩ := Int.eq_ofNat_of_zero_le h4
      rw [Int.toNat_natCast, Int.toNat_natCast]
      cases hb : bl.getD n true with
      | true =>
        unfold refPaths
        rw [refTo_nil hb]
        unfold pathF
        rw [if_neg (by rw [Int.toNat_natCast, hb]; simp)]
      | false =>
        have hn : n < e.moves.length := by omega
        obtain ⟨s1, s2⟩ := refTo_spec hn hb (e.moves.length - n) (by omega)
        have hbest : BestP e bl n ((refPaths e bl n).getD q []) q := by
          by_cases hnq : n ≤ q
          · exact s1 q hnq (by omega)
          · refine .inr ⟨?_, fun r hr hrl => ?_⟩
            · exact refTo_low (by omega) _ (by omega)
            · have := hr.ge nextI_gt; omega
        exact BestP.uniq (pathF_spec hf ht (by rw [Int.toNat_natCast]; exact hb)) hbest
end Go.Proofs.Ythjgbjakpbfnoaa
/- The law FlowLifts, walked. -/
namespace Go.Proofs.Ythjgbjakpbfnoaa
open Go.RowKit
set_option linter.unusedVariables false
set_option linter.unusedSimpArgs false
set_option maxRecDepth 100000

theorem few_sized {e : Ev} (h : few e = true) : e.Sized := by
  simp [few] at h
  exact ⟨by omega, by omega, by omega, by omega, by omega⟩

theorem add_len {α β : Type} {f : α → β} {l : List α} {a b : Nat} (h : b = a + l.length) : (a : Int) + ((l.map f).length : Int) = (b : Int) := by
  subst h; simp
set_option maxHeartbeats 4000000 in
theorem a_FlowLifts (e : Ev) (hh mat lo hi cut : Int) (hc1 : -9223372036854775808 ≤ cut) (hc2 : hi ≤ 9223372036854775807) :
    ACall Try.prog 5 [evS e, intS .i64 hh, intS .i64 mat, intS .i64 lo, intS .i64 hi, intS .i64 cut] [] (boolS true) [] := by
  cases hf : few e with
  | false =>
    have f0 := a_Few e
    rw [hf] at f0
    (refine acall_of tab_ok Try.func5 rfl (by decide) ?_; (conv => whnf); repeat (refine LitB.data ?_; conv => whnf))
    (repeat' (first | ((refine DecB.mk (fun h => ?_) (fun h => ?_)) <;> first | (exfalso; omega) | (conv => whnf)) | ((refine BoolB.mk (fun h => ?_) (fun h => ?_)) <;> first | (exact absurd h (by decide)) | (conv => whnf)) | (refine ⟨_, wrap_ok (by omega) (by omega), ?_⟩; conv => whnf) | (refine and_idx (by omega) (by omega) ?_; conv => whnf) | (refine reg_ok (by decide +kernel) ?_; conv => whnf) | (refine bar_ok (by decide +kernel) (by decide +kernel) ?_; conv => whnf) | (refine late_ok rfl rfl ?_; conv => whnf) | (refine src_ok rfl ?_; conv => whnf) | (refine .inl ⟨_, _, qcall_pure (a_small) rfl rfl, ?_⟩; conv => whnf) | (refine .inl ⟨_, _, qcall_pure (f0) rfl rfl, ?_⟩; conv => whnf) | (refine LitB.data ?_; conv => whnf)))
    all_goals first | exact fin_bool rfl | (exfalso; simp_all; done)
  | true =>
    have hs := few_sized hf
    have f0 := a_Few e
    rw [hf] at f0
    by_cases h0 : check e = 0
    · have c0 := a_Check e hs
      rw [h0] at c0
      have l7 := hs.s2
      have l8 : (e.moves.map Move.row).length = e.moves.length := by simp
      have l9 : (e.places.map Place.row).length = e.places.length := by simp
      have ll : ∀ a b c d, (lifts e a b c d).length ≤ e.moves.length := fun a b c d => by
        unfold lifts
        split
        all_goals first | exact length_pickFrom _ _ _ | exact Nat.zero_le _
      have as0 := a_ascending (lifts e hh mat lo hi) (e.moves.map Move.row).length (by have := ll hh mat lo hi; omega) (by rw [l8]; exact lifts_asc _ _ _ _ _)
      (refine acall_of tab_ok Try.func5 rfl (by decide) ?_; (conv => whnf); repeat (refine LitB.data ?_; conv => whnf))
      (repeat' (first | ((refine DecB.mk (fun h => ?_) (fun h => ?_)) <;> first | (exfalso; omega) | (conv => whnf)) | ((refine BoolB.mk (fun h => ?_) (fun h => ?_)) <;> first | (exact absurd h (by decide)) | (conv => whnf)) | (refine ⟨_, wrap_ok (by omega) (by omega), ?_⟩; conv => whnf) | (refine and_idx (by omega) (by omega) ?_; conv => whnf) | (refine reg_ok (by decide +kernel) ?_; conv => whnf) | (refine bar_ok (by decide +kernel) (by decide +kernel) ?_; conv => whnf) | (refine late_ok rfl rfl ?_; conv => whnf) | (refine src_ok rfl ?_; conv => whnf) | (refine .inl ⟨_, _, qcall_pure (a_small) rfl rfl, ?_⟩; conv => whnf) | (refine .inl ⟨_, _, qcall_pure (f0) rfl rfl, ?_⟩; conv => whnf) | (refine .inl ⟨_, _, qcall_pure (c0) rfl rfl, ?_⟩; conv => whnf) | (refine .inl ⟨_, _, qcall_pure (a_Lifts e hs _ _ _ _) rfl rfl, ?_⟩; conv => whnf) | (refine .inl ⟨_, _, qcall_pure (as0) rfl rfl, ?_⟩; conv => whnf) | (refine LitB.data ?_; conv => whnf)))
      have hl0 := ll hh mat lo hi
      have hk' : (lifts e hh mat lo hi).length ≤ 1000000 := by omega
      have l11 : ∀ a b c d, ((lifts e a b c d).map intRow).length ≤ 1000000 := fun a b c d => by have := ll a b c d; simp; omega
      have la := l11 hh mat lo cut
      have lb := l11 hh mat (cut + 1) hi
      have hca : ∀ a, cAll e a ≤ 1000000 := fun a => Nat.le_trans List.countP_le_length l7
      have hcs : ∀ a b, cSome e a b ≤ 1000000 := fun a b => Nat.le_trans List.countP_le_length l7
      have hcb : ∀ a, cBin e a ≤ 1000000 := fun a => Nat.le_trans List.countP_le_length l7
      have sm : lo ≤ cut → cut < hi → ACall Try.prog 16 [intsS (lifts e hh mat lo hi), intsS (lifts e hh mat lo cut ++ lifts e hh mat (cut + 1) hi)] [] (boolS true) [] := fun h1 h2 => by
        have := a_SameInts (lifts e hh mat lo hi) (lifts e hh mat lo cut ++ lifts e hh mat (cut + 1) hi) (by omega) (by rw [← lifts_cut h0 h1 h2]; omega)
        rwa [decide_eq_true (lifts_cut h0 h1 h2)] at this
      obtain ⟨N, hN⟩ : ∃ N : Nat, e.hhs = N := Int.eq_ofNat_of_zero_le (check_zero h0).2.2.1
      have hbig : e.mats ≤ 6 ∧ e.hhs ≤ 100 := by
        have := (check_zero h0).1
        simp [fullB] at this
        omega
      obtain ⟨M, hM⟩ : ∃ M : Nat, e.mats = M := Int.eq_ofNat_of_zero_le (by have := (check_zero h0).2.1; omega)
      refine awp_for tab_ok (fun k => ([S.junk, intS .i64 hh, intS .i64 mat, intS .i64 lo, intS .i64 hi, intS .i64 cut, S.c (C.ptr 0 0 0), S.junk, S.junk, S.junk, S.junk, S.junk, S.junk, boolS true, intsS (lifts e hh mat lo hi), intS .i64 k, S.junk, S.junk, S.junk, S.junk, S.junk, S.junk, S.junk, S.junk, S.junk, S.junk, S.junk, S.junk, S.junk, S.junk, S.junk, S.junk, S.junk, S.junk, S.junk, S.junk, S.junk, S.junk, S.junk, S.junk, S.junk, S.junk, S.junk, S.junk, S.junk, S.junk, S.junk, S.junk, S.junk, S.junk, S.junk, S.junk, S.junk, S.junk, S.junk, S.junk, S.junk, S.junk, S.junk, S.junk, S.junk, S.junk, S.junk, S.junk, S.junk, S.junk, S.junk, S.junk, S.junk, S.junk, S.junk, S.junk, S.junk, S.junk, S.junk, S.junk, S.junk, S.junk, S.junk, S.junk, S.junk, S.junk, S.junk, S.junk, S.junk, S.junk, S.junk, S.junk, S.junk, S.junk, S.junk, S.junk, S.junk, S.junk, S.junk, S.junk, S.junk, S.junk, S.junk, S.junk, S.junk, S.junk, S.junk, S.junk, S.junk, S.junk, S.junk, S.junk, S.junk, S.junk, S.junk, S.junk, S.junk, S.junk, S.junk, S.junk, S.junk, S.junk, S.junk, S.junk, S.junk, S.junk, S.junk, S.junk, S.junk, S.junk, S.junk, S.junk, S.junk, S.junk, S.junk, S.junk, S.junk, S.junk, S.junk, S.junk, S.junk, S.junk, S.junk, S.junk, S.junk, S.junk, S.junk, S.junk, S.junk, S.junk, S.junk, S.junk, S.junk, S.junk, S.junk, S.junk, S.junk, S.junk, S.junk, S.junk, S.junk, S.junk, S.junk, S.junk, S.junk, S.junk, S.junk, S.junk, S.junk, S.junk, S.junk, S.junk, S.junk, S.junk, S.junk, S.junk, S.junk, S.junk, S.junk, S.junk, S.junk, S.junk, S.junk, S.junk, S.junk, S.junk, S.junk, S.junk, S.junk], [evB e])) (lifts e hh mat lo hi).length (fun k => True) [some 0] trivial
        ⟨rfl, rfl, ⟨⟨rfl, rfl, rfl, .inl ⟨rfl, rowsT_ev e⟩⟩, trivial⟩, ⟨rfl, rfl, rfl, rfl, rfl, ⟨rfl, rfl, rfl⟩, rfl, rfl, rfl, trivial⟩⟩ ?_
      intro k hk hI
      have l10 : ((lifts e hh mat lo hi).map intRow).length = (lifts e hh mat lo hi).length := by simp
      conv => whnf
      (repeat' (first | ((refine DecB.mk (fun h => ?_) (fun h => ?_)) <;> first | (exfalso; omega) | (conv => whnf)) | ((refine BoolB.mk (fun h => ?_) (fun h => ?_)) <;> first | (exact absurd h (by decide)) | (conv => whnf)) | (refine ⟨_, wrap_ok (by omega) (by omega), ?_⟩; conv => whnf) | (refine and_idx (by omega) (by omega) ?_; conv => whnf) | (refine reg_ok (by decide +kernel) ?_; conv => whnf) | (refine bar_ok (by decide +kernel) (by decide +kernel) ?_; conv => whnf) | (refine late_ok rfl rfl ?_; conv => whnf) | (refine src_ok rfl ?_; conv => whnf) | (refine LitB.data ?_; conv => whnf)))
      · have hlt : k < (lifts e hh mat lo hi).length := by omega
        obtain ⟨x, hx⟩ : ∃ x, (lifts e hh mat lo hi)[k]? = some x := ⟨_, List.getElem?_eq_getElem hlt⟩
        obtain ⟨j, m, hm, hL, rfl⟩ := (lifts_mem h0).1 (List.mem_of_getElem? hx)
        obtain ⟨i, p, hsrc, hp, -⟩ := place_at h0 (List.mem_of_getElem? hm)
        rw [liftIs_of hp hsrc] at hL
        simp only [Bool.and_eq_true, Bool.or_eq_true, decide_eq_true_eq, btw_iff] at hL
        have hs1 : source e m.src = true := by
          have := moveOk_src (check_move h0 (List.mem_of_getElem? hm))
          simp [source, h0, idx_iff, hsrc, kindAt_of hp, hL.1.1.1]
          omega
        have s1 := a_Source e hs m.src
        rw [hs1] at s1
        (repeat' (first | ((refine DecB.mk (fun h => ?_) (fun h => ?_)) <;> first | (exfalso; omega) | (conv => whnf)) | ((refine BoolB.mk (fun h => ?_) (fun h => ?_)) <;> first | (exact absurd h (by decide)) | (conv => whnf)) | (refine ⟨_, wrap_ok (by omega) (by omega), ?_⟩; conv => whnf) | (refine and_idx (by omega) (by omega) ?_; conv => whnf) | (refine reg_ok (by decide +kernel) ?_; conv => whnf) | (refine bar_ok (by decide +kernel) (by decide +kernel) ?_; conv => whnf) | (refine late_ok rfl rfl ?_; conv => whnf) | (refine src_ok rfl ?_; conv => whnf) | (refine .inl ⟨_, _, qcall_pure (s1) rfl rfl, ?_⟩; conv => whnf) | (refine ex_row hx ?_; conv => whnf) | (refine ex_row hm ?_; conv => whnf) | (refine ex_rowE hsrc hp ?_; conv => whnf) | (refine LitB.data ?_; conv => whnf)))
        all_goals exact ⟨hlt, trivial, [some 0], rfl, rfl, ⟨⟨rfl, rfl, rfl, .inl ⟨rfl, rowsT_ev e⟩⟩, trivial⟩, ⟨rfl, rfl, rfl, rfl, rfl, ⟨rfl, rfl, rfl⟩, rfl, rfl, rfl, trivial⟩⟩
      all_goals clear hI hk
      all_goals (repeat' (first | ((refine DecB.mk (fun h => ?_) (fun h => ?_)) <;> first | (exfalso; omega) | (conv => whnf)) | ((refine BoolB.mk (fun h => ?_) (fun h => ?_)) <;> first | (exact absurd h (by decide)) | (conv => whnf)) | (refine ⟨_, wrap_ok (by omega) (by omega), ?_⟩; conv => whnf) | (refine and_idx (by omega) (by omega) ?_; conv => whnf) | (refine reg_ok (by decide +kernel) ?_; conv => whnf) | (refine bar_ok (by decide +kernel) (by decide +kernel) ?_; conv => whnf) | (refine late_ok rfl rfl ?_; conv => whnf) | (refine src_ok rfl ?_; conv => whnf) | (refine .inl ⟨_, _, qcall_pure (a_Lifts e hs _ _ _ _) rfl rfl, ?_⟩; conv => whnf) | (refine .inl ⟨_, _, qcall_pure (toC) rfl rfl, ?_⟩; conv => whnf) | (refine .inl ⟨_, _, qcall_pure (toC, newBlk) rfl rfl, ?_⟩; conv => whnf) | (refine .inl ⟨_, _, qcall_pure (toC) rfl rfl, ?_⟩; conv => whnf) | (refine .inl ⟨_, _, qcall_pure (toC, newBlk, List.take_of_length_le) rfl rfl, ?_⟩; conv => whnf) | (refine .inl ⟨_, _, qcall_pure (toC) rfl rfl, ?_⟩; conv => whnf) | (refine app_nil rfl (by simp [toC] at *; omega) ?_; conv => whnf) | (refine app_ok (by simp [toC, newBlk]) (by simp [toC] at *; omega) ?_; conv => whnf) | (refine .inl ⟨_, _, qcall_view (sm (by omega) (by omega)) ⟨vs_t, vs_c (vc_all trivial rfl (by intro h; cases h) rfl (by simp [toC, newBlk, List.take_of_length_le]) (by simp [toC])), trivial⟩ rfl, ?_⟩; conv => whnf) | (refine LitB.data ?_; conv => whnf)))
      all_goals
        refine awp_for tab_ok (fun k => ([S.junk, S.junk, S.junk, S.junk, S.junk, S.junk, S.c (C.ptr 0 0 0), S.junk, S.junk, S.junk, S.junk, S.junk, S.junk, boolS true, S.junk, S.junk, S.junk, S.junk, S.junk, intS .i64 (cAll e k), intS .i64 (cSome e k 0), intS .i64 k, S.junk, S.junk, S.junk, S.junk, S.junk, S.junk, S.junk, S.junk, S.junk, S.junk, S.junk, S.junk, S.junk, S.junk, S.junk, S.junk, S.junk, S.junk, S.junk, S.junk, S.junk, S.junk, S.junk, S.junk, S.junk, S.junk, S.junk, S.junk, S.junk, S.junk, S.junk, S.junk, S.junk, S.junk, S.junk, S.junk, S.junk, S.junk, S.junk, S.junk, S.junk, S.junk, S.junk, S.junk, S.junk, S.junk, S.junk, S.junk, S.junk, S.junk, S.junk, S.junk, S.junk, S.junk, S.junk, S.junk, S.junk, S.junk, S.junk, S.junk, S.junk, S.junk, S.junk, S.junk, S.junk, S.junk, S.junk, S.junk, S.junk, S.junk, S.junk, S.junk, S.junk, S.junk, S.junk, S.junk, S.junk, S.junk, S.junk, S.junk, S.junk, S.junk, S.junk, S.junk, S.junk, S.junk, S.junk, S.junk, S.junk, S.junk, S.junk, S.junk, S.junk, S.junk, S.junk, S.junk, S.junk, S.junk, S.junk, S.junk, S.junk, S.junk, S.junk, S.junk, S.junk, S.junk, S.junk, S.junk, S.junk, S.junk, S.junk, S.junk, S.junk, S.junk, S.junk, S.junk, S.junk, S.junk, S.junk, S.junk, S.junk, S.junk, S.junk, S.junk, S.junk, S.junk, S.junk, S.junk, S.junk, S.junk, S.junk, S.junk, S.junk, S.junk, S.junk, S.junk, S.junk, S.junk, S.junk, S.junk, S.junk, S.junk, S.junk, S.junk, S.junk, S.junk, S.junk, S.junk, S.junk, S.junk, S.junk, S.junk, S.junk, S.junk, S.junk, S.junk, S.junk, S.junk, S.junk, S.junk, S.junk, S.junk, S.junk], [evB e])) N (fun k => True) [some 0] trivial
          ⟨rfl, rfl, ⟨⟨rfl, rfl, rfl, .inl ⟨rfl, rowsT_ev e⟩⟩, trivial⟩, ⟨⟨rfl, rfl, rfl⟩, rfl, ent_i (congrArg Int.ofNat (cAll_zero h0).symm), ent_i (congrArg Int.ofNat (cSome_zero h0).symm), rfl, trivial⟩⟩ ?_
        intro g hg hI
        have hN6 : N ≤ 100 := by omega
        have w0 := l11 g (-1) 0 100000
        have w1 := hca g
        conv => whnf
        (repeat' (first | ((refine DecB.mk (fun h => ?_) (fun h => ?_)) <;> first | (exfalso; omega) | (conv => whnf)) | ((refine BoolB.mk (fun h => ?_) (fun h => ?_)) <;> first | (exact absurd h (by decide)) | (conv => whnf)) | (refine ⟨_, wrap_ok (by omega) (by omega), ?_⟩; conv => whnf) | (refine and_idx (by omega) (by omega) ?_; conv => whnf) | (refine reg_ok (by decide +kernel) ?_; conv => whnf) | (refine bar_ok (by decide +kernel) (by decide +kernel) ?_; conv => whnf) | (refine late_ok rfl rfl ?_; conv => whnf) | (refine src_ok rfl ?_; conv => whnf) | (refine .inl ⟨_, _, qcall_pure (a_Lifts e hs _ _ _ _) rfl rfl, ?_⟩; conv => whnf) | (refine LitB.data ?_; conv => whnf)))
        · refine awp_for tab_ok (fun k => ([S.junk, S.junk, S.junk, S.junk, S.junk, S.junk, S.c (C.ptr 0 0 0), S.junk, S.junk, S.junk, S.junk, S.junk, S.junk, boolS true, S.junk, S.junk, S.junk, S.junk, S.junk, intS .i64 (cAll e ((g + 1 : Nat) : Int)), intS .i64 (cSome e g k), intS .i64 g, S.junk, intS .i64 k, S.junk, S.junk, S.junk, S.junk, S.junk, S.junk, S.junk, S.junk, S.junk, S.junk, S.junk, S.junk, S.junk, S.junk, S.junk, S.junk, S.junk, S.junk, S.junk, S.junk, S.junk, S.junk, S.junk, S.junk, S.junk, S.junk, S.junk, S.junk, S.junk, S.junk, S.junk, S.junk, S.junk, S.junk, S.junk, S.junk, S.junk, S.junk, S.junk, S.junk, S.junk, S.junk, S.junk, S.junk, S.junk, S.junk, S.junk, S.junk, S.junk, S.junk, S.junk, S.junk, S.junk, S.junk, S.junk, S.junk, S.junk, S.junk, S.junk, S.junk, S.junk, S.junk, S.junk, S.junk, S.junk, S.junk, S.junk, S.junk, S.junk, S.junk, S.junk, S.junk, S.junk, S.junk, S.junk, S.junk, S.junk, S.junk, S.junk, S.junk, S.junk, S.junk, S.junk, S.junk, S.junk, S.junk, S.junk, S.junk, S.junk, S.junk, S.junk, S.junk, S.junk, S.junk, S.junk, S.junk, S.junk, S.junk, S.junk, S.junk, S.junk, S.junk, S.junk, S.junk, S.junk, S.junk, S.junk, S.junk, S.junk, S.junk, S.junk, S.junk, S.junk, S.junk, S.junk, S.junk, S.junk, S.junk, S.junk, S.junk, S.junk, S.junk, S.junk, S.junk, S.junk, S.junk, S.junk, S.junk, S.junk, S.junk, S.junk, S.junk, S.junk, S.junk, S.junk, S.junk, S.junk, S.junk, S.junk, S.junk, S.junk, S.junk, S.junk, S.junk, S.junk, S.junk, S.junk, S.junk, S.junk, S.junk, S.junk, S.junk, S.junk, S.junk, S.junk, S.junk, S.junk, S.junk, S.junk, S.junk, S.junk], [evB e])) M (fun k => True) [some 0] trivial
            ⟨rfl, rfl, ⟨⟨rfl, rfl, rfl, .inl ⟨rfl, rowsT_ev e⟩⟩, trivial⟩, ⟨⟨rfl, rfl, rfl⟩, rfl, ent_i (add_len (cAll_step h0 (g : Int))), rfl, rfl, rfl, trivial⟩⟩ ?_
          intro t ht hI
          have hM6 : M ≤ 6 := by omega
          have v0 := l11 g t 0 100000
          have v1 := hcs g t
          conv => whnf
          (repeat' (first | ((refine DecB.mk (fun h => ?_) (fun h => ?_)) <;> first | (exfalso; omega) | (conv => whnf)) | ((refine BoolB.mk (fun h => ?_) (fun h => ?_)) <;> first | (exact absurd h (by decide)) | (conv => whnf)) | (refine ⟨_, wrap_ok (by omega) (by omega), ?_⟩; conv => whnf) | (refine and_idx (by omega) (by omega) ?_; conv => whnf) | (refine reg_ok (by decide +kernel) ?_; conv => whnf) | (refine bar_ok (by decide +kernel) (by decide +kernel) ?_; conv => whnf) | (refine late_ok rfl rfl ?_; conv => whnf) | (refine src_ok rfl ?_; conv => whnf) | (refine .inl ⟨_, _, qcall_pure (a_Lifts e hs _ _ _ _) rfl rfl, ?_⟩; conv => whnf) | (refine LitB.data ?_; conv => whnf)))
          · have ht2 : t < M := by omega
            exact ⟨ht2, trivial, [some 0], rfl, rfl, ⟨⟨rfl, rfl, rfl, .inl ⟨rfl, rowsT_ev e⟩⟩, trivial⟩, ⟨⟨rfl, rfl, rfl⟩, rfl, rfl, ent_i (add_len (cSome_step h0 (g : Int) (t := (t : Int)) (by omega))), rfl, rfl, trivial⟩⟩
          · have hg2 : g < N := by omega
            have ht2 : e.mats = (t : Int) := by omega
            have hr := cSome_row h0 (g : Int)
            rw [ht2] at hr
            exact ⟨hg2, trivial, [some 0], rfl, rfl, ⟨⟨rfl, rfl, rfl, .inl ⟨rfl, rowsT_ev e⟩⟩, trivial⟩, ⟨⟨rfl, rfl, rfl⟩, rfl, rfl, ent_i (congrArg Int.ofNat hr), rfl, trivial⟩⟩
        · have hg2 : e.hhs = (g : Int) := by omega
          have ca := cAll_all h0
          have cs := cSome_all h0
          rw [hg2] at ca cs
          refine awp_for tab_ok (fun k => ([S.junk, S.junk, S.junk, S.junk, S.junk, S.junk, S.c (C.ptr 0 0 0), S.junk, S.junk, S.junk, S.junk, S.junk, S.junk, boolS true, S.junk, S.junk, S.junk, S.junk, S.junk, intS .i64 (cTot e), intS .i64 (cTot e), S.junk, S.junk, S.junk, intS .i64 (cBin e k), intS .i64 k, S.junk, S.junk, S.junk, S.junk, S.junk, S.junk, S.junk, S.junk, S.junk, S.junk, S.junk, S.junk, S.junk, S.junk, S.junk, S.junk, S.junk, S.junk, S.junk, S.junk, S.junk, S.junk, S.junk, S.junk, S.junk, S.junk, S.junk, S.junk, S.junk, S.junk, S.junk, S.junk, S.junk, S.junk, S.junk, S.junk, S.junk, S.junk, S.junk, S.junk, S.junk, S.junk, S.junk, S.junk, S.junk, S.junk, S.junk, S.junk, S.junk, S.junk, S.junk, S.junk, S.junk, S.junk, S.junk, S.junk, S.junk, S.junk, S.junk, S.junk, S.junk, S.junk, S.junk, S.junk, S.junk, S.junk, S.junk, S.junk, S.junk, S.junk, S.junk, S.junk, S.junk, S.junk, S.junk, S.junk, S.junk, S.junk, S.junk, S.junk, S.junk, S.junk, S.junk, S.junk, S.junk, S.junk, S.junk, S.junk, S.junk, S.junk, S.junk, S.junk, S.junk, S.junk, S.junk, S.junk, S.junk, S.junk, S.junk, S.junk, S.junk, S.junk, S.junk, S.junk, S.junk, S.junk, S.junk, S.junk, S.junk, S.junk, S.junk, S.junk, S.junk, S.junk, S.junk, S.junk, S.junk, S.junk, S.junk, S.junk, S.junk, S.junk, S.junk, S.junk, S.junk, S.junk, S.junk, S.junk, S.junk, S.junk, S.junk, S.junk, S.junk, S.junk, S.junk, S.junk, S.junk, S.junk, S.junk, S.junk, S.junk, S.junk, S.junk, S.junk, S.junk, S.junk, S.junk, S.junk, S.junk, S.junk, S.junk, S.junk, S.junk, S.junk, S.junk, S.junk, S.junk, S.junk, S.junk], [evB e])) e.places.length (fun k => True) [some 0] trivial
            ⟨rfl, rfl, ⟨⟨rfl, rfl, rfl, .inl ⟨rfl, rowsT_ev e⟩⟩, trivial⟩, ⟨⟨rfl, rfl, rfl⟩, rfl, ent_i (congrArg Int.ofNat ca), ent_i (congrArg Int.ofNat cs), ent_i (congrArg Int.ofNat (cBin_zero h0).symm), rfl, trivial⟩⟩ ?_
          intro p hp hI
          have v1 := hcb p
          have hpl := hs.s1
          have v0 : ((outOf e p (e.moves.map Move.row).length).map intRow).length ≤ 1000000 := by
            have : (outOf e p (e.moves.map Move.row).length).length ≤ e.moves.length := by
              unfold outOf
              split
              all_goals first | exact length_pickFrom _ _ _ | exact Nat.zero_le _
            simp at *; omega
          conv => whnf
          (repeat' (first | ((refine DecB.mk (fun h => ?_) (fun h => ?_)) <;> first | (exfalso; omega) | (conv => whnf)) | ((refine BoolB.mk (fun h => ?_) (fun h => ?_)) <;> first | (exact absurd h (by decide)) | (conv => whnf)) | (refine ⟨_, wrap_ok (by omega) (by omega), ?_⟩; conv => whnf) | (refine and_idx (by omega) (by omega) ?_; conv => whnf) | (refine reg_ok (by decide +kernel) ?_; conv => whnf) | (refine bar_ok (by decide +kernel) (by decide +kernel) ?_; conv => whnf) | (refine late_ok rfl rfl ?_; conv => whnf) | (refine src_ok rfl ?_; conv => whnf) | (refine .inl ⟨_, _, qcall_pure (a_Source e hs _) rfl rfl, ?_⟩; conv => whnf) | (refine .inl ⟨_, _, qcall_pure (a_Out e hs _ _) rfl rfl, ?_⟩; conv => whnf) | (refine LitB.data ?_; conv => whnf)))
          all_goals first
            | exact fin_bool rfl
            | (have hb := cBin_yes h0 ‹source e (p : Int) = true›
               rw [← l8] at hb
               exact ⟨by omega, trivial, [some 0], rfl, rfl, ⟨⟨rfl, rfl, rfl, .inl ⟨rfl, rowsT_ev e⟩⟩, trivial⟩, ⟨⟨rfl, rfl, rfl⟩, rfl, rfl, rfl, ent_i (add_len hb), rfl, trivial⟩⟩)
            | (have hb := cBin_no h0 (by omega) ‹source e (p : Int) = false›
               exact ⟨by omega, trivial, [some 0], rfl, rfl, ⟨⟨rfl, rfl, rfl, .inl ⟨rfl, rowsT_ev e⟩⟩, trivial⟩, ⟨⟨rfl, rfl, rfl⟩, rfl, rfl, rfl, ent_i (congrArg Int.ofNat hb.symm), rfl, trivial⟩⟩)
            | (exfalso
               have hb := cBin_all h0
               have hpe : e.places.length = p := by omega
               rw [hpe] at hb
               omega)
    · (refine acall_of tab_ok Try.func5 rfl (by decide) ?_; (conv => whnf); repeat (refine LitB.data ?_; conv => whnf))
      (repeat' (first | ((refine DecB.mk (fun h => ?_) (fun h => ?_)) <;> first | (exfalso; omega) | (conv => whnf)) | ((refine BoolB.mk (fun h => ?_) (fun h => ?_)) <;> first | (exact absurd h (by decide)) | (conv => whnf)) | (refine ⟨_, wrap_ok (by omega) (by omega), ?_⟩; conv => whnf) | (refine and_idx (by omega) (by omega) ?_; conv => whnf) | (refine reg_ok (by decide +kernel) ?_; conv => whnf) | (refine bar_ok (by decide +kernel) (by decide +kernel) ?_; conv => whnf) | (refine late_ok rfl rfl ?_; conv => whnf) | (refine src_ok rfl ?_; conv => whnf) | (refine .inl ⟨_, _, qcall_pure (a_small) rfl rfl, ?_⟩; conv => whnf) | (refine .inl ⟨_, _, qcall_pure (f0) rfl rfl, ?_⟩; conv => whnf) | (refine .inl ⟨_, _, qcall_pure (a_Check e hs) rfl rfl, ?_⟩; conv => whnf) | (refine LitB.data ?_; conv => whnf)))
      all_goals first | exact fin_bool rfl | (exfalso; simp_all; done)
end Go.Proofs.Ythjgbjakpbfnoaa
/- The law's example, says, sane, fine. -/
namespace Go.Proofs.Ythjgbjakpbfnoaa
open Go.RowKit
set_option linter.unusedVariables false
set_option linter.unusedSimpArgs false
set_option maxRecDepth 100000

def exEv24 : Ev := ⟨1, 2, 0, [⟨0, 0, 0⟩, ⟨0, 1, 0⟩, ⟨1, -1, -1⟩, ⟨2, -1, -1⟩, ⟨5, -1, -1⟩], [⟨0, 0, 2, -1, 0, false⟩, ⟨0, 2, 3, -1, 0, true⟩, ⟨0, 1, 2, -1, 0, false⟩, ⟨0, 2, 3, -1, 0, true⟩, ⟨0, 3, 4, -1, 0, false⟩], [], [], []⟩
theorem entC_view {ρ : List (Option Nat)} {H : Hp} {id len : Nat} {app : Bool} {size : Nat} {k : Blk} {rows : List (List T)} (hp : notIn ρ id = true) (hk : H[id]? = some k) (hd : ¬ k.mode.gone) (hs : k.size = size) (hc : k.rows = toC rows) (hl : len = rows.length) :
    EntC ρ H (.own id 0 len app) (.t (.sl size .any rows)) := show VC H (fun id => notIn ρ id = true) _ _ from vc_all hp hk hd hs hc hl
theorem a_example24 : ACall Try.prog 52 [] [] (evS exEv24) [] := by
  (refine acall_of tab_ok Try.func52 rfl (by decide) ?_; (conv => whnf); repeat (refine LitB.data ?_; conv => whnf))
  (repeat' (first | ((refine DecB.mk (fun h => ?_) (fun h => ?_)) <;> first | (exfalso; omega) | (conv => whnf)) | ((refine BoolB.mk (fun h => ?_) (fun h => ?_)) <;> first | (exact absurd h (by decide)) | (conv => whnf)) | (refine ⟨_, wrap_ok (by omega) (by omega), ?_⟩; conv => whnf) | (refine and_idx (by omega) (by omega) ?_; conv => whnf) | (refine reg_ok (by decide +kernel) ?_; conv => whnf) | (refine bar_ok (by decide +kernel) (by decide +kernel) ?_; conv => whnf) | (refine late_ok rfl rfl ?_; conv => whnf) | (refine src_ok rfl ?_; conv => whnf) | (refine ⟨by decide, ?_⟩; conv => whnf) | (refine LitB.data ?_; conv => whnf)))
  refine fin_t ?_
  exact ⟨rfl, rfl, rfl, entC_view (rows := exEv24.places.map Place.row) rfl rfl (by intro h; cases h) rfl rfl rfl, entC_view (rows := exEv24.moves.map Move.row) rfl rfl (by intro h; cases h) rfl rfl rfl, rfl, rfl, rfl, trivial⟩
theorem exSized24 : exEv24.Sized := ⟨by simp [exEv24], by simp [exEv24], by simp [exEv24], by simp [exEv24], by simp [exEv24]⟩
theorem ex24_check : check exEv24 = 0 := by decide +kernel
theorem loads_len {e : Ev} (h : e.Sized) {m : Int} {bl : List Bool} : (loads e m bl).1.length ≤ 1000000 ∧ (loads e m bl).2.length ≤ 1000000 := by
  have h1 := h.s1
  have h2 := h.s2
  unfold loads
  split
  · split
    · refine ⟨Nat.le_trans (length_pickFrom _ _ _) h2, Nat.le_trans (length_pickFrom _ _ _) ?_⟩
      rw [atTo_len]; exact h1
    · simp
  · simp
theorem a_says24 (m : Int) (bl : List Bool) (ms ps : List Int) (h1 : ms.length ≤ 1000000) (h2 : ps.length ≤ 1000000) : ACall Try.prog 53 [intS .i64 m, boolsS bl, intsS ms, intsS ps] []
    (boolS (decide ((loads exEv24 m bl).1 = ms) && decide ((loads exEv24 m bl).2 = ps))) [] := by
  obtain ⟨k1, k2⟩ := loads_len exSized24 (m := m) (bl := bl)
  have s1 := a_Same24 (loads exEv24 m bl).1 ms k1 h1
  have s2 := a_Same24 (loads exEv24 m bl).2 ps k2 h2
  (refine acall_of tab_ok Try.func53 rfl (by decide) ?_; (conv => whnf); repeat (refine LitB.data ?_; conv => whnf))
  (repeat' (first | ((refine DecB.mk (fun h => ?_) (fun h => ?_)) <;> first | (exfalso; omega) | (conv => whnf)) | ((refine BoolB.mk (fun h => ?_) (fun h => ?_)) <;> first | (exact absurd h (by decide)) | (conv => whnf)) | (refine ⟨_, wrap_ok (by omega) (by omega), ?_⟩; conv => whnf) | (refine and_idx (by omega) (by omega) ?_; conv => whnf) | (refine reg_ok (by decide +kernel) ?_; conv => whnf) | (refine bar_ok (by decide +kernel) (by decide +kernel) ?_; conv => whnf) | (refine late_ok rfl rfl ?_; conv => whnf) | (refine src_ok rfl ?_; conv => whnf) | (refine .inl ⟨_, _, qcall_pure (a_example24) rfl rfl, ?_⟩; conv => whnf) | (refine .inl ⟨_, _, qcall_pure (a_LoadsAll exEv24 exSized24 ex24_check m bl) rfl rfl, ?_⟩; conv => whnf) | (refine .inl ⟨_, _, qcall_pure (s1) rfl rfl, ?_⟩; conv => whnf) | (refine .inl ⟨_, _, qcall_pure (s2) rfl rfl, ?_⟩; conv => whnf) | (refine LitB.data ?_; conv => whnf)))
  all_goals (refine fin_bool ?_; simp_all; done)
theorem a_sane24 : ACall Try.prog 24 [] [] (boolS true) [] := by
  have d1 : (decide ((loads exEv24 0 [false, false, false, false, false]).1 = [1, 4]) && decide ((loads exEv24 0 [false, false, false, false, false]).2 = [3, 4])) = true := by decide +kernel
  have d2 : (decide ((loads exEv24 2 [false, false, false, false, false]).1 = [3, 4]) && decide ((loads exEv24 2 [false, false, false, false, false]).2 = [3, 4])) = true := by decide +kernel
  have d3 : (decide ((loads exEv24 0 [false, true, false, false, false]).1 = []) && decide ((loads exEv24 0 [false, true, false, false, false]).2 = [])) = true := by decide +kernel
  have d4 : pathF exEv24 [false, false, false, false, false] 0 4 = [0, 1, 4] := by decide +kernel
  have d5 : pathF exEv24 [false, false, false, false, false] 0 3 = [] := by decide +kernel
  have d6 : followsB exEv24 [false, false, false, false, false] [0, 1, 4] = true := by decide +kernel
  have d7 : followsB exEv24 [false, false, false, false, false] [0, 3] = false := by decide +kernel
  have d8 : liftsF exEv24 [false, false, false, false, false] 4 = [0, 2] := by decide +kernel
  have d9 : liftsF exEv24 [false, false, false, false, false] 1 = [0] := by decide +kernel
  have c1 := a_says24 0 [false, false, false, false, false] [1, 4] [3, 4] (by simp) (by simp)
  rw [d1] at c1
  have c2 := a_says24 2 [false, false, false, false, false] [3, 4] [3, 4] (by simp) (by simp)
  rw [d2] at c2
  have c3 := a_says24 0 [false, true, false, false, false] [] [] (by simp) (by simp)
  rw [d3] at c3
  have c4 := a_Path exEv24 exSized24 0 4 [false, false, false, false, false]
  rw [d4] at c4
  have c5 := a_Path exEv24 exSized24 0 3 [false, false, false, false, false]
  rw [d5] at c5
  have c6 := a_Follows exEv24 exSized24 [0, 1, 4] [false, false, false, false, false] (by simp)
  rw [d6] at c6
  have c7 := a_Follows exEv24 exSized24 [0, 3] [false, false, false, false, false] (by simp)
  rw [d7] at c7
  have c8 := a_Lifts24 exEv24 exSized24 ex24_check 4 [false, false, false, false, false]
  rw [d8] at c8
  have c9 := a_Lifts24 exEv24 exSized24 ex24_check 1 [false, false, false, false, false]
  rw [d9] at c9
  have s1 : ACall Try.prog 28 [intsS [0, 1, 4], intsS [0, 1, 4]] [] (boolS true) [] := a_Same24 [0, 1, 4] [0, 1, 4] (by simp) (by simp)
  have s2 : ACall Try.prog 28 [intsS [0, 2], intsS [0, 2]] [] (boolS true) [] := a_Same24 [0, 2] [0, 2] (by simp) (by simp)
  have s3 : ACall Try.prog 28 [intsS [0], intsS [0]] [] (boolS true) [] := a_Same24 [0] [0] (by simp) (by simp)
  (refine acall_of tab_ok Try.func24 rfl (by decide) ?_; (conv => whnf); repeat (refine LitB.data ?_; conv => whnf))
  (repeat' (first | ((refine DecB.mk (fun h => ?_) (fun h => ?_)) <;> first | (exfalso; omega) | (conv => whnf)) | ((refine BoolB.mk (fun h => ?_) (fun h => ?_)) <;> first | (exact absurd h (by decide)) | (conv => whnf)) | (refine ⟨_, wrap_ok (by omega) (by omega), ?_⟩; conv => whnf) | (refine and_idx (by omega) (by omega) ?_; conv => whnf) | (refine reg_ok (by decide +kernel) ?_; conv => whnf) | (refine bar_ok (by decide +kernel) (by decide +kernel) ?_; conv => whnf) | (refine late_ok rfl rfl ?_; conv => whnf) | (refine src_ok rfl ?_; conv => whnf) | (refine .inl ⟨_, _, qcall_pure (a_example24) rfl rfl, ?_⟩; conv => whnf) | (refine mk_ok (by decide) (by decide) (by decide) (by decide) ?_; conv => whnf) | (refine LitB.data ?_; conv => whnf)))
  refine .inr ⟨_, _, acall_freeze [1] c1 ⟨vs_t, vs_c (vc_all (by simp) rfl (by intro h; cases h) rfl rfl rfl), vs_c (vc_t rfl), vs_c (vc_t rfl), trivial⟩ rfl, ?_⟩
  conv => whnf
  (repeat' (first | ((refine DecB.mk (fun h => ?_) (fun h => ?_)) <;> first | (exfalso; omega) | (conv => whnf)) | ((refine BoolB.mk (fun h => ?_) (fun h => ?_)) <;> first | (exact absurd h (by decide)) | (conv => whnf)) | (refine ⟨_, wrap_ok (by omega) (by omega), ?_⟩; conv => whnf) | (refine and_idx (by omega) (by omega) ?_; conv => whnf) | (refine reg_ok (by decide +kernel) ?_; conv => whnf) | (refine bar_ok (by decide +kernel) (by decide +kernel) ?_; conv => whnf) | (refine late_ok rfl rfl ?_; conv => whnf) | (refine src_ok rfl ?_; conv => whnf) | (refine .inl ⟨_, _, qcall_frozen c2 ⟨vs_t, vs_c (vc_all ⟨_, rfl, rfl⟩ rfl (by intro h; cases h) rfl rfl rfl), vs_c (vc_t rfl), vs_c (vc_t rfl), trivial⟩ rfl, ?_⟩; conv => whnf) | (refine .inl ⟨_, _, qcall_data c3 ⟨vs_t, vs_c (vc_t rfl), vs_c (vc_t rfl), vs_c (vc_t rfl), trivial⟩ rfl, ?_⟩; conv => whnf) | (refine .inl ⟨_, _, qcall_frozen c4 ⟨vs_ev _, vs_t, vs_t, vs_c (vc_all ⟨_, rfl, rfl⟩ rfl (by intro h; cases h) rfl rfl rfl), trivial⟩ rfl, ?_⟩; conv => whnf) | (refine .inl ⟨_, _, qcall_frozen c5 ⟨vs_ev _, vs_t, vs_t, vs_c (vc_all ⟨_, rfl, rfl⟩ rfl (by intro h; cases h) rfl rfl rfl), trivial⟩ rfl, ?_⟩; conv => whnf) | (refine .inl ⟨_, _, qcall_frozen c6 ⟨vs_ev _, vs_c (vc_t rfl), vs_c (vc_all ⟨_, rfl, rfl⟩ rfl (by intro h; cases h) rfl rfl rfl), trivial⟩ rfl, ?_⟩; conv => whnf) | (refine .inl ⟨_, _, qcall_frozen c7 ⟨vs_ev _, vs_c (vc_t rfl), vs_c (vc_all ⟨_, rfl, rfl⟩ rfl (by intro h; cases h) rfl rfl rfl), trivial⟩ rfl, ?_⟩; conv => whnf) | (refine .inl ⟨_, _, qcall_frozen c8 ⟨vs_ev _, vs_t, vs_c (vc_all ⟨_, rfl, rfl⟩ rfl (by intro h; cases h) rfl rfl rfl), trivial⟩ rfl, ?_⟩; conv => whnf) | (refine .inl ⟨_, _, qcall_frozen c9 ⟨vs_ev _, vs_t, vs_c (vc_all ⟨_, rfl, rfl⟩ rfl (by intro h; cases h) rfl rfl rfl), trivial⟩ rfl, ?_⟩; conv => whnf) | (refine .inl ⟨_, _, qcall_data s1 ⟨vs_c (vc_t rfl), vs_c (vc_t rfl), trivial⟩ rfl, ?_⟩; conv => whnf) | (refine .inl ⟨_, _, qcall_data s2 ⟨vs_c (vc_t rfl), vs_c (vc_t rfl), trivial⟩ rfl, ?_⟩; conv => whnf) | (refine .inl ⟨_, _, qcall_data s3 ⟨vs_c (vc_t rfl), vs_c (vc_t rfl), trivial⟩ rfl, ?_⟩; conv => whnf) | (refine LitB.data ?_; conv => whnf)))
  all_goals first | exact fin_bool rfl | (exfalso; simp at *; done)
def fineB (e : Ev) (n : Int) : Bool := few e && decide ((e.moves.length : Int) ≤ n) && decide (check e = 0)
theorem a_fine24 (e : Ev) (n : Int) : ACall Try.prog 25 [evS e, intS .i64 n] [] (boolS (fineB e n)) [] := by
  have l2 : (e.moves.map Move.row).length = e.moves.length := by simp
  have f0 := a_Few e
  cases hf : few e with
  | false =>
    rw [hf] at f0
    have hp : fineB e n = false := by unfold fineB; rw [hf]; rfl
    rw [hp]
    (refine acall_of tab_ok Try.func25 rfl (by decide) ?_; (conv => whnf); repeat (refine LitB.data ?_; conv => whnf))
    (repeat' (first | ((refine DecB.mk (fun h => ?_) (fun h => ?_)) <;> first | (exfalso; omega) | (conv => whnf)) | ((refine BoolB.mk (fun h => ?_) (fun h => ?_)) <;> first | (exact absurd h (by decide)) | (conv => whnf)) | (refine ⟨_, wrap_ok (by omega) (by omega), ?_⟩; conv => whnf) | (refine and_idx (by omega) (by omega) ?_; conv => whnf) | (refine reg_ok (by decide +kernel) ?_; conv => whnf) | (refine bar_ok (by decide +kernel) (by decide +kernel) ?_; conv => whnf) | (refine late_ok rfl rfl ?_; conv => whnf) | (refine src_ok rfl ?_; conv => whnf) | (refine .inl ⟨_, _, qcall_pure (f0) rfl rfl, ?_⟩; conv => whnf) | (refine LitB.data ?_; conv => whnf)))
    all_goals first | exact fin_bool rfl | (exfalso; simp_all; done)
  | true =>
    rw [hf] at f0
    have hs := few_sized hf
    have c0 := a_Check e hs
    have hp : fineB e n = (decide ((e.moves.length : Int) ≤ n) && decide (check e = 0)) := by unfold fineB; rw [hf]; rfl
    rw [hp]
    (refine acall_of tab_ok Try.func25 rfl (by decide) ?_; (conv => whnf); repeat (refine LitB.data ?_; conv => whnf))
    (repeat' (first | ((refine DecB.mk (fun h => ?_) (fun h => ?_)) <;> first | (exfalso; omega) | (conv => whnf)) | ((refine BoolB.mk (fun h => ?_) (fun h => ?_)) <;> first | (exact absurd h (by decide)) | (conv => whnf)) | (refine ⟨_, wrap_ok (by omega) (by omega), ?_⟩; conv => whnf) | (refine and_idx (by omega) (by omega) ?_; conv => whnf) | (refine reg_ok (by decide +kernel) ?_; conv => whnf) | (refine bar_ok (by decide +kernel) (by decide +kernel) ?_; conv => whnf) | (refine late_ok rfl rfl ?_; conv => whnf) | (refine src_ok rfl ?_; conv => whnf) | (refine .inl ⟨_, _, qcall_pure (f0) rfl rfl, ?_⟩; conv => whnf) | (refine .inl ⟨_, _, qcall_pure (c0) rfl rfl, ?_⟩; conv => whnf) | (refine LitB.data ?_; conv => whnf)))
    all_goals (refine fin_bool ?_; first | (have hx : ((e.moves.length : Nat) : Int) ≤ n := by omega
                                            simp [hx]; try omega) | (have hx : ¬ ((e.moves.length : Nat) : Int) ≤ n := by omega
                                                                     simp [hx]; done))
end Go.Proofs.Ythjgbjakpbfnoaa
/- What is reached with fewer blocked moves, and with fewer moves. -/
namespace Go.Proofs.Ythjgbjakpbfnoaa
open Go.RowKit
set_option linter.unusedVariables false
set_option linter.unusedSimpArgs false

/-- what a set, lists of truth values as such, contains, the other does, too -/
def SubB (a b : List Bool) : Prop := a.length = b.length ∧ ∀ i, a.getD i false = true → b.getD i false = true
theorem getD_setB {a : List Bool} {i j : Nat} {v : Bool} (h : i < a.length) : (a.set i v).getD j false = if j = i then v else a.getD j false := by
  rw [List.getD_eq_getElem?_getD, List.getD_eq_getElem?_getD]
  by_cases hj : j = i
  · subst hj; rw [List.getElem?_set_self h, if_pos rfl]; rfl
  · rw [List.getElem?_set_ne (Ne.symm hj), if_neg hj]
theorem getD_setB_ge {a : List Bool} {i j : Nat} {v : Bool} (h : ¬ i < a.length) : (a.set i v).getD j false = a.getD j false := by
  rw [List.set_eq_of_length_le (by omega)]
theorem SubB.set {a b : List Bool} (h : SubB a b) {i : Nat} {v w : Bool} (hv : v = true → w = true) : SubB (a.set i v) (b.set i w) := by
  refine ⟨by simp [h.1], fun j hj => ?_⟩
  by_cases hi : i < a.length
  · rw [getD_setB hi] at hj
    rw [getD_setB (by rw [← h.1]; exact hi)]
    split at hj
    · rename_i hq; rw [if_pos hq]; exact hv hj
    · rename_i hq; rw [if_neg hq]; exact h.2 j hj
  · rw [getD_setB_ge hi] at hj
    rw [getD_setB_ge (by rw [← h.1]; exact hi)]
    exact h.2 j hj
theorem SubB.grow {a b : List Bool} (h : SubB a b) {i : Nat} : SubB a (b.set i true) := by
  refine ⟨by simp [h.1], fun j hj => ?_⟩
  by_cases hi : i < b.length
  · rw [getD_setB hi]
    split
    · rfl
    · exact h.2 j hj
  · rw [getD_setB_ge hi]; exact h.2 j hj
theorem SubB.off {a b : List Bool} (h : SubB a b) {i : Nat} (ha : a.getD i false = false) : SubB a (b.set i false) := by
  refine ⟨by simp [h.1], fun j hj => ?_⟩
  by_cases hi : i < b.length
  · rw [getD_setB hi]
    split
    · rename_i hq; subst hq; rw [ha] at hj; cases hj
    · exact h.2 j hj
  · rw [getD_setB_ge hi]; exact h.2 j hj
theorem flowStep_sub {bl bl' : List Bool} {i : Nat} {x : Move} {a b : List Bool} (h : SubB a b) (hb : bl'.getD i true = true → bl.getD i true = true) : SubB (flowStep bl i x a) (flowStep bl' i x b) := by
  unfold flowStep
  cases ha : a.getD x.src.toNat false with
  | false =>
    simp only [cond_false]
    cases b.getD x.src.toNat false with
    | false => exact h
    | true =>
      simp only [cond_true]
      cases x.all with
      | false =>
        simp only [cond_false]
        cases bl'.getD i true with
        | true => exact h
        | false => exact h.grow
      | true =>
        simp only [cond_true]
        refine SubB.off ?_ ha
        cases bl'.getD i true with
        | true => exact h
        | false => exact h.grow
  | true =>
    have hbt := h.2 _ ha
    rw [hbt]
    simp only [cond_true]
    have key : SubB (cond (bl.getD i true) a (a.set x.dst.toNat true)) (cond (bl'.getD i true) b (b.set x.dst.toNat true)) := by
      cases hq : bl'.getD i true with
      | true => rw [hb hq]; exact h
      | false =>
        cases bl.getD i true with
        | true => exact h.grow
        | false => exact h.set fun h => h
    cases x.all with
    | false => exact key
    | true => exact key.set fun h => h
theorem atTo_sub {e : Ev} {bl bl' : List Bool} {m d : Nat} (hb : ∀ i, bl'.getD i true = true → bl.getD i true = true) : ∀ k, SubB (atTo e bl m d k) (atTo e bl' m d k)
  | 0 => ⟨rfl, fun _ h => h⟩
  | k + 1 => by
    unfold atTo
    split
    · exact flowStep_sub (atTo_sub hb k) (hb _)
    · exact atTo_sub hb k
theorem loads_sub {e : Ev} {bl bl' : List Bool} {m d : Nat} (hb : ∀ i, bl'.getD i true = true → bl.getD i true = true) {k : Int} (h : k ∈ loadsMoves e bl m d) : k ∈ loadsMoves e bl' m d := by
  obtain ⟨i, x, hx, hP, rfl⟩ := mem_pickFrom.1 h
  refine mem_pickFrom.2 ⟨i, x, hx, ?_, rfl⟩
  unfold carB at hP ⊢
  simp only [Bool.and_eq_true, decide_eq_true_eq, Bool.not_eq_true'] at hP ⊢
  refine ⟨⟨hP.1.1, (atTo_sub hb _).2 _ hP.1.2⟩, ?_⟩
  cases hq : bl'.getD (0 + i) true with
  | false => rfl
  | true => rw [hb _ hq] at hP; exact absurd hP.2 (by simp)

def cutE (e : Ev) (n : Nat) : Ev := { e with moves := e.moves.take n }
theorem atTo_cut {e : Ev} {bl : List Bool} {m d n : Nat} : ∀ k, m + 1 + k ≤ n → atTo (cutE e n) (bl.take n) m d k = atTo e bl m d k
  | 0, _ => rfl
  | k + 1, h => by
    have hm : (cutE e n).moves[m + 1 + k]? = e.moves[m + 1 + k]? := by show (e.moves.take n)[_]? = _; rw [List.getElem?_take_of_lt (by omega)]
    have hb : (bl.take n).getD (m + 1 + k) true = bl.getD (m + 1 + k) true := by rw [List.getD_eq_getElem?_getD, List.getElem?_take_of_lt (by omega), List.getD_eq_getElem?_getD]
    rw [atTo, atTo, hm, atTo_cut k (by omega)]
    unfold flowStep
    rw [hb]
theorem loads_cut {e : Ev} {bl : List Bool} {m d n k : Nat} (hk : k < n) : (k : Int) ∈ loadsMoves (cutE e n) (bl.take n) m d ↔ (k : Int) ∈ loadsMoves e bl m d := by
  have key : ∀ x, carB (cutE e n) (bl.take n) m d k x = carB e bl m d k x := fun x => by
    unfold carB
    by_cases hmk : m < k
    · rw [atTo_cut _ (by omega)]
      congr 2
      rw [List.getD_eq_getElem?_getD, List.getElem?_take_of_lt hk, List.getD_eq_getElem?_getD]
    · simp [hmk]
  constructor
  · intro h
    obtain ⟨i, x, hx, hP, hi⟩ := mem_pickFrom.1 h
    have : i = k := by omega
    subst this
    have hx' : e.moves[i]? = some x := by
      have : (e.moves.take n)[i]? = some x := hx
      rwa [List.getElem?_take_of_lt hk] at this
    exact mem_pickFrom.2 ⟨i, x, hx', by rw [Nat.zero_add] at hP ⊢; rw [← key]; exact hP, hi⟩
  · intro h
    obtain ⟨i, x, hx, hP, hi⟩ := mem_pickFrom.1 h
    have : i = k := by omega
    subst this
    exact mem_pickFrom.2 ⟨i, x, by show (e.moves.take n)[i]? = _; rw [List.getElem?_take_of_lt hk]; exact hx, by rw [Nat.zero_add] at hP ⊢; rw [key]; exact hP, hi⟩
end Go.Proofs.Ythjgbjakpbfnoaa
/- What is reached is what a path leads to; a path is what Follows accepts. -/
namespace Go.Proofs.Ythjgbjakpbfnoaa
open Go.RowKit
set_option linter.unusedVariables false
set_option linter.unusedSimpArgs false

theorem refPath_back {e : Ev} {bl : List Bool} {i t : Int} (h : t < i) : refPath e bl i t = [] := by
  unfold refPath
  split
  · rename_i hc
    obtain ⟨⟨h1, h2⟩, h3⟩ := fits_iff.1 hc.1
    obtain ⟨⟨h4, h5⟩, _⟩ := fits_iff.1 hc.2
    exact refTo_low (by omega) _ (by omega)
  · rfl
theorem lifts_eq {e : Ev} {bl : List Bool} {t : Int} : liftsF e bl t = refLifts e bl t := by
  unfold liftsF refLifts
  cases hf : fitsB e t bl with
  | false => rfl
  | true =>
    rw [if_pos rfl, if_pos rfl]
    have h1 : (liftP e fun i => pathF e bl i t) = (liftP e fun i => refPath e bl i t) := by funext i x; unfold liftP; simp only [path_eq]
    rw [h1]
    obtain ⟨⟨h2, h3⟩, _⟩ := fits_iff.1 hf
    refine (pickFrom_take (by omega) fun i z hi => ?_).symm
    have hb : refPath e bl (i : Int) t = [] := refPath_back (by omega)
    simp [liftP, hb]

/-- a move that can be reached -/
def Rch (e : Ev) (bl : List Bool) (m v : Nat) : Prop := ∃ q, Pa m (nextI e bl) q ∧ lastI q = (v : Int)
theorem Rch.self {e : Ev} {bl : List Bool} {m : Nat} : Rch e bl m m := ⟨_, .one, rfl⟩
theorem Rch.ge {e : Ev} {bl : List Bool} {m v : Nat} (h : Rch e bl m v) : m ≤ v := by
  obtain ⟨q, h1, h2⟩ := h
  have := h1.ge nextI_gt
  omega
theorem Rch.step {e : Ev} {bl : List Bool} {m v k : Nat} (h : Rch e bl m v) (hs : stepB e v k = true) (hb : bl.getD k true = false) : Rch e bl m k := by
  obtain ⟨q, h1, h2⟩ := h
  exact ⟨q ++ [(k : Int)], .snoc h1 (by rw [h2]; exact nextI_iff.2 ⟨hs, hb⟩), lastI_snoc⟩
theorem Rch.case {e : Ev} {bl : List Bool} {m k : Nat} (h : Rch e bl m k) : k = m ∨ ∃ v, Rch e bl m v ∧ stepB e v k = true ∧ bl.getD k true = false := by
  obtain ⟨q, h1, h2⟩ := h
  rcases h1.case h2 with ⟨_, h⟩ | ⟨p, i, _, h4, h5, _, h7, h8⟩
  · exact .inl h
  · exact .inr ⟨i, ⟨p, h4, h5⟩, h7, h8⟩
/-- the place p holds something before the move i -/
def Holds (e : Ev) (bl : List Bool) (m i p : Nat) : Prop := ∃ (v : Nat) (u : Move), v < i ∧ e.moves[v]? = some u ∧ Rch e bl m v ∧ u.dst = (p : Int) ∧ clearB e u.dst v i = true
theorem Holds.reach {e : Ev} {bl : List Bool} {m i : Nat} {x : Move} (hx : e.moves[i]? = some x) (hm : m < i) {p : Nat} (hp : x.src = (p : Int)) (hb : bl.getD i true = false) : Rch e bl m i ↔ Holds e bl m i p := by
  constructor
  · intro h
    rcases h.case with h | ⟨v, h1, h2, _⟩
    · omega
    · have h3 := stepB_lt h2
      unfold stepB at h2
      split at h2
      · rename_i u w hu hw
        rw [hx] at hw
        injection hw with hw
        subst hw
        simp only [Bool.and_eq_true, decide_eq_true_eq] at h2
        exact ⟨v, u, h3.1, hu, h1, by rw [← h2.1.2, hp], h2.2⟩
      · cases h2
  · rintro ⟨v, u, h1, h2, h3, h4, h5⟩
    refine h3.step ?_ hb
    unfold stepB
    rw [h2, hx]
    simp only [Bool.and_eq_true, decide_eq_true_eq]
    exact ⟨⟨h1, by rw [hp, h4]⟩, h5⟩
theorem getD_setT {a : List Bool} {i j : Nat} (h : i < a.length) : (a.set i true).getD j false = true ↔ j = i ∨ a.getD j false = true := by
  rw [getD_setB h]
  split
  · rename_i hq; simp [hq]
  · rename_i hq; simp [hq]
theorem getD_setF {a : List Bool} {i j : Nat} (h : i < a.length) : (a.set i false).getD j false = true ↔ j ≠ i ∧ a.getD j false = true := by
  rw [getD_setB h]
  split
  · rename_i hq; simp [hq]
  · rename_i hq; simp [hq]
/-- where something is: where a reachable move went to, and nothing took all since -/
theorem atTo_holds {e : Ev} (h0 : check e = 0) {bl : List Bool} {m : Nat} {x0 : Move} (hm : e.moves[m]? = some x0) : ∀ k, m + 1 + k ≤ e.moves.length → ∀ p, (atTo e bl m x0.dst.toNat k).getD p false = true ↔ Holds e bl m (m + 1 + k) p
  | 0, _, p => by
    have hd := moveOk_dst (check_move h0 (List.mem_of_getElem? hm))
    have hl : x0.dst.toNat < (List.replicate e.places.length false).length := by simp; omega
    rw [atTo, getD_setT hl]
    have hr : (List.replicate e.places.length false).getD p false = false := by simp [List.getD_eq_getElem?_getD, List.getElem?_replicate]; split <;> rfl
    rw [hr]
    constructor
    · rintro (h | h)
      · exact ⟨m, x0, by omega, hm, .self, by omega, clearB_start⟩
      · cases h
    · rintro ⟨v, u, h1, h2, h3, h4, h5⟩
      have := h3.ge
      obtain rfl : v = m := by omega
      rw [hm] at h2
      injection h2 with h2
      subst h2
      exact .inl (by omega)
  | k + 1, hk, p => by
    have hlt : m + 1 + k < e.moves.length := by omega
    obtain ⟨x, hx⟩ : ∃ x, e.moves[m + 1 + k]? = some x := ⟨_, List.getElem?_eq_getElem hlt⟩
    have hmo := check_move h0 (List.mem_of_getElem? hx)
    have hsr := moveOk_src hmo
    have hdr := moveOk_dst hmo
    have hne := moveOk_ne hmo
    have ih := atTo_holds h0 (bl := bl) hm k (by omega)
    have hal := atTo_len (e := e) (bl := bl) (m := m) (d := x0.dst.toNat) k
    obtain ⟨s, hs⟩ := Int.eq_ofNat_of_zero_le hsr.1
    obtain ⟨d, hd⟩ := Int.eq_ofNat_of_zero_le hdr.1
    rw [atTo_succ hx]
    unfold flowStep
    rw [hs, hd, Int.toNat_natCast, Int.toNat_natCast]
    have hsd : s ≠ d := by omega
    -- what holds before the next move
    have old : ∀ q : Nat, (∃ (v : Nat) (u : Move), v < m + 1 + k ∧ e.moves[v]? = some u ∧ Rch e bl m v ∧ u.dst = (q : Int) ∧ clearB e u.dst v (m + 1 + (k + 1)) = true) ↔ Holds e bl m (m + 1 + k) q ∧ ¬ (s = q ∧ x.all = true) := fun q => by
      constructor
      · rintro ⟨v, u, h1, h2, h3, h4, h5⟩
        have := h3.ge
        rw [show m + 1 + (k + 1) = m + 1 + k + 1 by omega, clearB_succ hx (by omega), Bool.and_eq_true] at h5
        refine ⟨⟨v, u, h1, h2, h3, h4, h5.1⟩, ?_⟩
        rintro ⟨rfl, ha⟩
        have h6 := h5.2
        rw [ha, h4, hs] at h6
        simp at h6
      · rintro ⟨⟨v, u, h1, h2, h3, h4, h5⟩, h6⟩
        refine ⟨v, u, h1, h2, h3, h4, ?_⟩
        rw [show m + 1 + (k + 1) = m + 1 + k + 1 by omega, clearB_succ hx (by omega), h5, Bool.true_and]
        cases ha : x.all with
        | false => simp
        | true =>
          have : ¬ s = q := fun h => h6 ⟨h, ha⟩
          simp [hs, h4]
          omega
    have new : ∀ q : Nat, Holds e bl m (m + 1 + (k + 1)) q ↔ (Holds e bl m (m + 1 + k) q ∧ ¬ (s = q ∧ x.all = true)) ∨ (d = q ∧ Rch e bl m (m + 1 + k)) := fun q => by
      rw [← old q]
      constructor
      · rintro ⟨v, u, h1, h2, h3, h4, h5⟩
        by_cases hv : v = m + 1 + k
        · subst hv
          rw [hx] at h2
          injection h2 with h2
          subst h2
          exact .inr ⟨by omega, h3⟩
        · exact .inl ⟨v, u, by omega, h2, h3, h4, h5⟩
      · rintro (⟨v, u, h1, h2, h3, h4, h5⟩ | ⟨rfl, h⟩)
        · exact ⟨v, u, by omega, h2, h3, h4, h5⟩
        · exact ⟨m + 1 + k, x, by omega, hx, h, hd, clearB_start⟩
    have hrch : Rch e bl m (m + 1 + k) ↔ (atTo e bl m x0.dst.toNat k).getD s false = true ∧ bl.getD (m + 1 + k) true = false := by
      constructor
      · intro h
        have hb : bl.getD (m + 1 + k) true = false := by
          rcases h.case with h' | ⟨v, _, _, h'⟩
          · omega
          · exact h'
        exact ⟨(ih s).2 ((Holds.reach hx (by omega) hs hb).1 h), hb⟩
      · rintro ⟨h1, h2⟩
        exact (Holds.reach hx (by omega) hs h2).2 ((ih s).1 h1)
    rw [new p]
    cases ha : (atTo e bl m x0.dst.toNat k).getD s false with
    | false =>
      rw [cond_false]
      have hnr : ¬ Rch e bl m (m + 1 + k) := fun h => by have := (hrch.1 h).1; rw [ha] at this; cases this
      have hnh : ¬ Holds e bl m (m + 1 + k) s := fun h => by have := (ih s).2 h; rw [ha] at this; cases this
      rw [ih p]
      constructor
      · intro h
        exact .inl ⟨h, fun hq => hnh (hq.1 ▸ h)⟩
      · rintro (h | h)
        · exact h.1
        · exact absurd h.2 hnr
    | true =>
      rw [cond_true]
      have hr2 : Rch e bl m (m + 1 + k) ↔ bl.getD (m + 1 + k) true = false := by rw [hrch, ha]; simp
      have h1 : ∀ q : Nat, (cond (bl.getD (m + 1 + k) true) (atTo e bl m x0.dst.toNat k) ((atTo e bl m x0.dst.toNat k).set d true)).getD q false = true ↔ Holds e bl m (m + 1 + k) q ∨ (d = q ∧ Rch e bl m (m + 1 + k)) := fun q => by
        rw [hr2]
        cases hb : bl.getD (m + 1 + k) true with
        | true => rw [cond_true, ih q]; simp
        | false =>
          rw [cond_false, getD_setT (by rw [hal]; omega), ih q]
          constructor
          · rintro (h | h)
            · exact .inr ⟨h.symm, rfl⟩
            · exact .inl h
          · rintro (h | h)
            · exact .inr h
            · exact .inl h.1.symm
      have hlen : (cond (bl.getD (m + 1 + k) true) (atTo e bl m x0.dst.toNat k) ((atTo e bl m x0.dst.toNat k).set d true)).length = e.places.length := by
        cases bl.getD (m + 1 + k) true <;> simp [hal]
      cases hall : x.all with
      | false =>
        rw [cond_false, h1 p]
        simp
      | true =>
        rw [cond_true, getD_setF (by rw [hlen]; omega), h1 p]
        constructor
        · rintro ⟨h2, h3 | h3⟩
          · exact .inl ⟨h3, fun h => h2 h.1.symm⟩
          · exact .inr h3
        · rintro (⟨h2, h3⟩ | ⟨h2, h3⟩)
          · exact ⟨fun h => h3 ⟨h.symm, rfl⟩, .inl h2⟩
          · exact ⟨by omega, .inr ⟨h2, h3⟩⟩
/-- a later move carries something exactly if it can be reached -/
theorem loads_reach {e : Ev} (h0 : check e = 0) {bl : List Bool} {m : Nat} {x0 : Move} (hm : e.moves[m]? = some x0) {k : Nat} : (k : Int) ∈ loadsMoves e bl m x0.dst.toNat ↔ m < k ∧ Rch e bl m k ∧ k < e.moves.length := by
  constructor
  · intro h
    obtain ⟨i, x, hx, hP, hi⟩ := mem_pickFrom.1 h
    obtain rfl : i = k := by omega
    have hlt := (List.getElem?_eq_some_iff.1 hx).1
    rw [Nat.zero_add] at hP
    unfold carB at hP
    simp only [Bool.and_eq_true, decide_eq_true_eq, Bool.not_eq_true'] at hP
    have hsr := moveOk_src (check_move h0 (List.mem_of_getElem? hx))
    obtain ⟨s, hs⟩ := Int.eq_ofNat_of_zero_le hsr.1
    have hh := (atTo_holds h0 (bl := bl) hm (i - (m + 1)) (by omega) s).1 (by have := hP.1.2; rwa [hs, Int.toNat_natCast] at this)
    rw [show m + 1 + (i - (m + 1)) = i by omega] at hh
    exact ⟨hP.1.1, (Holds.reach hx hP.1.1 hs hP.2).2 hh, hlt⟩
  · rintro ⟨h1, h2, hlt⟩
    obtain ⟨x, hx⟩ : ∃ x, e.moves[k]? = some x := ⟨_, List.getElem?_eq_getElem hlt⟩
    refine mem_pickFrom.2 ⟨k, x, hx, ?_, by omega⟩
    rw [Nat.zero_add]
    have hsr := moveOk_src (check_move h0 (List.mem_of_getElem? hx))
    obtain ⟨s, hs⟩ := Int.eq_ofNat_of_zero_le hsr.1
    have hb : bl.getD k true = false := by
      rcases h2.case with h' | ⟨v, _, _, h'⟩
      · omega
      · exact h'
    have hh := (Holds.reach hx h1 hs hb).1 h2
    unfold carB
    simp only [Bool.and_eq_true, decide_eq_true_eq, Bool.not_eq_true']
    refine ⟨⟨h1, ?_⟩, hb⟩
    rw [hs, Int.toNat_natCast]
    refine (atTo_holds h0 (bl := bl) hm (k - (m + 1)) (by omega) s).2 ?_
    rw [show m + 1 + (k - (m + 1)) = k by omega]
    exact hh

theorem goodAt_app {e : Ev} {bl : List Bool} {p : List Int} {k : Int} {i : Nat} (h : i < p.length) : goodAt e bl (p ++ [k]) i = goodAt e bl p i := by
  have g : ∀ j, j < p.length → (p ++ [k]).getD j 0 = p.getD j 0 := fun j hj => by
    rw [List.getD_eq_getElem?_getD, List.getElem?_append_left hj, List.getD_eq_getElem?_getD]
  unfold goodAt
  rw [g i h, g (i - 1) (by omega)]
theorem goodTo_app {e : Ev} {bl : List Bool} {p : List Int} {k : Int} : goodTo e bl (p ++ [k]) p.length = goodTo e bl p p.length := by
  unfold goodTo
  rw [Bool.eq_iff_iff, List.all_eq_true, List.all_eq_true]
  constructor
  · intro h i hi
    rw [← goodAt_app (List.mem_range.1 hi)]; exact h i hi
  · intro h i hi
    rw [goodAt_app (List.mem_range.1 hi)]; exact h i hi
theorem lastI_get {p : List Int} (h : 0 < p.length) : p.getD (p.length - 1) 0 = lastI p := by
  unfold lastI
  rw [List.getD_eq_getElem?_getD, List.getLast?_eq_getElem?]
theorem goodAt_last {e : Ev} {bl : List Bool} {p : List Int} {k : Int} (hp : 0 < p.length) : goodAt e bl (p ++ [k]) p.length = (fitsB e k bl && !(bl.getD k.toNat true) && edgeB e (lastI p) k) := by
  have g1 : (p ++ [k]).getD p.length 0 = k := by rw [List.getD_eq_getElem?_getD]; simp
  have g2 : (p ++ [k]).getD (p.length - 1) 0 = lastI p := by
    rw [← lastI_get hp, List.getD_eq_getElem?_getD, List.getElem?_append_left (by omega), List.getD_eq_getElem?_getD]
  unfold goodAt
  rw [g1, g2]
  have : decide (p.length = 0) = false := by simp; intro h; subst h; simp at hp
  rw [this, Bool.false_or]
theorem edge_step {e : Ev} {i j : Nat} : edgeB e i j = stepB e i j := by unfold edgeB stepB; rfl
/-- a path is what Follows accepts -/
theorem pa_follows {e : Ev} {bl : List Bool} {fr : Nat} (hf : fitsB e fr bl = true) (hb : bl.getD fr true = false) {q : List Int} (h : Pa fr (nextI e bl) q) : goodTo e bl q q.length = true := by
  obtain ⟨_, h3⟩ := fits_iff.1 hf
  induction h with
  | one =>
    show goodTo e bl [(fr : Int)] (0 + 1) = true
    rw [goodTo_succ]
    have hb' : bl[fr]?.getD true = false := by rw [← List.getD_eq_getElem?_getD]; exact hb
    unfold goodAt goodTo
    simp [hf, hb']
  | @snoc p k hp hk ih =>
    rw [List.length_append, List.length_singleton, goodTo_succ, goodTo_app, ih, Bool.true_and, goodAt_last hp.pos]
    have hge := hp.ge nextI_gt
    obtain ⟨i, hi⟩ := Int.eq_ofNat_of_zero_le (show 0 ≤ lastI p by omega)
    have hgt := nextI_gt _ _ hk
    obtain ⟨j, rfl⟩ := Int.eq_ofNat_of_zero_le (show 0 ≤ k by omega)
    rw [hi] at hk ⊢
    obtain ⟨h1, h2⟩ := nextI_iff.1 hk
    have := stepB_lt h1
    rw [edge_step, h1, Int.toNat_natCast, h2, fits_iff.2 (by omega)]
    rfl
theorem follows_pa {e : Ev} {bl : List Bool} : ∀ (n : Nat) (q : List Int), q.length = n + 1 → goodTo e bl q q.length = true → Pa (q.getD 0 0) (nextI e bl) q ∧ (∀ x ∈ q, fitsB e x bl = true) ∧ bl.getD (q.getD 0 0).toNat true = false
  | 0, q, hl, h => by
    match q, hl with
    | [x], _ =>
      have h : goodTo e bl [x] (0 + 1) = true := h
      rw [goodTo_succ, Bool.and_eq_true] at h
      have h2 := h.2
      unfold goodAt at h2
      simp at h2
      exact ⟨.one, by simpa using h2.1, by simpa using h2.2⟩
  | n + 1, q, hl, h => by
    obtain ⟨p, k, rfl⟩ : ∃ p k, q = p ++ [k] := by
      refine ⟨q.dropLast, q.getLast (by intro e; subst e; simp at hl), (List.dropLast_concat_getLast _).symm⟩
    have hpl : p.length = n + 1 := by simpa using hl
    rw [List.length_append, List.length_singleton, goodTo_succ, goodTo_app, Bool.and_eq_true, goodAt_last (by omega)] at h
    obtain ⟨h1, h2⟩ := h
    obtain ⟨i1, i2, i3⟩ := follows_pa n p hpl h1
    have hg0 : (p ++ [k]).getD 0 0 = p.getD 0 0 := by rw [List.getD_eq_getElem?_getD, List.getElem?_append_left (by omega), List.getD_eq_getElem?_getD]
    rw [hg0]
    simp only [Bool.and_eq_true, Bool.not_eq_true'] at h2
    refine ⟨.snoc i1 ?_, ?_, i3⟩
    · obtain ⟨⟨k1, k2⟩, _⟩ := fits_iff.1 h2.1.1
      have hlm : lastI p ∈ p := by
        unfold lastI
        cases hq : p.getLast? with
        | none => rw [List.getLast?_eq_none_iff] at hq; subst hq; simp at hpl
        | some x => exact List.mem_of_getLast? hq
      obtain ⟨⟨l1, l2⟩, _⟩ := fits_iff.1 (i2 _ hlm)
      obtain ⟨i, hi⟩ := Int.eq_ofNat_of_zero_le l1
      obtain ⟨j, rfl⟩ := Int.eq_ofNat_of_zero_le k1
      rw [hi] at h2 ⊢
      exact nextI_iff.2 ⟨by rw [← edge_step]; exact h2.2, by simpa using h2.1.2⟩
    · intro x hx
      rcases List.mem_append.1 hx with hx | hx
      · exact i2 x hx
      · simp at hx; subst hx; exact h2.1.1
theorem pa_head {fr : Int} {nxt : Int → List Int} {q : List Int} (h : Pa fr nxt q) : q.getD 0 0 = fr := by
  induction h with
  | one => rfl
  | @snoc p k hp hk ih =>
    have := hp.pos
    rw [List.getD_eq_getElem?_getD, List.getElem?_append_left this, ← List.getD_eq_getElem?_getD]; exact ih
/-- the theorem of the stage: of a path to a move -/
theorem path_facts {e : Ev} (h0 : check e = 0) {bl : List Bool} (hl : bl.length = e.moves.length) {m k : Nat} (hm : m < e.moves.length) (hmk : m < k) (hk : k < e.moves.length) :
    ((k : Int) ∈ (loads e m bl).1 ↔ 0 < (pathF e bl m k).length) ∧ (0 < (pathF e bl m k).length → (pathF e bl m k).getD 0 0 = m ∧ (pathF e bl m k).getD ((pathF e bl m k).length - 1) 0 = k ∧ followsB e bl (pathF e bl m k) = true) := by
  have f1 : fitsB e m bl = true := fits_iff.2 (by omega)
  have f2 : fitsB e k bl = true := fits_iff.2 (by omega)
  obtain ⟨x0, hx⟩ : ∃ x, e.moves[m]? = some x := ⟨_, List.getElem?_eq_getElem hm⟩
  cases hb : bl.getD m true with
  | true =>
    have hp : pathF e bl m k = [] := by unfold pathF; rw [if_neg (by rw [Int.toNat_natCast, hb]; simp)]
    have hld : loads e m bl = ([], []) := loads_no fun _ => by rw [Int.toNat_natCast, hb]
    rw [hp, hld]
    simp
  | false =>
    rw [loads_yes f1 hb hx]
    show ((k : Int) ∈ loadsMoves e bl m x0.dst.toNat ↔ _) ∧ _
    rw [loads_reach h0 hx]
    rcases pathF_spec f1 f2 (by rw [Int.toNat_natCast]; exact hb) with ⟨h1, h2, h3⟩ | ⟨h1, h2⟩
    · have hpos := h1.pos
      refine ⟨⟨fun _ => hpos, fun _ => ⟨hmk, ⟨_, h1, h2⟩, hk⟩⟩, fun _ => ⟨pa_head h1, by rw [lastI_get hpos, h2], ?_⟩⟩
      unfold followsB
      rw [pa_follows f1 hb h1]
      simp only [Bool.true_and, decide_eq_true_eq]
      exact hpos
    · rw [h1]
      refine ⟨⟨fun h => ?_, fun h => by simp at h⟩, fun h => by simp at h⟩
      obtain ⟨_, ⟨q, hq, hql⟩, _⟩ := h
      exact absurd hql (h2 q hq)
theorem lift_facts {e : Ev} {bl : List Bool} (hl : bl.length = e.moves.length) {m k : Nat} {x0 : Move} (hx : e.moves[m]? = some x0) (hk : k < e.moves.length) : ((m : Int) ∈ liftsF e bl k ↔ kindAt e x0.src = 0 ∧ 0 < (pathF e bl m k).length) := by
  have f2 : fitsB e k bl = true := fits_iff.2 (by omega)
  unfold liftsF
  rw [if_pos f2]
  constructor
  · intro h
    obtain ⟨i, z, hz, hP, hi⟩ := mem_pickFrom.1 h
    obtain rfl : i = m := by omega
    rw [hx] at hz
    injection hz with hz
    subst hz
    rw [Nat.zero_add] at hP
    unfold liftP at hP
    simpa only [Bool.and_eq_true, decide_eq_true_eq] using hP
  · intro h
    refine mem_pickFrom.2 ⟨m, x0, hx, ?_, by omega⟩
    rw [Nat.zero_add]
    unfold liftP
    simpa only [Bool.and_eq_true, decide_eq_true_eq] using h
theorem other_facts {e : Ev} {bl : List Bool} {q : List Int} (h : followsB e bl q = true) : 0 < q.length ∧ 0 < (pathF e bl (q.getD 0 0) (q.getD (q.length - 1) 0)).length ∧ (pathF e bl (q.getD 0 0) (q.getD (q.length - 1) 0)).length ≤ q.length := by
  unfold followsB at h
  rw [Bool.and_eq_true, decide_eq_true_eq] at h
  obtain ⟨h1, h2⟩ := h
  obtain ⟨p1, p2, p3⟩ := follows_pa (q.length - 1) q (by omega) h1
  have m1 : q.getD 0 0 ∈ q := by rw [List.getD_eq_getElem?_getD, List.getElem?_eq_getElem h2]; exact List.getElem_mem h2
  have m2 : q.getD (q.length - 1) 0 ∈ q := by rw [List.getD_eq_getElem?_getD, List.getElem?_eq_getElem (by omega)]; exact List.getElem_mem (by omega)
  have hlast := lastI_get h2
  rcases pathF_spec (p2 _ m1) (p2 _ m2) p3 with ⟨h3, h4, h5⟩ | ⟨h3, h4⟩
  · refine ⟨h2, h3.pos, ?_⟩
    rcases h5 q p1 hlast.symm with h | h | ⟨h, _⟩
    · rw [h]; exact Nat.le_refl _
    · omega
    · omega
  · exact absurd hlast.symm (h4 q p1)
theorem pathF_len {e : Ev} {bl : List Bool} {m k : Int} : (pathF e bl m k).length ≤ e.moves.length := by
  rw [path_eq]
  unfold refPath
  split
  · rename_i hc
    obtain ⟨⟨h1, h2⟩, h3⟩ := fits_iff.1 hc.1
    obtain ⟨⟨h4, h5⟩, _⟩ := fits_iff.1 hc.2
    have := (ShortP.refTo (e := e) (bl := bl) (fr := m.toNat) (e.moves.length - m.toNat) (by omega)).short k.toNat
    unfold refPaths
    omega
  · simp
end Go.Proofs.Ythjgbjakpbfnoaa
/- The law ReachMore, walked. -/
namespace Go.Proofs.Ythjgbjakpbfnoaa
open Go.RowKit
set_option linter.unusedVariables false
set_option linter.unusedSimpArgs false
set_option maxRecDepth 100000

theorem fine_iff {e : Ev} {n : Int} (h : fineB e n = true) : e.Sized ∧ check e = 0 ∧ (e.moves.length : Int) ≤ n := by
  unfold fineB at h
  simp only [Bool.and_eq_true, decide_eq_true_eq] at h
  exact ⟨few_sized h.1.1, h.2, h.1.2⟩
def bothTo (a b : List Bool) (k : Nat) : List Bool := (List.range a.length).map fun i => decide (i < k) && (a.getD i false && b.getD i false)
theorem bothTo_len {a b : List Bool} {k : Nat} : (bothTo a b k).length = a.length := by simp [bothTo]
theorem bothTo_get {a b : List Bool} {k i : Nat} (h : i < a.length) : (bothTo a b k)[i]? = some (decide (i < k) && (a.getD i false && b.getD i false)) := by
  unfold bothTo
  rw [List.getElem?_map, List.getElem?_range h]; rfl
theorem bothTo_zero {a b : List Bool} : bothTo a b 0 = List.replicate a.length false := by
  apply List.ext_getElem?
  intro i
  by_cases h : i < a.length
  · rw [bothTo_get h, List.getElem?_replicate, if_pos h]; simp
  · rw [List.getElem?_eq_none (by rw [bothTo_len]; omega), List.getElem?_eq_none (by simp; omega)]
theorem bothTo_succ {a b : List Bool} {k : Nat} (h : k < a.length) : bothTo a b (k + 1) = (bothTo a b k).set k (a.getD k false && b.getD k false) := by
  apply List.ext_getElem?
  intro i
  by_cases hi : i < a.length
  · rw [bothTo_get hi]
    by_cases hk : i = k
    · subst hk
      rw [List.getElem?_set_self (by rw [bothTo_len]; exact hi)]
      simp
    · rw [List.getElem?_set_ne (Ne.symm hk), bothTo_get hi]
      have : decide (i < k + 1) = decide (i < k) := by
        have : (i < k + 1) ↔ (i < k) := by omega
        simp [this]
      rw [this]
  · rw [List.getElem?_eq_none (by rw [bothTo_len]; omega), List.getElem?_eq_none (by simp [bothTo_len]; omega)]
theorem bothTo_blocked {a b : List Bool} (hab : b.length = a.length) (i : Nat) (h : (bothTo a b a.length).getD i true = true) : a.getD i true = true := by
  by_cases hi : i < a.length
  · rw [List.getD_eq_getElem?_getD, bothTo_get hi] at h
    simp only [Option.getD_some, Bool.and_eq_true] at h
    rw [List.getD_eq_getElem?_getD, List.getElem?_eq_getElem hi]
    have := h.2.1
    rw [List.getD_eq_getElem?_getD, List.getElem?_eq_getElem hi] at this
    exact this
  · rw [List.getD_eq_getElem?_getD, List.getElem?_eq_none (by omega)]; rfl
theorem any_iff {l : List Int} {n : Int} : (l.any fun x => decide (x = n)) = true ↔ n ∈ l := by
  rw [List.any_eq_true]
  constructor
  · rintro ⟨x, hx, h⟩
    rw [decide_eq_true_eq] at h; subst h; exact hx
  · intro h; exact ⟨n, h, by simp⟩
theorem loads_subset {e : Ev} {q : Int} {bl bl' : List Bool} (hl : bl'.length = bl.length) (hb : ∀ i, bl'.getD i true = true → bl.getD i true = true) {x : Int} (h : x ∈ (loads e q bl).1) : x ∈ (loads e q bl').1 := by
  have hfe : fitsB e q bl' = fitsB e q bl := by unfold fitsB; rw [hl]
  unfold loads at h ⊢
  by_cases hc : fitsB e q bl = true ∧ bl.getD q.toNat true = false
  · rw [if_pos hc] at h
    have hc' : fitsB e q bl' = true ∧ bl'.getD q.toNat true = false := by
      refine ⟨by rw [hfe]; exact hc.1, ?_⟩
      cases hq : bl'.getD q.toNat true with
      | false => rfl
      | true => rw [hb _ hq] at hc; cases hc.2
    rw [if_pos hc']
    cases hx : e.moves[q.toNat]? with
    | none => rw [hx] at h; cases h
    | some y => rw [hx] at h; exact loads_sub hb h
  · rw [if_neg hc] at h; cases h
theorem loads_trunc {e : Ev} {q n k : Nat} {bl : List Bool} (hq : q < n) (hn : n ≤ e.moves.length) (hl : bl.length = e.moves.length) (hk : k < n) :
    ((k : Int) ∈ (loads (cutE e n) q (bl.take n)).1) ↔ ((k : Int) ∈ (loads e q bl).1) := by
  have f1 : fitsB (cutE e n) q (bl.take n) = true := fits_iff.2 (by simp [cutE]; omega)
  have f2 : fitsB e q bl = true := fits_iff.2 (by omega)
  have hg : (bl.take n).getD q true = bl.getD q true := by rw [List.getD_eq_getElem?_getD, List.getElem?_take_of_lt hq, List.getD_eq_getElem?_getD]
  have hm : (cutE e n).moves[q]? = e.moves[q]? := by show (e.moves.take n)[_]? = _; rw [List.getElem?_take_of_lt hq]
  unfold loads
  rw [f1, f2, Int.toNat_natCast, hg, hm]
  cases bl.getD q true with
  | true => simp
  | false =>
    simp only [and_self, if_true]
    cases e.moves[q]? with
    | none => exact Iff.rfl
    | some x => exact loads_cut hk
theorem cut_check {e : Ev} {n : Nat} (h0 : check e = 0) (hp : e.purities = []) : check (cutE e n) = 0 := by
  have hb : e.mats ≤ 6 ∧ e.hhs ≤ 100 ∧ e.scs ≤ 30 := by
    have := (check_zero h0).1
    simp [fullB] at this
    omega
  exact check_mono (n := n) h0 rfl (Int.le_refl _) hb.1 (Int.le_refl _) hb.2.1 (Int.le_refl _) hb.2.2 rfl (.inl rfl) (.inl rfl) (fun q hq => by
    have : q ∈ e.purities := hq
    rw [hp] at this; cases this) (Nat.le_refl _)
set_option maxHeartbeats 2000000 in
theorem a_ReachMore (e : Ev) (m : Int) (bl fw : List Bool) (left : Int) : ACall Try.prog 9 [evS e, intS .i64 m, boolsS bl, boolsS fw, intS .i64 left] [] (boolS true) [] := by
  have f0 := a_fine24 e 20
  have l2 : (e.moves.map Move.row).length = e.moves.length := by simp
  have l3 : (bl.map boolRow).length = bl.length := by simp
  have l4 : (fw.map boolRow).length = fw.length := by simp
  have l5 : (e.purities.map Purity.row).length = e.purities.length := by simp
  cases hf : fineB e 20 with
  | false =>
    rw [hf] at f0
    (refine acall_of tab_ok Try.func9 rfl (by decide) ?_; (conv => whnf); repeat (refine LitB.data ?_; conv => whnf))
    (repeat' (first | ((refine DecB.mk (fun h => ?_) (fun h => ?_)) <;> first | (exfalso; omega) | (conv => whnf)) | ((refine BoolB.mk (fun h => ?_) (fun h => ?_)) <;> first | (exact absurd h (by decide)) | (conv => whnf)) | (refine ⟨_, wrap_ok (by omega) (by omega), ?_⟩; conv => whnf) | (refine and_idx (by omega) (by omega) ?_; conv => whnf) | (refine reg_ok (by decide +kernel) ?_; conv => whnf) | (refine bar_ok (by decide +kernel) (by decide +kernel) ?_; conv => whnf) | (refine late_ok rfl rfl ?_; conv => whnf) | (refine src_ok rfl ?_; conv => whnf) | (refine .inl ⟨_, _, qcall_pure (a_sane24) rfl rfl, ?_⟩; conv => whnf) | (refine .inl ⟨_, _, qcall_pure (f0) rfl rfl, ?_⟩; conv => whnf) | (refine LitB.data ?_; conv => whnf)))
    all_goals first | exact fin_bool rfl | (exfalso; simp_all; done)
  | true =>
    rw [hf] at f0
    obtain ⟨hs, h0, hn⟩ := fine_iff hf
    (refine acall_of tab_ok Try.func9 rfl (by decide) ?_; (conv => whnf); repeat (refine LitB.data ?_; conv => whnf))
    (repeat' (first | ((refine DecB.mk (fun h => ?_) (fun h => ?_)) <;> first | (exfalso; omega) | (conv => whnf)) | ((refine BoolB.mk (fun h => ?_) (fun h => ?_)) <;> first | (exact absurd h (by decide)) | (conv => whnf)) | (refine ⟨_, wrap_ok (by omega) (by omega), ?_⟩; conv => whnf) | (refine and_idx (by omega) (by omega) ?_; conv => whnf) | (refine reg_ok (by decide +kernel) ?_; conv => whnf) | (refine bar_ok (by decide +kernel) (by decide +kernel) ?_; conv => whnf) | (refine late_ok rfl rfl ?_; conv => whnf) | (refine src_ok rfl ?_; conv => whnf) | (refine .inl ⟨_, _, qcall_pure (a_sane24) rfl rfl, ?_⟩; conv => whnf) | (refine .inl ⟨_, _, qcall_pure (f0) rfl rfl, ?_⟩; conv => whnf) | (refine mk_ok (by omega) (by omega) (by omega) (by decide) ?_; conv => whnf) | (refine LitB.data ?_; conv => whnf)))
    all_goals first | exact fin_bool rfl | (exfalso; simp_all; done) | skip
    obtain ⟨q, rfl⟩ := Int.eq_ofNat_of_zero_le (show 0 ≤ m by omega)
    obtain ⟨n, rfl⟩ := Int.eq_ofNat_of_zero_le (show 0 ≤ left by omega)
    have hq : q < e.moves.length := by omega
    have hqn : q < n := by omega
    have hnn : n ≤ e.moves.length := by omega
    have hbl : bl.length = e.moves.length := by omega
    have hfl : fw.length = e.moves.length := by omega
    refine awp_weak ?_
    refine awp_for tab_ok (fun k => ([S.junk, intS .i64 q, boolsS bl, boolsS fw, intS .i64 n, S.c (C.ptr 0 0 0), S.junk, S.junk, S.junk, S.junk, S.junk, boolS true, S.c (C.own 1 0 bl.length true), intS .i64 k, S.junk, S.junk, S.junk, S.junk, S.junk, S.junk, S.junk, S.junk, S.junk, S.junk, S.junk, S.junk, S.junk, S.junk, S.junk, S.junk, S.junk, S.junk, S.junk, S.junk, S.junk, S.junk, S.junk, S.junk, S.junk, S.junk, S.junk, S.junk, S.junk, S.junk, S.junk, S.junk, S.junk, S.junk, S.junk, S.junk, S.junk, S.junk, S.junk, S.junk, S.junk, S.junk, S.junk, S.junk, S.junk, S.junk, S.junk, S.junk, S.junk, S.junk, S.junk, S.junk, S.junk, S.junk, S.junk, S.junk, S.junk, S.junk, S.junk, S.junk, S.junk, S.junk, S.junk, S.junk, S.junk, S.junk, S.junk, S.junk, S.junk, S.junk, S.junk, S.junk, S.junk, S.junk, S.junk, S.junk, S.junk, S.junk, S.junk, S.junk, S.junk, S.junk, S.junk, S.junk, S.junk, S.junk, S.junk, S.junk, S.junk, S.junk, S.junk, S.junk, S.junk, S.junk, S.junk, S.junk, S.junk, S.junk, S.junk, S.junk, S.junk, S.junk, S.junk, S.junk, S.junk, S.junk, S.junk, S.junk, S.junk, S.junk, S.junk, S.junk, S.junk, S.junk, S.junk, S.junk, S.junk, S.junk, S.junk, S.junk, S.junk, S.junk, S.junk, S.junk, S.junk, S.junk, S.junk, S.junk, S.junk, S.junk, S.junk, S.junk, S.junk, S.junk, S.junk, S.junk, S.junk, S.junk, S.junk, S.junk, S.junk, S.junk, S.junk, S.junk, S.junk], [evB e, boolsB (bothTo bl fw k)])) bl.length (fun k => True) [some 0, some 1] trivial
      ⟨rfl, rfl, ⟨⟨rfl, rfl, rfl, .inl ⟨rfl, rowsT_ev e⟩⟩, entB_rows rfl rfl rfl ?_ rfl, trivial⟩, ⟨rfl, ent_t rfl, ent_t rfl, rfl, ⟨rfl, rfl, rfl⟩, rfl, ⟨rfl, rfl, ?_, fun h => h⟩, ent_i rfl, trivial⟩⟩ ?_
    · rw [bothTo_zero]
      show List.replicate ((bl.map boolRow).length : Int).toNat [C.t (tb false)] = _
      rw [show ((bl.map boolRow).length : Int).toNat = bl.length by omega]
      simp [toC, boolRow]
    · omega
    intro k hk hI
    have hbol := bothTo_len (a := bl) (b := fw) (k := k)
    conv => whnf
    (repeat' (first | ((refine DecB.mk (fun h => ?_) (fun h => ?_)) <;> first | (exfalso; omega) | (conv => whnf)) | ((refine BoolB.mk (fun h => ?_) (fun h => ?_)) <;> first | (exact absurd h (by decide)) | (conv => whnf)) | (refine ⟨_, wrap_ok (by omega) (by omega), ?_⟩; conv => whnf) | (refine and_idx (by omega) (by omega) ?_; conv => whnf) | (refine reg_ok (by decide +kernel) ?_; conv => whnf) | (refine bar_ok (by decide +kernel) (by decide +kernel) ?_; conv => whnf) | (refine late_ok rfl rfl ?_; conv => whnf) | (refine src_ok rfl ?_; conv => whnf) | (refine LitB.data ?_; conv => whnf)))
    · have hlt : k < bl.length := by omega
      obtain ⟨a, ha⟩ : ∃ a, bl[k]? = some a := ⟨_, List.getElem?_eq_getElem hlt⟩
      obtain ⟨b, hb⟩ : ∃ a, fw[k]? = some a := ⟨_, List.getElem?_eq_getElem (by omega)⟩
      obtain ⟨c, hc⟩ : ∃ a, (bothTo bl fw k)[0 + (k : Int).toNat]? = some a := ⟨_, List.getElem?_eq_getElem (by omega)⟩
      have hga : bl.getD k false = a := by rw [List.getD_eq_getElem?_getD, ha]; rfl
      have hgb : fw.getD k false = b := by rw [List.getD_eq_getElem?_getD, hb]; rfl
      have hsu := bothTo_succ (b := fw) hlt
      rw [hga, hgb] at hsu
      (repeat' (first | ((refine DecB.mk (fun h => ?_) (fun h => ?_)) <;> first | (exfalso; omega) | (conv => whnf)) | ((refine BoolB.mk (fun h => ?_) (fun h => ?_)) <;> first | (exact absurd h (by decide)) | (conv => whnf)) | (refine ⟨_, wrap_ok (by omega) (by omega), ?_⟩; conv => whnf) | (refine and_idx (by omega) (by omega) ?_; conv => whnf) | (refine reg_ok (by decide +kernel) ?_; conv => whnf) | (refine bar_ok (by decide +kernel) (by decide +kernel) ?_; conv => whnf) | (refine late_ok rfl rfl ?_; conv => whnf) | (refine src_ok rfl ?_; conv => whnf) | (refine ex_row ha ?_; conv => whnf) | (refine ex_row hb ?_; conv => whnf) | (refine ex_own hc ?_; conv => whnf) | (refine LitB.data ?_; conv => whnf)))
      all_goals
        refine ⟨hlt, trivial, [some 0, some 1], rfl, rfl, ⟨⟨rfl, rfl, rfl, .inl ⟨rfl, rowsT_ev e⟩⟩, entB_rows rfl rfl rfl ?_ rfl, trivial⟩, ⟨rfl, rfl, rfl, rfl, ⟨rfl, rfl, rfl⟩, rfl, ⟨rfl, rfl, rfl, fun h => h⟩, rfl, trivial⟩⟩
        rw [hsu]; simp_all [toC, boolRow, List.map_set, setRows]; done
    · have hkl : k = bl.length := by omega
      refine .inr ⟨[some 0], [S.junk, intS .i64 q, boolsS bl, S.junk, intS .i64 n, S.c (C.ptr 0 0 0), S.junk, S.junk, S.junk, S.junk, S.junk, boolS true, boolsS (bothTo bl fw k), S.junk, S.junk, S.junk, S.junk, S.junk, S.junk, S.junk, S.junk, S.junk, S.junk, S.junk, S.junk, S.junk, S.junk, S.junk, S.junk, S.junk, S.junk, S.junk, S.junk, S.junk, S.junk, S.junk, S.junk, S.junk, S.junk, S.junk, S.junk, S.junk, S.junk, S.junk, S.junk, S.junk, S.junk, S.junk, S.junk, S.junk, S.junk, S.junk, S.junk, S.junk, S.junk, S.junk, S.junk, S.junk, S.junk, S.junk, S.junk, S.junk, S.junk, S.junk, S.junk, S.junk, S.junk, S.junk, S.junk, S.junk, S.junk, S.junk, S.junk, S.junk, S.junk, S.junk, S.junk, S.junk, S.junk, S.junk, S.junk, S.junk, S.junk, S.junk, S.junk, S.junk, S.junk, S.junk, S.junk, S.junk, S.junk, S.junk, S.junk, S.junk, S.junk, S.junk, S.junk, S.junk, S.junk, S.junk, S.junk, S.junk, S.junk, S.junk, S.junk, S.junk, S.junk, S.junk, S.junk, S.junk, S.junk, S.junk, S.junk, S.junk, S.junk, S.junk, S.junk, S.junk, S.junk, S.junk, S.junk, S.junk, S.junk, S.junk, S.junk, S.junk, S.junk, S.junk, S.junk, S.junk, S.junk, S.junk, S.junk, S.junk, S.junk, S.junk, S.junk, S.junk, S.junk, S.junk, S.junk, S.junk, S.junk, S.junk, S.junk, S.junk, S.junk, S.junk, S.junk, S.junk, S.junk, S.junk, S.junk, S.junk, S.junk, S.junk, S.junk, S.junk, S.junk], [evB e], ⟨rfl, rfl, ⟨⟨rfl, rfl, rfl, .inl ⟨rfl, rowsT_ev e⟩⟩, trivial⟩, ⟨rfl, rfl, rfl, ⟨rfl, rfl, rfl⟩, rfl, ent_view rfl rfl (by intro h; cases h) rfl rfl (by simp [hbol]), trivial⟩⟩, ?_⟩
      obtain ⟨kA, _⟩ := loads_len hs (m := (q : Int)) (bl := bl)
      obtain ⟨kB, _⟩ := loads_len hs (m := (q : Int)) (bl := bothTo bl fw k)
      have hAB : ∀ x, x ∈ (loads e q bl).1 → x ∈ (loads e q (bothTo bl fw k)).1 := fun x hx => loads_subset (by rw [hbol]) (fun i hi => bothTo_blocked (b := fw) (by omega) i (by rw [← hkl]; exact hi)) hx
      have la := a_LoadsAll e hs h0 q bl
      have lb := a_LoadsAll e hs h0 q (bothTo bl fw k)
      generalize hA : (loads e q bl).1 = A at *
      generalize hB : (loads e q (bothTo bl fw k)).1 = B at *
      have lA : (A.map intRow).length = A.length := by simp
      conv => whnf
      (repeat' (first | ((refine DecB.mk (fun h => ?_) (fun h => ?_)) <;> first | (exfalso; omega) | (conv => whnf)) | ((refine BoolB.mk (fun h => ?_) (fun h => ?_)) <;> first | (exact absurd h (by decide)) | (conv => whnf)) | (refine ⟨_, wrap_ok (by omega) (by omega), ?_⟩; conv => whnf) | (refine and_idx (by omega) (by omega) ?_; conv => whnf) | (refine reg_ok (by decide +kernel) ?_; conv => whnf) | (refine bar_ok (by decide +kernel) (by decide +kernel) ?_; conv => whnf) | (refine late_ok rfl rfl ?_; conv => whnf) | (refine src_ok rfl ?_; conv => whnf) | (refine .inl ⟨_, _, qcall_pure (la) rfl rfl, ?_⟩; conv => whnf) | (refine .inl ⟨_, _, qcall_pure (lb) rfl rfl, ?_⟩; conv => whnf) | (refine LitB.data ?_; conv => whnf)))
      refine awp_for tab_ok (fun i => ([S.junk, intS .i64 q, boolsS bl, S.junk, intS .i64 n, S.c (C.ptr 0 0 0), S.junk, S.junk, S.junk, S.junk, S.junk, boolS true, S.junk, S.junk, intsS A, S.junk, intsS B, S.junk, intS .i64 i, S.junk, S.junk, S.junk, S.junk, S.junk, S.junk, S.junk, S.junk, S.junk, S.junk, S.junk, S.junk, S.junk, S.junk, S.junk, S.junk, S.junk, S.junk, S.junk, S.junk, S.junk, S.junk, S.junk, S.junk, S.junk, S.junk, S.junk, S.junk, S.junk, S.junk, S.junk, S.junk, S.junk, S.junk, S.junk, S.junk, S.junk, S.junk, S.junk, S.junk, S.junk, S.junk, S.junk, S.junk, S.junk, S.junk, S.junk, S.junk, S.junk, S.junk, S.junk, S.junk, S.junk, S.junk, S.junk, S.junk, S.junk, S.junk, S.junk, S.junk, S.junk, S.junk, S.junk, S.junk, S.junk, S.junk, S.junk, S.junk, S.junk, S.junk, S.junk, S.junk, S.junk, S.junk, S.junk, S.junk, S.junk, S.junk, S.junk, S.junk, S.junk, S.junk, S.junk, S.junk, S.junk, S.junk, S.junk, S.junk, S.junk, S.junk, S.junk, S.junk, S.junk, S.junk, S.junk, S.junk, S.junk, S.junk, S.junk, S.junk, S.junk, S.junk, S.junk, S.junk, S.junk, S.junk, S.junk, S.junk, S.junk, S.junk, S.junk, S.junk, S.junk, S.junk, S.junk, S.junk, S.junk, S.junk, S.junk, S.junk, S.junk, S.junk, S.junk, S.junk, S.junk, S.junk, S.junk, S.junk, S.junk, S.junk, S.junk, S.junk, S.junk, S.junk, S.junk, S.junk, S.junk, S.junk, S.junk, S.junk], [evB e])) A.length (fun k => True) [some 0] trivial
        ⟨rfl, rfl, ⟨⟨rfl, rfl, rfl, .inl ⟨rfl, rowsT_ev e⟩⟩, trivial⟩, ⟨rfl, rfl, rfl, ⟨rfl, rfl, rfl⟩, rfl, ent_t (by rw [← hA]), ent_t (by rw [← hB]), rfl, trivial⟩⟩ ?_
      intro i hi hI2
      conv => whnf
      (repeat' (first | ((refine DecB.mk (fun h => ?_) (fun h => ?_)) <;> first | (exfalso; omega) | (conv => whnf)) | ((refine BoolB.mk (fun h => ?_) (fun h => ?_)) <;> first | (exact absurd h (by decide)) | (conv => whnf)) | (refine ⟨_, wrap_ok (by omega) (by omega), ?_⟩; conv => whnf) | (refine and_idx (by omega) (by omega) ?_; conv => whnf) | (refine reg_ok (by decide +kernel) ?_; conv => whnf) | (refine bar_ok (by decide +kernel) (by decide +kernel) ?_; conv => whnf) | (refine late_ok rfl rfl ?_; conv => whnf) | (refine src_ok rfl ?_; conv => whnf) | (refine LitB.data ?_; conv => whnf)))
      · obtain ⟨x, hx⟩ : ∃ x, A[i]? = some x := ⟨_, List.getElem?_eq_getElem (by omega)⟩
        have ch := a_Has24 B x kB
        rw [any_iff.2 (hAB x (List.mem_of_getElem? hx))] at ch
        (repeat' (first | ((refine DecB.mk (fun h => ?_) (fun h => ?_)) <;> first | (exfalso; omega) | (conv => whnf)) | ((refine BoolB.mk (fun h => ?_) (fun h => ?_)) <;> first | (exact absurd h (by decide)) | (conv => whnf)) | (refine ⟨_, wrap_ok (by omega) (by omega), ?_⟩; conv => whnf) | (refine and_idx (by omega) (by omega) ?_; conv => whnf) | (refine reg_ok (by decide +kernel) ?_; conv => whnf) | (refine bar_ok (by decide +kernel) (by decide +kernel) ?_; conv => whnf) | (refine late_ok rfl rfl ?_; conv => whnf) | (refine src_ok rfl ?_; conv => whnf) | (refine .inl ⟨_, _, qcall_pure (ch) rfl rfl, ?_⟩; conv => whnf) | (refine ex_row hx ?_; conv => whnf) | (refine LitB.data ?_; conv => whnf)))
        all_goals first
          | exact ⟨by omega, trivial, [some 0], rfl, rfl, ⟨⟨rfl, rfl, rfl, .inl ⟨rfl, rowsT_ev e⟩⟩, trivial⟩, ⟨rfl, rfl, rfl, ⟨rfl, rfl, rfl⟩, rfl, rfl, rfl, rfl, trivial⟩⟩
          | (exfalso; simp_all; done)
      · have e1 : (List.drop (Int.toNat 0) (List.take (n : Int).toNat (e.moves.map Move.row))) = (cutE e n).moves.map Move.row := by
          rw [Int.toNat_natCast]; simp [cutE, List.map_take]
        have e2 : (List.drop (Int.toNat 0) (List.take (n : Int).toNat (bl.map boolRow))) = (bl.take n).map boolRow := by
          rw [Int.toNat_natCast]; simp [List.map_take]
        have e3 : (cutE e n).moves.length = n := by simp [cutE]; omega
        have e4 : (bl.take n).length = n := by simp; omega
        (repeat' (first | ((refine DecB.mk (fun h => ?_) (fun h => ?_)) <;> first | (exfalso; omega) | (conv => whnf)) | ((refine BoolB.mk (fun h => ?_) (fun h => ?_)) <;> first | (exact absurd h (by decide)) | (conv => whnf)) | (refine ⟨_, wrap_ok (by omega) (by omega), ?_⟩; conv => whnf) | (refine and_idx (by omega) (by omega) ?_; conv => whnf) | (refine reg_ok (by decide +kernel) ?_; conv => whnf) | (refine bar_ok (by decide +kernel) (by decide +kernel) ?_; conv => whnf) | (refine late_ok rfl rfl ?_; conv => whnf) | (refine src_ok rfl ?_; conv => whnf) | (refine .inl ⟨_, _, qcall_pure (e1) rfl rfl, ?_⟩; conv => whnf) | (refine .inl ⟨_, _, qcall_pure (toC, e3) rfl rfl, ?_⟩; conv => whnf) | (refine .inl ⟨_, _, qcall_pure (e2) rfl rfl, ?_⟩; conv => whnf) | (refine .inl ⟨_, _, qcall_pure (toC) rfl rfl, ?_⟩; conv => whnf) | (refine .inl ⟨_, _, qcall_pure (0) rfl rfl, ?_⟩; conv => whnf) | (refine sl_ok (by omega) (by omega) (by omega) ?_; conv => whnf) | (refine app_nil rfl (by rw [e1]; simp [toC, e3]; omega) ?_; conv => whnf) | (refine app_nil rfl (by rw [e2]; simp [toC]; omega) ?_; conv => whnf) | (refine bar_late [0] (by decide +kernel) (by decide +kernel) ?_; conv => whnf) | (refine LitB.data ?_; conv => whnf)))
        have hsc : (cutE e n).Sized := ⟨hs.s1, by rw [e3]; have := hs.s2; omega, hs.s3, hs.s4, hs.s5⟩
        have hc0 : check (cutE e n) = 0 := cut_check h0 (List.eq_nil_of_length_eq_zero (by omega))
        have cc := a_Check (cutE e n) hsc
        rw [hc0] at cc
        have lc := a_LoadsAll (cutE e n) hsc hc0 q (bl.take n)
        have hAC : ∀ j : Nat, j < n → ((j : Int) ∈ A ↔ (j : Int) ∈ (loads (cutE e n) q (bl.take n)).1) := fun j hj => by rw [← hA]; exact (loads_trunc hqn hnn hbl hj).symm
        obtain ⟨kC, _⟩ := loads_len hsc (m := (q : Int)) (bl := bl.take n)
        generalize hC : (loads (cutE e n) q (bl.take n)).1 = C' at *
        have e5 : ([] : List (List T)).length + (toC (List.drop (Int.toNat 0) (List.take (n : Int).toNat (e.moves.map Move.row)))).length = ((cutE e n).moves.map Move.row).length := by rw [e1]; simp [toC]
        have e6 : ([] : List (List T)).length + (toC (List.drop (Int.toNat 0) (List.take (n : Int).toNat (bl.map boolRow)))).length = ((bl.take n).map boolRow).length := by rw [e2]; simp [toC]
        refine .inr ⟨_, _, acall_freeze [2, 3] lc ⟨vs_agg (ts := evT (cutE e n)) (vl_cons (vc_t rfl) (vl_cons (vc_t rfl) (vl_cons (vc_t rfl) (vl_cons (vc_t rfl) (vl_cons (vc_all (by simp) rfl (by intro h; cases h) rfl (congrArg toC e1) e5) (vl_cons (vc_t rfl) (vl_cons (vc_t rfl) (vl_cons (vc_t rfl) vl_nil)))))))),
          vs_t, vs_c (vc_all (by simp) rfl (by intro h; cases h) rfl (congrArg toC e2) e6), trivial⟩ rfl, ?_⟩
        conv => whnf
        (repeat' (first | ((refine DecB.mk (fun h => ?_) (fun h => ?_)) <;> first | (exfalso; omega) | (conv => whnf)) | ((refine BoolB.mk (fun h => ?_) (fun h => ?_)) <;> first | (exact absurd h (by decide)) | (conv => whnf)) | (refine ⟨_, wrap_ok (by omega) (by omega), ?_⟩; conv => whnf) | (refine and_idx (by omega) (by omega) ?_; conv => whnf) | (refine reg_ok (by decide +kernel) ?_; conv => whnf) | (refine bar_ok (by decide +kernel) (by decide +kernel) ?_; conv => whnf) | (refine late_ok rfl rfl ?_; conv => whnf) | (refine src_ok rfl ?_; conv => whnf) | (refine .inl ⟨_, _, qcall_pure (0) rfl rfl, ?_⟩; conv => whnf) | (refine bar_late [0] (by decide +kernel) (by decide +kernel) ?_; conv => whnf) | (refine LitB.data ?_; conv => whnf)))
        refine awp_for tab_ok (fun j => ([S.junk, S.junk, S.junk, S.junk, intS .i64 n, S.junk, S.junk, S.junk, S.junk, S.junk, S.junk, boolS true, S.junk, S.junk, intsS A, S.junk, S.junk, S.junk, S.junk, S.c (C.ptr 0 0 0), intsS C', S.junk, intS .i64 j, S.junk, S.junk, S.junk, S.junk, S.junk, S.junk, S.junk, S.junk, S.junk, S.junk, S.junk, S.junk, S.junk, S.junk, S.junk, S.junk, S.junk, S.junk, S.junk, S.junk, S.junk, S.junk, S.junk, S.junk, S.junk, S.junk, S.junk, S.junk, S.junk, S.junk, S.junk, S.junk, S.junk, S.junk, S.junk, S.junk, S.junk, S.junk, S.junk, S.junk, S.junk, S.junk, S.junk, S.junk, S.junk, S.junk, S.junk, S.junk, S.junk, S.junk, S.junk, S.junk, S.junk, S.junk, S.junk, S.junk, S.junk, S.junk, S.junk, S.junk, S.junk, S.junk, S.junk, S.junk, S.junk, S.junk, S.junk, S.junk, S.junk, S.junk, S.junk, S.junk, S.junk, S.junk, S.junk, S.junk, S.junk, S.junk, S.junk, S.junk, S.junk, S.junk, S.junk, S.junk, S.junk, S.junk, S.junk, S.junk, S.junk, S.junk, S.junk, S.junk, S.junk, S.junk, S.junk, S.junk, S.junk, S.junk, S.junk, S.junk, S.junk, S.junk, S.junk, S.junk, S.junk, S.junk, S.junk, S.junk, S.junk, S.junk, S.junk, S.junk, S.junk, S.junk, S.junk, S.junk, S.junk, S.junk, S.junk, S.junk, S.junk, S.junk, S.junk, S.junk, S.junk, S.junk, S.junk, S.junk, S.junk, S.junk, S.junk, S.junk, S.junk, S.junk, S.junk, S.junk], [evB (cutE e n)])) n (fun k => True) [some 1] trivial
          ⟨rfl, rfl, ⟨⟨rfl, rfl, rfl, .inr ⟨⟨rfl, rfl, rfl, rfl, entC_view rfl rfl (by intro h; cases h) rfl (congrArg toC e1) e5, rfl, rfl, rfl, trivial⟩, trivial⟩⟩, trivial⟩, ⟨rfl, rfl, rfl, ⟨rfl, rfl, rfl⟩, ent_t (by rw [← hC]), rfl, trivial⟩⟩ ?_
        intro j hj hI3
        have l7 : ((cutE e n).moves.map Move.row).length = n := by simp [e3]
        conv => whnf
        (repeat' (first | ((refine DecB.mk (fun h => ?_) (fun h => ?_)) <;> first | (exfalso; omega) | (conv => whnf)) | ((refine BoolB.mk (fun h => ?_) (fun h => ?_)) <;> first | (exact absurd h (by decide)) | (conv => whnf)) | (refine ⟨_, wrap_ok (by omega) (by omega), ?_⟩; conv => whnf) | (refine and_idx (by omega) (by omega) ?_; conv => whnf) | (refine reg_ok (by decide +kernel) ?_; conv => whnf) | (refine bar_ok (by decide +kernel) (by decide +kernel) ?_; conv => whnf) | (refine late_ok rfl rfl ?_; conv => whnf) | (refine src_ok rfl ?_; conv => whnf) | (refine LitB.data ?_; conv => whnf)))
        · have hjn : j < n := by omega
          have ch1 := a_Has24 A (j : Int) kA
          have ch2 := a_Has24 C' (j : Int) kC
          have hv : (C'.any fun x => decide (x = (j : Int))) = (A.any fun x => decide (x = (j : Int))) := by rw [Bool.eq_iff_iff, any_iff, any_iff]; exact (hAC j hjn).symm
          rw [hv] at ch2
          cases hb : (A.any fun x => decide (x = (j : Int))) with
          | _ =>
            rw [hb] at ch1 ch2
            (repeat' (first | ((refine DecB.mk (fun h => ?_) (fun h => ?_)) <;> first | (exfalso; omega) | (conv => whnf)) | ((refine BoolB.mk (fun h => ?_) (fun h => ?_)) <;> first | (exact absurd h (by decide)) | (conv => whnf)) | (refine ⟨_, wrap_ok (by omega) (by omega), ?_⟩; conv => whnf) | (refine and_idx (by omega) (by omega) ?_; conv => whnf) | (refine reg_ok (by decide +kernel) ?_; conv => whnf) | (refine bar_ok (by decide +kernel) (by decide +kernel) ?_; conv => whnf) | (refine late_ok rfl rfl ?_; conv => whnf) | (refine src_ok rfl ?_; conv => whnf) | (refine .inl ⟨_, _, qcall_pure (ch1) rfl rfl, ?_⟩; conv => whnf) | (refine .inl ⟨_, _, qcall_pure (ch2) rfl rfl, ?_⟩; conv => whnf) | (refine LitB.data ?_; conv => whnf)))
            all_goals first
              | exact ⟨hjn, trivial, [some 0], rfl, rfl, ⟨⟨rfl, rfl, rfl, .inl ⟨rfl, rowsT_ev _⟩⟩, trivial⟩, ⟨rfl, rfl, rfl, ⟨rfl, rfl, rfl⟩, rfl, rfl, trivial⟩⟩
              | (exfalso; simp_all; done)
        · (repeat' (first | ((refine DecB.mk (fun h => ?_) (fun h => ?_)) <;> first | (exfalso; omega) | (conv => whnf)) | ((refine BoolB.mk (fun h => ?_) (fun h => ?_)) <;> first | (exact absurd h (by decide)) | (conv => whnf)) | (refine ⟨_, wrap_ok (by omega) (by omega), ?_⟩; conv => whnf) | (refine and_idx (by omega) (by omega) ?_; conv => whnf) | (refine reg_ok (by decide +kernel) ?_; conv => whnf) | (refine bar_ok (by decide +kernel) (by decide +kernel) ?_; conv => whnf) | (refine late_ok rfl rfl ?_; conv => whnf) | (refine src_ok rfl ?_; conv => whnf) | (refine .inl ⟨_, _, qcall_pure (cc) rfl rfl, ?_⟩; conv => whnf) | (refine LitB.data ?_; conv => whnf)))
          all_goals first | exact fin_bool rfl | (exfalso; simp_all; done)
end Go.Proofs.Ythjgbjakpbfnoaa
/- The law ReachTells, walked. -/
namespace Go.Proofs.Ythjgbjakpbfnoaa
open Go.RowKit
set_option linter.unusedVariables false
set_option linter.unusedSimpArgs false
set_option maxRecDepth 100000

set_option maxHeartbeats 2000000 in
theorem a_ReachTells (e : Ev) (m t : Int) (bl : List Bool) (path : List Int) : ACall Try.prog 7 [evS e, intS .i64 m, intS .i64 t, boolsS bl, intsS path] [] (boolS true) [] := by
  have f0 := a_fine24 e 30
  have l3 : (bl.map boolRow).length = bl.length := by simp
  have l4 : (path.map intRow).length = path.length := by simp
  cases hf : fineB e 30 with
  | false =>
    rw [hf] at f0
    (refine acall_of tab_ok Try.func7 rfl (by decide) ?_; (conv => whnf); repeat (refine LitB.data ?_; conv => whnf))
    (repeat' (first | ((refine DecB.mk (fun h => ?_) (fun h => ?_)) <;> first | (exfalso; omega) | (conv => whnf)) | ((refine BoolB.mk (fun h => ?_) (fun h => ?_)) <;> first | (exact absurd h (by decide)) | (conv => whnf)) | (refine ⟨_, wrap_ok (by omega) (by omega), ?_⟩; conv => whnf) | (refine and_idx (by omega) (by omega) ?_; conv => whnf) | (refine reg_ok (by decide +kernel) ?_; conv => whnf) | (refine bar_ok (by decide +kernel) (by decide +kernel) ?_; conv => whnf) | (refine late_ok rfl rfl ?_; conv => whnf) | (refine src_ok rfl ?_; conv => whnf) | (refine .inl ⟨_, _, qcall_pure (a_sane24) rfl rfl, ?_⟩; conv => whnf) | (refine .inl ⟨_, _, qcall_pure (f0) rfl rfl, ?_⟩; conv => whnf) | (refine LitB.data ?_; conv => whnf)))
    all_goals first | exact fin_bool rfl | (exfalso; simp_all; done)
  | true =>
    rw [hf] at f0
    obtain ⟨hs, h0, hn⟩ := fine_iff hf
    by_cases hbig : bl.length ≤ 40 ∧ path.length ≤ 10
    · obtain ⟨kA, kB⟩ := loads_len hs (m := m) (bl := bl)
      have kP := pathF_len (e := e) (bl := bl) (m := m) (k := t)
      have kL : (liftsF e bl t).length ≤ e.moves.length := by
        unfold liftsF
        split
        · exact length_pickFrom _ _ _
        · simp
      have la := a_LoadsAll e hs h0 m bl
      have lb := a_RLoads e hs h0 m bl
      have fo := a_Follows e hs path bl (by omega)
      have fr := a_RFollows e hs path bl (by omega)
      have pa := a_Path e hs m t bl
      have pb := a_RPath e hs m t bl
      rw [← path_eq] at pb
      have li := a_Lifts24 e hs h0 t bl
      have lr := a_RLifts24 e hs h0 t bl
      rw [← lifts_eq] at lr
      have s1 := a_Same24 (loads e m bl).1 (loads e m bl).1 kA kA
      have s2 := a_Same24 (loads e m bl).2 (loads e m bl).2 kB kB
      have s3 := a_Same24 (pathF e bl m t) (pathF e bl m t) (by omega) (by omega)
      have s4 := a_Same24 (liftsF e bl t) (liftsF e bl t) (by omega) (by omega)
      simp only [decide_true] at s1 s2 s3 s4
      generalize (loads e m bl) = L at *
      generalize pathF e bl m t = P at *
      generalize liftsF e bl t = K at *
      cases hfo : followsB e bl path with
      | _ =>
        rw [hfo] at fo fr
        (refine acall_of tab_ok Try.func7 rfl (by decide) ?_; (conv => whnf); repeat (refine LitB.data ?_; conv => whnf))
        (repeat' (first | ((refine DecB.mk (fun h => ?_) (fun h => ?_)) <;> first | (exfalso; omega) | (conv => whnf)) | ((refine BoolB.mk (fun h => ?_) (fun h => ?_)) <;> first | (exact absurd h (by decide)) | (conv => whnf)) | (refine ⟨_, wrap_ok (by omega) (by omega), ?_⟩; conv => whnf) | (refine and_idx (by omega) (by omega) ?_; conv => whnf) | (refine reg_ok (by decide +kernel) ?_; conv => whnf) | (refine bar_ok (by decide +kernel) (by decide +kernel) ?_; conv => whnf) | (refine late_ok rfl rfl ?_; conv => whnf) | (refine src_ok rfl ?_; conv => whnf) | (refine .inl ⟨_, _, qcall_pure (a_sane24) rfl rfl, ?_⟩; conv => whnf) | (refine .inl ⟨_, _, qcall_pure (f0) rfl rfl, ?_⟩; conv => whnf) | (refine .inl ⟨_, _, qcall_pure (la) rfl rfl, ?_⟩; conv => whnf) | (refine .inl ⟨_, _, qcall_pure (lb) rfl rfl, ?_⟩; conv => whnf) | (refine .inl ⟨_, _, qcall_pure (s1) rfl rfl, ?_⟩; conv => whnf) | (refine .inl ⟨_, _, qcall_pure (s2) rfl rfl, ?_⟩; conv => whnf) | (refine .inl ⟨_, _, qcall_pure (fo) rfl rfl, ?_⟩; conv => whnf) | (refine .inl ⟨_, _, qcall_pure (fr) rfl rfl, ?_⟩; conv => whnf) | (refine .inl ⟨_, _, qcall_pure (pa) rfl rfl, ?_⟩; conv => whnf) | (refine .inl ⟨_, _, qcall_pure (pb) rfl rfl, ?_⟩; conv => whnf) | (refine .inl ⟨_, _, qcall_pure (s3) rfl rfl, ?_⟩; conv => whnf) | (refine .inl ⟨_, _, qcall_pure (li) rfl rfl, ?_⟩; conv => whnf) | (refine .inl ⟨_, _, qcall_pure (lr) rfl rfl, ?_⟩; conv => whnf) | (refine .inl ⟨_, _, qcall_pure (s4) rfl rfl, ?_⟩; conv => whnf) | (refine LitB.data ?_; conv => whnf)))
        all_goals first | exact fin_bool rfl | (exfalso; simp_all; done)
    · (refine acall_of tab_ok Try.func7 rfl (by decide) ?_; (conv => whnf); repeat (refine LitB.data ?_; conv => whnf))
      (repeat' (first | ((refine DecB.mk (fun h => ?_) (fun h => ?_)) <;> first | (exfalso; omega) | (conv => whnf)) | ((refine BoolB.mk (fun h => ?_) (fun h => ?_)) <;> first | (exact absurd h (by decide)) | (conv => whnf)) | (refine ⟨_, wrap_ok (by omega) (by omega), ?_⟩; conv => whnf) | (refine and_idx (by omega) (by omega) ?_; conv => whnf) | (refine reg_ok (by decide +kernel) ?_; conv => whnf) | (refine bar_ok (by decide +kernel) (by decide +kernel) ?_; conv => whnf) | (refine late_ok rfl rfl ?_; conv => whnf) | (refine src_ok rfl ?_; conv => whnf) | (refine .inl ⟨_, _, qcall_pure (a_sane24) rfl rfl, ?_⟩; conv => whnf) | (refine .inl ⟨_, _, qcall_pure (f0) rfl rfl, ?_⟩; conv => whnf) | (refine LitB.data ?_; conv => whnf)))
      all_goals first | exact fin_bool rfl | (exfalso; simp_all; done) | (exfalso; omega)
end Go.Proofs.Ythjgbjakpbfnoaa
/- Laws on appending to a slice that the call itself made, in the form that my walks use. Over any program. -/
namespace Go.Proofs.Ythjgbjakpbfnoaa
open Go.RowKit

/-- what an append leaves of older worlds -/
def Later (base : Nat) (w w' : World) : Prop := w.heap.size ≤ w'.heap.size ∧ ∀ (w0 : World) (B : Nat), Below B w0 w → B ≤ base → Below B w0 w'
theorem Later.below {base B : Nat} {w w' w0 : World} (h : Later base w w') (hb : Below B w0 w) (hB : B ≤ base) : Below B w0 w' := h.2 w0 B hb hB
theorem Later.size {base : Nat} {w w' : World} (h : Later base w w') : w.heap.size ≤ w'.heap.size := h.1

/-- 'append(s, x)': one element, s of the call's own -/
theorem wpList_app1 {P : Program} {w : World} {ops : Array Oper} {rest : List Oper} {o : Oper} {a : Act} {Q : Exit → Act → World → Prop} (hgd : o.guard = none) (s x : Operand) (t e : TypeId)
    (ho : o.op = .call { callee := .builtin .append, args := #[s, x], argTypes := #[t, t] })
    {z : Value} {size bytes : Nat} (ht : P.underlying t = some (.slice e)) (hinfo : (P.info? e).map (fun i => (i.zero, i.size, i.bytes)) = some (some z, size, bytes)) (hzs : z.cells.size = size) (hsz : 0 < size) (hby : bytes ≤ 1000)
    {base : Nat} {v : Value} {n : Nat} {xs : List Value} (hown : w.ownsRow base e size v n xs) (hs : a.eval s = v)
    {us : Array Value} (hus : us.size = size) (h1 : ∀ u ∈ us.toList, u.oneCell' = true) (hx : a.eval x = .slice (some ⟨w.heap.size, 0, none⟩) 1 1) (hbase : base ≤ w.heap.size) (hn : n ≤ 100000000)
    (h : ∀ v' w', w'.ownsRow base e size v' (n + 1) (xs ++ us.toList) → Later base w w' → v' ≠ .slice none 0 0 → wpList P ops Q rest (a.put o.dst v') w') :
    wpList P ops Q (o :: rest) a (w.alloc (.cells us e)) := by
  obtain ⟨i0, hi, hz0, hz1, hz2⟩ := info_parts hinfo
  refine wpList_append_own _ hgd s x t ho base e i0 z size bytes ht hi hz0 hz1 hz2 hzs hsz v n xs hs (hown.alloc _) ⟨w.heap.size, 0, none⟩ 1 1 us.toList hx ?_ ?_ h1 ?_ ?_ ?_ ?_
  · simp [hus]
  · intro j u hj
    have hadd : (⟨w.heap.size, 0, none⟩ : Addr).add j = ⟨w.heap.size, j, none⟩ := by unfold Addr.add; split <;> simp_all
    rw [hadd, cell_of_row _ _ j us e (0, 0) (heap_alloc_new w _)]
    simpa using hj
  · unfold maxLen; omega
  · have : (n + 1) * bytes ≤ 100000001 * 1000 := Nat.mul_le_mul (by omega) hby
    omega
  · simp; omega
  · intro v' w' hown' hgrow hne
    refine h v' w' hown' ⟨?_, ?_⟩ (fun e => by simp [e] at hne)
    · have := hgrow.size; simp at this; omega
    · intro w0 B hb hB
      refine (hb.alloc (by omega) _).grown hgrow (by simp; omega) ?_
      intro k hk
      have := hown.lt k hk
      omega

theorem quiet_left {P : Program} {f : FuncId} {args : Array Value} {w : World} {n : Nat} {v : Value}
    (h : Calls P f args (w.drewN n) fun e w' => e = .returned v ∧ w.drewN n = w') : Calls P f args (w.drewN n) fun e w'' => e = .returned v ∧ ∃ m, w'' = w.drewN m :=
  h.mono fun _ _ ⟨he, hm⟩ => ⟨he, n, hm.symm⟩
theorem quiet_add_left {P : Program} {f : FuncId} {args : Array Value} {w : World} {a n : Nat} {v : Value}
    (h : Calls P f args (w.drewN (a + n)) fun e w' => e = .returned v ∧ w.drewN (a + n) = w') : Calls P f args (w.drewN (a + n)) fun e w'' => e = .returned v ∧ ∃ m, w'' = w.drewN (a + m) :=
  h.mono fun _ _ ⟨he, hm⟩ => ⟨he, n, hm.symm⟩
theorem below_drewN {B : Nat} {a w : World} (h : Below B a w) (n : Nat) : Below B a (w.drewN n) := ⟨h.os, h.tape, h.output, h.size, h.block⟩

end Go.Proofs.Ythjgbjakpbfnoaa
