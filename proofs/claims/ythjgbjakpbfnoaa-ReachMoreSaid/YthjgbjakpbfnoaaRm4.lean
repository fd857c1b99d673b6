/- ReachMore: at every input the law returns true, and its arguments read as before. Conditions: none. -/
import Derived.Deep.DeepMust
import Derived.BigQuiet
import Derived.Deep.Light
import Derived.ProofKit
import Derived.OpenShut
import Derived.Deep.Slices
import Derived.Deep.Fields
import Derived.Test.YthjgbjakpbfnoaaRows
import Derived.Test.YthjgbjakpbfnoaaRm3
/- Path. -/
namespace Go.Proofs.Ythjgbjakpbfnoaa
open Go.RowKit
set_option linter.unusedVariables false
set_option linter.unusedSimpArgs false
set_option maxRecDepth 100000

abbrev intsA (l : List Int) : Blk := { mode := .live, elem := 3, size := 1, rows := toC (l.map intRow), box := false, app := true }
abbrev intsO (l : List Int) : Blk := { mode := .old, elem := 3, size := 1, rows := toC (l.map intRow), box := false, app := true }
theorem nextI_of {e : Ev} {bl : List Bool} {m : Nat} {x : Move} (h : e.moves[m]? = some x) : nextI e bl m = pickFrom (nextIs e bl x.dst m) 0 e.moves := by
  unfold nextI; simp [h]
theorem a_nextI (e : Ev) (hs : e.Sized) (bl : List Bool) (m : Int) (h0 : 0 ≤ m) (h1 : m.toNat < e.moves.length) (hb : bl.length = e.moves.length) :
    ACall Try.prog 58 [evS e, intS .i64 m, boolsS bl] [] (intsS (nextI e bl m)) [] := by
  obtain ⟨n, rfl⟩ := Int.eq_ofNat_of_zero_le h0
  obtain ⟨x, hx⟩ : ∃ x, e.moves[n]? = some x := ⟨_, List.getElem?_eq_getElem (by simpa using h1)⟩
  rw [nextI_of hx]
  exact a_next e hs bl n x hx hb
theorem sl3_ok {l h m n : Int} {K : Prop} (h1 : 0 ≤ l) (h2 : l ≤ h) (h3 : m = h) (h4 : h ≤ n) (k : K) : (0 ≤ l ∧ l ≤ h ∧ m = h ∧ h ≤ n) ∧ K := ⟨⟨h1, h2, h3, h4⟩, k⟩
theorem ex_ownN {xs : List Int} {i : Nat} {x : Int} {K : List C → Prop} (hx : xs[i]? = some x) (h : K [C.t (ti x)]) : ∃ row, (toC (xs.map intRow))[i]? = some row ∧ K row :=
  ⟨[C.t (ti x)], by simp [toC, hx, intRow], h⟩
theorem appA_ok {len m n b : Nat} {K : Prop} (h1 : len = m) (h2 : (len + n) * b ≤ 140737488355328) (k : K) : (len = m ∧ (len + n) * b ≤ 140737488355328) ∧ K := ⟨⟨h1, h2⟩, k⟩
theorem ownI_congr {id : Nat} {l : List Int} {n : Nat} (h : n = l.length) : (S.c (.own id 0 n true)) = ownI id l := by rw [h]
theorem a_Path1 (e : Ev) (hs : e.Sized) (fr t : Nat) (bl : List Bool) (hf : fr < e.moves.length) (ht : t < e.moves.length) (hb : bl.length = e.moves.length) (hbf0 : bl.getD fr true = false) :
    ACall Try.prog 31 [evS e, intS .i64 fr, intS .i64 t, boolsS bl] [] (intsS (pathF e bl fr t)) [] := by
  have l1 := hs.s2
  have l2 : (e.moves.map Move.row).length = e.moves.length := by simp
  have l3 : (bl.map boolRow).length = bl.length := by simp
  have f1 := a_fits e fr bl
  have hfit : fitsB e fr bl = true := fits_iff.2 (by omega)
  rw [hfit] at f1
  have f2 := a_fits e t bl
  have hfit2 : fitsB e t bl = true := fits_iff.2 (by omega)
  rw [hfit2] at f2
  have hbx : bl[fr]? = some false := by
    obtain ⟨b, hb⟩ : ∃ b, bl[fr]? = some b := ⟨_, List.getElem?_eq_getElem (by omega)⟩
    rw [List.getD_eq_getElem?_getD, hb] at hbf0
    rw [hb]; exact congrArg some hbf0
  have rp := a_Repeat (-1) (e.moves.map Move.row).length (by omega) (by omega)
  have hN : ((e.moves.map Move.row).length : Int).toNat = e.moves.length := by omega
  rw [hN] at rp
  (refine acall_of tab_ok Try.func31 rfl (by decide) ?_; (conv => whnf); repeat (refine LitB.data ?_; conv => whnf))
  (repeat' (first | ((refine DecB.mk (fun h => ?_) (fun h => ?_)) <;> first | (exfalso; omega) | (conv => whnf)) | ((refine BoolB.mk (fun h => ?_) (fun h => ?_)) <;> first | (exact absurd h (by decide)) | (conv => whnf)) | (refine ⟨_, wrap_ok (by omega) (by omega), ?_⟩; conv => whnf) | (refine and_idx (by omega) (by omega) ?_; conv => whnf) | (refine reg_ok (by decide +kernel) ?_; conv => whnf) | (refine bar_ok (by decide +kernel) (by decide +kernel) ?_; conv => whnf) | (refine late_ok rfl rfl ?_; conv => whnf) | (refine src_ok rfl ?_; conv => whnf) | (refine .inl ⟨_, _, qcall_pure (f1) rfl rfl, ?_⟩; conv => whnf) | (refine .inl ⟨_, _, qcall_pure (f2) rfl rfl, ?_⟩; conv => whnf) | (refine ex_row hbx ?_; conv => whnf) | (refine LitB.data ?_; conv => whnf)))
  refine .inr ⟨_, _, acall_frame (H' := [evB e, intsB (List.replicate e.moves.length (-1))]) [] rp rfl rfl rfl List.nodup_nil (by simp) (by simp) (by simp) rfl rfl rfl ?_ ?_, ?_⟩
  · intro i k hk
    match i, hk with
    | 0, hk =>
      injection hk with hk
      subst hk
      exact ⟨_, rfl, renB_data rfl⟩
  · intro j hj _
    match j, hj with
    | 0, _ => rfl
  conv => whnf
  have hg0 := startQ_good (e := e) (fr := (fr : Int)) (by omega) (by simpa using hf)
  have hst : (startQ e fr).bef = (List.replicate e.moves.length (-1 : Int)).set fr fr := by simp [startQ]
  obtain ⟨a0, ha0⟩ : ∃ a, (List.replicate e.moves.length (-1 : Int))[0 + (fr : Int).toNat]? = some a := ⟨_, List.getElem?_eq_getElem (by simp; omega)⟩
  (repeat' (first | ((refine DecB.mk (fun h => ?_) (fun h => ?_)) <;> first | (exfalso; omega) | (conv => whnf)) | ((refine BoolB.mk (fun h => ?_) (fun h => ?_)) <;> first | (exact absurd h (by decide)) | (conv => whnf)) | (refine ⟨_, wrap_ok (by omega) (by omega), ?_⟩; conv => whnf) | (refine and_idx (by omega) (by omega) ?_; conv => whnf) | (refine reg_ok (by decide +kernel) ?_; conv => whnf) | (refine bar_ok (by decide +kernel) (by decide +kernel) ?_; conv => whnf) | (refine late_ok rfl rfl ?_; conv => whnf) | (refine src_ok rfl ?_; conv => whnf) | (refine LitB.own ?_; conv => whnf) | (refine ex_own ha0 ?_; conv => whnf) | (refine and_idx (by omega) (by simp; omega) ?_; conv => whnf) | (refine LitB.data ?_; conv => whnf)))
  refine awp_while tab_ok (σ := Nat × BQ × Nat) (fun | (f, s, b) => ([S.junk, intS .i64 fr, intS .i64 t, boolsS bl, S.c (C.ptr 0 0 0), S.junk, S.junk, S.junk, S.junk, ownI 1 s.bef, ownI 2 s.que, intS .i64 b, S.junk, S.junk, S.junk, S.junk, S.junk, S.junk, S.junk, S.junk, S.junk, S.junk, S.junk, S.junk, S.junk, S.junk, S.junk, S.junk, S.junk, S.junk, S.junk, S.junk, S.junk, S.junk, S.junk, S.junk, S.junk, S.junk, S.junk, S.junk, S.junk, S.junk, S.junk, S.junk, S.junk, S.junk, S.junk, S.junk, S.junk, S.junk, S.junk, S.junk, S.junk, S.junk, S.junk, S.junk, S.junk, S.junk, S.junk, S.junk, S.junk, S.junk, S.junk, S.junk, S.junk, S.junk, S.junk, S.junk, S.junk, S.junk, S.junk, S.junk, S.junk, S.junk, S.junk, S.junk, S.junk, S.junk, S.junk, S.junk, S.junk, S.junk, S.junk, S.junk, S.junk, S.junk, S.junk, S.junk, S.junk, S.junk, S.junk, S.junk, S.junk, S.junk, S.junk, S.junk, S.junk, S.junk, S.junk, S.junk, S.junk, S.junk, S.junk, S.junk, S.junk, S.junk, S.junk, S.junk, S.junk, S.junk, S.junk, S.junk, S.junk, S.junk, S.junk, S.junk, S.junk, S.junk, S.junk, S.junk, S.junk, S.junk, S.junk, S.junk, S.junk, S.junk, S.junk], [evB e, intsB s.bef, intsA s.que]))
    (fun x => GoodQ e.moves.length fr x.2.1 ∧ foundQ e bl fr t = bfsGo e bl t x.1 x.2.1 x.2.2 ∧ x.2.2 ≤ x.2.1.que.length ∧ e.moves.length < x.1 + x.2.2) (fun x => x.1) (e.moves.length + 1, startQ e fr, 0) [some 0, some 1, some 2]
    ⟨hg0, rfl, by simp, by simp⟩ ⟨rfl, rfl, ⟨⟨rfl, rfl, rfl, .inl ⟨rfl, rowsT_ev e⟩⟩, entB_rows rfl rfl rfl ?_ rfl, entB_rows rfl rfl rfl rfl rfl, trivial⟩, ⟨rfl, rfl, ent_t rfl, ⟨rfl, rfl, rfl⟩, ent_own rfl ?_, ent_own rfl rfl, ent_i rfl, trivial⟩⟩ ?_
  · rw [hst]
    show (toC ((List.replicate e.moves.length (-1)).map intRow)).set (0 + (fr : Int).toNat) [C.t (ti fr)] = _
    rw [show 0 + (fr : Int).toNat = fr by omega]
    simp [toC, intRow, List.map_set]
  · rw [hst]; simp
  rintro ⟨f, s, b⟩ ⟨hg, hbf, hbl, hfb⟩
  have hbl : b ≤ s.que.length := hbl
  have hfb : e.moves.length < f + b := hfb
  have hg : GoodQ e.moves.length fr s := hg
  have hbf : foundQ e bl fr t = bfsGo e bl t f s b := hbf
  have hsl := hg.len
  have hroom := hg.room
  obtain ⟨at0, hat0⟩ : ∃ a, s.bef[0 + (t : Int).toNat]? = some a := ⟨_, List.getElem?_eq_getElem (by omega)⟩
  have hgt : s.bef.getD (t : Int).toNat 0 = at0 := by rw [Nat.zero_add] at hat0; rw [List.getD_eq_getElem?_getD, hat0]; rfl
  conv => whnf
  (repeat' (first | ((refine DecB.mk (fun h => ?_) (fun h => ?_)) <;> first | (exfalso; omega) | (conv => whnf)) | ((refine BoolB.mk (fun h => ?_) (fun h => ?_)) <;> first | (exact absurd h (by decide)) | (conv => whnf)) | (refine ⟨_, wrap_ok (by omega) (by omega), ?_⟩; conv => whnf) | (refine and_idx (by omega) (by omega) ?_; conv => whnf) | (refine reg_ok (by decide +kernel) ?_; conv => whnf) | (refine bar_ok (by decide +kernel) (by decide +kernel) ?_; conv => whnf) | (refine late_ok rfl rfl ?_; conv => whnf) | (refine src_ok rfl ?_; conv => whnf) | (refine ex_own hat0 ?_; conv => whnf) | (refine and_idx (by omega) (by show _ < ((s.bef.length : Nat) : Int); omega) ?_; conv => whnf) | (refine sl3_ok (by omega) (by omega) rfl (by omega) ?_; conv => whnf) | (refine LitB.own ?_; conv => whnf) | (refine LitB.data ?_; conv => whnf)))
  · have hat1 : s.bef.getD (t : Int).toNat 0 = -1 := by rw [hgt]; omega
    have hblt : b < s.que.length := by have := ‹(b : Int) < _›; omega
    obtain ⟨f, rfl⟩ : ∃ k, f = k + 1 := ⟨f - 1, by omega⟩
    rw [bfsGo_go ⟨hblt, hat1⟩] at hbf
    let lev : List Int := s.que.drop b
    have hlev : lev.length = s.que.length - b := by simp [lev]
    let sa : Nat → BQ := fun a => (lev.take a).foldl (visitM e bl) s
    have hga : ∀ a, GoodQ e.moves.length fr (sa a) ∧ ∀ v, OkQ e.moves.length fr s v → OkQ e.moves.length fr (sa a) v := fun a =>
      hg.stepMs (fun m hm => hg.que m (List.mem_of_mem_drop (List.mem_of_mem_take hm)))
    refine awp_for tab_ok (fun a => ([S.junk, intS .i64 fr, intS .i64 t, boolsS bl, S.c (C.ptr 0 0 0), S.junk, S.junk, S.junk, S.junk, ownI 1 (sa a).bef, ownI 2 (sa a).que, intS .i64 s.que.length, S.junk, S.junk, S.junk, S.junk, S.junk, S.junk, S.junk, S.junk, S.junk, S.junk, S.junk, S.junk, S.junk, S.junk, S.junk, S.junk, S.junk, S.junk, S.junk, S.junk, S.junk, S.junk, S.junk, S.junk, S.junk, S.junk, S.junk, S.junk, S.junk, S.junk, S.junk, S.junk, S.junk, S.junk, S.junk, S.junk, S.junk, S.junk, S.junk, S.junk, S.junk, S.junk, S.junk, S.junk, S.junk, S.junk, S.junk, S.junk, S.junk, S.junk, S.junk, S.junk, S.junk, S.junk, S.junk, S.c (C.own 3 b (s.que.length - b) false), intS .i64 ((s.que.length - b : Nat) : Int), intS .i64 a, S.junk, S.junk, S.junk, S.junk, S.junk, S.junk, S.junk, S.junk, S.junk, S.junk, S.junk, S.junk, S.junk, S.junk, S.junk, S.junk, S.junk, S.junk, S.junk, S.junk, S.junk, S.junk, S.junk, S.junk, S.junk, S.junk, S.junk, S.junk, S.junk, S.junk, S.junk, S.junk, S.junk, S.junk, S.junk, S.junk, S.junk, S.junk, S.junk, S.junk, S.junk, S.junk, S.junk, S.junk, S.junk, S.junk, S.junk, S.junk, S.junk, S.junk, S.junk, S.junk, S.junk, S.junk, S.junk, S.junk, S.junk], [evB e, intsB (sa a).bef, intsA (sa a).que, intsO s.que])) (s.que.length - b) (fun k => True) [some 0, some 1, some 2, some 2] trivial
      ⟨rfl, rfl, ⟨⟨rfl, rfl, rfl, .inl ⟨rfl, rowsT_ev e⟩⟩, entB_rows rfl rfl rfl rfl rfl, entB_rows rfl rfl rfl rfl rfl, entB_rows rfl rfl rfl rfl rfl, trivial⟩, ⟨rfl, rfl, ent_t rfl, ⟨rfl, rfl, rfl⟩, ent_own rfl rfl, ent_own rfl rfl, ent_i rfl, ⟨rfl, ?_, ?_, fun h => h⟩, ent_i ?_, ent_i rfl, trivial⟩⟩ ?_
    · show 0 + (b : Int).toNat = b
      omega
    · omega
    · omega
    intro a ha hI
    obtain ⟨hgA, hokA⟩ := hga a
    have hroomA := hgA.room
    conv => whnf
    (repeat' (first | ((refine DecB.mk (fun h => ?_) (fun h => ?_)) <;> first | (exfalso; omega) | (conv => whnf)) | ((refine BoolB.mk (fun h => ?_) (fun h => ?_)) <;> first | (exact absurd h (by decide)) | (conv => whnf)) | (refine ⟨_, wrap_ok (by omega) (by omega), ?_⟩; conv => whnf) | (refine and_idx (by omega) (by omega) ?_; conv => whnf) | (refine reg_ok (by decide +kernel) ?_; conv => whnf) | (refine bar_ok (by decide +kernel) (by decide +kernel) ?_; conv => whnf) | (refine late_ok rfl rfl ?_; conv => whnf) | (refine src_ok rfl ?_; conv => whnf) | (refine LitB.data ?_; conv => whnf)))
    · have hlt : a < s.que.length - b := by omega
      obtain ⟨v, hv⟩ : ∃ v, s.que[b + (a : Int).toNat]? = some v := ⟨_, List.getElem?_eq_getElem (by omega)⟩
      have hva : lev[a]? = some v := by show (s.que.drop b)[a]? = _; rw [List.getElem?_drop, ← hv]; congr 1
      have hvq : v ∈ s.que := List.mem_of_getElem? hv
      have hov := hokA v (hg.que v hvq)
      have hsa1 : sa (a + 1) = visitM e bl (sa a) v := foldl_take_succ hva
      let ks := nextI e bl v
      have nx := a_nextI e hs bl v hov.1 hov.2.1 hb
      let tc : Nat → BQ := fun c => (ks.take c).foldl (visitK v) (sa a)
      have hgc : ∀ c, GoodQ e.moves.length fr (tc c) ∧ ∀ u, OkQ e.moves.length fr (sa a) u → OkQ e.moves.length fr (tc c) u := fun c => hgA.stepKs hov (fun k hk => by
        have := nextI_mem hov.1 (List.mem_of_mem_take hk)
        exact ⟨this.2.1, this.2.2⟩)
      have hkl : ks.length ≤ e.moves.length := by
        show (nextI e bl v).length ≤ _
        unfold nextI
        split
        · exact length_pickFrom _ _ _
        · simp
      have lks : (ks.map intRow).length = ks.length := by simp
      have lks' : (((ks.map intRow).length : Nat) : Int) = (ks.length : Nat) := by rw [lks]
      refine ex_ownN hv ?_
      conv => whnf
      (repeat' (first | ((refine DecB.mk (fun h => ?_) (fun h => ?_)) <;> first | (exfalso; omega) | (conv => whnf)) | ((refine BoolB.mk (fun h => ?_) (fun h => ?_)) <;> first | (exact absurd h (by decide)) | (conv => whnf)) | (refine ⟨_, wrap_ok (by omega) (by omega), ?_⟩; conv => whnf) | (refine and_idx (by omega) (by omega) ?_; conv => whnf) | (refine reg_ok (by decide +kernel) ?_; conv => whnf) | (refine bar_ok (by decide +kernel) (by decide +kernel) ?_; conv => whnf) | (refine late_ok rfl rfl ?_; conv => whnf) | (refine src_ok rfl ?_; conv => whnf) | (refine .inl ⟨_, _, qcall_pure (nx) rfl rfl, ?_⟩; conv => whnf) | (refine LitB.data ?_; conv => whnf)))
      refine awp_for tab_ok (fun c => ([S.junk, intS .i64 fr, intS .i64 t, boolsS bl, S.c (C.ptr 0 0 0), S.junk, S.junk, S.junk, S.junk, ownI 1 (tc c).bef, ownI 2 (tc c).que, intS .i64 s.que.length, S.junk, S.junk, intS .i64 v, S.junk, S.junk, S.junk, S.junk, S.junk, S.junk, S.junk, S.junk, S.junk, S.junk, S.junk, S.junk, S.junk, S.junk, S.junk, S.junk, S.junk, S.junk, S.junk, S.junk, S.junk, S.junk, S.junk, S.junk, S.junk, S.junk, S.junk, S.junk, S.junk, S.junk, S.junk, S.junk, S.junk, S.junk, S.junk, S.junk, S.junk, S.junk, S.junk, S.junk, S.junk, S.junk, S.junk, S.junk, S.junk, S.junk, S.junk, S.junk, S.junk, S.junk, S.junk, S.junk, S.c (C.own 3 b (s.que.length - b) false), intS .i64 ((s.que.length - b : Nat) : Int), intS .i64 a, S.junk, S.junk, S.junk, S.junk, S.junk, S.junk, intsS ks, intS .i64 ks.length, intS .i64 c, S.junk, S.junk, S.junk, S.junk, S.junk, S.junk, S.junk, S.junk, S.junk, S.junk, S.junk, S.junk, S.junk, S.junk, S.junk, S.junk, S.junk, S.junk, S.junk, S.junk, S.junk, S.junk, S.junk, S.junk, S.junk, S.junk, S.junk, S.junk, S.junk, S.junk, S.junk, S.junk, S.junk, S.junk, S.junk, S.junk, S.junk, S.junk, S.junk, S.junk, S.junk, S.junk, S.junk, S.junk, S.junk, S.junk, S.junk, S.junk], [evB e, intsB (tc c).bef, intsA (tc c).que, intsO s.que])) ks.length (fun k => True) [some 0, some 1, some 2, some 3] trivial
        ⟨rfl, rfl, ⟨⟨rfl, rfl, rfl, .inl ⟨rfl, rowsT_ev e⟩⟩, entB_rows rfl rfl rfl rfl rfl, entB_rows rfl rfl rfl rfl rfl, entB_rows rfl rfl rfl rfl rfl, trivial⟩, ⟨rfl, rfl, ent_t rfl, ⟨rfl, rfl, rfl⟩, ent_own rfl rfl, ent_own rfl rfl, ent_i rfl, ent_i rfl, ⟨rfl, rfl, rfl, fun h => h⟩, ent_i rfl, ent_i rfl, ent_t rfl, ent_i lks', ent_i rfl, trivial⟩⟩ ?_
      intro c hc hI
      obtain ⟨hgC, hokC⟩ := hgc c
      have hroomC := hgC.room
      have hlenC := hgC.len
      conv => whnf
      (repeat' (first | ((refine DecB.mk (fun h => ?_) (fun h => ?_)) <;> first | (exfalso; omega) | (conv => whnf)) | ((refine BoolB.mk (fun h => ?_) (fun h => ?_)) <;> first | (exact absurd h (by decide)) | (conv => whnf)) | (refine ⟨_, wrap_ok (by omega) (by omega), ?_⟩; conv => whnf) | (refine and_idx (by omega) (by omega) ?_; conv => whnf) | (refine reg_ok (by decide +kernel) ?_; conv => whnf) | (refine bar_ok (by decide +kernel) (by decide +kernel) ?_; conv => whnf) | (refine late_ok rfl rfl ?_; conv => whnf) | (refine src_ok rfl ?_; conv => whnf) | (refine LitB.data ?_; conv => whnf)))
      · have hlt2 : c < ks.length := by omega
        obtain ⟨k, hk⟩ : ∃ k, ks[c]? = some k := ⟨_, List.getElem?_eq_getElem hlt2⟩
        have hkm := nextI_mem hov.1 (List.mem_of_getElem? hk)
        have htc1 : tc (c + 1) = visitK v (tc c) k := foldl_take_succ hk
        obtain ⟨bk, hbk⟩ : ∃ a, (tc c).bef[0 + k.toNat]? = some a := ⟨_, List.getElem?_eq_getElem (by omega)⟩
        have hgk : (tc c).bef.getD k.toNat 0 = bk := by rw [Nat.zero_add] at hbk; rw [List.getD_eq_getElem?_getD, hbk]; rfl
        (repeat' (first | ((refine DecB.mk (fun h => ?_) (fun h => ?_)) <;> first | (exfalso; omega) | (conv => whnf)) | ((refine BoolB.mk (fun h => ?_) (fun h => ?_)) <;> first | (exact absurd h (by decide)) | (conv => whnf)) | (refine ⟨_, wrap_ok (by omega) (by omega), ?_⟩; conv => whnf) | (refine and_idx (by omega) (by omega) ?_; conv => whnf) | (refine reg_ok (by decide +kernel) ?_; conv => whnf) | (refine bar_ok (by decide +kernel) (by decide +kernel) ?_; conv => whnf) | (refine late_ok rfl rfl ?_; conv => whnf) | (refine src_ok rfl ?_; conv => whnf) | (refine .inl ⟨_, _, qcall_pure (toC) rfl rfl, ?_⟩; conv => whnf) | (refine .inl ⟨_, _, qcall_pure (toC) rfl rfl, ?_⟩; conv => whnf) | (refine ex_row hk ?_; conv => whnf) | (refine ex_own hbk ?_; conv => whnf) | (refine and_idx (by omega) (by show _ < (((tc c).bef.length : Nat) : Int); omega) ?_; conv => whnf) | (refine appA_ok (by simp [toC]) (by simp [toC]; omega) ?_; conv => whnf) | (refine LitB.data ?_; conv => whnf)))
        · have hbk1 : (tc c).bef.getD k.toNat 0 = -1 := by rw [hgk]; assumption
          have hv1 : tc (c + 1) = ⟨(tc c).bef.set k.toNat v, (tc c).que ++ [k]⟩ := by rw [htc1]; unfold visitK; rw [if_pos hbk1]
          refine ⟨hlt2, trivial, [some 0, some 1, some 4, some 3], rfl, rfl, ⟨⟨rfl, rfl, rfl, .inl ⟨rfl, rowsT_ev e⟩⟩, entB_rows rfl rfl rfl ?_ rfl, entB_rows rfl rfl rfl ?_ rfl, entB_rows rfl rfl rfl rfl rfl, trivial⟩, ⟨rfl, rfl, rfl, ⟨rfl, rfl, rfl⟩, ent_own rfl ?_, ent_own rfl ?_, rfl, rfl, ⟨rfl, rfl, rfl, fun h => h⟩, rfl, rfl, rfl, rfl, rfl, trivial⟩⟩
          · rw [hv1]; simp [toC, intRow, List.map_set, setRows]
          · rw [hv1]; simp [toC, intRow, oldBlk, appBlk]
          · rw [hv1]; simp
          · rw [hv1]; simp [toC]
        · have hbk1 : ¬ (tc c).bef.getD k.toNat 0 = -1 := by rw [hgk]; assumption
          have hv1 : tc (c + 1) = tc c := by rw [htc1]; unfold visitK; rw [if_neg hbk1]
          refine ⟨hlt2, trivial, [some 0, some 1, some 2, some 3], rfl, rfl, ⟨⟨rfl, rfl, rfl, .inl ⟨rfl, rowsT_ev e⟩⟩, entB_rows rfl rfl rfl ?_ rfl, entB_rows rfl rfl rfl ?_ rfl, entB_rows rfl rfl rfl rfl rfl, trivial⟩, ⟨rfl, rfl, rfl, ⟨rfl, rfl, rfl⟩, ent_own rfl ?_, ent_own rfl ?_, rfl, rfl, ⟨rfl, rfl, rfl, fun h => h⟩, rfl, rfl, rfl, rfl, rfl, trivial⟩⟩
          all_goals rw [hv1]
      · have hck : tc c = sa (a + 1) := by
          rw [hsa1]
          show (ks.take c).foldl _ _ = ks.foldl _ _
          rw [List.take_of_length_le (by omega)]
        refine ⟨hlt, trivial, [some 0, some 1, some 2, some 3], rfl, rfl, ⟨⟨rfl, rfl, rfl, .inl ⟨rfl, rowsT_ev e⟩⟩, entB_rows rfl rfl rfl ?_ rfl, entB_rows rfl rfl rfl ?_ rfl, entB_rows rfl rfl rfl rfl rfl, trivial⟩, ⟨rfl, rfl, rfl, ⟨rfl, rfl, rfl⟩, ent_own rfl ?_, ent_own rfl ?_, rfl, ⟨rfl, rfl, rfl, fun h => h⟩, rfl, rfl, trivial⟩⟩
        all_goals rw [hck]
    · have hra : sa a = roundQ e bl s b := by
        show (lev.take a).foldl _ _ = lev.foldl _ _
        rw [List.take_of_length_le (by omega)]
      refine ⟨[some 0, some 1, some 2], (f, roundQ e bl s b, s.que.length), ⟨rfl, rfl, ⟨⟨rfl, rfl, rfl, .inl ⟨rfl, rowsT_ev e⟩⟩, entB_rows rfl rfl rfl ?_ rfl, entB_rows rfl rfl rfl ?_ rfl, trivial⟩, ⟨rfl, rfl, rfl, ⟨rfl, rfl, rfl⟩, ent_own rfl ?_, ent_own rfl ?_, rfl, trivial⟩⟩, ⟨hg.stepR b, hbf, visitMs_que, ?_⟩, ?_⟩
      · rw [hra]
      · rw [hra]
      · rw [hra]
      · rw [hra]
      · show e.moves.length < f + s.que.length
        omega
      · show f < f + 1
        omega
  all_goals
    have hfs : foundQ e bl fr t = s := by
      rw [hbf]
      refine bfsGo_stop ?_
      rw [hgt]
      omega
    have hpf : pathF e bl fr t = if at0 = -1 then [] else (backGo s.bef fr (t + 1) t).reverse := by
      unfold pathF
      rw [if_pos ⟨hfit, hfit2, by simpa using hbf0⟩, hfs, hgt]
      rfl
    rw [hpf]
  rotate_left
  · rw [if_pos (by assumption)]
    exact fin_t rfl
  all_goals
    have hat2 : at0 ≠ -1 := by assumption
    have hgt2 : s.bef.getD t 0 ≠ -1 := by have := hgt; simp only [Int.toNat_natCast] at this; rw [this]; exact hat2
    rw [if_neg hat2]
    have hokt : OkQ e.moves.length fr s t := ⟨by omega, by simpa using ht, hg.ge t ht hgt2, by simpa using hgt2⟩
    refine awp_while tab_ok (σ := List Int × Int) (fun | (acc, v) => ([S.junk, intS .i64 fr, S.junk, S.junk, S.junk, S.junk, S.junk, S.junk, S.junk, ownI 0 s.bef, S.junk, S.junk, S.junk, S.junk, S.junk, S.junk, S.junk, ownI 1 (acc ++ [v]), S.junk, S.junk, S.junk, S.junk, S.junk, S.junk, S.junk, S.junk, S.junk, S.junk, S.junk, S.junk, S.junk, S.junk, S.junk, S.junk, S.junk, S.junk, S.junk, S.junk, S.junk, S.junk, S.junk, S.junk, S.junk, S.junk, S.junk, S.junk, S.junk, S.junk, S.junk, S.junk, S.junk, S.junk, S.junk, S.junk, S.junk, S.junk, S.junk, S.junk, S.junk, S.junk, S.junk, S.junk, S.junk, S.junk, S.junk, S.junk, S.junk, S.junk, S.junk, S.junk, S.junk, S.junk, S.junk, S.junk, S.junk, S.junk, S.junk, S.junk, S.junk, S.junk, S.junk, S.junk, S.junk, S.junk, S.junk, S.junk, S.junk, S.junk, S.junk, S.junk, S.junk, S.junk, S.junk, S.junk, S.junk, S.junk, S.junk, S.junk, S.junk, S.junk, S.junk, S.junk, S.junk, S.junk, S.junk, S.junk, S.junk, S.junk, S.junk, S.junk, S.junk, S.junk, S.junk, S.junk, S.junk, S.junk, S.junk, S.junk, S.junk, S.junk, S.junk, S.junk, S.junk, S.junk, S.junk, S.junk, S.junk], [intsB s.bef, intsB (acc ++ [v])])) (fun x => OkQ e.moves.length fr s x.2 ∧ backGo s.bef fr (t + 1) t = x.1 ++ backGo s.bef fr (x.2.toNat + 1) x.2 ∧ x.1.length + x.2.toNat ≤ t) (fun x => x.2.toNat) ([], (t : Int)) [some 1, some 3]
      ⟨hokt, rfl, by simp⟩ ⟨rfl, rfl, ⟨entB_rows rfl rfl rfl rfl rfl, entB_rows rfl rfl rfl rfl rfl, trivial⟩, ⟨rfl, ent_own rfl rfl, ent_own rfl rfl, trivial⟩⟩ ?_
    rintro ⟨acc, v⟩ ⟨hov, hback, hlen⟩
    have hov : OkQ e.moves.length fr s v := hov
    have hback : backGo s.bef fr (t + 1) t = acc ++ backGo s.bef fr (v.toNat + 1) v := hback
    have hlen : acc.length + v.toNat ≤ t := hlen
    have hov1 := hov.1
    have hov2 := hov.2.1
    have hpl : (acc ++ [v]).length = acc.length + 1 := by simp
    have hpv : (acc ++ [v])[0 + ((((acc ++ [v]).length : Nat) : Int) - 1).toNat]? = some v := by
      rw [show 0 + ((((acc ++ [v]).length : Nat) : Int) - 1).toNat = acc.length by omega]; simp
    obtain ⟨u, hu⟩ : ∃ a, s.bef[0 + v.toNat]? = some a := ⟨_, List.getElem?_eq_getElem (by omega)⟩
    conv => whnf
    (repeat' (first | ((refine DecB.mk (fun h => ?_) (fun h => ?_)) <;> first | (exfalso; omega) | (conv => whnf)) | ((refine BoolB.mk (fun h => ?_) (fun h => ?_)) <;> first | (exact absurd h (by decide)) | (conv => whnf)) | (refine ⟨_, wrap_ok (by omega) (by omega), ?_⟩; conv => whnf) | (refine and_idx (by omega) (by omega) ?_; conv => whnf) | (refine reg_ok (by decide +kernel) ?_; conv => whnf) | (refine bar_ok (by decide +kernel) (by decide +kernel) ?_; conv => whnf) | (refine late_ok rfl rfl ?_; conv => whnf) | (refine src_ok rfl ?_; conv => whnf) | (refine .inl ⟨_, _, qcall_pure (toC) rfl rfl, ?_⟩; conv => whnf) | (refine .inl ⟨_, _, qcall_pure (toC) rfl rfl, ?_⟩; conv => whnf) | (refine ex_own hpv ?_; conv => whnf) | (refine ex_own hu ?_; conv => whnf) | (refine app_ok (by simp [toC]) (by simp [toC]; omega) ?_; conv => whnf) | (refine LitB.data ?_; conv => whnf)))
    · have hne : v ≠ fr := by assumption
      have hbv : backGo s.bef fr (v.toNat + 1) v = v :: backGo s.bef fr v.toNat (s.bef.getD v.toNat 0) := by rw [backGo, if_neg hne]
      have hgu : s.bef.getD v.toNat 0 = u := by rw [Nat.zero_add] at hu; rw [List.getD_eq_getElem?_getD, hu]; rfl
      rcases hg.bef v.toNat hov.2.1 hov.2.2.2 with h1 | ⟨h1, h2, h3, h4⟩
      · omega
      · rw [hgu] at h1 h2 h3
        obtain ⟨w, rfl⟩ := Int.eq_ofNat_of_zero_le h1
        refine ⟨[some 0, some 2], (acc ++ [v], (w : Int)), ⟨rfl, rfl, ⟨entB_rows rfl rfl rfl rfl rfl, entB_rows rfl rfl rfl ?_ rfl, trivial⟩, ⟨rfl, ent_own rfl rfl, ent_own rfl ?_, trivial⟩⟩, ⟨⟨h1, by omega, ?_, h3⟩, ?_, ?_⟩, ?_⟩
        · exact toC_app (f := intRow) (xs := acc ++ [v]) (x := (w : Int))
        · simp [toC]
        · exact hg.ge w (by omega) (by simpa using h3)
        · rw [hback, hbv, hgu, List.append_assoc]
          show _ = acc ++ (v :: backGo s.bef fr ((w : Int).toNat + 1) w)
          rw [back_fuel hg w v.toNat ((w : Int).toNat + 1) (by omega) (by simpa using h3) (by omega) (by omega)]
        · show (acc ++ [v]).length + (w : Int).toNat ≤ t
          simp; omega
        · show (w : Int).toNat < v.toNat
          omega
    · have hvf : v = fr := by omega
      subst hvf
      refine .inr ⟨_, _, acall_frame (H' := [intsB s.bef, intsB (acc ++ [(fr : Int)]).reverse]) [1] (a_Reverse (acc ++ [(fr : Int)]) (by omega)) rfl rfl rfl (by decide) ?_ (by simp) (by simp) rfl rfl rfl ?_ ?_, ?_⟩
      · intro i k hk
        match i, hk with
        | 0, hk =>
          injection hk with hk
          subst hk
          exact ⟨rfl, rfl, okRows_toC _, _, rfl, renB_data rfl⟩
      · intro i k hk
        match i, hk with
        | 0, hk =>
          injection hk with hk
          subst hk
          exact ⟨_, rfl, renB_data rfl⟩
      · intro j hj hn
        match j, hj, hn with
        | 0, _, _ => rfl
        | 1, _, hn => simp at hn
      conv => whnf
      (repeat' (first | ((refine DecB.mk (fun h => ?_) (fun h => ?_)) <;> first | (exfalso; omega) | (conv => whnf)) | ((refine BoolB.mk (fun h => ?_) (fun h => ?_)) <;> first | (exact absurd h (by decide)) | (conv => whnf)) | (refine ⟨_, wrap_ok (by omega) (by omega), ?_⟩; conv => whnf) | (refine and_idx (by omega) (by omega) ?_; conv => whnf) | (refine reg_ok (by decide +kernel) ?_; conv => whnf) | (refine bar_ok (by decide +kernel) (by decide +kernel) ?_; conv => whnf) | (refine late_ok rfl rfl ?_; conv => whnf) | (refine src_ok rfl ?_; conv => whnf) | (refine LitB.data ?_; conv => whnf)))
      refine fin_t (ent_view (app := true) rfl rfl (by intro h; cases h) rfl ?_ ?_)
      · rw [hback]
        show toC (((acc ++ [(fr : Int)]).reverse).map intRow) = toC ((acc ++ backGo s.bef fr ((fr : Int).toNat + 1) fr).reverse.map intRow)
        rw [backGo, if_pos rfl]
      · rw [hback, backGo, if_pos rfl]; simp
theorem a_Path (e : Ev) (hs : e.Sized) (fr t : Int) (bl : List Bool) : ACall Try.prog 31 [evS e, intS .i64 fr, intS .i64 t, boolsS bl] [] (intsS (pathF e bl fr t)) [] := by
  have f1 := a_fits e fr bl
  have f2 := a_fits e t bl
  cases hfit : fitsB e fr bl with
  | false =>
    rw [hfit] at f1
    have hp : pathF e bl fr t = [] := by unfold pathF; rw [if_neg (by simp [hfit])]
    rw [hp]
    (refine acall_of tab_ok Try.func31 rfl (by decide) ?_; (conv => whnf); repeat (refine LitB.data ?_; conv => whnf))
    (repeat' (first | ((refine DecB.mk (fun h => ?_) (fun h => ?_)) <;> first | (exfalso; omega) | (conv => whnf)) | ((refine BoolB.mk (fun h => ?_) (fun h => ?_)) <;> first | (exact absurd h (by decide)) | (conv => whnf)) | (refine ⟨_, wrap_ok (by omega) (by omega), ?_⟩; conv => whnf) | (refine and_idx (by omega) (by omega) ?_; conv => whnf) | (refine reg_ok (by decide +kernel) ?_; conv => whnf) | (refine bar_ok (by decide +kernel) (by decide +kernel) ?_; conv => whnf) | (refine late_ok rfl rfl ?_; conv => whnf) | (refine src_ok rfl ?_; conv => whnf) | (refine .inl ⟨_, _, qcall_pure (f1) rfl rfl, ?_⟩; conv => whnf) | (refine LitB.data ?_; conv => whnf)))
    all_goals first | (exfalso; simp_all; done) | exact fin_t rfl
  | true =>
    rw [hfit] at f1
    cases hfit2 : fitsB e t bl with
    | false =>
      rw [hfit2] at f2
      have hp : pathF e bl fr t = [] := by unfold pathF; rw [if_neg (by simp [hfit2])]
      rw [hp]
      (refine acall_of tab_ok Try.func31 rfl (by decide) ?_; (conv => whnf); repeat (refine LitB.data ?_; conv => whnf))
      (repeat' (first | ((refine DecB.mk (fun h => ?_) (fun h => ?_)) <;> first | (exfalso; omega) | (conv => whnf)) | ((refine BoolB.mk (fun h => ?_) (fun h => ?_)) <;> first | (exact absurd h (by decide)) | (conv => whnf)) | (refine ⟨_, wrap_ok (by omega) (by omega), ?_⟩; conv => whnf) | (refine and_idx (by omega) (by omega) ?_; conv => whnf) | (refine reg_ok (by decide +kernel) ?_; conv => whnf) | (refine bar_ok (by decide +kernel) (by decide +kernel) ?_; conv => whnf) | (refine late_ok rfl rfl ?_; conv => whnf) | (refine src_ok rfl ?_; conv => whnf) | (refine .inl ⟨_, _, qcall_pure (f1) rfl rfl, ?_⟩; conv => whnf) | (refine .inl ⟨_, _, qcall_pure (f2) rfl rfl, ?_⟩; conv => whnf) | (refine LitB.data ?_; conv => whnf)))
      all_goals first | (exfalso; simp_all; done) | exact fin_t rfl
    | true =>
      rw [hfit2] at f2
      obtain ⟨⟨h1, h2⟩, h3⟩ := fits_iff.1 hfit
      obtain ⟨⟨h4, h5⟩, _⟩ := fits_iff.1 hfit2
      obtain ⟨n, rfl⟩ := Int.eq_ofNat_of_zero_le h1
      obtain ⟨q, rfl⟩ := Int.eq_ofNat_of_zero_le h4
      obtain ⟨b, hb⟩ : ∃ b, bl[n]? = some b := ⟨_, List.getElem?_eq_getElem (by omega)⟩
      have hg : bl.getD n true = b := by rw [List.getD_eq_getElem?_getD, hb]; rfl
      cases b with
      | false => exact a_Path1 e hs n q bl (by omega) (by omega) (by omega) hg
      | true =>
        have hp : pathF e bl n q = [] := by unfold pathF; rw [if_neg (by simp only [Int.toNat_natCast, hg]; simp)]
        rw [hp]
        (refine acall_of tab_ok Try.func31 rfl (by decide) ?_; (conv => whnf); repeat (refine LitB.data ?_; conv => whnf))
        (repeat' (first | ((refine DecB.mk (fun h => ?_) (fun h => ?_)) <;> first | (exfalso; omega) | (conv => whnf)) | ((refine BoolB.mk (fun h => ?_) (fun h => ?_)) <;> first | (exact absurd h (by decide)) | (conv => whnf)) | (refine ⟨_, wrap_ok (by omega) (by omega), ?_⟩; conv => whnf) | (refine and_idx (by omega) (by omega) ?_; conv => whnf) | (refine reg_ok (by decide +kernel) ?_; conv => whnf) | (refine bar_ok (by decide +kernel) (by decide +kernel) ?_; conv => whnf) | (refine late_ok rfl rfl ?_; conv => whnf) | (refine src_ok rfl ?_; conv => whnf) | (refine .inl ⟨_, _, qcall_pure (f1) rfl rfl, ?_⟩; conv => whnf) | (refine .inl ⟨_, _, qcall_pure (f2) rfl rfl, ?_⟩; conv => whnf) | (refine ex_row hb ?_; conv => whnf) | (refine LitB.data ?_; conv => whnf)))
        all_goals first | (exfalso; simp_all; done) | exact fin_t rfl
end Go.Proofs.Ythjgbjakpbfnoaa
/- The reference's better, Paths, Path. -/
namespace Go.Proofs.Ythjgbjakpbfnoaa
open Go.RowKit
set_option linter.unusedVariables false
set_option linter.unusedSimpArgs false
set_option maxRecDepth 100000

def lexB : List Int → List Int → Bool
  | x :: a, y :: b => if x = y then lexB a b else decide (x < y)
  | _, _ => false
def betterB (a b : List Int) : Bool := if b = [] ∨ a.length ≠ b.length then decide (b = []) || decide (a.length < b.length) else lexB a b
theorem lexB_take {a b : List Int} : ∀ k, a.take k = b.take k → lexB a b = lexB (a.drop k) (b.drop k) := by
  intro k
  induction k generalizing a b with
  | zero => intro _; rfl
  | succ k ih =>
    intro h
    cases a with
    | nil => cases b with
      | nil => rfl
      | cons y b => simp at h
    | cons x a => cases b with
      | nil => simp at h
      | cons y b =>
        simp at h
        obtain ⟨rfl, h⟩ := h
        rw [lexB, if_pos rfl, ih h]
        rfl
theorem a_better (a b : List Int) (ha : a.length ≤ 1000000) (hb : b.length ≤ 1000000) : ACall Try.prog 65 [intsS a, intsS b] [] (boolS (betterB a b)) [] := by
  have l1 : (a.map intRow).length = a.length := by simp
  have l2 : (b.map intRow).length = b.length := by simp
  have hb0 : (b = []) ↔ b.length = 0 := by simp
  have hbd : decide (b = []) = decide (b.length = 0) := by simp
  by_cases hc : b = [] ∨ a.length ≠ b.length
  · (refine acall_of tab_ok Try.func65 rfl (by decide) ?_; (conv => whnf); repeat (refine LitB.data ?_; conv => whnf))
    (repeat' (first | ((refine DecB.mk (fun h => ?_) (fun h => ?_)) <;> first | (exfalso; omega) | (conv => whnf)) | ((refine BoolB.mk (fun h => ?_) (fun h => ?_)) <;> first | (exact absurd h (by decide)) | (conv => whnf)) | (refine ⟨_, wrap_ok (by omega) (by omega), ?_⟩; conv => whnf) | (refine and_idx (by omega) (by omega) ?_; conv => whnf) | (refine reg_ok (by decide +kernel) ?_; conv => whnf) | (refine bar_ok (by decide +kernel) (by decide +kernel) ?_; conv => whnf) | (refine late_ok rfl rfl ?_; conv => whnf) | (refine src_ok rfl ?_; conv => whnf) | (refine LitB.data ?_; conv => whnf)))
    all_goals first
      | (refine fin_bool ?_; unfold betterB; rw [if_pos hc, hbd]; clear hb0 hbd hc; generalize (a.map intRow).length = la1 at *; generalize (b.map intRow).length = lb1 at *; generalize b.length = lb at *; generalize a.length = la at *; subst l1 l2; simp; omega)
      | (exfalso; rw [hb0] at hc; omega)
  · have hl : a.length = b.length := by rw [hb0] at hc; omega
    (refine acall_of tab_ok Try.func65 rfl (by decide) ?_; (conv => whnf); repeat (refine LitB.data ?_; conv => whnf))
    (repeat' (first | ((refine DecB.mk (fun h => ?_) (fun h => ?_)) <;> first | (exfalso; omega) | (conv => whnf)) | ((refine BoolB.mk (fun h => ?_) (fun h => ?_)) <;> first | (exact absurd h (by decide)) | (conv => whnf)) | (refine ⟨_, wrap_ok (by omega) (by omega), ?_⟩; conv => whnf) | (refine and_idx (by omega) (by omega) ?_; conv => whnf) | (refine reg_ok (by decide +kernel) ?_; conv => whnf) | (refine bar_ok (by decide +kernel) (by decide +kernel) ?_; conv => whnf) | (refine late_ok rfl rfl ?_; conv => whnf) | (refine src_ok rfl ?_; conv => whnf) | (refine LitB.data ?_; conv => whnf)))
    all_goals try (exfalso; rw [hb0] at hc; omega)
    refine awp_for tab_ok (fun k => ([intsS a, intsS b, S.junk, S.junk, S.junk, intS .i64 k, S.junk, S.junk, S.junk, S.junk, S.junk, S.junk, S.junk, S.junk, S.junk, S.junk, S.junk, S.junk, S.junk, S.junk, S.junk, S.junk, S.junk, S.junk, S.junk, S.junk, S.junk, S.junk, S.junk, S.junk, S.junk, S.junk, S.junk, S.junk, S.junk, S.junk, S.junk, S.junk, S.junk, S.junk, S.junk, S.junk, S.junk, S.junk, S.junk, S.junk, S.junk, S.junk, S.junk, S.junk], [])) a.length (fun k => a.take k = b.take k) [] rfl
      ⟨rfl, rfl, trivial, ⟨ent_t rfl, ent_t rfl, ent_i rfl, trivial⟩⟩ ?_
    intro k hk hI
    conv => whnf
    (repeat' (first | ((refine DecB.mk (fun h => ?_) (fun h => ?_)) <;> first | (exfalso; omega) | (conv => whnf)) | ((refine BoolB.mk (fun h => ?_) (fun h => ?_)) <;> first | (exact absurd h (by decide)) | (conv => whnf)) | (refine ⟨_, wrap_ok (by omega) (by omega), ?_⟩; conv => whnf) | (refine and_idx (by omega) (by omega) ?_; conv => whnf) | (refine reg_ok (by decide +kernel) ?_; conv => whnf) | (refine bar_ok (by decide +kernel) (by decide +kernel) ?_; conv => whnf) | (refine late_ok rfl rfl ?_; conv => whnf) | (refine src_ok rfl ?_; conv => whnf) | (refine LitB.data ?_; conv => whnf)))
    · have hlt : k < a.length := by omega
      obtain ⟨x, hx⟩ : ∃ x, a[k]? = some x := ⟨_, List.getElem?_eq_getElem hlt⟩
      obtain ⟨y, hy⟩ : ∃ y, b[k]? = some y := ⟨_, List.getElem?_eq_getElem (by omega)⟩
      have hda : a.drop k = x :: a.drop (k + 1) := by
        rw [List.drop_eq_getElem_cons hlt]; congr 1; exact (List.getElem?_eq_some_iff.1 hx).2
      have hdb : b.drop k = y :: b.drop (k + 1) := by
        rw [List.drop_eq_getElem_cons (by omega)]; congr 1; exact (List.getElem?_eq_some_iff.1 hy).2
      have hbt : betterB a b = if x = y then lexB (a.drop (k + 1)) (b.drop (k + 1)) else decide (x < y) := by
        unfold betterB; rw [if_neg hc, lexB_take k hI, hda, hdb, lexB]
      (repeat' (first | ((refine DecB.mk (fun h => ?_) (fun h => ?_)) <;> first | (exfalso; omega) | (conv => whnf)) | ((refine BoolB.mk (fun h => ?_) (fun h => ?_)) <;> first | (exact absurd h (by decide)) | (conv => whnf)) | (refine ⟨_, wrap_ok (by omega) (by omega), ?_⟩; conv => whnf) | (refine and_idx (by omega) (by omega) ?_; conv => whnf) | (refine reg_ok (by decide +kernel) ?_; conv => whnf) | (refine bar_ok (by decide +kernel) (by decide +kernel) ?_; conv => whnf) | (refine late_ok rfl rfl ?_; conv => whnf) | (refine src_ok rfl ?_; conv => whnf) | (refine ex_row hx ?_; conv => whnf) | (refine ex_row hy ?_; conv => whnf) | (refine LitB.data ?_; conv => whnf)))
      all_goals first
        | (refine fin_bool ?_; rw [hbt, if_neg (by omega)]; simp; omega)
        | (have hxy : x = y := by omega
           refine ⟨hlt, ?_, [], rfl, rfl, trivial, ⟨ent_t rfl, ent_t rfl, rfl, trivial⟩⟩
           rw [take_snoc hx, take_snoc hy, hI, hxy])
    · refine fin_bool ?_
      unfold betterB
      rw [if_neg hc, lexB_take k hI, List.drop_eq_nil_of_le (by omega), List.drop_eq_nil_of_le (by omega)]
      rfl
end Go.Proofs.Ythjgbjakpbfnoaa
/- The reference's search: the best path from a move to each one, as a function. -/
namespace Go.Proofs.Ythjgbjakpbfnoaa
open Go.RowKit
set_option linter.unusedVariables false
set_option linter.unusedSimpArgs false

def stepB (e : Ev) (i k : Nat) : Bool := match e.moves[i]?, e.moves[k]? with
  | some u, some v => decide (i < k) && decide (v.src = u.dst) && clearB e u.dst i k
  | _, _ => false
def innerStep (e : Ev) (k : Nat) (b : List (List Int)) (i : Nat) : List (List Int) :=
  if b.getD i [] = [] ∨ stepB e i k = false then b else if betterB (b.getD i [] ++ [(k : Int)]) (b.getD k []) = true then b.set k (b.getD i [] ++ [(k : Int)]) else b
def innerTo (e : Ev) (fr k : Nat) (b : List (List Int)) (c : Nat) : List (List Int) := (List.range c).foldl (fun b j => innerStep e k b (fr + j)) b
def outerStep (e : Ev) (bl : List Bool) (fr : Nat) (b : List (List Int)) (k : Nat) : List (List Int) :=
  if bl.getD k true = true then b else innerTo e fr k (if k = fr then b.set k [(k : Int)] else b) (k - fr)
def refTo (e : Ev) (bl : List Bool) (fr c : Nat) : List (List Int) := (List.range c).foldl (fun b j => outerStep e bl fr b (fr + j)) (List.replicate e.moves.length [])
def refPaths (e : Ev) (bl : List Bool) (fr : Nat) : List (List Int) := refTo e bl fr (e.moves.length - fr)
def refPath (e : Ev) (bl : List Bool) (fr t : Int) : List Int :=
  if fitsB e fr bl = true ∧ fitsB e t bl = true then (refPaths e bl fr.toNat).getD t.toNat [] else []

theorem range_foldl_succ {α : Type} {f : α → Nat → α} {s : α} {c : Nat} : (List.range (c + 1)).foldl f s = f ((List.range c).foldl f s) c := by
  rw [List.range_succ, List.foldl_append]; rfl
theorem innerTo_succ {e : Ev} {fr k c : Nat} {b : List (List Int)} : innerTo e fr k b (c + 1) = innerStep e k (innerTo e fr k b c) (fr + c) := range_foldl_succ
theorem refTo_succ {e : Ev} {bl : List Bool} {fr c : Nat} : refTo e bl fr (c + 1) = outerStep e bl fr (refTo e bl fr c) (fr + c) := range_foldl_succ
/-- how many lists there are, and how long they are -/
structure ShortP (n : Nat) (b : List (List Int)) : Prop where
  len : b.length = n
  short : ∀ j, (b.getD j []).length ≤ j + 1
theorem getD_setL {b : List (List Int)} {k j : Nat} {p : List Int} (hk : k < b.length) : (b.set k p).getD j [] = if j = k then p else b.getD j [] := by
  rw [List.getD_eq_getElem?_getD, List.getD_eq_getElem?_getD]
  by_cases h : j = k
  · subst h; rw [List.getElem?_set_self hk, if_pos rfl]; rfl
  · rw [List.getElem?_set_ne (Ne.symm h), if_neg h]
theorem ShortP.set {n k : Nat} {b : List (List Int)} {p : List Int} (h : ShortP n b) (hk : k < n) (hp : p.length ≤ k + 1) : ShortP n (b.set k p) := by
  refine ⟨by simpa using h.len, fun j => ?_⟩
  rw [getD_setL (by rw [h.len]; exact hk)]
  split
  · rename_i hj; subst hj; exact hp
  · exact h.short j
theorem ShortP.inner {e : Ev} {n k i : Nat} {b : List (List Int)} (h : ShortP n b) (hk : k < n) (hi : i < k) : ShortP n (innerStep e k b i) := by
  unfold innerStep
  split
  · exact h
  · split
    · exact h.set hk (by have := h.short i; rw [List.length_append, List.length_singleton]; omega)
    · exact h
theorem ShortP.innerTo {e : Ev} {n fr k : Nat} {b : List (List Int)} (h : ShortP n b) (hk : k < n) : ∀ c, fr + c ≤ k → ShortP n (innerTo e fr k b c)
  | 0, _ => h
  | c + 1, hc => by
    rw [innerTo_succ]
    exact (ShortP.innerTo h hk c (by omega)).inner hk (by omega)
theorem ShortP.outer {e : Ev} {bl : List Bool} {n fr k : Nat} {b : List (List Int)} (h : ShortP n b) (hk : k < n) (hf : fr ≤ k) : ShortP n (outerStep e bl fr b k) := by
  unfold outerStep
  split
  · exact h
  · refine ShortP.innerTo ?_ hk _ (by omega)
    split
    · exact h.set hk (by simp)
    · exact h
theorem ShortP.refTo {e : Ev} {bl : List Bool} {fr : Nat} : ∀ c, fr + c ≤ e.moves.length → ShortP e.moves.length (refTo e bl fr c)
  | 0, _ => ⟨by simp [Go.Proofs.Ythjgbjakpbfnoaa.refTo], fun j => by simp [Go.Proofs.Ythjgbjakpbfnoaa.refTo, List.getD_eq_getElem?_getD, List.getElem?_replicate]; split <;> simp⟩
  | c + 1, hc => by
    rw [refTo_succ]
    exact (ShortP.refTo c (by omega)).outer (by omega) (by omega)
end Go.Proofs.Ythjgbjakpbfnoaa
/- The reference's Paths. -/
namespace Go.Proofs.Ythjgbjakpbfnoaa
open Go.RowKit
set_option linter.unusedVariables false
set_option linter.unusedSimpArgs false
set_option maxRecDepth 100000

theorem entL_ts {ρ : List (Option Nat)} {H : Hp} : ∀ l : List T, EntL ρ H (l.map C.t) (l.map C.t)
  | [] => trivial
  | x :: r => ⟨weak_refl x, entL_ts r⟩
theorem entR_refl {ρ : List (Option Nat)} {H : Hp} : ∀ R : List (List T), EntR ρ H (toC R) (toC R)
  | [] => trivial
  | r :: R => ⟨entL_ts r, entR_refl R⟩
theorem entR_set {ρ : List (Option Nat)} {H : Hp} {x y : C} (h : EntC ρ H x y) : ∀ {A B : List (List C)} (k : Nat), EntR ρ H A B → EntR ρ H (A.set k [x]) (B.set k [y])
  | [], [], _, _ => trivial
  | a :: A, b :: B, 0, hr => ⟨⟨h, trivial⟩, hr.2⟩
  | a :: A, b :: B, k + 1, hr => ⟨hr.1, entR_set h k hr.2⟩
  | [], _ :: _, _, hr => hr.elim
  | _ :: _, [], _, hr => hr.elim
theorem entR_rep {ρ : List (Option Nat)} {H : Hp} {x y : C} (h : EntC ρ H x y) : ∀ n, EntR ρ H (List.replicate n [x]) (List.replicate n [y])
  | 0 => trivial
  | n + 1 => ⟨⟨h, trivial⟩, entR_rep h n⟩
def bestRow (p : List Int) : List T := [intsT p]
abbrev bestB (L : List (List Int)) : Blk := { mode := .live, elem := 35, size := 1, rows := toC (L.map bestRow), box := false }
theorem ex_best {L : List (List Int)} {i : Nat} {p : List Int} {K : List C → Prop} (hx : L[i]? = some p) (h : K [C.t (intsT p)]) : ∃ row, (toC (L.map bestRow))[i]? = some row ∧ K row :=
  ⟨[C.t (intsT p)], by simp [toC, hx, bestRow], h⟩
theorem toC_best_set {L : List (List Int)} {k : Nat} {p : List Int} : toC ((L.set k p).map bestRow) = (toC (L.map bestRow)).set k [C.t (intsT p)] := by
  simp [toC, bestRow, List.map_set]
theorem a_Paths (e : Ev) (hs : e.Sized) (fr : Nat) (bl : List Bool) (hf : fr < e.moves.length) (hb : bl.length = e.moves.length) :
    ACall Try.prog 62 [evS e, intS .i64 fr, boolsS bl] [] (.c (.t (.sl 1 .any ((refPaths e bl fr).map bestRow)))) [] := by
  have l1 := hs.s2
  have l2 : (e.moves.map Move.row).length = e.moves.length := by simp
  have l3 : (bl.map boolRow).length = bl.length := by simp
  (refine acall_of tab_ok Try.func62 rfl (by decide) ?_; (conv => whnf); repeat (refine LitB.data ?_; conv => whnf))
  (repeat' (first | ((refine DecB.mk (fun h => ?_) (fun h => ?_)) <;> first | (exfalso; omega) | (conv => whnf)) | ((refine BoolB.mk (fun h => ?_) (fun h => ?_)) <;> first | (exact absurd h (by decide)) | (conv => whnf)) | (refine ⟨_, wrap_ok (by omega) (by omega), ?_⟩; conv => whnf) | (refine and_idx (by omega) (by omega) ?_; conv => whnf) | (refine reg_ok (by decide +kernel) ?_; conv => whnf) | (refine bar_ok (by decide +kernel) (by decide +kernel) ?_; conv => whnf) | (refine late_ok rfl rfl ?_; conv => whnf) | (refine src_ok rfl ?_; conv => whnf) | (refine mk_ok (by omega) (by omega) (by omega) (by decide) ?_; conv => whnf) | (refine LitB.data ?_; conv => whnf)))
  refine awp_for tab_ok (fun c => ([S.junk, intS .i64 fr, boolsS bl, S.c (C.ptr 0 0 0), S.junk, S.junk, S.junk, S.c (C.own 1 0 e.moves.length true), intS .i64 ((fr + c : Nat) : Int), S.junk, S.junk, S.junk, S.junk, S.junk, S.junk, S.junk, S.junk, S.junk, S.junk, S.junk, S.junk, S.junk, S.junk, S.junk, S.junk, S.junk, S.junk, S.junk, S.junk, S.junk, S.junk, S.junk, S.junk, S.junk, S.junk, S.junk, S.junk, S.junk, S.junk, S.junk, S.junk, S.junk, S.junk, S.junk, S.junk, S.junk, S.junk, S.junk, S.junk, S.junk, S.junk, S.junk, S.junk, S.junk, S.junk, S.junk, S.junk, S.junk, S.junk, S.junk, S.junk, S.junk, S.junk, S.junk, S.junk, S.junk, S.junk, S.junk, S.junk, S.junk, S.junk, S.junk, S.junk, S.junk], [evB e, bestB (refTo e bl fr c)])) (e.moves.length - fr) (fun k => True) [some 0, some 1] trivial
    ⟨rfl, rfl, ⟨⟨rfl, rfl, rfl, .inl ⟨rfl, rowsT_ev e⟩⟩, ⟨rfl, rfl, rfl, .inr ?_⟩, trivial⟩, ⟨rfl, ent_t rfl, ⟨rfl, rfl, rfl⟩, ⟨rfl, rfl, ?_, fun h => h⟩, ent_i rfl, trivial⟩⟩ ?_
  · have e1 : ((e.moves.map Move.row).length : Int).toNat = e.moves.length := by omega
    have e2 : toC ((refTo e bl fr 0).map bestRow) = List.replicate e.moves.length [C.t (intsT [])] := by simp [refTo, toC, bestRow]
    show EntR _ _ (List.replicate ((e.moves.map Move.row).length : Int).toNat [C.t (.sl 0 .nil [])]) (toC ((refTo e bl fr 0).map bestRow))
    rw [e1, e2]
    exact entR_rep (x := .t (.sl 0 .nil [])) (y := .t (intsT [])) rfl _
  · omega
  intro c hc hI
  have hsh := ShortP.refTo (e := e) (bl := bl) (fr := fr) c (by omega)
  generalize hbest : refTo e bl fr c = best at *
  have hbl := hsh.len
  conv => whnf
  (repeat' (first | ((refine DecB.mk (fun h => ?_) (fun h => ?_)) <;> first | (exfalso; omega) | (conv => whnf)) | ((refine BoolB.mk (fun h => ?_) (fun h => ?_)) <;> first | (exact absurd h (by decide)) | (conv => whnf)) | (refine ⟨_, wrap_ok (by omega) (by omega), ?_⟩; conv => whnf) | (refine and_idx (by omega) (by omega) ?_; conv => whnf) | (refine reg_ok (by decide +kernel) ?_; conv => whnf) | (refine bar_ok (by decide +kernel) (by decide +kernel) ?_; conv => whnf) | (refine late_ok rfl rfl ?_; conv => whnf) | (refine src_ok rfl ?_; conv => whnf) | (refine LitB.data ?_; conv => whnf)))
  · have hlt : fr + c < e.moves.length := by omega
    obtain ⟨b, hbx⟩ : ∃ b, bl[fr + c]? = some b := ⟨_, List.getElem?_eq_getElem (by omega)⟩
    have hgb : bl.getD (fr + c) true = b := by rw [List.getD_eq_getElem?_getD, hbx]; rfl
    obtain ⟨bk, hbk⟩ : ∃ p, best[0 + ((fr + c : Nat) : Int).toNat]? = some p := ⟨_, List.getElem?_eq_getElem (by omega)⟩
    (repeat' (first | ((refine DecB.mk (fun h => ?_) (fun h => ?_)) <;> first | (exfalso; omega) | (conv => whnf)) | ((refine BoolB.mk (fun h => ?_) (fun h => ?_)) <;> first | (exact absurd h (by decide)) | (conv => whnf)) | (refine ⟨_, wrap_ok (by omega) (by omega), ?_⟩; conv => whnf) | (refine and_idx (by omega) (by omega) ?_; conv => whnf) | (refine reg_ok (by decide +kernel) ?_; conv => whnf) | (refine bar_ok (by decide +kernel) (by decide +kernel) ?_; conv => whnf) | (refine late_ok rfl rfl ?_; conv => whnf) | (refine src_ok rfl ?_; conv => whnf) | (refine ex_row hbx ?_; conv => whnf) | (refine ex_best hbk ?_; conv => whnf) | (refine LitB.data ?_; conv => whnf)))
    · have hr : refTo e bl fr (c + 1) = best := by
        rw [refTo_succ, hbest]; unfold outerStep
        rw [if_pos (by rw [hgb]; assumption)]
      refine ⟨by omega, trivial, [some 0, some 1], rfl, rfl, ⟨⟨rfl, rfl, rfl, .inl ⟨rfl, rowsT_ev e⟩⟩, entB_rows rfl rfl rfl ?_ rfl, trivial⟩, ⟨rfl, rfl, ⟨rfl, rfl, rfl⟩, ⟨rfl, rfl, rfl, fun h => h⟩, rfl, trivial⟩⟩
      rw [hr]
    all_goals
      have hbf : b = false := by assumption
      have hr : refTo e bl fr (c + 1) = innerTo e fr (fr + c) (if fr + c = fr then best.set (fr + c) [((fr + c : Nat) : Int)] else best) c := by
        rw [refTo_succ, hbest]; unfold outerStep
        rw [if_neg (by rw [hgb, hbf]; decide), show fr + c - fr = c by omega]
      have hsh0 : ShortP e.moves.length (if fr + c = fr then best.set (fr + c) [((fr + c : Nat) : Int)] else best) := by
        split
        · exact hsh.set hlt (by simp)
        · exact hsh
      refine awp_for tab_ok (fun j => ([S.junk, intS .i64 fr, boolsS bl, S.c (C.ptr 0 0 0), S.junk, S.junk, S.junk, S.c (C.own 1 0 e.moves.length true), intS .i64 ((fr + c : Nat) : Int), intS .i64 ((fr + j : Nat) : Int), S.junk, S.junk, S.junk, S.junk, S.junk, S.junk, S.junk, S.junk, S.junk, S.junk, S.junk, S.junk, S.junk, S.junk, S.junk, S.junk, S.junk, S.junk, S.junk, S.junk, S.junk, S.junk, S.junk, S.junk, S.junk, S.junk, S.junk, S.junk, S.junk, S.junk, S.junk, S.junk, S.junk, S.junk, S.junk, S.junk, S.junk, S.junk, S.junk, S.junk, S.junk, S.junk, S.junk, S.junk, S.junk, S.junk, S.junk, S.junk, S.junk, S.junk, S.junk, S.junk, S.junk, S.junk, S.junk, S.junk, S.junk, S.junk, S.junk, S.junk, S.junk, S.junk, S.junk, S.junk], [evB e, bestB (innerTo e fr (fr + c) (if fr + c = fr then best.set (fr + c) [((fr + c : Nat) : Int)] else best) j)])) c (fun k => True) [some 0, some 1] trivial
        ⟨rfl, rfl, ⟨⟨rfl, rfl, rfl, .inl ⟨rfl, rowsT_ev e⟩⟩, ⟨rfl, rfl, rfl, .inr ?_⟩, trivial⟩, ⟨rfl, rfl, ⟨rfl, rfl, rfl⟩, ⟨rfl, rfl, rfl, fun h => h⟩, rfl, ent_i rfl, trivial⟩⟩ ?_
      · first
          | (have hcz : fr + c = fr := by omega
             show EntR _ _ ((toC (best.map bestRow)).set (0 + ((fr + c : Nat) : Int).toNat) [C.t (.sl 1 .full [[ti ((fr + c : Nat) : Int)]])]) (toC ((if fr + c = fr then best.set (fr + c) [((fr + c : Nat) : Int)] else best).map bestRow))
             rw [if_pos hcz, toC_best_set, show 0 + ((fr + c : Nat) : Int).toNat = fr + c by omega]
             exact entR_set (x := .t (.sl 1 .full [[ti ((fr + c : Nat) : Int)]])) (y := .t (intsT [((fr + c : Nat) : Int)])) rfl _ (entR_refl _))
          | (have hcz : ¬ fr + c = fr := by omega
             show EntR _ _ (toC (best.map bestRow)) (toC ((if fr + c = fr then best.set (fr + c) [((fr + c : Nat) : Int)] else best).map bestRow))
             rw [if_neg hcz]
             exact entR_refl _)
      clear h
      generalize (if fr + c = fr then best.set (fr + c) [((fr + c : Nat) : Int)] else best) = b0 at *
      intro j hj hI
      have hsi := hsh0.innerTo (e := e) (fr := fr) hlt j (by omega)
      have hin := innerTo_succ (e := e) (fr := fr) (k := fr + c) (c := j) (b := b0)
      generalize hbi : innerTo e fr (fr + c) b0 j = bi at *
      have hbil := hsi.len
      conv => whnf
      (repeat' (first | ((refine DecB.mk (fun h => ?_) (fun h => ?_)) <;> first | (exfalso; omega) | (conv => whnf)) | ((refine BoolB.mk (fun h => ?_) (fun h => ?_)) <;> first | (exact absurd h (by decide)) | (conv => whnf)) | (refine ⟨_, wrap_ok (by omega) (by omega), ?_⟩; conv => whnf) | (refine and_idx (by omega) (by omega) ?_; conv => whnf) | (refine reg_ok (by decide +kernel) ?_; conv => whnf) | (refine bar_ok (by decide +kernel) (by decide +kernel) ?_; conv => whnf) | (refine late_ok rfl rfl ?_; conv => whnf) | (refine src_ok rfl ?_; conv => whnf) | (refine LitB.data ?_; conv => whnf)))
      · have hlj : fr + j < fr + c := by omega
        obtain ⟨p, hp⟩ : ∃ p, bi[0 + ((fr + j : Nat) : Int).toNat]? = some p := ⟨_, List.getElem?_eq_getElem (by omega)⟩
        obtain ⟨q, hq⟩ : ∃ p, bi[0 + ((fr + c : Nat) : Int).toNat]? = some p := ⟨_, List.getElem?_eq_getElem (by omega)⟩
        obtain ⟨u, hu⟩ : ∃ p, e.moves[fr + j]? = some p := ⟨_, List.getElem?_eq_getElem (by omega)⟩
        obtain ⟨v, hv⟩ : ∃ p, e.moves[fr + c]? = some p := ⟨_, List.getElem?_eq_getElem (by omega)⟩
        have st := a_step e hs (fr + j) (fr + c) u v hu hv
        have hst : stepB e (fr + j) (fr + c) = (decide (fr + j < fr + c) && decide (v.src = u.dst) && clearB e u.dst (fr + j) (fr + c)) := by unfold stepB; rw [hu, hv]
        rw [← hst] at st
        have hgp : bi.getD (fr + j) [] = p := by
          rw [List.getD_eq_getElem?_getD]
          rw [show 0 + ((fr + j : Nat) : Int).toNat = fr + j by omega] at hp
          rw [hp]; rfl
        have hgq : bi.getD (fr + c) [] = q := by
          rw [List.getD_eq_getElem?_getD]
          rw [show 0 + ((fr + c : Nat) : Int).toNat = fr + c by omega] at hq
          rw [hq]; rfl
        have hpl := hsi.short (fr + j)
        rw [hgp] at hpl
        have hql := hsi.short (fr + c)
        rw [hgq] at hql
        have bt := a_better (p ++ [((fr + c : Nat) : Int)]) q (by simp; omega) (by omega)
        have lp : (p.map intRow).length = p.length := by simp
        unfold innerStep at hin
        rw [hgp, hgq] at hin
        by_cases hp0 : p.length = 0
        · have hn : innerTo e fr (fr + c) b0 (j + 1) = bi := by
            rw [hin, if_pos (.inl (List.eq_nil_of_length_eq_zero hp0))]
          (repeat' (first | ((refine DecB.mk (fun h => ?_) (fun h => ?_)) <;> first | (exfalso; omega) | (conv => whnf)) | ((refine BoolB.mk (fun h => ?_) (fun h => ?_)) <;> first | (exact absurd h (by decide)) | (conv => whnf)) | (refine ⟨_, wrap_ok (by omega) (by omega), ?_⟩; conv => whnf) | (refine and_idx (by omega) (by omega) ?_; conv => whnf) | (refine reg_ok (by decide +kernel) ?_; conv => whnf) | (refine bar_ok (by decide +kernel) (by decide +kernel) ?_; conv => whnf) | (refine late_ok rfl rfl ?_; conv => whnf) | (refine src_ok rfl ?_; conv => whnf) | (refine ex_best hp ?_; conv => whnf) | (refine LitB.data ?_; conv => whnf)))
          refine ⟨by omega, trivial, [some 0, some 1], rfl, rfl, ⟨⟨rfl, rfl, rfl, .inl ⟨rfl, rowsT_ev e⟩⟩, entB_rows rfl rfl rfl ?_ rfl, trivial⟩, ⟨rfl, rfl, ⟨rfl, rfl, rfl⟩, ⟨rfl, rfl, rfl, fun h => h⟩, rfl, rfl, trivial⟩⟩
          rw [hn]
        · have hpn : p ≠ [] := by intro h; subst h; exact hp0 rfl
          cases hsb : stepB e (fr + j) (fr + c) with
          | false =>
            rw [hsb] at st
            have hn : innerTo e fr (fr + c) b0 (j + 1) = bi := by
              rw [hin, if_pos (.inr hsb)]
            (repeat' (first | ((refine DecB.mk (fun h => ?_) (fun h => ?_)) <;> first | (exfalso; omega) | (conv => whnf)) | ((refine BoolB.mk (fun h => ?_) (fun h => ?_)) <;> first | (exact absurd h (by decide)) | (conv => whnf)) | (refine ⟨_, wrap_ok (by omega) (by omega), ?_⟩; conv => whnf) | (refine and_idx (by omega) (by omega) ?_; conv => whnf) | (refine reg_ok (by decide +kernel) ?_; conv => whnf) | (refine bar_ok (by decide +kernel) (by decide +kernel) ?_; conv => whnf) | (refine late_ok rfl rfl ?_; conv => whnf) | (refine src_ok rfl ?_; conv => whnf) | (refine .inl ⟨_, _, qcall_pure (st) rfl rfl, ?_⟩; conv => whnf) | (refine ex_best hp ?_; conv => whnf) | (refine LitB.data ?_; conv => whnf)))
            refine ⟨by omega, trivial, [some 0, some 1], rfl, rfl, ⟨⟨rfl, rfl, rfl, .inl ⟨rfl, rowsT_ev e⟩⟩, entB_rows rfl rfl rfl ?_ rfl, trivial⟩, ⟨rfl, rfl, ⟨rfl, rfl, rfl⟩, ⟨rfl, rfl, rfl, fun h => h⟩, rfl, rfl, trivial⟩⟩
            rw [hn]
          | true =>
            rw [hsb] at st hin
            rw [if_neg (by simp [hpn])] at hin
            cases hbb : betterB (p ++ [((fr + c : Nat) : Int)]) q with
            | false =>
              rw [hbb] at bt hin
              (repeat' (first | ((refine DecB.mk (fun h => ?_) (fun h => ?_)) <;> first | (exfalso; omega) | (conv => whnf)) | ((refine BoolB.mk (fun h => ?_) (fun h => ?_)) <;> first | (exact absurd h (by decide)) | (conv => whnf)) | (refine ⟨_, wrap_ok (by omega) (by omega), ?_⟩; conv => whnf) | (refine and_idx (by omega) (by omega) ?_; conv => whnf) | (refine reg_ok (by decide +kernel) ?_; conv => whnf) | (refine bar_ok (by decide +kernel) (by decide +kernel) ?_; conv => whnf) | (refine late_ok rfl rfl ?_; conv => whnf) | (refine src_ok rfl ?_; conv => whnf) | (refine .inl ⟨_, _, qcall_pure (st) rfl rfl, ?_⟩; conv => whnf) | (refine .inl ⟨_, _, qcall_pure (toC) rfl rfl, ?_⟩; conv => whnf) | (refine .inl ⟨_, _, qcall_pure (toC, newBlk) rfl rfl, ?_⟩; conv => whnf) | (refine .inl ⟨_, _, qcall_pure (toC) rfl rfl, ?_⟩; conv => whnf) | (refine .inl ⟨_, _, qcall_pure (0) rfl rfl, ?_⟩; conv => whnf) | (refine .inl ⟨_, _, qcall_pure (((fr + c : Nat) : Int)) rfl rfl, ?_⟩; conv => whnf) | (refine .inl ⟨_, _, qcall_pure (toC, newBlk, intRow, List.take_of_length_le) rfl rfl, ?_⟩; conv => whnf) | (refine .inl ⟨_, _, qcall_pure (toC) rfl rfl, ?_⟩; conv => whnf) | (refine ex_best hp ?_; conv => whnf) | (refine ex_best hq ?_; conv => whnf) | (refine app_nil rfl (by simp [toC]; omega) ?_; conv => whnf) | (refine app_ok (by simp [toC, newBlk]) (by simp [toC]; omega) ?_; conv => whnf) | (refine bar_late [0] (by decide +kernel) (by decide +kernel) ?_; conv => whnf) | (refine .inl ⟨_, _, qcall_view bt ⟨vs_c (vc_all (rows := (p ++ [((fr + c : Nat) : Int)]).map intRow) trivial rfl (by intro h; cases h) rfl (by simp [toC, newBlk, intRow, List.take_of_length_le]) (by simp [toC])), vs_t, trivial⟩ rfl, ?_⟩; conv => whnf) | (refine LitB.data ?_; conv => whnf)))
              refine ⟨by omega, trivial, [some 0, some 1], rfl, rfl, ⟨⟨rfl, rfl, rfl, .inl ⟨rfl, rowsT_ev e⟩⟩, entB_rows rfl rfl rfl ?_ rfl, trivial⟩, ⟨rfl, rfl, ⟨rfl, rfl, rfl⟩, ⟨rfl, rfl, rfl, fun h => h⟩, rfl, rfl, trivial⟩⟩
              rw [hin, if_neg (by decide)]
            | true =>
              rw [hbb] at bt hin
              (repeat' (first | ((refine DecB.mk (fun h => ?_) (fun h => ?_)) <;> first | (exfalso; omega) | (conv => whnf)) | ((refine BoolB.mk (fun h => ?_) (fun h => ?_)) <;> first | (exact absurd h (by decide)) | (conv => whnf)) | (refine ⟨_, wrap_ok (by omega) (by omega), ?_⟩; conv => whnf) | (refine and_idx (by omega) (by omega) ?_; conv => whnf) | (refine reg_ok (by decide +kernel) ?_; conv => whnf) | (refine bar_ok (by decide +kernel) (by decide +kernel) ?_; conv => whnf) | (refine late_ok rfl rfl ?_; conv => whnf) | (refine src_ok rfl ?_; conv => whnf) | (refine .inl ⟨_, _, qcall_pure (st) rfl rfl, ?_⟩; conv => whnf) | (refine .inl ⟨_, _, qcall_pure (toC) rfl rfl, ?_⟩; conv => whnf) | (refine .inl ⟨_, _, qcall_pure (toC, newBlk) rfl rfl, ?_⟩; conv => whnf) | (refine .inl ⟨_, _, qcall_pure (toC) rfl rfl, ?_⟩; conv => whnf) | (refine .inl ⟨_, _, qcall_pure (0) rfl rfl, ?_⟩; conv => whnf) | (refine .inl ⟨_, _, qcall_pure (((fr + c : Nat) : Int)) rfl rfl, ?_⟩; conv => whnf) | (refine .inl ⟨_, _, qcall_pure (toC, newBlk, intRow, List.take_of_length_le) rfl rfl, ?_⟩; conv => whnf) | (refine .inl ⟨_, _, qcall_pure (toC) rfl rfl, ?_⟩; conv => whnf) | (refine ex_best hp ?_; conv => whnf) | (refine ex_best hq ?_; conv => whnf) | (refine app_nil rfl (by simp [toC]; omega) ?_; conv => whnf) | (refine app_ok (by simp [toC, newBlk]) (by simp [toC]; omega) ?_; conv => whnf) | (refine bar_late [0] (by decide +kernel) (by decide +kernel) ?_; conv => whnf) | (refine .inl ⟨_, _, qcall_view bt ⟨vs_c (vc_all (rows := (p ++ [((fr + c : Nat) : Int)]).map intRow) trivial rfl (by intro h; cases h) rfl (by simp [toC, newBlk, intRow, List.take_of_length_le]) (by simp [toC])), vs_t, trivial⟩ rfl, ?_⟩; conv => whnf) | (refine LitB.data ?_; conv => whnf)))
              refine ⟨by omega, trivial, [some 0, some 1], rfl, rfl, ⟨⟨rfl, rfl, rfl, .inl ⟨rfl, rowsT_ev e⟩⟩, ⟨rfl, rfl, rfl, .inr ?_⟩, trivial⟩, ⟨rfl, rfl, ⟨rfl, rfl, rfl⟩, ⟨rfl, rfl, rfl, fun h => h⟩, rfl, rfl, trivial⟩⟩
              rw [hin, if_pos rfl]
              show EntR _ _ ((toC (bi.map bestRow)).set (0 + ((fr + c : Nat) : Int).toNat) [C.own 3 0 _ true]) (toC ((bi.set (fr + c) (p ++ [((fr + c : Nat) : Int)])).map bestRow))
              rw [toC_best_set, show 0 + ((fr + c : Nat) : Int).toNat = fr + c by omega]
              refine entR_set (x := .own 3 0 _ true) (y := .t (intsT (p ++ [((fr + c : Nat) : Int)]))) ?_ _ (entR_refl _)
              exact (show VC _ _ _ _ from vc_all rfl rfl (by intro h; cases h) rfl (by simp [toC, newBlk, intRow, List.take_of_length_le]) (by simp [toC]))
      · have hjc : j = c := by omega
        refine ⟨by omega, trivial, [some 0, some 1], rfl, rfl, ⟨⟨rfl, rfl, rfl, .inl ⟨rfl, rowsT_ev e⟩⟩, entB_rows rfl rfl rfl ?_ rfl, trivial⟩, ⟨rfl, rfl, ⟨rfl, rfl, rfl⟩, ⟨rfl, rfl, rfl, fun h => h⟩, rfl, trivial⟩⟩
        rw [hr]
        rw [hjc] at hbi
        rw [hbi]
  · have hcn : c = e.moves.length - fr := by omega
    refine fin_t (ent_view (app := true) rfl rfl (by intro h; cases h) rfl ?_ ?_)
    · show toC (best.map bestRow) = toC ((refPaths e bl fr).map bestRow)
      unfold refPaths; rw [← hcn, hbest]
    · unfold refPaths; rw [← hcn, hbest]; simp; omega
theorem a_RPath (e : Ev) (hs : e.Sized) (fr t : Int) (bl : List Bool) : ACall Try.prog 32 [evS e, intS .i64 fr, intS .i64 t, boolsS bl] [] (intsS (refPath e bl fr t)) [] := by
  have f1 := a_Fits e fr bl
  have f2 := a_Fits e t bl
  cases hfit : fitsB e fr bl with
  | false =>
    rw [hfit] at f1
    have hp : refPath e bl fr t = [] := by unfold refPath; rw [if_neg (by simp [hfit])]
    rw [hp]
    (refine acall_of tab_ok Try.func32 rfl (by decide) ?_; (conv => whnf); repeat (refine LitB.data ?_; conv => whnf))
    (repeat' (first | ((refine DecB.mk (fun h => ?_) (fun h => ?_)) <;> first | (exfalso; omega) | (conv => whnf)) | ((refine BoolB.mk (fun h => ?_) (fun h => ?_)) <;> first | (exact absurd h (by decide)) | (conv => whnf)) | (refine ⟨_, wrap_ok (by omega) (by omega), ?_⟩; conv => whnf) | (refine and_idx (by omega) (by omega) ?_; conv => whnf) | (refine reg_ok (by decide +kernel) ?_; conv => whnf) | (refine bar_ok (by decide +kernel) (by decide +kernel) ?_; conv => whnf) | (refine late_ok rfl rfl ?_; conv => whnf) | (refine src_ok rfl ?_; conv => whnf) | (refine .inl ⟨_, _, qcall_pure (f1) rfl rfl, ?_⟩; conv => whnf) | (refine LitB.data ?_; conv => whnf)))
    all_goals first | (exfalso; simp_all; done) | exact fin_t rfl
  | true =>
    rw [hfit] at f1
    cases hfit2 : fitsB e t bl with
    | false =>
      rw [hfit2] at f2
      have hp : refPath e bl fr t = [] := by unfold refPath; rw [if_neg (by simp [hfit2])]
      rw [hp]
      (refine acall_of tab_ok Try.func32 rfl (by decide) ?_; (conv => whnf); repeat (refine LitB.data ?_; conv => whnf))
      (repeat' (first | ((refine DecB.mk (fun h => ?_) (fun h => ?_)) <;> first | (exfalso; omega) | (conv => whnf)) | ((refine BoolB.mk (fun h => ?_) (fun h => ?_)) <;> first | (exact absurd h (by decide)) | (conv => whnf)) | (refine ⟨_, wrap_ok (by omega) (by omega), ?_⟩; conv => whnf) | (refine and_idx (by omega) (by omega) ?_; conv => whnf) | (refine reg_ok (by decide +kernel) ?_; conv => whnf) | (refine bar_ok (by decide +kernel) (by decide +kernel) ?_; conv => whnf) | (refine late_ok rfl rfl ?_; conv => whnf) | (refine src_ok rfl ?_; conv => whnf) | (refine .inl ⟨_, _, qcall_pure (f1) rfl rfl, ?_⟩; conv => whnf) | (refine .inl ⟨_, _, qcall_pure (f2) rfl rfl, ?_⟩; conv => whnf) | (refine LitB.data ?_; conv => whnf)))
      all_goals first | (exfalso; simp_all; done) | exact fin_t rfl
    | true =>
      rw [hfit2] at f2
      obtain ⟨⟨h1, h2⟩, h3⟩ := fits_iff.1 hfit
      obtain ⟨⟨h4, h5⟩, _⟩ := fits_iff.1 hfit2
      obtain ⟨n, rfl⟩ := Int.eq_ofNat_of_zero_le h1
      obtain ⟨q, rfl⟩ := Int.eq_ofNat_of_zero_le h4
      have hsh := ShortP.refTo (e := e) (bl := bl) (fr := n) (e.moves.length - n) (by omega)
      have hpl : (refPaths e bl n).length = e.moves.length := hsh.len
      obtain ⟨p, hp⟩ : ∃ p, (refPaths e bl n)[q]? = some p := ⟨_, List.getElem?_eq_getElem (by omega)⟩
      have hpp : refPath e bl n q = p := by
        unfold refPath
        rw [if_pos ⟨hfit, hfit2⟩, Int.toNat_natCast, Int.toNat_natCast, List.getD_eq_getElem?_getD, hp]; rfl
      rw [hpp]
      have pa := a_Paths e hs n bl (by omega) (by omega)
      (refine acall_of tab_ok Try.func32 rfl (by decide) ?_; (conv => whnf); repeat (refine LitB.data ?_; conv => whnf))
      (repeat' (first | ((refine DecB.mk (fun h => ?_) (fun h => ?_)) <;> first | (exfalso; omega) | (conv => whnf)) | ((refine BoolB.mk (fun h => ?_) (fun h => ?_)) <;> first | (exact absurd h (by decide)) | (conv => whnf)) | (refine ⟨_, wrap_ok (by omega) (by omega), ?_⟩; conv => whnf) | (refine and_idx (by omega) (by omega) ?_; conv => whnf) | (refine reg_ok (by decide +kernel) ?_; conv => whnf) | (refine bar_ok (by decide +kernel) (by decide +kernel) ?_; conv => whnf) | (refine late_ok rfl rfl ?_; conv => whnf) | (refine src_ok rfl ?_; conv => whnf) | (refine .inl ⟨_, _, qcall_pure (f1) rfl rfl, ?_⟩; conv => whnf) | (refine .inl ⟨_, _, qcall_pure (f2) rfl rfl, ?_⟩; conv => whnf) | (refine .inl ⟨_, _, qcall_pure (pa) rfl rfl, ?_⟩; conv => whnf) | (refine ex_row (f := bestRow) hp ?_; conv => whnf) | (refine LitB.data ?_; conv => whnf)))
      all_goals first | (exfalso; simp_all; done) | exact fin_t rfl
end Go.Proofs.Ythjgbjakpbfnoaa
/- Lifts. -/
namespace Go.Proofs.Ythjgbjakpbfnoaa
open Go.RowKit
set_option linter.unusedVariables false
set_option linter.unusedSimpArgs false
set_option maxRecDepth 100000

def liftP (e : Ev) (pf : Int → List Int) (i : Nat) (x : Move) : Bool := decide (kindAt e x.src = 0) && decide (0 < (pf i).length)
def liftsF (e : Ev) (bl : List Bool) (t : Int) : List Int := if fitsB e t bl = true then pickFrom (liftP e fun i => pathF e bl i t) 0 e.moves else []
def refLifts (e : Ev) (bl : List Bool) (t : Int) : List Int := if fitsB e t bl = true then pickTo (liftP e fun i => refPath e bl i t) e.moves (t.toNat + 1) else []
theorem a_RLifts24 (e : Ev) (hs : e.Sized) (h0 : check e = 0) (t : Int) (bl : List Bool) : ACall Try.prog 34 [evS e, intS .i64 t, boolsS bl] [] (intsS (refLifts e bl t)) [] := by
  have f1 := a_Fits e t bl
  cases hfit : fitsB e t bl with
  | false =>
    rw [hfit] at f1
    have hp : refLifts e bl t = [] := by unfold refLifts; rw [if_neg (by simp [hfit])]
    rw [hp]
    (refine acall_of tab_ok Try.func34 rfl (by decide) ?_; (conv => whnf); repeat (refine LitB.data ?_; conv => whnf))
    (repeat' (first | ((refine DecB.mk (fun h => ?_) (fun h => ?_)) <;> first | (exfalso; omega) | (conv => whnf)) | ((refine BoolB.mk (fun h => ?_) (fun h => ?_)) <;> first | (exact absurd h (by decide)) | (conv => whnf)) | (refine ⟨_, wrap_ok (by omega) (by omega), ?_⟩; conv => whnf) | (refine and_idx (by omega) (by omega) ?_; conv => whnf) | (refine reg_ok (by decide +kernel) ?_; conv => whnf) | (refine bar_ok (by decide +kernel) (by decide +kernel) ?_; conv => whnf) | (refine late_ok rfl rfl ?_; conv => whnf) | (refine src_ok rfl ?_; conv => whnf) | (refine .inl ⟨_, _, qcall_pure (f1) rfl rfl, ?_⟩; conv => whnf) | (refine LitB.data ?_; conv => whnf)))
    all_goals first | (exfalso; simp_all; done) | exact fin_t rfl
  | true =>
    rw [hfit] at f1
    obtain ⟨⟨h1, h2⟩, h3⟩ := fits_iff.1 hfit
    obtain ⟨q, rfl⟩ := Int.eq_ofNat_of_zero_le h1
    have hp : refLifts e bl q = pickTo (liftP e fun i => refPath e bl i q) e.moves (q + 1) := by unfold refLifts; rw [if_pos hfit]; rfl
    rw [hp]
    have l1 := hs.s2
    have l2 : (e.moves.map Move.row).length = e.moves.length := by simp
    let P : Nat → Move → Bool := liftP e fun i => refPath e bl i q
    have hpP : (liftP e fun i => refPath e bl i q) = P := rfl
    rw [hpP]
    (refine acall_of tab_ok Try.func34 rfl (by decide) ?_; (conv => whnf); repeat (refine LitB.data ?_; conv => whnf))
    (repeat' (first | ((refine DecB.mk (fun h => ?_) (fun h => ?_)) <;> first | (exfalso; omega) | (conv => whnf)) | ((refine BoolB.mk (fun h => ?_) (fun h => ?_)) <;> first | (exact absurd h (by decide)) | (conv => whnf)) | (refine ⟨_, wrap_ok (by omega) (by omega), ?_⟩; conv => whnf) | (refine and_idx (by omega) (by omega) ?_; conv => whnf) | (refine reg_ok (by decide +kernel) ?_; conv => whnf) | (refine bar_ok (by decide +kernel) (by decide +kernel) ?_; conv => whnf) | (refine late_ok rfl rfl ?_; conv => whnf) | (refine src_ok rfl ?_; conv => whnf) | (refine .inl ⟨_, _, qcall_pure (f1) rfl rfl, ?_⟩; conv => whnf) | (refine LitB.data ?_; conv => whnf)))
    refine awp_for tab_ok (fun k => ([S.junk, intS .i64 q, boolsS bl, S.c (C.ptr 0 0 0), S.junk, S.junk, S.junk, ownI 1 (pickTo P e.moves k), intS .i64 k, S.junk, S.junk, S.junk, S.junk, S.junk, S.junk, S.junk, S.junk, S.junk, S.junk, S.junk, S.junk, S.junk, S.junk, S.junk, S.junk, S.junk, S.junk, S.junk, S.junk, S.junk, S.junk, S.junk, S.junk, S.junk, S.junk, S.junk, S.junk, S.junk, S.junk, S.junk, S.junk, S.junk, S.junk, S.junk, S.junk, S.junk, S.junk], [evB e, intsB (pickTo P e.moves k)])) (q + 1) (fun k => True) [some 0, none] trivial
      ⟨rfl, rfl, ⟨⟨rfl, rfl, rfl, .inl ⟨rfl, rowsT_ev e⟩⟩, ⟨rfl, rfl⟩, trivial⟩, ⟨rfl, ent_t rfl, ⟨rfl, rfl, rfl⟩, ⟨rfl, rfl, rfl⟩, ent_i rfl, trivial⟩⟩ ?_
    intro k hk hI
    have hpl := length_pickTo P e.moves k
    conv => whnf
    (repeat' (first | ((refine DecB.mk (fun h => ?_) (fun h => ?_)) <;> first | (exfalso; omega) | (conv => whnf)) | ((refine BoolB.mk (fun h => ?_) (fun h => ?_)) <;> first | (exact absurd h (by decide)) | (conv => whnf)) | (refine ⟨_, wrap_ok (by omega) (by omega), ?_⟩; conv => whnf) | (refine and_idx (by omega) (by omega) ?_; conv => whnf) | (refine reg_ok (by decide +kernel) ?_; conv => whnf) | (refine bar_ok (by decide +kernel) (by decide +kernel) ?_; conv => whnf) | (refine late_ok rfl rfl ?_; conv => whnf) | (refine src_ok rfl ?_; conv => whnf) | (refine LitB.data ?_; conv => whnf)))
    · have hlt : k < e.moves.length := by omega
      obtain ⟨x, hx⟩ : ∃ x, e.moves[k]? = some x := ⟨_, List.getElem?_eq_getElem hlt⟩
      obtain ⟨i, p, hsrc, hpl2, -⟩ := place_at h0 (List.mem_of_getElem? hx)
      have hkx : kindAt e x.src = p.kind := by rw [hsrc, kindAt_of hpl2]
      have pa := a_RPath e hs k q bl
      have lpa : ((refPath e bl k q).map intRow).length = (refPath e bl k q).length := by simp
      have hP : P k x = (decide (p.kind = 0) && decide (0 < (refPath e bl k q).length)) := by show liftP _ _ _ _ = _; unfold liftP; rw [hkx]
      (repeat' (first | ((refine DecB.mk (fun h => ?_) (fun h => ?_)) <;> first | (exfalso; omega) | (conv => whnf)) | ((refine BoolB.mk (fun h => ?_) (fun h => ?_)) <;> first | (exact absurd h (by decide)) | (conv => whnf)) | (refine ⟨_, wrap_ok (by omega) (by omega), ?_⟩; conv => whnf) | (refine and_idx (by omega) (by omega) ?_; conv => whnf) | (refine reg_ok (by decide +kernel) ?_; conv => whnf) | (refine bar_ok (by decide +kernel) (by decide +kernel) ?_; conv => whnf) | (refine late_ok rfl rfl ?_; conv => whnf) | (refine src_ok rfl ?_; conv => whnf) | (refine .inl ⟨_, _, qcall_pure (pa) rfl rfl, ?_⟩; conv => whnf) | (refine .inl ⟨_, _, qcall_pure (toC) rfl rfl, ?_⟩; conv => whnf) | (refine .inl ⟨_, _, qcall_pure (toC) rfl rfl, ?_⟩; conv => whnf) | (refine ex_row hx ?_; conv => whnf) | (refine ex_rowE hsrc hpl2 ?_; conv => whnf) | (refine app_ok (by simp [toC]) (by simp [toC]; omega) ?_; conv => whnf) | (refine LitB.data ?_; conv => whnf)))
      · have hP' : P k x = true := by rw [hP, Bool.and_eq_true, decide_eq_true_iff, decide_eq_true_iff]; exact ⟨by assumption, by omega⟩
        have hy := pickTo_yes P hx hP'
        refine ⟨by omega, trivial, [some 0, some 2], rfl, rfl, ⟨⟨rfl, rfl, rfl, .inl ⟨rfl, rowsT_ev e⟩⟩, entB_rows (rows := (pickTo P e.moves (k + 1)).map intRow) rfl rfl rfl ?_ rfl, trivial⟩, ⟨rfl, rfl, ⟨rfl, rfl, rfl⟩, ent_own rfl ?_, rfl, trivial⟩⟩
        · rw [hy, List.map_append]
          exact (congrArg (fun n => List.take n (toC ((pickTo P e.moves k).map intRow)) ++ toC [[ti (k : Nat)]]) (by simp)).trans toC_snoc
        · show _ = (pickTo P e.moves (k + 1)).length
          rw [hy]; simp [toC]
      all_goals
        have hP' : P k x = false := by
          rw [hP, Bool.and_eq_false_iff, decide_eq_false_iff_not, decide_eq_false_iff_not]
          first | (refine .inr ?_; omega) | (refine .inl ?_; assumption)
        have hy := pickTo_no P hx hP'
        refine ⟨by omega, trivial, [some 0, some 1], rfl, rfl, ⟨⟨rfl, rfl, rfl, .inl ⟨rfl, rowsT_ev e⟩⟩, entB_rows rfl rfl rfl ?_ rfl, trivial⟩, ⟨rfl, rfl, ⟨rfl, rfl, rfl⟩, ent_own rfl ?_, rfl, trivial⟩⟩
        · exact congrArg (fun l => toC (l.map intRow)) hy.symm
        · exact congrArg List.length hy.symm
    · refine fin_t (ent_view (app := true) rfl rfl (by intro h; cases h) rfl ?_ ?_)
      · rw [show k = q + 1 by omega]
      · rw [show k = q + 1 by omega]; simp
theorem a_Lifts24 (e : Ev) (hs : e.Sized) (h0 : check e = 0) (t : Int) (bl : List Bool) : ACall Try.prog 33 [evS e, intS .i64 t, boolsS bl] [] (intsS (liftsF e bl t)) [] := by
  have f1 := a_fits e t bl
  cases hfit : fitsB e t bl with
  | false =>
    rw [hfit] at f1
    have hp : liftsF e bl t = [] := by unfold liftsF; rw [if_neg (by simp [hfit])]
    rw [hp]
    (refine acall_of tab_ok Try.func33 rfl (by decide) ?_; (conv => whnf); repeat (refine LitB.data ?_; conv => whnf))
    (repeat' (first | ((refine DecB.mk (fun h => ?_) (fun h => ?_)) <;> first | (exfalso; omega) | (conv => whnf)) | ((refine BoolB.mk (fun h => ?_) (fun h => ?_)) <;> first | (exact absurd h (by decide)) | (conv => whnf)) | (refine ⟨_, wrap_ok (by omega) (by omega), ?_⟩; conv => whnf) | (refine and_idx (by omega) (by omega) ?_; conv => whnf) | (refine reg_ok (by decide +kernel) ?_; conv => whnf) | (refine bar_ok (by decide +kernel) (by decide +kernel) ?_; conv => whnf) | (refine late_ok rfl rfl ?_; conv => whnf) | (refine src_ok rfl ?_; conv => whnf) | (refine .inl ⟨_, _, qcall_pure (f1) rfl rfl, ?_⟩; conv => whnf) | (refine LitB.data ?_; conv => whnf)))
    all_goals first | (exfalso; simp_all; done) | exact fin_t rfl
  | true =>
    rw [hfit] at f1
    have hp : liftsF e bl t = pickFrom (liftP e fun i => pathF e bl i t) 0 e.moves := by unfold liftsF; rw [if_pos hfit]
    rw [hp]
    have l1 := hs.s2
    have l2 : (e.moves.map Move.row).length = e.moves.length := by simp
    let P : Nat → Move → Bool := liftP e fun i => pathF e bl i t
    have hpP : (liftP e fun i => pathF e bl i t) = P := rfl
    rw [hpP]
    (refine acall_of tab_ok Try.func33 rfl (by decide) ?_; (conv => whnf); repeat (refine LitB.data ?_; conv => whnf))
    (repeat' (first | ((refine DecB.mk (fun h => ?_) (fun h => ?_)) <;> first | (exfalso; omega) | (conv => whnf)) | ((refine BoolB.mk (fun h => ?_) (fun h => ?_)) <;> first | (exact absurd h (by decide)) | (conv => whnf)) | (refine ⟨_, wrap_ok (by omega) (by omega), ?_⟩; conv => whnf) | (refine and_idx (by omega) (by omega) ?_; conv => whnf) | (refine reg_ok (by decide +kernel) ?_; conv => whnf) | (refine bar_ok (by decide +kernel) (by decide +kernel) ?_; conv => whnf) | (refine late_ok rfl rfl ?_; conv => whnf) | (refine src_ok rfl ?_; conv => whnf) | (refine .inl ⟨_, _, qcall_pure (f1) rfl rfl, ?_⟩; conv => whnf) | (refine LitB.data ?_; conv => whnf)))
    refine awp_for tab_ok (fun k => ([S.junk, intS .i64 t, boolsS bl, S.c (C.ptr 0 0 0), S.junk, S.junk, S.junk, ownI 1 (pickTo P e.moves k), S.junk, S.junk, S.junk, S.junk, S.junk, S.junk, S.junk, S.junk, S.c (C.t (movesT e.moves)), intS .i64 e.moves.length, intS .i64 k, S.junk, S.junk, S.junk, S.junk, S.junk, S.junk, S.junk, S.junk, S.junk, S.junk, S.junk, S.junk, S.junk, S.junk, S.junk, S.junk, S.junk, S.junk, S.junk, S.junk, S.junk, S.junk, S.junk, S.junk, S.junk, S.junk, S.junk], [evB e, intsB (pickTo P e.moves k)])) e.moves.length (fun k => True) [some 0, none] trivial
      ⟨rfl, rfl, ⟨⟨rfl, rfl, rfl, .inl ⟨rfl, rowsT_ev e⟩⟩, ⟨rfl, rfl⟩, trivial⟩, ⟨rfl, ent_t rfl, ⟨rfl, rfl, rfl⟩, ⟨rfl, rfl, rfl⟩, ent_t rfl, ent_i (by simp), ent_i rfl, trivial⟩⟩ ?_
    intro k hk hI
    have hpl := length_pickTo P e.moves k
    conv => whnf
    (repeat' (first | ((refine DecB.mk (fun h => ?_) (fun h => ?_)) <;> first | (exfalso; omega) | (conv => whnf)) | ((refine BoolB.mk (fun h => ?_) (fun h => ?_)) <;> first | (exact absurd h (by decide)) | (conv => whnf)) | (refine ⟨_, wrap_ok (by omega) (by omega), ?_⟩; conv => whnf) | (refine and_idx (by omega) (by omega) ?_; conv => whnf) | (refine reg_ok (by decide +kernel) ?_; conv => whnf) | (refine bar_ok (by decide +kernel) (by decide +kernel) ?_; conv => whnf) | (refine late_ok rfl rfl ?_; conv => whnf) | (refine src_ok rfl ?_; conv => whnf) | (refine LitB.data ?_; conv => whnf)))
    · have hlt : k < e.moves.length := by omega
      obtain ⟨x, hx⟩ : ∃ x, e.moves[k]? = some x := ⟨_, List.getElem?_eq_getElem hlt⟩
      obtain ⟨i, p, hsrc, hpl2, -⟩ := place_at h0 (List.mem_of_getElem? hx)
      have hkx : kindAt e x.src = p.kind := by rw [hsrc, kindAt_of hpl2]
      have pa := a_Path e hs k t bl
      have lpa : ((pathF e bl k t).map intRow).length = (pathF e bl k t).length := by simp
      have hP : P k x = (decide (p.kind = 0) && decide (0 < (pathF e bl k t).length)) := by show liftP _ _ _ _ = _; unfold liftP; rw [hkx]
      (repeat' (first | ((refine DecB.mk (fun h => ?_) (fun h => ?_)) <;> first | (exfalso; omega) | (conv => whnf)) | ((refine BoolB.mk (fun h => ?_) (fun h => ?_)) <;> first | (exact absurd h (by decide)) | (conv => whnf)) | (refine ⟨_, wrap_ok (by omega) (by omega), ?_⟩; conv => whnf) | (refine and_idx (by omega) (by omega) ?_; conv => whnf) | (refine reg_ok (by decide +kernel) ?_; conv => whnf) | (refine bar_ok (by decide +kernel) (by decide +kernel) ?_; conv => whnf) | (refine late_ok rfl rfl ?_; conv => whnf) | (refine src_ok rfl ?_; conv => whnf) | (refine .inl ⟨_, _, qcall_pure (pa) rfl rfl, ?_⟩; conv => whnf) | (refine .inl ⟨_, _, qcall_pure (toC) rfl rfl, ?_⟩; conv => whnf) | (refine .inl ⟨_, _, qcall_pure (toC) rfl rfl, ?_⟩; conv => whnf) | (refine ex_row hx ?_; conv => whnf) | (refine ex_rowE hsrc hpl2 ?_; conv => whnf) | (refine app_ok (by simp [toC]) (by simp [toC]; omega) ?_; conv => whnf) | (refine LitB.data ?_; conv => whnf)))
      · have hP' : P k x = true := by rw [hP, Bool.and_eq_true, decide_eq_true_iff, decide_eq_true_iff]; exact ⟨by assumption, by omega⟩
        have hy := pickTo_yes P hx hP'
        refine ⟨by omega, trivial, [some 0, some 3], rfl, rfl, ⟨⟨rfl, rfl, rfl, .inl ⟨rfl, rowsT_ev e⟩⟩, entB_rows (rows := (pickTo P e.moves (k + 1)).map intRow) rfl rfl rfl ?_ rfl, trivial⟩, ⟨rfl, rfl, ⟨rfl, rfl, rfl⟩, ent_own rfl ?_, rfl, rfl, rfl, trivial⟩⟩
        · rw [hy, List.map_append]
          exact (congrArg (fun n => List.take n (toC ((pickTo P e.moves k).map intRow)) ++ toC [[ti (k : Nat)]]) (by simp)).trans toC_snoc
        · show _ = (pickTo P e.moves (k + 1)).length
          rw [hy]; simp [toC]
      all_goals
        have hP' : P k x = false := by
          rw [hP, Bool.and_eq_false_iff, decide_eq_false_iff_not, decide_eq_false_iff_not]
          first | (refine .inr ?_; omega) | (refine .inl ?_; assumption)
        have hy := pickTo_no P hx hP'
        refine ⟨by omega, trivial, [some 0, some 1], rfl, rfl, ⟨⟨rfl, rfl, rfl, .inl ⟨rfl, rowsT_ev e⟩⟩, entB_rows rfl rfl rfl ?_ rfl, trivial⟩, ⟨rfl, rfl, ⟨rfl, rfl, rfl⟩, ent_own rfl ?_, rfl, rfl, rfl, trivial⟩⟩
        · exact congrArg (fun l => toC (l.map intRow)) hy.symm
        · exact congrArg List.length hy.symm
    · have hk' : pickFrom P 0 e.moves = pickTo P e.moves k := (pickTo_all P (by omega)).symm
      show Fin 0 _ _ (intsS (pickFrom P 0 e.moves)) []
      rw [hk']
      exact fin_own rfl (by intro h; cases h) rfl rfl (by simp)
end Go.Proofs.Ythjgbjakpbfnoaa
/- The law FlowLifts, walked. -/
namespace Go.Proofs.Ythjgbjakpbfnoaa
open Go.RowKit
set_option linter.unusedVariables false
set_option linter.unusedSimpArgs false
set_option maxRecDepth 100000

theorem few_sized {e : Ev} (h : few e = true) : e.Sized := by
  simp [few] at h
  exact ⟨by omega, by omega, by omega, by omega, by omega⟩

theorem add_len {α β : Type} {f : α → β} {l : List α} {a b : Nat} (h : b = a + l.length) : (a : Int) + ((l.map f).length : Int) = (b : Int) := by
  subst h; simp
set_option maxHeartbeats 4000000 in
theorem a_FlowLifts (e : Ev) (hh mat lo hi cut : Int) (hc1 : -9223372036854775808 ≤ cut) (hc2 : hi ≤ 9223372036854775807) :
    ACall Try.prog 5 [evS e, intS .i64 hh, intS .i64 mat, intS .i64 lo, intS .i64 hi, intS .i64 cut] [] (boolS true) [] := by
  cases hf : few e with
  | false =>
    have f0 := a_Few e
    rw [hf] at f0
    (refine acall_of tab_ok Try.func5 rfl (by decide) ?_; (conv => whnf); repeat (refine LitB.data ?_; conv => whnf))
    (repeat' (first | ((refine DecB.mk (fun h => ?_) (fun h => ?_)) <;> first | (exfalso; omega) | (conv => whnf)) | ((refine BoolB.mk (fun h => ?_) (fun h => ?_)) <;> first | (exact absurd h (by decide)) | (conv => whnf)) | (refine ⟨_, wrap_ok (by omega) (by omega), ?_⟩; conv => whnf) | (refine and_idx (by omega) (by omega) ?_; conv => whnf) | (refine reg_ok (by decide +kernel) ?_; conv => whnf) | (refine bar_ok (by decide +kernel) (by decide +kernel) ?_; conv => whnf) | (refine late_ok rfl rfl ?_; conv => whnf) | (refine src_ok rfl ?_; conv => whnf) | (refine .inl ⟨_, _, qcall_pure (a_small) rfl rfl, ?_⟩; conv => whnf) | (refine .inl ⟨_, _, qcall_pure (f0) rfl rfl, ?_⟩; conv => whnf) | (refine LitB.data ?_; conv => whnf)))
    all_goals first | exact fin_bool rfl | (exfalso; simp_all; done)
  | true =>
    have hs := few_sized hf
    have f0 := a_Few e
    rw [hf] at f0
    by_cases h0 : check e = 0
    · have c0 := a_Check e hs
      rw [h0] at c0
      have l7 := hs.s2
      have l8 : (e.moves.map Move.row).length = e.moves.length := by simp
      have l9 : (e.places.map Place.row).length = e.places.length := by simp
      have ll : ∀ a b c d, (lifts e a b c d).length ≤ e.moves.length := fun a b c d => by
        unfold lifts
        split
        all_goals first | exact length_pickFrom _ _ _ | exact Nat.zero_le _
      have as0 := a_ascending (lifts e hh mat lo hi) (e.moves.map Move.row).length (by have := ll hh mat lo hi; omega) (by rw [l8]; exact lifts_asc _ _ _ _ _)
      (refine acall_of tab_ok Try.func5 rfl (by decide) ?_; (conv => whnf); repeat (refine LitB.data ?_; conv => whnf))
      (repeat' (first | ((refine DecB.mk (fun h => ?_) (fun h => ?_)) <;> first | (exfalso; omega) | (conv => whnf)) | ((refine BoolB.mk (fun h => ?_) (fun h => ?_)) <;> first | (exact absurd h (by decide)) | (conv => whnf)) | (refine ⟨_, wrap_ok (by omega) (by omega), ?_⟩; conv => whnf) | (refine and_idx (by omega) (by omega) ?_; conv => whnf) | (refine reg_ok (by decide +kernel) ?_; conv => whnf) | (refine bar_ok (by decide +kernel) (by decide +kernel) ?_; conv => whnf) | (refine late_ok rfl rfl ?_; conv => whnf) | (refine src_ok rfl ?_; conv => whnf) | (refine .inl ⟨_, _, qcall_pure (a_small) rfl rfl, ?_⟩; conv => whnf) | (refine .inl ⟨_, _, qcall_pure (f0) rfl rfl, ?_⟩; conv => whnf) | (refine .inl ⟨_, _, qcall_pure (c0) rfl rfl, ?_⟩; conv => whnf) | (refine .inl ⟨_, _, qcall_pure (a_Lifts e hs _ _ _ _) rfl rfl, ?_⟩; conv => whnf) | (refine .inl ⟨_, _, qcall_pure (as0) rfl rfl, ?_⟩; conv => whnf) | (refine LitB.data ?_; conv => whnf)))
      have hl0 := ll hh mat lo hi
      have hk' : (lifts e hh mat lo hi).length ≤ 1000000 := by omega
      have l11 : ∀ a b c d, ((lifts e a b c d).map intRow).length ≤ 1000000 := fun a b c d => by have := ll a b c d; simp; omega
      have la := l11 hh mat lo cut
      have lb := l11 hh mat (cut + 1) hi
      have hca : ∀ a, cAll e a ≤ 1000000 := fun a => Nat.le_trans List.countP_le_length l7
      have hcs : ∀ a b, cSome e a b ≤ 1000000 := fun a b => Nat.le_trans List.countP_le_length l7
      have hcb : ∀ a, cBin e a ≤ 1000000 := fun a => Nat.le_trans List.countP_le_length l7
      have sm : lo ≤ cut → cut < hi → ACall Try.prog 16 [intsS (lifts e hh mat lo hi), intsS (lifts e hh mat lo cut ++ lifts e hh mat (cut + 1) hi)] [] (boolS true) [] := fun h1 h2 => by
        have := a_SameInts (lifts e hh mat lo hi) (lifts e hh mat lo cut ++ lifts e hh mat (cut + 1) hi) (by omega) (by rw [← lifts_cut h0 h1 h2]; omega)
        rwa [decide_eq_true (lifts_cut h0 h1 h2)] at this
      obtain ⟨N, hN⟩ : ∃ N : Nat, e.hhs = N := Int.eq_ofNat_of_zero_le (check_zero h0).2.2.1
      have hbig : e.mats ≤ 6 ∧ e.hhs ≤ 100 := by
        have := (check_zero h0).1
        simp [fullB] at this
        omega
      obtain ⟨M, hM⟩ : ∃ M : Nat, e.mats = M := Int.eq_ofNat_of_zero_le (by have := (check_zero h0).2.1; omega)
      refine awp_for tab_ok (fun k => ([S.junk, intS .i64 hh, intS .i64 mat, intS .i64 lo, intS .i64 hi, intS .i64 cut, S.c (C.ptr 0 0 0), S.junk, S.junk, S.junk, S.junk, S.junk, S.junk, boolS true, intsS (lifts e hh mat lo hi), intS .i64 k, S.junk, S.junk, S.junk, S.junk, S.junk, S.junk, S.junk, S.junk, S.junk, S.junk, S.junk, S.junk, S.junk, S.junk, S.junk, S.junk, S.junk, S.junk, S.junk, S.junk, S.junk, S.junk, S.junk, S.junk, S.junk, S.junk, S.junk, S.junk, S.junk, S.junk, S.junk, S.junk, S.junk, S.junk, S.junk, S.junk, S.junk, S.junk, S.junk, S.junk, S.junk, S.junk, S.junk, S.junk, S.junk, S.junk, S.junk, S.junk, S.junk, S.junk, S.junk, S.junk, S.junk, S.junk, S.junk, S.junk, S.junk, S.junk, S.junk, S.junk, S.junk, S.junk, S.junk, S.junk, S.junk, S.junk, S.junk, S.junk, S.junk, S.junk, S.junk, S.junk, S.junk, S.junk, S.junk, S.junk, S.junk, S.junk, S.junk, S.junk, S.junk, S.junk, S.junk, S.junk, S.junk, S.junk, S.junk, S.junk, S.junk, S.junk, S.junk, S.junk, S.junk, S.junk, S.junk, S.junk, S.junk, S.junk, S.junk, S.junk, S.junk, S.junk, S.junk, S.junk, S.junk, S.junk, S.junk, S.junk, S.junk, S.junk, S.junk, S.junk, S.junk, S.junk, S.junk, S.junk, S.junk, S.junk, S.junk, S.junk, S.junk, S.junk, S.junk, S.junk, S.junk, S.junk, S.junk, S.junk, S.junk, S.junk, S.junk, S.junk, S.junk, S.junk, S.junk, S.junk, S.junk, S.junk, S.junk, S.junk, S.junk, S.junk, S.junk, S.junk, S.junk, S.junk, S.junk, S.junk, S.junk, S.junk, S.junk, S.junk, S.junk, S.junk, S.junk, S.junk, S.junk, S.junk, S.junk, S.junk, S.junk, S.junk, S.junk, S.junk, S.junk, S.junk, S.junk, S.junk, S.junk], [evB e])) (lifts e hh mat lo hi).length (fun k => True) [some 0] trivial
        ⟨rfl, rfl, ⟨⟨rfl, rfl, rfl, .inl ⟨rfl, rowsT_ev e⟩⟩, trivial⟩, ⟨rfl, rfl, rfl, rfl, rfl, ⟨rfl, rfl, rfl⟩, rfl, rfl, rfl, trivial⟩⟩ ?_
      intro k hk hI
      have l10 : ((lifts e hh mat lo hi).map intRow).length = (lifts e hh mat lo hi).length := by simp
      conv => whnf
      (repeat' (first | ((refine DecB.mk (fun h => ?_) (fun h => ?_)) <;> first | (exfalso; omega) | (conv => whnf)) | ((refine BoolB.mk (fun h => ?_) (fun h => ?_)) <;> first | (exact absurd h (by decide)) | (conv => whnf)) | (refine ⟨_, wrap_ok (by omega) (by omega), ?_⟩; conv => whnf) | (refine and_idx (by omega) (by omega) ?_; conv => whnf) | (refine reg_ok (by decide +kernel) ?_; conv => whnf) | (refine bar_ok (by decide +kernel) (by decide +kernel) ?_; conv => whnf) | (refine late_ok rfl rfl ?_; conv => whnf) | (refine src_ok rfl ?_; conv => whnf) | (refine LitB.data ?_; conv => whnf)))
      · have hlt : k < (lifts e hh mat lo hi).length := by omega
        obtain ⟨x, hx⟩ : ∃ x, (lifts e hh mat lo hi)[k]? = some x := ⟨_, List.getElem?_eq_getElem hlt⟩
        obtain ⟨j, m, hm, hL, rfl⟩ := (lifts_mem h0).1 (List.mem_of_getElem? hx)
        obtain ⟨i, p, hsrc, hp, -⟩ := place_at h0 (List.mem_of_getElem? hm)
        rw [liftIs_of hp hsrc] at hL
        simp only [Bool.and_eq_true, Bool.or_eq_true, decide_eq_true_eq, btw_iff] at hL
        have hs1 : source e m.src = true := by
          have := moveOk_src (check_move h0 (List.mem_of_getElem? hm))
          simp [source, h0, idx_iff, hsrc, kindAt_of hp, hL.1.1.1]
          omega
        have s1 := a_Source e hs m.src
        rw [hs1] at s1
        (repeat' (first | ((refine DecB.mk (fun h => ?_) (fun h => ?_)) <;> first | (exfalso; omega) | (conv => whnf)) | ((refine BoolB.mk (fun h => ?_) (fun h => ?_)) <;> first | (exact absurd h (by decide)) | (conv => whnf)) | (refine ⟨_, wrap_ok (by omega) (by omega), ?_⟩; conv => whnf) | (refine and_idx (by omega) (by omega) ?_; conv => whnf) | (refine reg_ok (by decide +kernel) ?_; conv => whnf) | (refine bar_ok (by decide +kernel) (by decide +kernel) ?_; conv => whnf) | (refine late_ok rfl rfl ?_; conv => whnf) | (refine src_ok rfl ?_; conv => whnf) | (refine .inl ⟨_, _, qcall_pure (s1) rfl rfl, ?_⟩; conv => whnf) | (refine ex_row hx ?_; conv => whnf) | (refine ex_row hm ?_; conv => whnf) | (refine ex_rowE hsrc hp ?_; conv => whnf) | (refine LitB.data ?_; conv => whnf)))
        all_goals exact ⟨hlt, trivial, [some 0], rfl, rfl, ⟨⟨rfl, rfl, rfl, .inl ⟨rfl, rowsT_ev e⟩⟩, trivial⟩, ⟨rfl, rfl, rfl, rfl, rfl, ⟨rfl, rfl, rfl⟩, rfl, rfl, rfl, trivial⟩⟩
      all_goals clear hI hk
      all_goals (repeat' (first | ((refine DecB.mk (fun h => ?_) (fun h => ?_)) <;> first | (exfalso; omega) | (conv => whnf)) | ((refine BoolB.mk (fun h => ?_) (fun h => ?_)) <;> first | (exact absurd h (by decide)) | (conv => whnf)) | (refine ⟨_, wrap_ok (by omega) (by omega), ?_⟩; conv => whnf) | (refine and_idx (by omega) (by omega) ?_; conv => whnf) | (refine reg_ok (by decide +kernel) ?_; conv => whnf) | (refine bar_ok (by decide +kernel) (by decide +kernel) ?_; conv => whnf) | (refine late_ok rfl rfl ?_; conv => whnf) | (refine src_ok rfl ?_; conv => whnf) | (refine .inl ⟨_, _, qcall_pure (a_Lifts e hs _ _ _ _) rfl rfl, ?_⟩; conv => whnf) | (refine .inl ⟨_, _, qcall_pure (toC) rfl rfl, ?_⟩; conv => whnf) | (refine .inl ⟨_, _, qcall_pure (toC, newBlk) rfl rfl, ?_⟩; conv => whnf) | (refine .inl ⟨_, _, qcall_pure (toC) rfl rfl, ?_⟩; conv => whnf) | (refine .inl ⟨_, _, qcall_pure (toC, newBlk, List.take_of_length_le) rfl rfl, ?_⟩; conv => whnf) | (refine .inl ⟨_, _, qcall_pure (toC) rfl rfl, ?_⟩; conv => whnf) | (refine app_nil rfl (by simp [toC] at *; omega) ?_; conv => whnf) | (refine app_ok (by simp [toC, newBlk]) (by simp [toC] at *; omega) ?_; conv => whnf) | (refine .inl ⟨_, _, qcall_view (sm (by omega) (by omega)) ⟨vs_t, vs_c (vc_all trivial rfl (by intro h; cases h) rfl (by simp [toC, newBlk, List.take_of_length_le]) (by simp [toC])), trivial⟩ rfl, ?_⟩; conv => whnf) | (refine LitB.data ?_; conv => whnf)))
      all_goals
        refine awp_for tab_ok (fun k => ([S.junk, S.junk, S.junk, S.junk, S.junk, S.junk, S.c (C.ptr 0 0 0), S.junk, S.junk, S.junk, S.junk, S.junk, S.junk, boolS true, S.junk, S.junk, S.junk, S.junk, S.junk, intS .i64 (cAll e k), intS .i64 (cSome e k 0), intS .i64 k, S.junk, S.junk, S.junk, S.junk, S.junk, S.junk, S.junk, S.junk, S.junk, S.junk, S.junk, S.junk, S.junk, S.junk, S.junk, S.junk, S.junk, S.junk, S.junk, S.junk, S.junk, S.junk, S.junk, S.junk, S.junk, S.junk, S.junk, S.junk, S.junk, S.junk, S.junk, S.junk, S.junk, S.junk, S.junk, S.junk, S.junk, S.junk, S.junk, S.junk, S.junk, S.junk, S.junk, S.junk, S.junk, S.junk, S.junk, S.junk, S.junk, S.junk, S.junk, S.junk, S.junk, S.junk, S.junk, S.junk, S.junk, S.junk, S.junk, S.junk, S.junk, S.junk, S.junk, S.junk, S.junk, S.junk, S.junk, S.junk, S.junk, S.junk, S.junk, S.junk, S.junk, S.junk, S.junk, S.junk, S.junk, S.junk, S.junk, S.junk, S.junk, S.junk, S.junk, S.junk, S.junk, S.junk, S.junk, S.junk, S.junk, S.junk, S.junk, S.junk, S.junk, S.junk, S.junk, S.junk, S.junk, S.junk, S.junk, S.junk, S.junk, S.junk, S.junk, S.junk, S.junk, S.junk, S.junk, S.junk, S.junk, S.junk, S.junk, S.junk, S.junk, S.junk, S.junk, S.junk, S.junk, S.junk, S.junk, S.junk, S.junk, S.junk, S.junk, S.junk, S.junk, S.junk, S.junk, S.junk, S.junk, S.junk, S.junk, S.junk, S.junk, S.junk, S.junk, S.junk, S.junk, S.junk, S.junk, S.junk, S.junk, S.junk, S.junk, S.junk, S.junk, S.junk, S.junk, S.junk, S.junk, S.junk, S.junk, S.junk, S.junk, S.junk, S.junk, S.junk, S.junk, S.junk, S.junk, S.junk, S.junk, S.junk, S.junk], [evB e])) N (fun k => True) [some 0] trivial
          ⟨rfl, rfl, ⟨⟨rfl, rfl, rfl, .inl ⟨rfl, rowsT_ev e⟩⟩, trivial⟩, ⟨⟨rfl, rfl, rfl⟩, rfl, ent_i (congrArg Int.ofNat (cAll_zero h0).symm), ent_i (congrArg Int.ofNat (cSome_zero h0).symm), rfl, trivial⟩⟩ ?_
        intro g hg hI
        have hN6 : N ≤ 100 := by omega
        have w0 := l11 g (-1) 0 100000
        have w1 := hca g
        conv => whnf
        (repeat' (first | ((refine DecB.mk (fun h => ?_) (fun h => ?_)) <;> first | (exfalso; omega) | (conv => whnf)) | ((refine BoolB.mk (fun h => ?_) (fun h => ?_)) <;> first | (exact absurd h (by decide)) | (conv => whnf)) | (refine ⟨_, wrap_ok (by omega) (by omega), ?_⟩; conv => whnf) | (refine and_idx (by omega) (by omega) ?_; conv => whnf) | (refine reg_ok (by decide +kernel) ?_; conv => whnf) | (refine bar_ok (by decide +kernel) (by decide +kernel) ?_; conv => whnf) | (refine late_ok rfl rfl ?_; conv => whnf) | (refine src_ok rfl ?_; conv => whnf) | (refine .inl ⟨_, _, qcall_pure (a_Lifts e hs _ _ _ _) rfl rfl, ?_⟩; conv => whnf) | (refine LitB.data ?_; conv => whnf)))
        · refine awp_for tab_ok (fun k => ([S.junk, S.junk, S.junk, S.junk, S.junk, S.junk, S.c (C.ptr 0 0 0), S.junk, S.junk, S.junk, S.junk, S.junk, S.junk, boolS true, S.junk, S.junk, S.junk, S.junk, S.junk, intS .i64 (cAll e ((g + 1 : Nat) : Int)), intS .i64 (cSome e g k), intS .i64 g, S.junk, intS .i64 k, S.junk, S.junk, S.junk, S.junk, S.junk, S.junk, S.junk, S.junk, S.junk, S.junk, S.junk, S.junk, S.junk, S.junk, S.junk, S.junk, S.junk, S.junk, S.junk, S.junk, S.junk, S.junk, S.junk, S.junk, S.junk, S.junk, S.junk, S.junk, S.junk, S.junk, S.junk, S.junk, S.junk, S.junk, S.junk, S.junk, S.junk, S.junk, S.junk, S.junk, S.junk, S.junk, S.junk, S.junk, S.junk, S.junk, S.junk, S.junk, S.junk, S.junk, S.junk, S.junk, S.junk, S.junk, S.junk, S.junk, S.junk, S.junk, S.junk, S.junk, S.junk, S.junk, S.junk, S.junk, S.junk, S.junk, S.junk, S.junk, S.junk, S.junk, S.junk, S.junk, S.junk, S.junk, S.junk, S.junk, S.junk, S.junk, S.junk, S.junk, S.junk, S.junk, S.junk, S.junk, S.junk, S.junk, S.junk, S.junk, S.junk, S.junk, S.junk, S.junk, S.junk, S.junk, S.junk, S.junk, S.junk, S.junk, S.junk, S.junk, S.junk, S.junk, S.junk, S.junk, S.junk, S.junk, S.junk, S.junk, S.junk, S.junk, S.junk, S.junk, S.junk, S.junk, S.junk, S.junk, S.junk, S.junk, S.junk, S.junk, S.junk, S.junk, S.junk, S.junk, S.junk, S.junk, S.junk, S.junk, S.junk, S.junk, S.junk, S.junk, S.junk, S.junk, S.junk, S.junk, S.junk, S.junk, S.junk, S.junk, S.junk, S.junk, S.junk, S.junk, S.junk, S.junk, S.junk, S.junk, S.junk, S.junk, S.junk, S.junk, S.junk, S.junk, S.junk, S.junk, S.junk, S.junk, S.junk, S.junk, S.junk], [evB e])) M (fun k => True) [some 0] trivial
            ⟨rfl, rfl, ⟨⟨rfl, rfl, rfl, .inl ⟨rfl, rowsT_ev e⟩⟩, trivial⟩, ⟨⟨rfl, rfl, rfl⟩, rfl, ent_i (add_len (cAll_step h0 (g : Int))), rfl, rfl, rfl, trivial⟩⟩ ?_
          intro t ht hI
          have hM6 : M ≤ 6 := by omega
          have v0 := l11 g t 0 100000
          have v1 := hcs g t
          conv => whnf
          (repeat' (first | ((refine DecB.mk (fun h => ?_) (fun h => ?_)) <;> first | (exfalso; omega) | (conv => whnf)) | ((refine BoolB.mk (fun h => ?_) (fun h => ?_)) <;> first | (exact absurd h (by decide)) | (conv => whnf)) | (refine ⟨_, wrap_ok (by omega) (by omega), ?_⟩; conv => whnf) | (refine and_idx (by omega) (by omega) ?_; conv => whnf) | (refine reg_ok (by decide +kernel) ?_; conv => whnf) | (refine bar_ok (by decide +kernel) (by decide +kernel) ?_; conv => whnf) | (refine late_ok rfl rfl ?_; conv => whnf) | (refine src_ok rfl ?_; conv => whnf) | (refine .inl ⟨_, _, qcall_pure (a_Lifts e hs _ _ _ _) rfl rfl, ?_⟩; conv => whnf) | (refine LitB.data ?_; conv => whnf)))
          · have ht2 : t < M := by omega
            exact ⟨ht2, trivial, [some 0], rfl, rfl, ⟨⟨rfl, rfl, rfl, .inl ⟨rfl, rowsT_ev e⟩⟩, trivial⟩, ⟨⟨rfl, rfl, rfl⟩, rfl, rfl, ent_i (add_len (cSome_step h0 (g : Int) (t := (t : Int)) (by omega))), rfl, rfl, trivial⟩⟩
          · have hg2 : g < N := by omega
            have ht2 : e.mats = (t : Int) := by omega
            have hr := cSome_row h0 (g : Int)
            rw [ht2] at hr
            exact ⟨hg2, trivial, [some 0], rfl, rfl, ⟨⟨rfl, rfl, rfl, .inl ⟨rfl, rowsT_ev e⟩⟩, trivial⟩, ⟨⟨rfl, rfl, rfl⟩, rfl, rfl, ent_i (congrArg Int.ofNat hr), rfl, trivial⟩⟩
        · have hg2 : e.hhs = (g : Int) := by omega
          have ca := cAll_all h0
          have cs := cSome_all h0
          rw [hg2] at ca cs
          refine awp_for tab_ok (fun k => ([S.junk, S.junk, S.junk, S.junk, S.junk, S.junk, S.c (C.ptr 0 0 0), S.junk, S.junk, S.junk, S.junk, S.junk, S.junk, boolS true, S.junk, S.junk, S.junk, S.junk, S.junk, intS .i64 (cTot e), intS .i64 (cTot e), S.junk, S.junk, S.junk, intS .i64 (cBin e k), intS .i64 k, S.junk, S.junk, S.junk, S.junk, S.junk, S.junk, S.junk, S.junk, S.junk, S.junk, S.junk, S.junk, S.junk, S.junk, S.junk, S.junk, S.junk, S.junk, S.junk, S.junk, S.junk, S.junk, S.junk, S.junk, S.junk, S.junk, S.junk, S.junk, S.junk, S.junk, S.junk, S.junk, S.junk, S.junk, S.junk, S.junk, S.junk, S.junk, S.junk, S.junk, S.junk, S.junk, S.junk, S.junk, S.junk, S.junk, S.junk, S.junk, S.junk, S.junk, S.junk, S.junk, S.junk, S.junk, S.junk, S.junk, S.junk, S.junk, S.junk, S.junk, S.junk, S.junk, S.junk, S.junk, S.junk, S.junk, S.junk, S.junk, S.junk, S.junk, S.junk, S.junk, S.junk, S.junk, S.junk, S.junk, S.junk, S.junk, S.junk, S.junk, S.junk, S.junk, S.junk, S.junk, S.junk, S.junk, S.junk, S.junk, S.junk, S.junk, S.junk, S.junk, S.junk, S.junk, S.junk, S.junk, S.junk, S.junk, S.junk, S.junk, S.junk, S.junk, S.junk, S.junk, S.junk, S.junk, S.junk, S.junk, S.junk, S.junk, S.junk, S.junk, S.junk, S.junk, S.junk, S.junk, S.junk, S.junk, S.junk, S.junk, S.junk, S.junk, S.junk, S.junk, S.junk, S.junk, S.junk, S.junk, S.junk, S.junk, S.junk, S.junk, S.junk, S.junk, S.junk, S.junk, S.junk, S.junk, S.junk, S.junk, S.junk, S.junk, S.junk, S.junk, S.junk, S.junk, S.junk, S.junk, S.junk, S.junk, S.junk, S.junk, S.junk, S.junk, S.junk, S.junk, S.junk, S.junk, S.junk], [evB e])) e.places.length (fun k => True) [some 0] trivial
            ⟨rfl, rfl, ⟨⟨rfl, rfl, rfl, .inl ⟨rfl, rowsT_ev e⟩⟩, trivial⟩, ⟨⟨rfl, rfl, rfl⟩, rfl, ent_i (congrArg Int.ofNat ca), ent_i (congrArg Int.ofNat cs), ent_i (congrArg Int.ofNat (cBin_zero h0).symm), rfl, trivial⟩⟩ ?_
          intro p hp hI
          have v1 := hcb p
          have hpl := hs.s1
          have v0 : ((outOf e p (e.moves.map Move.row).length).map intRow).length ≤ 1000000 := by
            have : (outOf e p (e.moves.map Move.row).length).length ≤ e.moves.length := by
              unfold outOf
              split
              all_goals first | exact length_pickFrom _ _ _ | exact Nat.zero_le _
            simp at *; omega
          conv => whnf
          (repeat' (first | ((refine DecB.mk (fun h => ?_) (fun h => ?_)) <;> first | (exfalso; omega) | (conv => whnf)) | ((refine BoolB.mk (fun h => ?_) (fun h => ?_)) <;> first | (exact absurd h (by decide)) | (conv => whnf)) | (refine ⟨_, wrap_ok (by omega) (by omega), ?_⟩; conv => whnf) | (refine and_idx (by omega) (by omega) ?_; conv => whnf) | (refine reg_ok (by decide +kernel) ?_; conv => whnf) | (refine bar_ok (by decide +kernel) (by decide +kernel) ?_; conv => whnf) | (refine late_ok rfl rfl ?_; conv => whnf) | (refine src_ok rfl ?_; conv => whnf) | (refine .inl ⟨_, _, qcall_pure (a_Source e hs _) rfl rfl, ?_⟩; conv => whnf) | (refine .inl ⟨_, _, qcall_pure (a_Out e hs _ _) rfl rfl, ?_⟩; conv => whnf) | (refine LitB.data ?_; conv => whnf)))
          all_goals first
            | exact fin_bool rfl
            | (have hb := cBin_yes h0 ‹source e (p : Int) = true›
               rw [← l8] at hb
               exact ⟨by omega, trivial, [some 0], rfl, rfl, ⟨⟨rfl, rfl, rfl, .inl ⟨rfl, rowsT_ev e⟩⟩, trivial⟩, ⟨⟨rfl, rfl, rfl⟩, rfl, rfl, rfl, ent_i (add_len hb), rfl, trivial⟩⟩)
            | (have hb := cBin_no h0 (by omega) ‹source e (p : Int) = false›
               exact ⟨by omega, trivial, [some 0], rfl, rfl, ⟨⟨rfl, rfl, rfl, .inl ⟨rfl, rowsT_ev e⟩⟩, trivial⟩, ⟨⟨rfl, rfl, rfl⟩, rfl, rfl, rfl, ent_i (congrArg Int.ofNat hb.symm), rfl, trivial⟩⟩)
            | (exfalso
               have hb := cBin_all h0
               have hpe : e.places.length = p := by omega
               rw [hpe] at hb
               omega)
    · (refine acall_of tab_ok Try.func5 rfl (by decide) ?_; (conv => whnf); repeat (refine LitB.data ?_; conv => whnf))
      (repeat' (first | ((refine DecB.mk (fun h => ?_) (fun h => ?_)) <;> first | (exfalso; omega) | (conv => whnf)) | ((refine BoolB.mk (fun h => ?_) (fun h => ?_)) <;> first | (exact absurd h (by decide)) | (conv => whnf)) | (refine ⟨_, wrap_ok (by omega) (by omega), ?_⟩; conv => whnf) | (refine and_idx (by omega) (by omega) ?_; conv => whnf) | (refine reg_ok (by decide +kernel) ?_; conv => whnf) | (refine bar_ok (by decide +kernel) (by decide +kernel) ?_; conv => whnf) | (refine late_ok rfl rfl ?_; conv => whnf) | (refine src_ok rfl ?_; conv => whnf) | (refine .inl ⟨_, _, qcall_pure (a_small) rfl rfl, ?_⟩; conv => whnf) | (refine .inl ⟨_, _, qcall_pure (f0) rfl rfl, ?_⟩; conv => whnf) | (refine .inl ⟨_, _, qcall_pure (a_Check e hs) rfl rfl, ?_⟩; conv => whnf) | (refine LitB.data ?_; conv => whnf)))
      all_goals first | exact fin_bool rfl | (exfalso; simp_all; done)
end Go.Proofs.Ythjgbjakpbfnoaa
/- The law's example, says, sane, fine. -/
namespace Go.Proofs.Ythjgbjakpbfnoaa
open Go.RowKit
set_option linter.unusedVariables false
set_option linter.unusedSimpArgs false
set_option maxRecDepth 100000

def exEv24 : Ev := ⟨1, 2, 0, [⟨0, 0, 0⟩, ⟨0, 1, 0⟩, ⟨1, -1, -1⟩, ⟨2, -1, -1⟩, ⟨5, -1, -1⟩], [⟨0, 0, 2, -1, 0, false⟩, ⟨0, 2, 3, -1, 0, true⟩, ⟨0, 1, 2, -1, 0, false⟩, ⟨0, 2, 3, -1, 0, true⟩, ⟨0, 3, 4, -1, 0, false⟩], [], [], []⟩
theorem entC_view {ρ : List (Option Nat)} {H : Hp} {id len : Nat} {app : Bool} {size : Nat} {k : Blk} {rows : List (List T)} (hp : notIn ρ id = true) (hk : H[id]? = some k) (hd : ¬ k.mode.gone) (hs : k.size = size) (hc : k.rows = toC rows) (hl : len = rows.length) :
    EntC ρ H (.own id 0 len app) (.t (.sl size .any rows)) := show VC H (fun id => notIn ρ id = true) _ _ from vc_all hp hk hd hs hc hl
theorem a_example24 : ACall Try.prog 52 [] [] (evS exEv24) [] := by
  (refine acall_of tab_ok Try.func52 rfl (by decide) ?_; (conv => whnf); repeat (refine LitB.data ?_; conv => whnf))
  (repeat' (first | ((refine DecB.mk (fun h => ?_) (fun h => ?_)) <;> first | (exfalso; omega) | (conv => whnf)) | ((refine BoolB.mk (fun h => ?_) (fun h => ?_)) <;> first | (exact absurd h (by decide)) | (conv => whnf)) | (refine ⟨_, wrap_ok (by omega) (by omega), ?_⟩; conv => whnf) | (refine and_idx (by omega) (by omega) ?_; conv => whnf) | (refine reg_ok (by decide +kernel) ?_; conv => whnf) | (refine bar_ok (by decide +kernel) (by decide +kernel) ?_; conv => whnf) | (refine late_ok rfl rfl ?_; conv => whnf) | (refine src_ok rfl ?_; conv => whnf) | (refine ⟨by decide, ?_⟩; conv => whnf) | (refine LitB.data ?_; conv => whnf)))
  refine fin_t ?_
  exact ⟨rfl, rfl, rfl, entC_view (rows := exEv24.places.map Place.row) rfl rfl (by intro h; cases h) rfl rfl rfl, entC_view (rows := exEv24.moves.map Move.row) rfl rfl (by intro h; cases h) rfl rfl rfl, rfl, rfl, rfl, trivial⟩
theorem exSized24 : exEv24.Sized := ⟨by simp [exEv24], by simp [exEv24], by simp [exEv24], by simp [exEv24], by simp [exEv24]⟩
theorem ex24_check : check exEv24 = 0 := by decide +kernel
theorem loads_len {e : Ev} (h : e.Sized) {m : Int} {bl : List Bool} : (loads e m bl).1.length ≤ 1000000 ∧ (loads e m bl).2.length ≤ 1000000 := by
  have h1 := h.s1
  have h2 := h.s2
  unfold loads
  split
  · split
    · refine ⟨Nat.le_trans (length_pickFrom _ _ _) h2, Nat.le_trans (length_pickFrom _ _ _) ?_⟩
      rw [atTo_len]; exact h1
    · simp
  · simp
theorem a_says24 (m : Int) (bl : List Bool) (ms ps : List Int) (h1 : ms.length ≤ 1000000) (h2 : ps.length ≤ 1000000) : ACall Try.prog 53 [intS .i64 m, boolsS bl, intsS ms, intsS ps] []
    (boolS (decide ((loads exEv24 m bl).1 = ms) && decide ((loads exEv24 m bl).2 = ps))) [] := by
  obtain ⟨k1, k2⟩ := loads_len exSized24 (m := m) (bl := bl)
  have s1 := a_Same24 (loads exEv24 m bl).1 ms k1 h1
  have s2 := a_Same24 (loads exEv24 m bl).2 ps k2 h2
  (refine acall_of tab_ok Try.func53 rfl (by decide) ?_; (conv => whnf); repeat (refine LitB.data ?_; conv => whnf))
  (repeat' (first | ((refine DecB.mk (fun h => ?_) (fun h => ?_)) <;> first | (exfalso; omega) | (conv => whnf)) | ((refine BoolB.mk (fun h => ?_) (fun h => ?_)) <;> first | (exact absurd h (by decide)) | (conv => whnf)) | (refine ⟨_, wrap_ok (by omega) (by omega), ?_⟩; conv => whnf) | (refine and_idx (by omega) (by omega) ?_; conv => whnf) | (refine reg_ok (by decide +kernel) ?_; conv => whnf) | (refine bar_ok (by decide +kernel) (by decide +kernel) ?_; conv => whnf) | (refine late_ok rfl rfl ?_; conv => whnf) | (refine src_ok rfl ?_; conv => whnf) | (refine .inl ⟨_, _, qcall_pure (a_example24) rfl rfl, ?_⟩; conv => whnf) | (refine .inl ⟨_, _, qcall_pure (a_LoadsAll exEv24 exSized24 ex24_check m bl) rfl rfl, ?_⟩; conv => whnf) | (refine .inl ⟨_, _, qcall_pure (s1) rfl rfl, ?_⟩; conv => whnf) | (refine .inl ⟨_, _, qcall_pure (s2) rfl rfl, ?_⟩; conv => whnf) | (refine LitB.data ?_; conv => whnf)))
  all_goals (refine fin_bool ?_; simp_all; done)
theorem a_sane24 : ACall Try.prog 24 [] [] (boolS true) [] := by
  have d1 : (decide ((loads exEv24 0 [false, false, false, false, false]).1 = [1, 4]) && decide ((loads exEv24 0 [false, false, false, false, false]).2 = [3, 4])) = true := by decide +kernel
  have d2 : (decide ((loads exEv24 2 [false, false, false, false, false]).1 = [3, 4]) && decide ((loads exEv24 2 [false, false, false, false, false]).2 = [3, 4])) = true := by decide +kernel
  have d3 : (decide ((loads exEv24 0 [false, true, false, false, false]).1 = []) && decide ((loads exEv24 0 [false, true, false, false, false]).2 = [])) = true := by decide +kernel
  have d4 : pathF exEv24 [false, false, false, false, false] 0 4 = [0, 1, 4] := by decide +kernel
  have d5 : pathF exEv24 [false, false, false, false, false] 0 3 = [] := by decide +kernel
  have d6 : followsB exEv24 [false, false, false, false, false] [0, 1, 4] = true := by decide +kernel
  have d7 : followsB exEv24 [false, false, false, false, false] [0, 3] = false := by decide +kernel
  have d8 : liftsF exEv24 [false, false, false, false, false] 4 = [0, 2] := by decide +kernel
  have d9 : liftsF exEv24 [false, false, false, false, false] 1 = [0] := by decide +kernel
  have c1 := a_says24 0 [false, false, false, false, false] [1, 4] [3, 4] (by simp) (by simp)
  rw [d1] at c1
  have c2 := a_says24 2 [false, false, false, false, false] [3, 4] [3, 4] (by simp) (by simp)
  rw [d2] at c2
  have c3 := a_says24 0 [false, true, false, false, false] [] [] (by simp) (by simp)
  rw [d3] at c3
  have c4 := a_Path exEv24 exSized24 0 4 [false, false, false, false, false]
  rw [d4] at c4
  have c5 := a_Path exEv24 exSized24 0 3 [false, false, false, false, false]
  rw [d5] at c5
  have c6 := a_Follows exEv24 exSized24 [0, 1, 4] [false, false, false, false, false] (by simp)
  rw [d6] at c6
  have c7 := a_Follows exEv24 exSized24 [0, 3] [false, false, false, false, false] (by simp)
  rw [d7] at c7
  have c8 := a_Lifts24 exEv24 exSized24 ex24_check 4 [false, false, false, false, false]
  rw [d8] at c8
  have c9 := a_Lifts24 exEv24 exSized24 ex24_check 1 [false, false, false, false, false]
  rw [d9] at c9
  have s1 : ACall Try.prog 28 [intsS [0, 1, 4], intsS [0, 1, 4]] [] (boolS true) [] := a_Same24 [0, 1, 4] [0, 1, 4] (by simp) (by simp)
  have s2 : ACall Try.prog 28 [intsS [0, 2], intsS [0, 2]] [] (boolS true) [] := a_Same24 [0, 2] [0, 2] (by simp) (by simp)
  have s3 : ACall Try.prog 28 [intsS [0], intsS [0]] [] (boolS true) [] := a_Same24 [0] [0] (by simp) (by simp)
  (refine acall_of tab_ok Try.func24 rfl (by decide) ?_; (conv => whnf); repeat (refine LitB.data ?_; conv => whnf))
  (repeat' (first | ((refine DecB.mk (fun h => ?_) (fun h => ?_)) <;> first | (exfalso; omega) | (conv => whnf)) | ((refine BoolB.mk (fun h => ?_) (fun h => ?_)) <;> first | (exact absurd h (by decide)) | (conv => whnf)) | (refine ⟨_, wrap_ok (by omega) (by omega), ?_⟩; conv => whnf) | (refine and_idx (by omega) (by omega) ?_; conv => whnf) | (refine reg_ok (by decide +kernel) ?_; conv => whnf) | (refine bar_ok (by decide +kernel) (by decide +kernel) ?_; conv => whnf) | (refine late_ok rfl rfl ?_; conv => whnf) | (refine src_ok rfl ?_; conv => whnf) | (refine .inl ⟨_, _, qcall_pure (a_example24) rfl rfl, ?_⟩; conv => whnf) | (refine mk_ok (by decide) (by decide) (by decide) (by decide) ?_; conv => whnf) | (refine LitB.data ?_; conv => whnf)))
  refine .inr ⟨_, _, acall_freeze [1] c1 ⟨vs_t, vs_c (vc_all (by simp) rfl (by intro h; cases h) rfl rfl rfl), vs_c (vc_t rfl), vs_c (vc_t rfl), trivial⟩ rfl, ?_⟩
  conv => whnf
  (repeat' (first | ((refine DecB.mk (fun h => ?_) (fun h => ?_)) <;> first | (exfalso; omega) | (conv => whnf)) | ((refine BoolB.mk (fun h => ?_) (fun h => ?_)) <;> first | (exact absurd h (by decide)) | (conv => whnf)) | (refine ⟨_, wrap_ok (by omega) (by omega), ?_⟩; conv => whnf) | (refine and_idx (by omega) (by omega) ?_; conv => whnf) | (refine reg_ok (by decide +kernel) ?_; conv => whnf) | (refine bar_ok (by decide +kernel) (by decide +kernel) ?_; conv => whnf) | (refine late_ok rfl rfl ?_; conv => whnf) | (refine src_ok rfl ?_; conv => whnf) | (refine .inl ⟨_, _, qcall_frozen c2 ⟨vs_t, vs_c (vc_all ⟨_, rfl, rfl⟩ rfl (by intro h; cases h) rfl rfl rfl), vs_c (vc_t rfl), vs_c (vc_t rfl), trivial⟩ rfl, ?_⟩; conv => whnf) | (refine .inl ⟨_, _, qcall_data c3 ⟨vs_t, vs_c (vc_t rfl), vs_c (vc_t rfl), vs_c (vc_t rfl), trivial⟩ rfl, ?_⟩; conv => whnf) | (refine .inl ⟨_, _, qcall_frozen c4 ⟨vs_ev _, vs_t, vs_t, vs_c (vc_all ⟨_, rfl, rfl⟩ rfl (by intro h; cases h) rfl rfl rfl), trivial⟩ rfl, ?_⟩; conv => whnf) | (refine .inl ⟨_, _, qcall_frozen c5 ⟨vs_ev _, vs_t, vs_t, vs_c (vc_all ⟨_, rfl, rfl⟩ rfl (by intro h; cases h) rfl rfl rfl), trivial⟩ rfl, ?_⟩; conv => whnf) | (refine .inl ⟨_, _, qcall_frozen c6 ⟨vs_ev _, vs_c (vc_t rfl), vs_c (vc_all ⟨_, rfl, rfl⟩ rfl (by intro h; cases h) rfl rfl rfl), trivial⟩ rfl, ?_⟩; conv => whnf) | (refine .inl ⟨_, _, qcall_frozen c7 ⟨vs_ev _, vs_c (vc_t rfl), vs_c (vc_all ⟨_, rfl, rfl⟩ rfl (by intro h; cases h) rfl rfl rfl), trivial⟩ rfl, ?_⟩; conv => whnf) | (refine .inl ⟨_, _, qcall_frozen c8 ⟨vs_ev _, vs_t, vs_c (vc_all ⟨_, rfl, rfl⟩ rfl (by intro h; cases h) rfl rfl rfl), trivial⟩ rfl, ?_⟩; conv => whnf) | (refine .inl ⟨_, _, qcall_frozen c9 ⟨vs_ev _, vs_t, vs_c (vc_all ⟨_, rfl, rfl⟩ rfl (by intro h; cases h) rfl rfl rfl), trivial⟩ rfl, ?_⟩; conv => whnf) | (refine .inl ⟨_, _, qcall_data s1 ⟨vs_c (vc_t rfl), vs_c (vc_t rfl), trivial⟩ rfl, ?_⟩; conv => whnf) | (refine .inl ⟨_, _, qcall_data s2 ⟨vs_c (vc_t rfl), vs_c (vc_t rfl), trivial⟩ rfl, ?_⟩; conv => whnf) | (refine .inl ⟨_, _, qcall_data s3 ⟨vs_c (vc_t rfl), vs_c (vc_t rfl), trivial⟩ rfl, ?_⟩; conv => whnf) | (refine LitB.data ?_; conv => whnf)))
  all_goals first | exact fin_bool rfl | (exfalso; simp at *; done)
def fineB (e : Ev) (n : Int) : Bool := few e && decide ((e.moves.length : Int) ≤ n) && decide (check e = 0)
theorem a_fine24 (e : Ev) (n : Int) : ACall Try.prog 25 [evS e, intS .i64 n] [] (boolS (fineB e n)) [] := by
  have l2 : (e.moves.map Move.row).length = e.moves.length := by simp
  have f0 := a_Few e
  cases hf : few e with
  | false =>
    rw [hf] at f0
    have hp : fineB e n = false := by unfold fineB; rw [hf]; rfl
    rw [hp]
    (refine acall_of tab_ok Try.func25 rfl (by decide) ?_; (conv => whnf); repeat (refine LitB.data ?_; conv => whnf))
    (repeat' (first | ((refine DecB.mk (fun h => ?_) (fun h => ?_)) <;> first | (exfalso; omega) | (conv => whnf)) | ((refine BoolB.mk (fun h => ?_) (fun h => ?_)) <;> first | (exact absurd h (by decide)) | (conv => whnf)) | (refine ⟨_, wrap_ok (by omega) (by omega), ?_⟩; conv => whnf) | (refine and_idx (by omega) (by omega) ?_; conv => whnf) | (refine reg_ok (by decide +kernel) ?_; conv => whnf) | (refine bar_ok (by decide +kernel) (by decide +kernel) ?_; conv => whnf) | (refine late_ok rfl rfl ?_; conv => whnf) | (refine src_ok rfl ?_; conv => whnf) | (refine .inl ⟨_, _, qcall_pure (f0) rfl rfl, ?_⟩; conv => whnf) | (refine LitB.data ?_; conv => whnf)))
    all_goals first | exact fin_bool rfl | (exfalso; simp_all; done)
  | true =>
    rw [hf] at f0
    have hs := few_sized hf
    have c0 := a_Check e hs
    have hp : fineB e n = (decide ((e.moves.length : Int) ≤ n) && decide (check e = 0)) := by unfold fineB; rw [hf]; rfl
    rw [hp]
    (refine acall_of tab_ok Try.func25 rfl (by decide) ?_; (conv => whnf); repeat (refine LitB.data ?_; conv => whnf))
    (repeat' (first | ((refine DecB.mk (fun h => ?_) (fun h => ?_)) <;> first | (exfalso; omega) | (conv => whnf)) | ((refine BoolB.mk (fun h => ?_) (fun h => ?_)) <;> first | (exact absurd h (by decide)) | (conv => whnf)) | (refine ⟨_, wrap_ok (by omega) (by omega), ?_⟩; conv => whnf) | (refine and_idx (by omega) (by omega) ?_; conv => whnf) | (refine reg_ok (by decide +kernel) ?_; conv => whnf) | (refine bar_ok (by decide +kernel) (by decide +kernel) ?_; conv => whnf) | (refine late_ok rfl rfl ?_; conv => whnf) | (refine src_ok rfl ?_; conv => whnf) | (refine .inl ⟨_, _, qcall_pure (f0) rfl rfl, ?_⟩; conv => whnf) | (refine .inl ⟨_, _, qcall_pure (c0) rfl rfl, ?_⟩; conv => whnf) | (refine LitB.data ?_; conv => whnf)))
    all_goals (refine fin_bool ?_; first | (have hx : ((e.moves.length : Nat) : Int) ≤ n := by omega
                                            simp [hx]; try omega) | (have hx : ¬ ((e.moves.length : Nat) : Int) ≤ n := by omega
                                                                     simp [hx]; done))
end Go.Proofs.Ythjgbjakpbfnoaa
/- What is reached with fewer blocked moves, and with fewer moves. -/
namespace Go.Proofs.Ythjgbjakpbfnoaa
open Go.RowKit
set_option linter.unusedVariables false
set_option linter.unusedSimpArgs false

/-- what a set, lists of truth values as such, contains, the other does, too -/
def SubB (a b : List Bool) : Prop := a.length = b.length ∧ ∀ i, a.getD i false = true → b.getD i false = true
theorem getD_setB {a : List Bool} {i j : Nat} {v : Bool} (h : i < a.length) : (a.set i v).getD j false = if j = i then v else a.getD j false := by
  rw [List.getD_eq_getElem?_getD, List.getD_eq_getElem?_getD]
  by_cases hj : j = i
  · subst hj; rw [List.getElem?_set_self h, if_pos rfl]; rfl
  · rw [List.getElem?_set_ne (Ne.symm hj), if_neg hj]
theorem getD_setB_ge {a : List Bool} {i j : Nat} {v : Bool} (h : ¬ i < a.length) : (a.set i v).getD j false = a.getD j false := by
  rw [List.set_eq_of_length_le (by omega)]
theorem SubB.set {a b : List Bool} (h : SubB a b) {i : Nat} {v w : Bool} (hv : v = true → w = true) : SubB (a.set i v) (b.set i w) := by
  refine ⟨by simp [h.1], fun j hj => ?_⟩
  by_cases hi : i < a.length
  · rw [getD_setB hi] at hj
    rw [getD_setB (by rw [← h.1]; exact hi)]
    split at hj
    · rename_i hq; rw [if_pos hq]; exact hv hj
    · rename_i hq; rw [if_neg hq]; exact h.2 j hj
  · rw [getD_setB_ge hi] at hj
    rw [getD_setB_ge (by rw [← h.1]; exact hi)]
    exact h.2 j hj
theorem SubB.grow {a b : List Bool} (h : SubB a b) {i : Nat} : SubB a (b.set i true) := by
  refine ⟨by simp [h.1], fun j hj => ?_⟩
  by_cases hi : i < b.length
  · rw [getD_setB hi]
    split
    · rfl
    · exact h.2 j hj
  · rw [getD_setB_ge hi]; exact h.2 j hj
theorem SubB.off {a b : List Bool} (h : SubB a b) {i : Nat} (ha : a.getD i false = false) : SubB a (b.set i false) := by
  refine ⟨by simp [h.1], fun j hj => ?_⟩
  by_cases hi : i < b.length
  · rw [getD_setB hi]
    split
    · rename_i hq; subst hq; rw [ha] at hj; cases hj
    · exact h.2 j hj
  · rw [getD_setB_ge hi]; exact h.2 j hj
theorem flowStep_sub {bl bl' : List Bool} {i : Nat} {x : Move} {a b : List Bool} (h : SubB a b) (hb : bl'.getD i true = true → bl.getD i true = true) : SubB (flowStep bl i x a) (flowStep bl' i x b) := by
  unfold flowStep
  cases ha : a.getD x.src.toNat false with
  | false =>
    simp only [cond_false]
    cases b.getD x.src.toNat false with
    | false => exact h
    | true =>
      simp only [cond_true]
      cases x.all with
      | false =>
        simp only [cond_false]
        cases bl'.getD i true with
        | true => exact h
        | false => exact h.grow
      | true =>
        simp only [cond_true]
        refine SubB.off ?_ ha
        cases bl'.getD i true with
        | true => exact h
        | false => exact h.grow
  | true =>
    have hbt := h.2 _ ha
    rw [hbt]
    simp only [cond_true]
    have key : SubB (cond (bl.getD i true) a (a.set x.dst.toNat true)) (cond (bl'.getD i true) b (b.set x.dst.toNat true)) := by
      cases hq : bl'.getD i true with
      | true => rw [hb hq]; exact h
      | false =>
        cases bl.getD i true with
        | true => exact h.grow
        | false => exact h.set fun h => h
    cases x.all with
    | false => exact key
    | true => exact key.set fun h => h
theorem atTo_sub {e : Ev} {bl bl' : List Bool} {m d : Nat} (hb : ∀ i, bl'.getD i true = true → bl.getD i true = true) : ∀ k, SubB (atTo e bl m d k) (atTo e bl' m d k)
  | 0 => ⟨rfl, fun _ h => h⟩
  | k + 1 => by
    unfold atTo
    split
    · exact flowStep_sub (atTo_sub hb k) (hb _)
    · exact atTo_sub hb k
theorem loads_sub {e : Ev} {bl bl' : List Bool} {m d : Nat} (hb : ∀ i, bl'.getD i true = true → bl.getD i true = true) {k : Int} (h : k ∈ loadsMoves e bl m d) : k ∈ loadsMoves e bl' m d := by
  obtain ⟨i, x, hx, hP, rfl⟩ := mem_pickFrom.1 h
  refine mem_pickFrom.2 ⟨i, x, hx, ?_, rfl⟩
  unfold carB at hP ⊢
  simp only [Bool.and_eq_true, decide_eq_true_eq, Bool.not_eq_true'] at hP ⊢
  refine ⟨⟨hP.1.1, (atTo_sub hb _).2 _ hP.1.2⟩, ?_⟩
  cases hq : bl'.getD (0 + i) true with
  | false => rfl
  | true => rw [hb _ hq] at hP; exact absurd hP.2 (by simp)

def cutE (e : Ev) (n : Nat) : Ev := { e with moves := e.moves.take n }
theorem atTo_cut {e : Ev} {bl : List Bool} {m d n : Nat} : ∀ k, m + 1 + k ≤ n → atTo (cutE e n) (bl.take n) m d k = atTo e bl m d k
  | 0, _ => rfl
  | k + 1, h => by
    have hm : (cutE e n).moves[m + 1 + k]? = e.moves[m + 1 + k]? := by show (e.moves.take n)[_]? = _; rw [List.getElem?_take_of_lt (by omega)]
    have hb : (bl.take n).getD (m + 1 + k) true = bl.getD (m + 1 + k) true := by rw [List.getD_eq_getElem?_getD, List.getElem?_take_of_lt (by omega), List.getD_eq_getElem?_getD]
    rw [atTo, atTo, hm, atTo_cut k (by omega)]
    unfold flowStep
    rw [hb]
theorem loads_cut {e : Ev} {bl : List Bool} {m d n k : Nat} (hk : k < n) : (k : Int) ∈ loadsMoves (cutE e n) (bl.take n) m d ↔ (k : Int) ∈ loadsMoves e bl m d := by
  have key : ∀ x, carB (cutE e n) (bl.take n) m d k x = carB e bl m d k x := fun x => by
    unfold carB
    by_cases hmk : m < k
    · rw [atTo_cut _ (by omega)]
      congr 2
      rw [List.getD_eq_getElem?_getD, List.getElem?_take_of_lt hk, List.getD_eq_getElem?_getD]
    · simp [hmk]
  constructor
  · intro h
    obtain ⟨i, x, hx, hP, hi⟩ := mem_pickFrom.1 h
    have : i = k := by omega
    subst this
    have hx' : e.moves[i]? = some x := by
      have : (e.moves.take n)[i]? = some x := hx
      rwa [List.getElem?_take_of_lt hk] at this
    exact mem_pickFrom.2 ⟨i, x, hx', by rw [Nat.zero_add] at hP ⊢; rw [← key]; exact hP, hi⟩
  · intro h
    obtain ⟨i, x, hx, hP, hi⟩ := mem_pickFrom.1 h
    have : i = k := by omega
    subst this
    exact mem_pickFrom.2 ⟨i, x, by show (e.moves.take n)[i]? = _; rw [List.getElem?_take_of_lt hk]; exact hx, by rw [Nat.zero_add] at hP ⊢; rw [key]; exact hP, hi⟩
end Go.Proofs.Ythjgbjakpbfnoaa
/- The law ReachMore, walked. -/
namespace Go.Proofs.Ythjgbjakpbfnoaa
open Go.RowKit
set_option linter.unusedVariables false
set_option linter.unusedSimpArgs false
set_option maxRecDepth 100000

theorem fine_iff {e : Ev} {n : Int} (h : fineB e n = true) : e.Sized ∧ check e = 0 ∧ (e.moves.length : Int) ≤ n := by
  unfold fineB at h
  simp only [Bool.and_eq_true, decide_eq_true_eq] at h
  exact ⟨few_sized h.1.1, h.2, h.1.2⟩
def bothTo (a b : List Bool) (k : Nat) : List Bool := (List.range a.length).map fun i => decide (i < k) && (a.getD i false && b.getD i false)
theorem bothTo_len {a b : List Bool} {k : Nat} : (bothTo a b k).length = a.length := by simp [bothTo]
theorem bothTo_get {a b : List Bool} {k i : Nat} (h : i < a.length) : (bothTo a b k)[i]? = some (decide (i < k) && (a.getD i false && b.getD i false)) := by
  unfold bothTo
  rw [List.getElem?_map, List.getElem?_range h]; rfl
theorem bothTo_zero {a b : List Bool} : bothTo a b 0 = List.replicate a.length false := by
  apply List.ext_getElem?
  intro i
  by_cases h : i < a.length
  · rw [bothTo_get h, List.getElem?_replicate, if_pos h]; simp
  · rw [List.getElem?_eq_none (by rw [bothTo_len]; omega), List.getElem?_eq_none (by simp; omega)]
theorem bothTo_succ {a b : List Bool} {k : Nat} (h : k < a.length) : bothTo a b (k + 1) = (bothTo a b k).set k (a.getD k false && b.getD k false) := by
  apply List.ext_getElem?
  intro i
  by_cases hi : i < a.length
  · rw [bothTo_get hi]
    by_cases hk : i = k
    · subst hk
      rw [List.getElem?_set_self (by rw [bothTo_len]; exact hi)]
      simp
    · rw [List.getElem?_set_ne (Ne.symm hk), bothTo_get hi]
      have : decide (i < k + 1) = decide (i < k) := by
        have : (i < k + 1) ↔ (i < k) := by omega
        simp [this]
      rw [this]
  · rw [List.getElem?_eq_none (by rw [bothTo_len]; omega), List.getElem?_eq_none (by simp [bothTo_len]; omega)]
theorem bothTo_blocked {a b : List Bool} (hab : b.length = a.length) (i : Nat) (h : (bothTo a b a.length).getD i true = true) : a.getD i true = true := by
  by_cases hi : i < a.length
  · rw [List.getD_eq_getElem?_getD, bothTo_get hi] at h
    simp only [Option.getD_some, Bool.and_eq_true] at h
    rw [List.getD_eq_getElem?_getD, List.getElem?_eq_getElem hi]
    have := h.2.1
    rw [List.getD_eq_getElem?_getD, List.getElem?_eq_getElem hi] at this
    exact this
  · rw [List.getD_eq_getElem?_getD, List.getElem?_eq_none (by omega)]; rfl
theorem any_iff {l : List Int} {n : Int} : (l.any fun x => decide (x = n)) = true ↔ n ∈ l := by
  rw [List.any_eq_true]
  constructor
  · rintro ⟨x, hx, h⟩
    rw [decide_eq_true_eq] at h; subst h; exact hx
  · intro h; exact ⟨n, h, by simp⟩
theorem loads_subset {e : Ev} {q : Int} {bl bl' : List Bool} (hl : bl'.length = bl.length) (hb : ∀ i, bl'.getD i true = true → bl.getD i true = true) {x : Int} (h : x ∈ (loads e q bl).1) : x ∈ (loads e q bl').1 := by
  have hfe : fitsB e q bl' = fitsB e q bl := by unfold fitsB; rw [hl]
  unfold loads at h ⊢
  by_cases hc : fitsB e q bl = true ∧ bl.getD q.toNat true = false
  · rw [if_pos hc] at h
    have hc' : fitsB e q bl' = true ∧ bl'.getD q.toNat true = false := by
      refine ⟨by rw [hfe]; exact hc.1, ?_⟩
      cases hq : bl'.getD q.toNat true with
      | false => rfl
      | true => rw [hb _ hq] at hc; cases hc.2
    rw [if_pos hc']
    cases hx : e.moves[q.toNat]? with
    | none => rw [hx] at h; cases h
    | some y => rw [hx] at h; exact loads_sub hb h
  · rw [if_neg hc] at h; cases h
theorem loads_trunc {e : Ev} {q n k : Nat} {bl : List Bool} (hq : q < n) (hn : n ≤ e.moves.length) (hl : bl.length = e.moves.length) (hk : k < n) :
    ((k : Int) ∈ (loads (cutE e n) q (bl.take n)).1) ↔ ((k : Int) ∈ (loads e q bl).1) := by
  have f1 : fitsB (cutE e n) q (bl.take n) = true := fits_iff.2 (by simp [cutE]; omega)
  have f2 : fitsB e q bl = true := fits_iff.2 (by omega)
  have hg : (bl.take n).getD q true = bl.getD q true := by rw [List.getD_eq_getElem?_getD, List.getElem?_take_of_lt hq, List.getD_eq_getElem?_getD]
  have hm : (cutE e n).moves[q]? = e.moves[q]? := by show (e.moves.take n)[_]? = _; rw [List.getElem?_take_of_lt hq]
  unfold loads
  rw [f1, f2, Int.toNat_natCast, hg, hm]
  cases bl.getD q true with
  | true => simp
  | false =>
    simp only [and_self, if_true]
    cases e.moves[q]? with
    | none => exact Iff.rfl
    | some x => exact loads_cut hk
theorem cut_check {e : Ev} {n : Nat} (h0 : check e = 0) (hp : e.purities = []) : check (cutE e n) = 0 := by
  have hb : e.mats ≤ 6 ∧ e.hhs ≤ 100 ∧ e.scs ≤ 30 := by
    have := (check_zero h0).1
    simp [fullB] at this
    omega
  exact check_mono (n := n) h0 rfl (Int.le_refl _) hb.1 (Int.le_refl _) hb.2.1 (Int.le_refl _) hb.2.2 rfl (.inl rfl) (.inl rfl) (fun q hq => by
    have : q ∈ e.purities := hq
    rw [hp] at this; cases this) (Nat.le_refl _)
set_option maxHeartbeats 2000000 in
theorem a_ReachMore (e : Ev) (m : Int) (bl fw : List Bool) (left : Int) : ACall Try.prog 9 [evS e, intS .i64 m, boolsS bl, boolsS fw, intS .i64 left] [] (boolS true) [] := by
  have f0 := a_fine24 e 20
  have l2 : (e.moves.map Move.row).length = e.moves.length := by simp
  have l3 : (bl.map boolRow).length = bl.length := by simp
  have l4 : (fw.map boolRow).length = fw.length := by simp
  have l5 : (e.purities.map Purity.row).length = e.purities.length := by simp
  cases hf : fineB e 20 with
  | false =>
    rw [hf] at f0
    (refine acall_of tab_ok Try.func9 rfl (by decide) ?_; (conv => whnf); repeat (refine LitB.data ?_; conv => whnf))
    (repeat' (first | ((refine DecB.mk (fun h => ?_) (fun h => ?_)) <;> first | (exfalso; omega) | (conv => whnf)) | ((refine BoolB.mk (fun h => ?_) (fun h => ?_)) <;> first | (exact absurd h (by decide)) | (conv => whnf)) | (refine ⟨_, wrap_ok (by omega) (by omega), ?_⟩; conv => whnf) | (refine and_idx (by omega) (by omega) ?_; conv => whnf) | (refine reg_ok (by decide +kernel) ?_; conv => whnf) | (refine bar_ok (by decide +kernel) (by decide +kernel) ?_; conv => whnf) | (refine late_ok rfl rfl ?_; conv => whnf) | (refine src_ok rfl ?_; conv => whnf) | (refine .inl ⟨_, _, qcall_pure (a_sane24) rfl rfl, ?_⟩; conv => whnf) | (refine .inl ⟨_, _, qcall_pure (f0) rfl rfl, ?_⟩; conv => whnf) | (refine LitB.data ?_; conv => whnf)))
    all_goals first | exact fin_bool rfl | (exfalso; simp_all; done)
  | true =>
    rw [hf] at f0
    obtain ⟨hs, h0, hn⟩ := fine_iff hf
    (refine acall_of tab_ok Try.func9 rfl (by decide) ?_; (conv => whnf); repeat (refine LitB.data ?_; conv => whnf))
    (repeat' (first | ((refine DecB.mk (fun h => ?_) (fun h => ?_)) <;> first | (exfalso; omega) | (conv => whnf)) | ((refine BoolB.mk (fun h => ?_) (fun h => ?_)) <;> first | (exact absurd h (by decide)) | (conv => whnf)) | (refine ⟨_, wrap_ok (by omega) (by omega), ?_⟩; conv => whnf) | (refine and_idx (by omega) (by omega) ?_; conv => whnf) | (refine reg_ok (by decide +kernel) ?_; conv => whnf) | (refine bar_ok (by decide +kernel) (by decide +kernel) ?_; conv => whnf) | (refine late_ok rfl rfl ?_; conv => whnf) | (refine src_ok rfl ?_; conv => whnf) | (refine .inl ⟨_, _, qcall_pure (a_sane24) rfl rfl, ?_⟩; conv => whnf) | (refine .inl ⟨_, _, qcall_pure (f0) rfl rfl, ?_⟩; conv => whnf) | (refine mk_ok (by omega) (by omega) (by omega) (by decide) ?_; conv => whnf) | (refine LitB.data ?_; conv => whnf)))
    all_goals first | exact fin_bool rfl | (exfalso; simp_all; done) | skip
    obtain ⟨q, rfl⟩ := Int.eq_ofNat_of_zero_le (show 0 ≤ m by omega)
    obtain ⟨n, rfl⟩ := Int.eq_ofNat_of_zero_le (show 0 ≤ left by omega)
    have hq : q < e.moves.length := by omega
    have hqn : q < n := by omega
    have hnn : n ≤ e.moves.length := by omega
    have hbl : bl.length = e.moves.length := by omega
    have hfl : fw.length = e.moves.length := by omega
    refine awp_weak ?_
    refine awp_for tab_ok (fun k => ([S.junk, intS .i64 q, boolsS bl, boolsS fw, intS .i64 n, S.c (C.ptr 0 0 0), S.junk, S.junk, S.junk, S.junk, S.junk, boolS true, S.c (C.own 1 0 bl.length true), intS .i64 k, S.junk, S.junk, S.junk, S.junk, S.junk, S.junk, S.junk, S.junk, S.junk, S.junk, S.junk, S.junk, S.junk, S.junk, S.junk, S.junk, S.junk, S.junk, S.junk, S.junk, S.junk, S.junk, S.junk, S.junk, S.junk, S.junk, S.junk, S.junk, S.junk, S.junk, S.junk, S.junk, S.junk, S.junk, S.junk, S.junk, S.junk, S.junk, S.junk, S.junk, S.junk, S.junk, S.junk, S.junk, S.junk, S.junk, S.junk, S.junk, S.junk, S.junk, S.junk, S.junk, S.junk, S.junk, S.junk, S.junk, S.junk, S.junk, S.junk, S.junk, S.junk, S.junk, S.junk, S.junk, S.junk, S.junk, S.junk, S.junk, S.junk, S.junk, S.junk, S.junk, S.junk, S.junk, S.junk, S.junk, S.junk, S.junk, S.junk, S.junk, S.junk, S.junk, S.junk, S.junk, S.junk, S.junk, S.junk, S.junk, S.junk, S.junk, S.junk, S.junk, S.junk, S.junk, S.junk, S.junk, S.junk, S.junk, S.junk, S.junk, S.junk, S.junk, S.junk, S.junk, S.junk, S.junk, S.junk, S.junk, S.junk, S.junk, S.junk, S.junk, S.junk, S.junk, S.junk, S.junk, S.junk, S.junk, S.junk, S.junk, S.junk, S.junk, S.junk, S.junk, S.junk, S.junk, S.junk, S.junk, S.junk, S.junk, S.junk, S.junk, S.junk, S.junk, S.junk, S.junk, S.junk, S.junk, S.junk, S.junk, S.junk, S.junk, S.junk, S.junk, S.junk], [evB e, boolsB (bothTo bl fw k)])) bl.length (fun k => True) [some 0, some 1] trivial
      ⟨rfl, rfl, ⟨⟨rfl, rfl, rfl, .inl ⟨rfl, rowsT_ev e⟩⟩, entB_rows rfl rfl rfl ?_ rfl, trivial⟩, ⟨rfl, ent_t rfl, ent_t rfl, rfl, ⟨rfl, rfl, rfl⟩, rfl, ⟨rfl, rfl, ?_, fun h => h⟩, ent_i rfl, trivial⟩⟩ ?_
    · rw [bothTo_zero]
      show List.replicate ((bl.map boolRow).length : Int).toNat [C.t (tb false)] = _
      rw [show ((bl.map boolRow).length : Int).toNat = bl.length by omega]
      simp [toC, boolRow]
    · omega
    intro k hk hI
    have hbol := bothTo_len (a := bl) (b := fw) (k := k)
    conv => whnf
    (repeat' (first | ((refine DecB.mk (fun h => ?_) (fun h => ?_)) <;> first | (exfalso; omega) | (conv => whnf)) | ((refine BoolB.mk (fun h => ?_) (fun h => ?_)) <;> first | (exact absurd h (by decide)) | (conv => whnf)) | (refine ⟨_, wrap_ok (by omega) (by omega), ?_⟩; conv => whnf) | (refine and_idx (by omega) (by omega) ?_; conv => whnf) | (refine reg_ok (by decide +kernel) ?_; conv => whnf) | (refine bar_ok (by decide +kernel) (by decide +kernel) ?_; conv => whnf) | (refine late_ok rfl rfl ?_; conv => whnf) | (refine src_ok rfl ?_; conv => whnf) | (refine LitB.data ?_; conv => whnf)))
    · have hlt : k < bl.length := by omega
      obtain ⟨a, ha⟩ : ∃ a, bl[k]? = some a := ⟨_, List.getElem?_eq_getElem hlt⟩
      obtain ⟨b, hb⟩ : ∃ a, fw[k]? = some a := ⟨_, List.getElem?_eq_getElem (by omega)⟩
      obtain ⟨c, hc⟩ : ∃ a, (bothTo bl fw k)[0 + (k : Int).toNat]? = some a := ⟨_, List.getElem?_eq_getElem (by omega)⟩
      have hga : bl.getD k false = a := by rw [List.getD_eq_getElem?_getD, ha]; rfl
      have hgb : fw.getD k false = b := by rw [List.getD_eq_getElem?_getD, hb]; rfl
      have hsu := bothTo_succ (b := fw) hlt
      rw [hga, hgb] at hsu
      (repeat' (first | ((refine DecB.mk (fun h => ?_) (fun h => ?_)) <;> first | (exfalso; omega) | (conv => whnf)) | ((refine BoolB.mk (fun h => ?_) (fun h => ?_)) <;> first | (exact absurd h (by decide)) | (conv => whnf)) | (refine ⟨_, wrap_ok (by omega) (by omega), ?_⟩; conv => whnf) | (refine and_idx (by omega) (by omega) ?_; conv => whnf) | (refine reg_ok (by decide +kernel) ?_; conv => whnf) | (refine bar_ok (by decide +kernel) (by decide +kernel) ?_; conv => whnf) | (refine late_ok rfl rfl ?_; conv => whnf) | (refine src_ok rfl ?_; conv => whnf) | (refine ex_row ha ?_; conv => whnf) | (refine ex_row hb ?_; conv => whnf) | (refine ex_own hc ?_; conv => whnf) | (refine LitB.data ?_; conv => whnf)))
      all_goals
        refine ⟨hlt, trivial, [some 0, some 1], rfl, rfl, ⟨⟨rfl, rfl, rfl, .inl ⟨rfl, rowsT_ev e⟩⟩, entB_rows rfl rfl rfl ?_ rfl, trivial⟩, ⟨rfl, rfl, rfl, rfl, ⟨rfl, rfl, rfl⟩, rfl, ⟨rfl, rfl, rfl, fun h => h⟩, rfl, trivial⟩⟩
        rw [hsu]; simp_all [toC, boolRow, List.map_set, setRows]; done
    · have hkl : k = bl.length := by omega
      refine .inr ⟨[some 0], [S.junk, intS .i64 q, boolsS bl, S.junk, intS .i64 n, S.c (C.ptr 0 0 0), S.junk, S.junk, S.junk, S.junk, S.junk, boolS true, boolsS (bothTo bl fw k), S.junk, S.junk, S.junk, S.junk, S.junk, S.junk, S.junk, S.junk, S.junk, S.junk, S.junk, S.junk, S.junk, S.junk, S.junk, S.junk, S.junk, S.junk, S.junk, S.junk, S.junk, S.junk, S.junk, S.junk, S.junk, S.junk, S.junk, S.junk, S.junk, S.junk, S.junk, S.junk, S.junk, S.junk, S.junk, S.junk, S.junk, S.junk, S.junk, S.junk, S.junk, S.junk, S.junk, S.junk, S.junk, S.junk, S.junk, S.junk, S.junk, S.junk, S.junk, S.junk, S.junk, S.junk, S.junk, S.junk, S.junk, S.junk, S.junk, S.junk, S.junk, S.junk, S.junk, S.junk, S.junk, S.junk, S.junk, S.junk, S.junk, S.junk, S.junk, S.junk, S.junk, S.junk, S.junk, S.junk, S.junk, S.junk, S.junk, S.junk, S.junk, S.junk, S.junk, S.junk, S.junk, S.junk, S.junk, S.junk, S.junk, S.junk, S.junk, S.junk, S.junk, S.junk, S.junk, S.junk, S.junk, S.junk, S.junk, S.junk, S.junk, S.junk, S.junk, S.junk, S.junk, S.junk, S.junk, S.junk, S.junk, S.junk, S.junk, S.junk, S.junk, S.junk, S.junk, S.junk, S.junk, S.junk, S.junk, S.junk, S.junk, S.junk, S.junk, S.junk, S.junk, S.junk, S.junk, S.junk, S.junk, S.junk, S.junk, S.junk, S.junk, S.junk, S.junk, S.junk, S.junk, S.junk, S.junk, S.junk, S.junk, S.junk, S.junk, S.junk, S.junk, S.junk], [evB e], ⟨rfl, rfl, ⟨⟨rfl, rfl, rfl, .inl ⟨rfl, rowsT_ev e⟩⟩, trivial⟩, ⟨rfl, rfl, rfl, ⟨rfl, rfl, rfl⟩, rfl, ent_view rfl rfl (by intro h; cases h) rfl rfl (by simp [hbol]), trivial⟩⟩, ?_⟩
      obtain ⟨kA, _⟩ := loads_len hs (m := (q : Int)) (bl := bl)
      obtain ⟨kB, _⟩ := loads_len hs (m := (q : Int)) (bl := bothTo bl fw k)
      have hAB : ∀ x, x ∈ (loads e q bl).1 → x ∈ (loads e q (bothTo bl fw k)).1 := fun x hx => loads_subset (by rw [hbol]) (fun i hi => bothTo_blocked (b := fw) (by omega) i (by rw [← hkl]; exact hi)) hx
      have la := a_LoadsAll e hs h0 q bl
      have lb := a_LoadsAll e hs h0 q (bothTo bl fw k)
      generalize hA : (loads e q bl).1 = A at *
      generalize hB : (loads e q (bothTo bl fw k)).1 = B at *
      have lA : (A.map intRow).length = A.length := by simp
      conv => whnf
      (repeat' (first | ((refine DecB.mk (fun h => ?_) (fun h => ?_)) <;> first | (exfalso; omega) | (conv => whnf)) | ((refine BoolB.mk (fun h => ?_) (fun h => ?_)) <;> first | (exact absurd h (by decide)) | (conv => whnf)) | (refine ⟨_, wrap_ok (by omega) (by omega), ?_⟩; conv => whnf) | (refine and_idx (by omega) (by omega) ?_; conv => whnf) | (refine reg_ok (by decide +kernel) ?_; conv => whnf) | (refine bar_ok (by decide +kernel) (by decide +kernel) ?_; conv => whnf) | (refine late_ok rfl rfl ?_; conv => whnf) | (refine src_ok rfl ?_; conv => whnf) | (refine .inl ⟨_, _, qcall_pure (la) rfl rfl, ?_⟩; conv => whnf) | (refine .inl ⟨_, _, qcall_pure (lb) rfl rfl, ?_⟩; conv => whnf) | (refine LitB.data ?_; conv => whnf)))
      refine awp_for tab_ok (fun i => ([S.junk, intS .i64 q, boolsS bl, S.junk, intS .i64 n, S.c (C.ptr 0 0 0), S.junk, S.junk, S.junk, S.junk, S.junk, boolS true, S.junk, S.junk, intsS A, S.junk, intsS B, S.junk, intS .i64 i, S.junk, S.junk, S.junk, S.junk, S.junk, S.junk, S.junk, S.junk, S.junk, S.junk, S.junk, S.junk, S.junk, S.junk, S.junk, S.junk, S.junk, S.junk, S.junk, S.junk, S.junk, S.junk, S.junk, S.junk, S.junk, S.junk, S.junk, S.junk, S.junk, S.junk, S.junk, S.junk, S.junk, S.junk, S.junk, S.junk, S.junk, S.junk, S.junk, S.junk, S.junk, S.junk, S.junk, S.junk, S.junk, S.junk, S.junk, S.junk, S.junk, S.junk, S.junk, S.junk, S.junk, S.junk, S.junk, S.junk, S.junk, S.junk, S.junk, S.junk, S.junk, S.junk, S.junk, S.junk, S.junk, S.junk, S.junk, S.junk, S.junk, S.junk, S.junk, S.junk, S.junk, S.junk, S.junk, S.junk, S.junk, S.junk, S.junk, S.junk, S.junk, S.junk, S.junk, S.junk, S.junk, S.junk, S.junk, S.junk, S.junk, S.junk, S.junk, S.junk, S.junk, S.junk, S.junk, S.junk, S.junk, S.junk, S.junk, S.junk, S.junk, S.junk, S.junk, S.junk, S.junk, S.junk, S.junk, S.junk, S.junk, S.junk, S.junk, S.junk, S.junk, S.junk, S.junk, S.junk, S.junk, S.junk, S.junk, S.junk, S.junk, S.junk, S.junk, S.junk, S.junk, S.junk, S.junk, S.junk, S.junk, S.junk, S.junk, S.junk, S.junk, S.junk, S.junk, S.junk, S.junk, S.junk, S.junk, S.junk], [evB e])) A.length (fun k => True) [some 0] trivial
        ⟨rfl, rfl, ⟨⟨rfl, rfl, rfl, .inl ⟨rfl, rowsT_ev e⟩⟩, trivial⟩, ⟨rfl, rfl, rfl, ⟨rfl, rfl, rfl⟩, rfl, ent_t (by rw [← hA]), ent_t (by rw [← hB]), rfl, trivial⟩⟩ ?_
      intro i hi hI2
      conv => whnf
      (repeat' (first | ((refine DecB.mk (fun h => ?_) (fun h => ?_)) <;> first | (exfalso; omega) | (conv => whnf)) | ((refine BoolB.mk (fun h => ?_) (fun h => ?_)) <;> first | (exact absurd h (by decide)) | (conv => whnf)) | (refine ⟨_, wrap_ok (by omega) (by omega), ?_⟩; conv => whnf) | (refine and_idx (by omega) (by omega) ?_; conv => whnf) | (refine reg_ok (by decide +kernel) ?_; conv => whnf) | (refine bar_ok (by decide +kernel) (by decide +kernel) ?_; conv => whnf) | (refine late_ok rfl rfl ?_; conv => whnf) | (refine src_ok rfl ?_; conv => whnf) | (refine LitB.data ?_; conv => whnf)))
      · obtain ⟨x, hx⟩ : ∃ x, A[i]? = some x := ⟨_, List.getElem?_eq_getElem (by omega)⟩
        have ch := a_Has24 B x kB
        rw [any_iff.2 (hAB x (List.mem_of_getElem? hx))] at ch
        (repeat' (first | ((refine DecB.mk (fun h => ?_) (fun h => ?_)) <;> first | (exfalso; omega) | (conv => whnf)) | ((refine BoolB.mk (fun h => ?_) (fun h => ?_)) <;> first | (exact absurd h (by decide)) | (conv => whnf)) | (refine ⟨_, wrap_ok (by omega) (by omega), ?_⟩; conv => whnf) | (refine and_idx (by omega) (by omega) ?_; conv => whnf) | (refine reg_ok (by decide +kernel) ?_; conv => whnf) | (refine bar_ok (by decide +kernel) (by decide +kernel) ?_; conv => whnf) | (refine late_ok rfl rfl ?_; conv => whnf) | (refine src_ok rfl ?_; conv => whnf) | (refine .inl ⟨_, _, qcall_pure (ch) rfl rfl, ?_⟩; conv => whnf) | (refine ex_row hx ?_; conv => whnf) | (refine LitB.data ?_; conv => whnf)))
        all_goals first
          | exact ⟨by omega, trivial, [some 0], rfl, rfl, ⟨⟨rfl, rfl, rfl, .inl ⟨rfl, rowsT_ev e⟩⟩, trivial⟩, ⟨rfl, rfl, rfl, ⟨rfl, rfl, rfl⟩, rfl, rfl, rfl, rfl, trivial⟩⟩
          | (exfalso; simp_all; done)
      · have e1 : (List.drop (Int.toNat 0) (List.take (n : Int).toNat (e.moves.map Move.row))) = (cutE e n).moves.map Move.row := by
          rw [Int.toNat_natCast]; simp [cutE, List.map_take]
        have e2 : (List.drop (Int.toNat 0) (List.take (n : Int).toNat (bl.map boolRow))) = (bl.take n).map boolRow := by
          rw [Int.toNat_natCast]; simp [List.map_take]
        have e3 : (cutE e n).moves.length = n := by simp [cutE]; omega
        have e4 : (bl.take n).length = n := by simp; omega
        (repeat' (first | ((refine DecB.mk (fun h => ?_) (fun h => ?_)) <;> first | (exfalso; omega) | (conv => whnf)) | ((refine BoolB.mk (fun h => ?_) (fun h => ?_)) <;> first | (exact absurd h (by decide)) | (conv => whnf)) | (refine ⟨_, wrap_ok (by omega) (by omega), ?_⟩; conv => whnf) | (refine and_idx (by omega) (by omega) ?_; conv => whnf) | (refine reg_ok (by decide +kernel) ?_; conv => whnf) | (refine bar_ok (by decide +kernel) (by decide +kernel) ?_; conv => whnf) | (refine late_ok rfl rfl ?_; conv => whnf) | (refine src_ok rfl ?_; conv => whnf) | (refine .inl ⟨_, _, qcall_pure (e1) rfl rfl, ?_⟩; conv => whnf) | (refine .inl ⟨_, _, qcall_pure (toC, e3) rfl rfl, ?_⟩; conv => whnf) | (refine .inl ⟨_, _, qcall_pure (e2) rfl rfl, ?_⟩; conv => whnf) | (refine .inl ⟨_, _, qcall_pure (toC) rfl rfl, ?_⟩; conv => whnf) | (refine .inl ⟨_, _, qcall_pure (0) rfl rfl, ?_⟩; conv => whnf) | (refine sl_ok (by omega) (by omega) (by omega) ?_; conv => whnf) | (refine app_nil rfl (by rw [e1]; simp [toC, e3]; omega) ?_; conv => whnf) | (refine app_nil rfl (by rw [e2]; simp [toC]; omega) ?_; conv => whnf) | (refine bar_late [0] (by decide +kernel) (by decide +kernel) ?_; conv => whnf) | (refine LitB.data ?_; conv => whnf)))
        have hsc : (cutE e n).Sized := ⟨hs.s1, by rw [e3]; have := hs.s2; omega, hs.s3, hs.s4, hs.s5⟩
        have hc0 : check (cutE e n) = 0 := cut_check h0 (List.eq_nil_of_length_eq_zero (by omega))
        have cc := a_Check (cutE e n) hsc
        rw [hc0] at cc
        have lc := a_LoadsAll (cutE e n) hsc hc0 q (bl.take n)
        have hAC : ∀ j : Nat, j < n → ((j : Int) ∈ A ↔ (j : Int) ∈ (loads (cutE e n) q (bl.take n)).1) := fun j hj => by rw [← hA]; exact (loads_trunc hqn hnn hbl hj).symm
        obtain ⟨kC, _⟩ := loads_len hsc (m := (q : Int)) (bl := bl.take n)
        generalize hC : (loads (cutE e n) q (bl.take n)).1 = C' at *
        have e5 : ([] : List (List T)).length + (toC (List.drop (Int.toNat 0) (List.take (n : Int).toNat (e.moves.map Move.row)))).length = ((cutE e n).moves.map Move.row).length := by rw [e1]; simp [toC]
        have e6 : ([] : List (List T)).length + (toC (List.drop (Int.toNat 0) (List.take (n : Int).toNat (bl.map boolRow)))).length = ((bl.take n).map boolRow).length := by rw [e2]; simp [toC]
        refine .inr ⟨_, _, acall_freeze [2, 3] lc ⟨vs_agg (ts := evT (cutE e n)) (vl_cons (vc_t rfl) (vl_cons (vc_t rfl) (vl_cons (vc_t rfl) (vl_cons (vc_t rfl) (vl_cons (vc_all (by simp) rfl (by intro h; cases h) rfl (congrArg toC e1) e5) (vl_cons (vc_t rfl) (vl_cons (vc_t rfl) (vl_cons (vc_t rfl) vl_nil)))))))),
          vs_t, vs_c (vc_all (by simp) rfl (by intro h; cases h) rfl (congrArg toC e2) e6), trivial⟩ rfl, ?_⟩
        conv => whnf
        (repeat' (first | ((refine DecB.mk (fun h => ?_) (fun h => ?_)) <;> first | (exfalso; omega) | (conv => whnf)) | ((refine BoolB.mk (fun h => ?_) (fun h => ?_)) <;> first | (exact absurd h (by decide)) | (conv => whnf)) | (refine ⟨_, wrap_ok (by omega) (by omega), ?_⟩; conv => whnf) | (refine and_idx (by omega) (by omega) ?_; conv => whnf) | (refine reg_ok (by decide +kernel) ?_; conv => whnf) | (refine bar_ok (by decide +kernel) (by decide +kernel) ?_; conv => whnf) | (refine late_ok rfl rfl ?_; conv => whnf) | (refine src_ok rfl ?_; conv => whnf) | (refine .inl ⟨_, _, qcall_pure (0) rfl rfl, ?_⟩; conv => whnf) | (refine bar_late [0] (by decide +kernel) (by decide +kernel) ?_; conv => whnf) | (refine LitB.data ?_; conv => whnf)))
        refine awp_for tab_ok (fun j => ([S.junk, S.junk, S.junk, S.junk, intS .i64 n, S.junk, S.junk, S.junk, S.junk, S.junk, S.junk, boolS true, S.junk, S.junk, intsS A, S.junk, S.junk, S.junk, S.junk, S.c (C.ptr 0 0 0), intsS C', S.junk, intS .i64 j, S.junk, S.junk, S.junk, S.junk, S.junk, S.junk, S.junk, S.junk, S.junk, S.junk, S.junk, S.junk, S.junk, S.junk, S.junk, S.junk, S.junk, S.junk, S.junk, S.junk, S.junk, S.junk, S.junk, S.junk, S.junk, S.junk, S.junk, S.junk, S.junk, S.junk, S.junk, S.junk, S.junk, S.junk, S.junk, S.junk, S.junk, S.junk, S.junk, S.junk, S.junk, S.junk, S.junk, S.junk, S.junk, S.junk, S.junk, S.junk, S.junk, S.junk, S.junk, S.junk, S.junk, S.junk, S.junk, S.junk, S.junk, S.junk, S.junk, S.junk, S.junk, S.junk, S.junk, S.junk, S.junk, S.junk, S.junk, S.junk, S.junk, S.junk, S.junk, S.junk, S.junk, S.junk, S.junk, S.junk, S.junk, S.junk, S.junk, S.junk, S.junk, S.junk, S.junk, S.junk, S.junk, S.junk, S.junk, S.junk, S.junk, S.junk, S.junk, S.junk, S.junk, S.junk, S.junk, S.junk, S.junk, S.junk, S.junk, S.junk, S.junk, S.junk, S.junk, S.junk, S.junk, S.junk, S.junk, S.junk, S.junk, S.junk, S.junk, S.junk, S.junk, S.junk, S.junk, S.junk, S.junk, S.junk, S.junk, S.junk, S.junk, S.junk, S.junk, S.junk, S.junk, S.junk, S.junk, S.junk, S.junk, S.junk, S.junk, S.junk, S.junk, S.junk, S.junk, S.junk], [evB (cutE e n)])) n (fun k => True) [some 1] trivial
          ⟨rfl, rfl, ⟨⟨rfl, rfl, rfl, .inr ⟨⟨rfl, rfl, rfl, rfl, entC_view rfl rfl (by intro h; cases h) rfl (congrArg toC e1) e5, rfl, rfl, rfl, trivial⟩, trivial⟩⟩, trivial⟩, ⟨rfl, rfl, rfl, ⟨rfl, rfl, rfl⟩, ent_t (by rw [← hC]), rfl, trivial⟩⟩ ?_
        intro j hj hI3
        have l7 : ((cutE e n).moves.map Move.row).length = n := by simp [e3]
        conv => whnf
        (repeat' (first | ((refine DecB.mk (fun h => ?_) (fun h => ?_)) <;> first | (exfalso; omega) | (conv => whnf)) | ((refine BoolB.mk (fun h => ?_) (fun h => ?_)) <;> first | (exact absurd h (by decide)) | (conv => whnf)) | (refine ⟨_, wrap_ok (by omega) (by omega), ?_⟩; conv => whnf) | (refine and_idx (by omega) (by omega) ?_; conv => whnf) | (refine reg_ok (by decide +kernel) ?_; conv => whnf) | (refine bar_ok (by decide +kernel) (by decide +kernel) ?_; conv => whnf) | (refine late_ok rfl rfl ?_; conv => whnf) | (refine src_ok rfl ?_; conv => whnf) | (refine LitB.data ?_; conv => whnf)))
        · have hjn : j < n := by omega
          have ch1 := a_Has24 A (j : Int) kA
          have ch2 := a_Has24 C' (j : Int) kC
          have hv : (C'.any fun x => decide (x = (j : Int))) = (A.any fun x => decide (x = (j : Int))) := by rw [Bool.eq_iff_iff, any_iff, any_iff]; exact (hAC j hjn).symm
          rw [hv] at ch2
          cases hb : (A.any fun x => decide (x = (j : Int))) with
          | _ =>
            rw [hb] at ch1 ch2
            (repeat' (first | ((refine DecB.mk (fun h => ?_) (fun h => ?_)) <;> first | (exfalso; omega) | (conv => whnf)) | ((refine BoolB.mk (fun h => ?_) (fun h => ?_)) <;> first | (exact absurd h (by decide)) | (conv => whnf)) | (refine ⟨_, wrap_ok (by omega) (by omega), ?_⟩; conv => whnf) | (refine and_idx (by omega) (by omega) ?_; conv => whnf) | (refine reg_ok (by decide +kernel) ?_; conv => whnf) | (refine bar_ok (by decide +kernel) (by decide +kernel) ?_; conv => whnf) | (refine late_ok rfl rfl ?_; conv => whnf) | (refine src_ok rfl ?_; conv => whnf) | (refine .inl ⟨_, _, qcall_pure (ch1) rfl rfl, ?_⟩; conv => whnf) | (refine .inl ⟨_, _, qcall_pure (ch2) rfl rfl, ?_⟩; conv => whnf) | (refine LitB.data ?_; conv => whnf)))
            all_goals first
              | exact ⟨hjn, trivial, [some 0], rfl, rfl, ⟨⟨rfl, rfl, rfl, .inl ⟨rfl, rowsT_ev _⟩⟩, trivial⟩, ⟨rfl, rfl, rfl, ⟨rfl, rfl, rfl⟩, rfl, rfl, trivial⟩⟩
              | (exfalso; simp_all; done)
        · (repeat' (first | ((refine DecB.mk (fun h => ?_) (fun h => ?_)) <;> first | (exfalso; omega) | (conv => whnf)) | ((refine BoolB.mk (fun h => ?_) (fun h => ?_)) <;> first | (exact absurd h (by decide)) | (conv => whnf)) | (refine ⟨_, wrap_ok (by omega) (by omega), ?_⟩; conv => whnf) | (refine and_idx (by omega) (by omega) ?_; conv => whnf) | (refine reg_ok (by decide +kernel) ?_; conv => whnf) | (refine bar_ok (by decide +kernel) (by decide +kernel) ?_; conv => whnf) | (refine late_ok rfl rfl ?_; conv => whnf) | (refine src_ok rfl ?_; conv => whnf) | (refine .inl ⟨_, _, qcall_pure (cc) rfl rfl, ?_⟩; conv => whnf) | (refine LitB.data ?_; conv => whnf)))
          all_goals first | exact fin_bool rfl | (exfalso; simp_all; done)
end Go.Proofs.Ythjgbjakpbfnoaa
/- Laws on appending to a slice that the call itself made, in the form that my walks use. Over any program. -/
namespace Go.Proofs.Ythjgbjakpbfnoaa
open Go.RowKit

/-- what an append leaves of older worlds -/
def Later (base : Nat) (w w' : World) : Prop := w.heap.size ≤ w'.heap.size ∧ ∀ (w0 : World) (B : Nat), Below B w0 w → B ≤ base → Below B w0 w'
theorem Later.below {base B : Nat} {w w' w0 : World} (h : Later base w w') (hb : Below B w0 w) (hB : B ≤ base) : Below B w0 w' := h.2 w0 B hb hB
theorem Later.size {base : Nat} {w w' : World} (h : Later base w w') : w.heap.size ≤ w'.heap.size := h.1

/-- 'append(s, x)': one element, s of the call's own -/
theorem wpList_app1 {P : Program} {w : World} {ops : Array Oper} {rest : List Oper} {o : Oper} {a : Act} {Q : Exit → Act → World → Prop} (hgd : o.guard = none) (s x : Operand) (t e : TypeId)
    (ho : o.op = .call { callee := .builtin .append, args := #[s, x], argTypes := #[t, t] })
    {z : Value} {size bytes : Nat} (ht : P.underlying t = some (.slice e)) (hinfo : (P.info? e).map (fun i => (i.zero, i.size, i.bytes)) = some (some z, size, bytes)) (hzs : z.cells.size = size) (hsz : 0 < size) (hby : bytes ≤ 1000)
    {base : Nat} {v : Value} {n : Nat} {xs : List Value} (hown : w.ownsRow base e size v n xs) (hs : a.eval s = v)
    {us : Array Value} (hus : us.size = size) (h1 : ∀ u ∈ us.toList, u.oneCell' = true) (hx : a.eval x = .slice (some ⟨w.heap.size, 0, none⟩) 1 1) (hbase : base ≤ w.heap.size) (hn : n ≤ 100000000)
    (h : ∀ v' w', w'.ownsRow base e size v' (n + 1) (xs ++ us.toList) → Later base w w' → v' ≠ .slice none 0 0 → wpList P ops Q rest (a.put o.dst v') w') :
    wpList P ops Q (o :: rest) a (w.alloc (.cells us e)) := by
  obtain ⟨i0, hi, hz0, hz1, hz2⟩ := info_parts hinfo
  refine wpList_append_own _ hgd s x t ho base e i0 z size bytes ht hi hz0 hz1 hz2 hzs hsz v n xs hs (hown.alloc _) ⟨w.heap.size, 0, none⟩ 1 1 us.toList hx ?_ ?_ h1 ?_ ?_ ?_ ?_
  · simp [hus]
  · intro j u hj
    have hadd : (⟨w.heap.size, 0, none⟩ : Addr).add j = ⟨w.heap.size, j, none⟩ := by unfold Addr.add; split <;> simp_all
    rw [hadd, cell_of_row _ _ j us e (0, 0) (heap_alloc_new w _)]
    simpa using hj
  · unfold maxLen; omega
  · have : (n + 1) * bytes ≤ 100000001 * 1000 := Nat.mul_le_mul (by omega) hby
    omega
  · simp; omega
  · intro v' w' hown' hgrow hne
    refine h v' w' hown' ⟨?_, ?_⟩ (fun e => by simp [e] at hne)
    · have := hgrow.size; simp at this; omega
    · intro w0 B hb hB
      refine (hb.alloc (by omega) _).grown hgrow (by simp; omega) ?_
      intro k hk
      have := hown.lt k hk
      omega

theorem quiet_left {P : Program} {f : FuncId} {args : Array Value} {w : World} {n : Nat} {v : Value}
    (h : Calls P f args (w.drewN n) fun e w' => e = .returned v ∧ w.drewN n = w') : Calls P f args (w.drewN n) fun e w'' => e = .returned v ∧ ∃ m, w'' = w.drewN m :=
  h.mono fun _ _ ⟨he, hm⟩ => ⟨he, n, hm.symm⟩
theorem quiet_add_left {P : Program} {f : FuncId} {args : Array Value} {w : World} {a n : Nat} {v : Value}
    (h : Calls P f args (w.drewN (a + n)) fun e w' => e = .returned v ∧ w.drewN (a + n) = w') : Calls P f args (w.drewN (a + n)) fun e w'' => e = .returned v ∧ ∃ m, w'' = w.drewN (a + m) :=
  h.mono fun _ _ ⟨he, hm⟩ => ⟨he, n, hm.symm⟩
theorem below_drewN {B : Nat} {a w : World} (h : Below B a w) (n : Nat) : Below B a (w.drewN n) := ⟨h.os, h.tape, h.output, h.size, h.block⟩

end Go.Proofs.Ythjgbjakpbfnoaa
/- More words on memory: boxes of evidence; an append whose value is written out. -/
namespace Go.Proofs.Ythjgbjakpbfnoaa
open Go.RowKit

/-- 'append(s, x)': one element, s of the call's own; the new slice written out -/
theorem wpList_app1s {P : Program} {w : World} {ops : Array Oper} {rest : List Oper} {o : Oper} {a : Act} {Q : Exit → Act → World → Prop} (hgd : o.guard = none) (s x : Operand) (t e : TypeId)
    (ho : o.op = .call { callee := .builtin .append, args := #[s, x], argTypes := #[t, t] })
    {z : Value} {size bytes : Nat} (ht : P.underlying t = some (.slice e)) (hinfo : (P.info? e).map (fun i => (i.zero, i.size, i.bytes)) = some (some z, size, bytes)) (hzs : z.cells.size = size) (hsz : 0 < size) (hby : bytes ≤ 1000)
    {base : Nat} {v : Value} {n : Nat} {xs : List Value} (hown : w.ownsRow base e size v n xs) (hs : a.eval s = v)
    {us : Array Value} (hus : us.size = size) (h1 : ∀ u ∈ us.toList, u.oneCell' = true) {b0 : Nat} (hx : a.eval x = .slice (some ⟨b0, 0, none⟩) 1 1) (hb0 : b0 = w.heap.size) (hbase : base ≤ w.heap.size) (hn : n ≤ 100000000)
    (h : ∀ g cap w', w'.ownsRow base e size (.slice (some ⟨g, 0, none⟩) (n + 1) cap) (n + 1) (xs ++ us.toList) → (∀ b, b < w.heap.size → some b ≠ v.ownBlock → w'.heap[b]? = w.heap[b]?) → Later base w w' → base ≤ g → g < w'.heap.size → wpList P ops Q rest (a.put o.dst (.slice (some ⟨g, 0, none⟩) (n + 1) cap)) w') :
    wpList P ops Q (o :: rest) a (w.alloc (.cells us e)) := by
  subst hb0
  obtain ⟨i0, hi, hz0, hz1, hz2⟩ := info_parts hinfo
  refine wpList_append_own _ hgd s x t ho base e i0 z size bytes ht hi hz0 hz1 hz2 hzs hsz v n xs hs (hown.alloc _) ⟨w.heap.size, 0, none⟩ 1 1 us.toList hx ?_ ?_ h1 ?_ ?_ ?_ ?_
  · simp [hus]
  · intro j u hj
    have hadd : (⟨w.heap.size, 0, none⟩ : Addr).add j = ⟨w.heap.size, j, none⟩ := by unfold Addr.add; split <;> simp_all
    rw [hadd, cell_of_row _ _ j us e (0, 0) (heap_alloc_new w _)]
    simpa using hj
  · unfold maxLen; omega
  · have : (n + 1) * bytes ≤ 100000001 * 1000 := Nat.mul_le_mul (by omega) hby
    omega
  · simp; omega
  · intro v' w' hown' hgrow hne
    obtain ⟨g, cap, hv, hb, hlt⟩ := hown'.form (by omega)
    subst hv
    refine h g cap w' hown' ?_ ⟨?_, ?_⟩ hb hlt
    · intro b hlb hne2
      exact (hgrow.block b (by simp; omega) hne2).trans (Below.heap_alloc w _ b hlb)
    · have := hgrow.size; simp at this; omega
    · intro w0 B hb0 hB
      refine (hb0.alloc (by omega) _).grown hgrow (by simp; omega) ?_
      intro k hk
      have := hown.lt k hk
      omega

/-- Block b holds evidence of these parts. -/
structure EvBox (w : World) (b : Nat) (m h s : Int) (A1 : Option Addr) (n1 c1 : Nat) (A2 : Option Addr) (n2 c2 : Nat) (A3 : Option Addr) (n3 c3 : Nat) (A4 : Option Addr) (n4 c4 : Nat) (A5 : Option Addr) (n5 c5 : Nat) : Prop where
  b0 : w.cell? ⟨b, 0, none⟩ = some (vi m)
  b1 : w.cell? ⟨b, 1, none⟩ = some (vi h)
  b2 : w.cell? ⟨b, 2, none⟩ = some (vi s)
  b3 : w.cell? ⟨b, 3, none⟩ = some (.slice A1 n1 c1)
  b4 : w.cell? ⟨b, 4, none⟩ = some (.slice A2 n2 c2)
  b5 : w.cell? ⟨b, 5, none⟩ = some (.slice A3 n3 c3)
  b6 : w.cell? ⟨b, 6, none⟩ = some (.slice A4 n4 c4)
  b7 : w.cell? ⟨b, 7, none⟩ = some (.slice A5 n5 c5)
section
variable {w w' : World} {b : Nat} {m h s : Int} {A1 A2 A3 A4 A5 : Option Addr} {n1 n2 n3 n4 n5 c1 c2 c3 c4 c5 : Nat}
theorem EvBox.lt (h0 : EvBox w b m h s A1 n1 c1 A2 n2 c2 A3 n3 c3 A4 n4 c4 A5 n5 c5) : b < w.heap.size := lt_of_cell h0.b0
theorem EvBox.keep {B : Nat} (h0 : EvBox w b m h s A1 n1 c1 A2 n2 c2 A3 n3 c3 A4 n4 c4 A5 n5 c5) (hb : Below B w w') (hB : b < B) : EvBox w' b m h s A1 n1 c1 A2 n2 c2 A3 n3 c3 A4 n4 c4 A5 n5 c5 :=
  ⟨(hb.cell (p := ⟨b, 0, none⟩) hB).trans h0.b0, (hb.cell (p := ⟨b, 1, none⟩) hB).trans h0.b1, (hb.cell (p := ⟨b, 2, none⟩) hB).trans h0.b2, (hb.cell (p := ⟨b, 3, none⟩) hB).trans h0.b3,
   (hb.cell (p := ⟨b, 4, none⟩) hB).trans h0.b4, (hb.cell (p := ⟨b, 5, none⟩) hB).trans h0.b5, (hb.cell (p := ⟨b, 6, none⟩) hB).trans h0.b6, (hb.cell (p := ⟨b, 7, none⟩) hB).trans h0.b7⟩
theorem EvBox.later (h0 : EvBox w b m h s A1 n1 c1 A2 n2 c2 A3 n3 c3 A4 n4 c4 A5 n5 c5) (hb : Below w.heap.size w w') : EvBox w' b m h s A1 n1 c1 A2 n2 c2 A3 n3 c3 A4 n4 c4 A5 n5 c5 := h0.keep hb h0.lt
theorem EvBox.new (w : World) (m h s : Int) (A1 : Option Addr) (n1 c1 : Nat) (A2 : Option Addr) (n2 c2 : Nat) (A3 : Option Addr) (n3 c3 : Nat) (A4 : Option Addr) (n4 c4 : Nat) (A5 : Option Addr) (n5 c5 : Nat) (t : TypeId) :
    EvBox (w.alloc (.cells #[.int .i64 m, .int .i64 h, .int .i64 s, .slice A1 n1 c1, .slice A2 n2 c2, .slice A3 n3 c3, .slice A4 n4 c4, .slice A5 n5 c5] t)) w.heap.size m h s A1 n1 c1 A2 n2 c2 A3 n3 c3 A4 n4 c4 A5 n5 c5 := by
  have hc := fun i => cell_of_row (w.alloc (.cells #[.int .i64 m, .int .i64 h, .int .i64 s, .slice A1 n1 c1, .slice A2 n2 c2, .slice A3 n3 c3, .slice A4 n4 c4, .slice A5 n5 c5] t)) w.heap.size i _ t (0, 0) (heap_alloc_new w _)
  exact ⟨hc 0, hc 1, hc 2, hc 3, hc 4, hc 5, hc 6, hc 7⟩
end
/-- a block known whole reads as a list -/
theorem Rd.of_block {α : Type} {k : Nat} {f : α → List Value} {w : World} {g : Nat} {cs : Array Value} {t : TypeId} {xs : List α} {n : Nat} (hk : ∀ x, (f x).length = k) (h : w.heap[g]? = some (.cells cs t (0, 0))) (hn : n = xs.length) (hcs : cs.toList = xs.flatMap f) :
    Rd k f w (some ⟨g, 0, none⟩) n xs := by
  refine ⟨hn, fun _ => ⟨g, 0, rfl, fun i x hx j u hu => ?_⟩⟩
  rw [cell_of_row w g _ cs t (0, 0) h]
  have := flat_at hk xs i x hx j u hu
  rw [← hcs] at this
  simpa using this
theorem own_of_block {w : World} {base g : Nat} {cs : Array Value} {t : TypeId} {size n : Nat} (hb : base ≤ g) (h : w.heap[g]? = some (.cells cs t (0, 0))) (hcs : cs.size = n * size) (hn : n ≤ maxLen) :
    w.ownsRow base t size (.slice (some ⟨g, 0, none⟩) n n) n cs.toList :=
  ⟨by simp [hcs], .inr ⟨g, n, cs, rfl, hb, h, Nat.le_refl _, hn, hcs, by rw [List.take_of_length_le (by simp [hcs])]⟩⟩
theorem heap_a3 (w : World) (o o2 o3 : Obj) : (((w.alloc o).alloc o2).alloc o3).heap[w.heap.size + 2]? = some o3 := by
  have := heap_alloc_new ((w.alloc o).alloc o2) o3
  rwa [size_a, size_a] at this
theorem heap_a1 (w : World) (o : Obj) : (w.alloc o).heap[w.heap.size]? = some o := heap_alloc_new w o
theorem heap_later (w : World) (o : Obj) {g : Nat} {x : Obj} (h : w.heap[g]? = some x) : (w.alloc o).heap[g]? = some x :=
  (Below.heap_alloc w o g (Array.getElem?_eq_some_iff.1 h).1).trans h

theorem blk_lt {w : World} {g : Nat} {o : Obj} (h : w.heap[g]? = some o) : g < w.heap.size := (Array.getElem?_eq_some_iff.1 h).1
theorem blk_cell {w : World} {g : Nat} {cs : Array Value} {t : TypeId} (h : w.heap[g]? = some (.cells cs t (0, 0))) (i : Nat) : w.cell? ⟨g, i, none⟩ = cs[i]? := cell_of_row w g i cs t (0, 0) h
theorem blk_frozen {w : World} {g : Nat} {cs : Array Value} {t : TypeId} (h : w.heap[g]? = some (.cells cs t (0, 0))) (i : Nat) : w.frozen? ⟨g, i, none⟩ = false := by simp [World.frozen?, h]
theorem blk_set {w : World} {g : Nat} {cs : Array Value} {t : TypeId} (h : w.heap[g]? = some (.cells cs t (0, 0))) (i : Nat) (u : Value) : (w.setCell ⟨g, i, none⟩ u).heap[g]? = some (.cells (cs.setIfInBounds i u) t (0, 0)) := by
  simp [World.setCell, Array.getElem?_modify, h]
theorem blk_far {w : World} {g b i : Nat} {o : Obj} (h : w.heap[g]? = some o) (hne : g ≠ b) (u : Value) : (w.setCell ⟨b, i, none⟩ u).heap[g]? = some o := (Below.heap_setCell w ⟨b, i, none⟩ u g hne).trans h
theorem blk_later {w w' : World} {g : Nat} {o : Obj} (h : w.heap[g]? = some o) (hb : Below w.heap.size w w') : w'.heap[g]? = some o := (hb.block g (blk_lt h)).trans h
theorem size_set (w : World) (p : Addr) (u : Value) : (w.setCell p u).heap.size = w.heap.size := by simp [World.setCell]
theorem own_set {w : World} {base : Nat} {e : TypeId} {size : Nat} {v : Value} {n b i : Nat} {xs : List Value} (h : w.ownsRow base e size v n xs) (hne : v.ownBlock ≠ some b) (u : Value) : (w.setCell ⟨b, i, none⟩ u).ownsRow base e size v n xs := by
  refine ⟨h.1, ?_⟩
  rcases h.2 with hn | ⟨g, cap, cur, rfl, hb0, hgg, rest⟩
  · exact .inl hn
  · exact .inr ⟨g, cap, cur, rfl, hb0, blk_far hgg (by simpa [Value.ownBlock] using hne) u, rest⟩
theorem own_ne {w : World} {base : Nat} {e t : TypeId} {size : Nat} {v : Value} {n b : Nat} {xs : List Value} {cs : Array Value} (h : w.ownsRow base e size v n xs) (hb : w.heap[b]? = some (.cells cs t (0, 0))) (hne : e ≠ t) : v.ownBlock ≠ some b := by
  rcases h.2 with ⟨rfl, _⟩ | ⟨g, cap, cur, rfl, hb0, hgg, rest⟩
  · simp [Value.ownBlock]
  · intro e1
    simp [Value.ownBlock] at e1
    subst e1
    rw [hgg] at hb
    injection hb with hb
    injection hb with _ hb
    exact hne hb
theorem EvBox.of_blk {w : World} {b : Nat} {m h s : Int} {A1 A2 A3 A4 A5 : Option Addr} {n1 n2 n3 n4 n5 c1 c2 c3 c4 c5 : Nat} {t : TypeId} (hb : w.heap[b]? = some (.cells #[.int .i64 m, .int .i64 h, .int .i64 s, .slice A1 n1 c1, .slice A2 n2 c2, .slice A3 n3 c3, .slice A4 n4 c4, .slice A5 n5 c5] t (0, 0))) :
    EvBox w b m h s A1 n1 c1 A2 n2 c2 A3 n3 c3 A4 n4 c4 A5 n5 c5 :=
  ⟨blk_cell hb 0, blk_cell hb 1, blk_cell hb 2, blk_cell hb 3, blk_cell hb 4, blk_cell hb 5, blk_cell hb 6, blk_cell hb 7⟩

end Go.Proofs.Ythjgbjakpbfnoaa
/- From a walk to a row: every law of the seat is closed by these, over any program. And: arguments opened to cells. -/
namespace Go.Proofs.Ythjgbjakpbfnoaa
open Go.RowKit Go.ChangeShapes Go.WideShapes Go.Deep

section
variable {H : Type} {enc : TypeId × Value → H} {P : Program}
theorem trodAll_stays (hl : laidOutB P = true) {W W' : World} {sp : Nat → Bool} : ∀ {ts : List TypeId} {vs : List Value} {ds : List (DataW H)} {ps : List MemPlace}, (∀ t ∈ ts, P.readableRec t = true ∧ t < P.types.size) →
    DataW.TrodAll enc P W 0 (fun _ => true) true ts vs ds ps → (∀ p ∈ ps, W.sameAt W' p) → (∀ p ∈ ps, sp p.block = true) → DataW.TrodAll enc P W' 0 sp true ts vs ds ps := by
  intro ts
  induction ts with
  | nil =>
    intro vs ds ps _ h _ _
    obtain ⟨rfl, rfl, rfl⟩ := trodAll_nil h
    exact trodAll_mk0
  | cons t ts ih =>
    intro vs ds ps hr h hsame hs
    obtain ⟨v, vs', d, ds', p, q, rfl, rfl, rfl, h1, h2⟩ := trodAll_cons h
    obtain ⟨ht, hlt⟩ := hr t (by simp)
    exact trodAll_cons_mk (WideElems.Trod_stays hl ht hlt h1 (fun x hx => hsame x (by simp [hx])) (fun x hx => hs x (by simp [hx]))) (ih (fun t ht => hr t (by simp [ht])) h2 (fun x hx => hsame x (by simp [hx])) (fun x hx => hs x (by simp [hx])))

/-- A law's post: it returned true, and old memory is as it was. -/
theorem law_post {f : Func} {s : ChangeSpec} {fresh handsOn : Bool} {W W' : World} {args : Array Value} {ds gs : List (DataW H)} {before : List MemPlace} {tb : TypeId}
    (hW : DataW.Whole enc P f.params.toList s.vars false W args.toList ds gs before) (hl : laidOutB P = true) (hr : ∀ t ∈ f.params.toList, P.readableRec t = true ∧ t < P.types.size) (hv : s.vars = [])
    (hfn : s.fn H (ds ++ gs) = { results := [.lit (.bool true)], args := ds }) (hres : f.resultTypes = #[tb]) (hbool : P.underlying tb = some .bool) (hb : Below W.heap.size W W') :
    s.post enc P f false fresh handsOn false W args (.bool true) W' := by
  have hW' := hW
  obtain ⟨p, q, hA, hV, rfl, hfz, hnd⟩ := hW
  rw [hv] at hV
  obtain ⟨rfl, rfl⟩ := trodVars_none hV
  have hlt : ∀ x ∈ p, x.block < W.heap.size := fun x hx => by have := hW'.lt x (by simpa using hx); simpa using this
  refine ⟨ds, [], p ++ [], [], p, [], hW', ?_, ?_, ?_, hb.frame _, fun h => by cases h⟩
  · rw [hfn, hres]
    exact trodAll_mk1 (shut_bool hbool true)
  · rw [hfn]
    exact trodAll_stays hl hr hA (fun x hx => hb.same (hlt x hx)) (fun x hx => by simpa using hlt x hx)
  · rw [hv, hfn]
    exact rfl

/-- lists out of cells that can be read one by one -/
theorem Rd.of_each {α : Type} {k : Nat} {f : α → List Value} {w : World} {b off : Nat} : ∀ (n : Nat), (∀ i, i < n → ∃ x : α, ∀ j u, (f x)[j]? = some u → w.cell? ⟨b, off + (i * k + j), none⟩ = some u) → ∃ xs, Rd k f w (some ⟨b, off, none⟩) n xs := by
  intro n
  induction n with
  | zero => intro _; exact ⟨[], Rd.nil _⟩
  | succ n ih =>
    intro h
    obtain ⟨xs, hx⟩ := ih (fun i hi => h i (by omega))
    obtain ⟨x, hxn⟩ := h n (by omega)
    have hl := hx.len
    refine ⟨xs ++ [x], by simp [← hl], fun _ => ⟨b, off, rfl, fun i y hy j u hu => ?_⟩⟩
    by_cases hi : i < xs.length
    · rw [List.getElem?_append_left hi] at hy
      obtain ⟨b', off', e, hc⟩ := hx.2 (by omega)
      injection e with e
      injection e with e1 e2
      subst e1 e2
      exact hc i y hy j u hu
    · have hi2 : i = n := by
        have := (List.getElem?_eq_some_iff.1 hy).1
        simp at this
        omega
      subst hi2
      have hy2 : x = y := by
        rw [List.getElem?_append_right (by omega), ← hl] at hy
        simpa using hy
      subst hy2
      exact hxn j u hu

variable {w : World} {base : Nat} {spare : Nat → Bool} {held : Bool}
/-- a slice of structs whose fields are one cell each -/
theorem open_structs {α : Type} (f : α → List Value) {t e : TypeId} {fs : Array Field} {fuel : Nat} {v : Value} {x : DataW H × List MemPlace} (ht : P.underlying t = some (.slice e)) (he : P.underlying e = some (.struct fs))
    (hone : oneCellFields P fs = true) (hC : P.cellsOf e = fs.size) (hpos : 0 < fs.size)
    (hdec : ∀ vs : Nat → Value, (∀ j fld, fs[j]? = some fld → ∃ y n, DataW.trod enc P w base spare held n fld.type [vs j] = some y) → ∃ x : α, ∀ j u, (f x)[j]? = some u → vs j = u ∧ j < fs.size)
    (h : DataW.trod enc P w base spare held fuel t [v] = some x) : ∃ A n c xs, v = .slice A n c ∧ Rd fs.size f w A n xs ∧ n ≤ c ∧ c ≤ maxLen := by
  rcases open_slice ht h with ⟨h0, _⟩ | ⟨a, len, cap, m, n, D, Pl, hcs, hb, hl, hm, hmm, hx, hi⟩
  · injection h0 with h0
    exact ⟨none, 0, 0, [], h0, Rd.nil _, Nat.le_refl _, by unfold maxLen; omega⟩
  · injection hcs with hv
    by_cases hz : len = 0
    · subst hz
      exact ⟨some a, 0, cap, [], hv, Rd.nil _, hl, hm⟩
    have hlm : len ≤ m := by rw [hmm]; split <;> omega
    have key : ∀ i, i < m → ∀ j fld, fs[j]? = some fld → ∃ u y n, w.cell? (a.add (i * fs.size + j)) = some u ∧ DataW.trod enc P w base spare held n fld.type [u] = some y := by
      intro i him j fld hj
      obtain ⟨cs', hc, ht'⟩ := hi i him
      rw [hC] at hc
      obtain ⟨ys, n', hn', hy, hlen, hyl, hf⟩ := DataW.trod_struct he ht'
      obtain ⟨_, hcl, hat⟩ := World.cells?_some hc
      obtain ⟨ho, hk⟩ := hone_of hone j fld hj
      have hjl : j < fs.size := (Array.getElem?_eq_some_iff.1 hj).1
      have hcell := hat j hjl
      have hv : cs'[j]? = some (cs'[j]'(by omega)) := List.getElem?_eq_getElem (by omega)
      have h1 := hf j fld hj
      rw [ho, hk] at h1
      have hone' : (cs'.drop j).take 1 = [cs'[j]'(by omega)] := by
        rw [List.drop_eq_getElem_cons (by omega)]
        rfl
      rw [hone'] at h1
      have hys : ys[j]? = some (ys[j]'(by omega)) := List.getElem?_eq_getElem (by omega)
      exact ⟨_, _, _, by rw [← Go.Deep.add_add, hcell, hv], h1.trans hys⟩
    obtain ⟨f0, hf0⟩ : ∃ f0, fs[0]? = some f0 := ⟨_, Array.getElem?_eq_getElem hpos⟩
    obtain ⟨u0, _, _, hu0, _⟩ := key 0 (by omega) 0 f0 hf0
    have hspot : a.spot = none := by
      have := World.cell?_spot hu0
      simpa [Addr.add] using this
    obtain ⟨b, off, sp⟩ := a
    simp only at hspot
    subst hspot
    have hadd : ∀ k, (⟨b, off, none⟩ : Addr).add k = ⟨b, off + k, none⟩ := by
      intro k
      unfold Addr.add
      split
      · subst_vars; rfl
      · rfl
    obtain ⟨xs, hxs⟩ := Rd.of_each (k := fs.size) (f := f) (w := w) (b := b) (off := off) len (fun i hil => by
      have hsel : ∀ j, ∃ u, ∀ fld, fs[j]? = some fld → w.cell? ⟨b, off + (i * fs.size + j), none⟩ = some u ∧ ∃ y n, DataW.trod enc P w base spare held n fld.type [u] = some y := by
        intro j
        by_cases hj : j < fs.size
        · obtain ⟨u, y, n, hu, hy⟩ := key i (by omega) j fs[j] (Array.getElem?_eq_getElem hj)
          rw [hadd] at hu
          refine ⟨u, fun fld hfld => ?_⟩
          rw [Array.getElem?_eq_getElem hj] at hfld
          injection hfld with hfld
          subst hfld
          exact ⟨hu, y, n, hy⟩
        · exact ⟨.nilFunc, fun fld hfld => absurd (Array.getElem?_eq_some_iff.1 hfld).1 hj⟩
      let vs : Nat → Value := fun j => Classical.choose (hsel j)
      obtain ⟨x, hx⟩ := hdec vs (fun j fld hj => (Classical.choose_spec (hsel j) fld hj).2)
      refine ⟨x, fun j u hu => ?_⟩
      obtain ⟨hvu, hjl⟩ := hx j u hu
      rw [← hvu]
      exact (Classical.choose_spec (hsel j) fs[j] (Array.getElem?_eq_getElem hjl)).1)
    exact ⟨_, len, cap, xs, hv, hxs, hl, hm⟩
/-- a slice whose elements are one cell each -/
theorem open_ones {α : Type} (f : α → Value) {t e : TypeId} {fuel : Nat} {v : Value} {x : DataW H × List MemPlace} (ht : P.underlying t = some (.slice e)) (hC : P.cellsOf e = 1)
    (hdec : ∀ (u : Value) y n, DataW.trod enc P w base spare held n e [u] = some y → ∃ x : α, u = f x)
    (h : DataW.trod enc P w base spare held fuel t [v] = some x) : ∃ A n c xs, v = .slice A n c ∧ Rd 1 (fun x => [f x]) w A n xs ∧ n ≤ c ∧ c ≤ maxLen := by
  rcases open_slice ht h with ⟨h0, _⟩ | ⟨a, len, cap, m, n, D, Pl, hcs, hb, hl, hm, hmm, hx, hi⟩
  · injection h0 with h0
    exact ⟨none, 0, 0, [], h0, Rd.nil _, Nat.le_refl _, by unfold maxLen; omega⟩
  · injection hcs with hv
    by_cases hz : len = 0
    · subst hz
      exact ⟨some a, 0, cap, [], hv, Rd.nil _, hl, hm⟩
    have hlm : len ≤ m := by rw [hmm]; split <;> omega
    have key : ∀ i, i < m → ∃ x : α, w.cell? (a.add i) = some (f x) := by
      intro i him
      obtain ⟨cs', hc, ht'⟩ := hi i him
      rw [hC, Nat.mul_one] at hc
      obtain ⟨_, hcl, hat⟩ := World.cells?_some hc
      match cs', hcl with
      | [u], _ =>
        obtain ⟨x, rfl⟩ := hdec u _ _ ht'
        exact ⟨x, by have := hat 0 (by omega); rw [Go.Deep.add_add, Nat.add_zero] at this; simpa using this⟩
    obtain ⟨x0, hu0⟩ := key 0 (by omega)
    have hspot : a.spot = none := by
      have := World.cell?_spot hu0
      simpa [Addr.add] using this
    obtain ⟨b, off, sp⟩ := a
    simp only at hspot
    subst hspot
    have hadd : ∀ k, (⟨b, off, none⟩ : Addr).add k = ⟨b, off + k, none⟩ := by
      intro k
      unfold Addr.add
      split
      · subst_vars; rfl
      · rfl
    obtain ⟨xs, hxs⟩ := Rd.of_each (k := 1) (f := fun x => [f x]) (w := w) (b := b) (off := off) len (fun i hil => by
      obtain ⟨x, hx⟩ := key i (by omega)
      rw [hadd] at hx
      refine ⟨x, fun j u hu => ?_⟩
      match j, hu with
      | 0, hu => simp at hu; subst hu; simpa using hx)
    exact ⟨_, len, cap, xs, hv, hxs, hl, hm⟩
end
end Go.Proofs.Ythjgbjakpbfnoaa
/- An argument 'e api.Evidence' opened to its parts. -/
namespace Go.Proofs.Ythjgbjakpbfnoaa
open Go.RowKit Go.ChangeShapes Go.WideShapes Go.Deep

section
variable {H : Type} {enc : TypeId × Value → H} {w : World} {base : Nat} {spare : Nat → Bool} {held : Bool}
theorem dec_int {k : TypeId} (hk : Try.prog.underlying k = some (.int .i64)) {u : Value} (h : ∃ y n, DataW.trod enc Try.prog w base spare held n k [u] = some y) : ∃ a : Int, u = .int .i64 a := by
  obtain ⟨y, n, h⟩ := h
  obtain ⟨a, e, _, _⟩ := DataW.trod_int hk h
  injection e with e
  exact ⟨a, e⟩
theorem dec_bool {k : TypeId} (hk : Try.prog.underlying k = some .bool) {u : Value} (h : ∃ y n, DataW.trod enc Try.prog w base spare held n k [u] = some y) : ∃ a : Bool, u = .bool a := by
  obtain ⟨y, n, h⟩ := h
  obtain ⟨a, e, _⟩ := DataW.trod_bool hk h
  injection e with e
  exact ⟨a, e⟩

theorem open_ev {r : Reach} {b0 : Nat} {v : Value} {d : DataW H} {p : List MemPlace} (hv : Value.okWide Try.prog w r b0 28 v) (h : DataW.Trod enc Try.prog w base spare held 28 v d p) :
    ∃ m h s A1 n1 c1 A2 n2 c2 A3 n3 c3 A4 n4 c4 A5 n5 c5 e, v = .agg #[.int .i64 m, .int .i64 h, .int .i64 s, .slice A1 n1 c1, .slice A2 n2 c2, .slice A3 n3 c3, .slice A4 n4 c4, .slice A5 n5 c5] ∧ EvR w m h s A1 n1 A2 n2 A3 n3 A4 n4 A5 n5 e ∧ n1 ≤ c1 ∧ n2 ≤ c2 ∧ n3 ≤ c3 ∧ n4 ≤ c4 ∧ n5 ≤ c5 ∧ c1 ≤ maxLen ∧ c2 ≤ maxLen ∧ c3 ≤ maxLen ∧ c4 ≤ maxLen ∧ c5 ≤ maxLen := by
  obtain ⟨fs, hs, hone, hC, hty⟩ : ∃ fs : Array Field, Try.prog.underlying 28 = some (.struct fs) ∧ oneCellFields Try.prog fs = true ∧ Try.prog.cellsOf 28 = 8 ∧ fs.map (·.type) = #[3, 3, 3, 22, 23, 24, 25, 26] :=
    ⟨_, Try.underlying28, by kernel_rfl, by kernel_rfl, by kernel_rfl⟩
  obtain ⟨cs, rfl, hsz⟩ := okWide_struct hs hv
  obtain ⟨l⟩ := cs
  obtain ⟨fuel, hf⟩ := h
  obtain ⟨xs, n, _, hx, _, hlen, hg⟩ := DataW.trod_struct hs hf
  have hl8 : l.length = 8 := by simpa [hC] using hsz
  have hfs : fs.size = 8 := by have := congrArg Array.size hty; simpa using this
  have hfld : ∀ j, j < 8 → ∃ u y m, l[j]? = some u ∧ DataW.trod enc Try.prog w base spare held m ((#[3, 3, 3, 22, 23, 24, 25, 26] : Array TypeId).getD j 0) [u] = some y := by
    intro j hj
    have hjf : fs[j]? = some (fs[j]'(by omega)) := Array.getElem?_eq_getElem (by omega)
    obtain ⟨ho, hk⟩ := hone_of hone j _ hjf
    have h1 := hg j _ hjf
    rw [ho, hk] at h1
    have hone' : ((Value.agg ⟨l⟩).cells.toList.drop j).take 1 = [l[j]'(by omega)] := by
      show (l.drop j).take 1 = _
      rw [List.drop_eq_getElem_cons (by omega)]
      rfl
    rw [hone'] at h1
    have hxl : j < xs.length := by omega
    rw [List.getElem?_eq_getElem hxl] at h1
    have htj : (#[3, 3, 3, 22, 23, 24, 25, 26] : Array TypeId).getD j 0 = (fs[j]'(by omega)).type := by
      rw [← hty, Array.getD_eq_getD_getElem?, Array.getElem?_map, hjf]
      rfl
    rw [htj]
    exact ⟨_, _, n, List.getElem?_eq_getElem (by omega), h1⟩
  match l, hl8 with
  | [v0, v1, v2, v3, v4, v5, v6, v7], _ =>
    obtain ⟨u0, y0, m0, e0, t0⟩ := hfld 0 (by omega)
    obtain ⟨u1, y1, m1, e1, t1⟩ := hfld 1 (by omega)
    obtain ⟨u2, y2, m2, e2, t2⟩ := hfld 2 (by omega)
    obtain ⟨u3, y3, m3, e3, t3⟩ := hfld 3 (by omega)
    obtain ⟨u4, y4, m4, e4, t4⟩ := hfld 4 (by omega)
    obtain ⟨u5, y5, m5, e5, t5⟩ := hfld 5 (by omega)
    obtain ⟨u6, y6, m6, e6, t6⟩ := hfld 6 (by omega)
    obtain ⟨u7, y7, m7, e7, t7⟩ := hfld 7 (by omega)
    simp at e0 e1 e2 e3 e4 e5 e6 e7
    subst e0 e1 e2 e3 e4 e5 e6 e7
    obtain ⟨a0, rfl⟩ := dec_int Try.underlying3 ⟨_, _, t0⟩
    obtain ⟨a1, rfl⟩ := dec_int Try.underlying3 ⟨_, _, t1⟩
    obtain ⟨a2, rfl⟩ := dec_int Try.underlying3 ⟨_, _, t2⟩
    obtain ⟨A1, n1, c1, ps, rfl, r1, l1, g1⟩ := open_structs Place.cells Try.underlying22 Try.underlying41 (by kernel_rfl) (by kernel_rfl) (by decide)
      (fun vs hd => by
        obtain ⟨b0, h0⟩ := dec_int Try.underlying3 (hd 0 _ rfl)
        obtain ⟨b1, h1⟩ := dec_int Try.underlying3 (hd 1 _ rfl)
        obtain ⟨b2, h2⟩ := dec_int Try.underlying3 (hd 2 _ rfl)
        refine ⟨⟨b0, b1, b2⟩, fun j u hu => ?_⟩
        match j, hu with
        | 0, hu => exact ⟨h0.trans (by simpa [Place.cells] using hu), by decide⟩
        | 1, hu => exact ⟨h1.trans (by simpa [Place.cells] using hu), by decide⟩
        | 2, hu => exact ⟨h2.trans (by simpa [Place.cells] using hu), by decide⟩
        | n + 3, hu => simp [Place.cells] at hu) t3
    obtain ⟨A2, n2, c2, ms, rfl, r2, l2, g2⟩ := open_structs Move.cells Try.underlying23 Try.underlying43 (by kernel_rfl) (by kernel_rfl) (by decide)
      (fun vs hd => by
        obtain ⟨b0, h0⟩ := dec_int Try.underlying3 (hd 0 _ rfl)
        obtain ⟨b1, h1⟩ := dec_int Try.underlying3 (hd 1 _ rfl)
        obtain ⟨b2, h2⟩ := dec_int Try.underlying3 (hd 2 _ rfl)
        obtain ⟨b3, h3⟩ := dec_int Try.underlying3 (hd 3 _ rfl)
        obtain ⟨b4, h4⟩ := dec_int Try.underlying3 (hd 4 _ rfl)
        obtain ⟨b5, h5⟩ := dec_bool Try.underlying4 (hd 5 _ rfl)
        refine ⟨⟨b0, b1, b2, b3, b4, b5⟩, fun j u hu => ?_⟩
        match j, hu with
        | 0, hu => exact ⟨h0.trans (by simpa [Move.cells] using hu), by decide⟩
        | 1, hu => exact ⟨h1.trans (by simpa [Move.cells] using hu), by decide⟩
        | 2, hu => exact ⟨h2.trans (by simpa [Move.cells] using hu), by decide⟩
        | 3, hu => exact ⟨h3.trans (by simpa [Move.cells] using hu), by decide⟩
        | 4, hu => exact ⟨h4.trans (by simpa [Move.cells] using hu), by decide⟩
        | 5, hu => exact ⟨h5.trans (by simpa [Move.cells] using hu), by decide⟩
        | n + 6, hu => simp [Move.cells] at hu) t4
    obtain ⟨A3, n3, c3, cts, rfl, r3, l3, g3⟩ := open_structs Cert.cells Try.underlying24 Try.underlying76 (by kernel_rfl) (by kernel_rfl) (by decide)
      (fun vs hd => by
        obtain ⟨b0, h0⟩ := dec_int Try.underlying3 (hd 0 _ rfl)
        obtain ⟨b1, h1⟩ := dec_int Try.underlying3 (hd 1 _ rfl)
        obtain ⟨b2, h2⟩ := dec_int Try.underlying3 (hd 2 _ rfl)
        obtain ⟨b3, h3⟩ := dec_int Try.underlying3 (hd 3 _ rfl)
        obtain ⟨b4, h4⟩ := dec_int Try.underlying3 (hd 4 _ rfl)
        obtain ⟨b5, h5⟩ := dec_int Try.underlying3 (hd 5 _ rfl)
        refine ⟨⟨b0, b1, b2, b3, b4, b5⟩, fun j u hu => ?_⟩
        match j, hu with
        | 0, hu => exact ⟨h0.trans (by simpa [Cert.cells] using hu), by decide⟩
        | 1, hu => exact ⟨h1.trans (by simpa [Cert.cells] using hu), by decide⟩
        | 2, hu => exact ⟨h2.trans (by simpa [Cert.cells] using hu), by decide⟩
        | 3, hu => exact ⟨h3.trans (by simpa [Cert.cells] using hu), by decide⟩
        | 4, hu => exact ⟨h4.trans (by simpa [Cert.cells] using hu), by decide⟩
        | 5, hu => exact ⟨h5.trans (by simpa [Cert.cells] using hu), by decide⟩
        | n + 6, hu => simp [Cert.cells] at hu) t5
    obtain ⟨A4, n4, c4, rcs, rfl, r4, l4, g4⟩ := open_structs Recall.cells Try.underlying25 Try.underlying78 (by kernel_rfl) (by kernel_rfl) (by decide)
      (fun vs hd => by
        obtain ⟨b0, h0⟩ := dec_int Try.underlying3 (hd 0 _ rfl)
        obtain ⟨b1, h1⟩ := dec_int Try.underlying3 (hd 1 _ rfl)
        refine ⟨⟨b0, b1⟩, fun j u hu => ?_⟩
        match j, hu with
        | 0, hu => exact ⟨h0.trans (by simpa [Recall.cells] using hu), by decide⟩
        | 1, hu => exact ⟨h1.trans (by simpa [Recall.cells] using hu), by decide⟩
        | n + 2, hu => simp [Recall.cells] at hu) t6
    obtain ⟨A5, n5, c5, pus, rfl, r5, l5, g5⟩ := open_structs Purity.cells Try.underlying26 Try.underlying46 (by kernel_rfl) (by kernel_rfl) (by decide)
      (fun vs hd => by
        obtain ⟨b0, h0⟩ := dec_int Try.underlying3 (hd 0 _ rfl)
        obtain ⟨b1, h1⟩ := dec_int Try.underlying3 (hd 1 _ rfl)
        obtain ⟨b2, h2⟩ := dec_int Try.underlying3 (hd 2 _ rfl)
        obtain ⟨b3, h3⟩ := dec_int Try.underlying3 (hd 3 _ rfl)
        refine ⟨⟨b0, b1, b2, b3⟩, fun j u hu => ?_⟩
        match j, hu with
        | 0, hu => exact ⟨h0.trans (by simpa [Purity.cells] using hu), by decide⟩
        | 1, hu => exact ⟨h1.trans (by simpa [Purity.cells] using hu), by decide⟩
        | 2, hu => exact ⟨h2.trans (by simpa [Purity.cells] using hu), by decide⟩
        | 3, hu => exact ⟨h3.trans (by simpa [Purity.cells] using hu), by decide⟩
        | n + 4, hu => simp [Purity.cells] at hu) t7
    exact ⟨a0, a1, a2, A1, n1, c1, A2, n2, c2, A3, n3, c3, A4, n4, c4, A5, n5, c5, ⟨a0, a1, a2, ps, ms, cts, rcs, pus⟩, rfl, ⟨rfl, rfl, rfl, r1, r2, r3, r4, r5⟩, l1, l2, l3, l4, l5, g1, g2, g3, g4, g5⟩
end
theorem law_own : ownKnob Try.prog.godebug = none := by kernel_rfl
theorem law_laid : laidOutB Try.prog = true := by kernel_rfl
end Go.Proofs.Ythjgbjakpbfnoaa
/- From a call's contract to what a law's row asks for. -/
namespace Go.Proofs.Ythjgbjakpbfnoaa
open Go.RowKit
set_option linter.unusedVariables false
set_option linter.unusedSimpArgs false

/-- a list that is read from the outside -/
theorem rt_of_rd {α : Type} {k : Nat} {f : α → List Value} {row : α → List T} (hrow : ∀ x, row x = (f x).map T.atm) (hone : ∀ x, ∀ v ∈ f x, v.oneCell' = true) (hk : ∀ x, (f x).length = k)
    {w : World} {A : Option Addr} {n c : Nat} {xs : List α} (h : Rd k f w A n xs) (h1 : n ≤ c) (h2 : c ≤ maxLen) : RT w (fun _ => False) (.sl k .any (xs.map row)) (.slice A n c) := by
  obtain ⟨hn, hc⟩ := h
  have hlen : (xs.map row).length = n := by simp [hn]
  rw [← hlen]
  have hat : ∀ i j t, at2 (xs.map row) i j = some t → ∃ x v, xs[i]? = some x ∧ (f x)[j]? = some v ∧ t = .atm v := fun i j t ht => by
    obtain ⟨r, q1, q2⟩ := at2_inv ht
    rw [List.getElem?_map] at q1
    cases hx : xs[i]? with
    | none => rw [hx] at q1; cases q1
    | some x =>
      rw [hx] at q1
      injection q1 with q1
      subst q1
      rw [hrow, List.getElem?_map] at q2
      cases hv : (f x)[j]? with
      | none => rw [hv] at q2; cases q2
      | some v => rw [hv] at q2; injection q2 with q2; exact ⟨x, v, rfl, hv, q2.symm⟩
  rcases Nat.eq_zero_or_pos n with h0 | h0
  · have hx : xs = [] := List.eq_nil_of_length_eq_zero (by omega)
    subst hx
    exact .sl (b := 0) (off := 0) (fun _ _ => undef) (by simp) (by simp) h2 (by intro h; cases h) (by intro h; cases h) (by simp) (by simp [at2]) (by simp [at2])
  · obtain ⟨b, off, hA, hcell⟩ := hc h0
    refine .sl (b := b) (off := off) (fun i j => ((xs[i]?).bind fun x => (f x)[j]?).getD undef) ?_ (by omega) h2 (by intro h; cases h) (by intro h; cases h) (fun _ => hA) ?_ ?_
    · intro r hr
      obtain ⟨x, _, rfl⟩ := List.mem_map.1 hr
      rw [hrow, List.length_map, hk]
    · intro i j t ht
      obtain ⟨x, v, hx, hv, rfl⟩ := hat i j t ht
      exact ⟨by rw [hcell i x hx j v hv]; simp [hx, hv], fun h => h⟩
    · intro i j t ht
      obtain ⟨x, v, hx, hv, rfl⟩ := hat i j t ht
      have : ((xs[i]?).bind fun x => (f x)[j]?).getD undef = v := by simp [hx, hv]
      rw [this]
      exact .atm (hone x v (List.mem_of_getElem? hv))

theorem rs_ev {w : World} {m h s : Int} {A1 A2 A3 A4 A5 : Option Addr} {n1 n2 n3 n4 n5 c1 c2 c3 c4 c5 : Nat} {e : Ev} (hr : EvR w m h s A1 n1 A2 n2 A3 n3 A4 n4 A5 n5 e)
    (hb : n1 ≤ c1 ∧ n2 ≤ c2 ∧ n3 ≤ c3 ∧ n4 ≤ c4 ∧ n5 ≤ c5 ∧ c1 ≤ maxLen ∧ c2 ≤ maxLen ∧ c3 ≤ maxLen ∧ c4 ≤ maxLen ∧ c5 ≤ maxLen) :
    RS w (fun _ => none) (fun _ => False) (evS e) (.agg #[.int .i64 m, .int .i64 h, .int .i64 s, .slice A1 n1 c1, .slice A2 n2 c2, .slice A3 n3 c3, .slice A4 n4 c4, .slice A5 n5 c5]) := by
  obtain ⟨rfl, rfl, rfl, r1, r2, r3, r4, r5⟩ := hr
  obtain ⟨b1, b2, b3, b4, b5, d1, d2, d3, d4, d5⟩ := hb
  have t1 := rt_of_rd (k := 3) (f := Place.cells) (row := Place.row) (fun _ => rfl) (by intro x v hv; simp [Place.cells] at hv; rcases hv with rfl | rfl | rfl <;> rfl) (fun _ => rfl) r1 b1 d1
  have t2 := rt_of_rd (k := 6) (f := Move.cells) (row := Move.row) (fun _ => rfl) (by intro x v hv; simp [Move.cells] at hv; rcases hv with rfl | rfl | rfl | rfl | rfl | rfl <;> rfl) (fun _ => rfl) r2 b2 d2
  have t3 := rt_of_rd (k := 6) (f := Cert.cells) (row := Cert.row) (fun _ => rfl) (by intro x v hv; simp [Cert.cells] at hv; rcases hv with rfl | rfl | rfl | rfl | rfl | rfl <;> rfl) (fun _ => rfl) r3 b3 d3
  have t4 := rt_of_rd (k := 2) (f := Recall.cells) (row := Recall.row) (fun _ => rfl) (by intro x v hv; simp [Recall.cells] at hv; rcases hv with rfl | rfl <;> rfl) (fun _ => rfl) r4 b4 d4
  have t5 := rt_of_rd (k := 4) (f := Purity.cells) (row := Purity.row) (fun _ => rfl) (by intro x v hv; simp [Purity.cells] at hv; rcases hv with rfl | rfl | rfl | rfl <;> rfl) (fun _ => rfl) r5 b5 d5
  refine .agg [.int .i64 e.mats, .int .i64 e.hhs, .int .i64 e.scs, .slice A1 n1 c1, .slice A2 n2 c2, .slice A3 n3 c3, .slice A4 n4 c4, .slice A5 n5 c5] rfl fun j c hj => ?_
  match j, hj with
  | 0, hj => injection hj with hj; subst hj; exact .t (.atm rfl)
  | 1, hj => injection hj with hj; subst hj; exact .t (.atm rfl)
  | 2, hj => injection hj with hj; subst hj; exact .t (.atm rfl)
  | 3, hj => injection hj with hj; subst hj; exact .t t1
  | 4, hj => injection hj with hj; subst hj; exact .t t2
  | 5, hj => injection hj with hj; subst hj; exact .t t3
  | 6, hj => injection hj with hj; subst hj; exact .t t4
  | 7, hj => injection hj with hj; subst hj; exact .t t5
  | j + 8, hj => simp [evC] at hj

theorem wf_rangeU {n : Int} (h : (Lit.int .u8 n).wf = true) : 0 ≤ n ∧ n ≤ 255 := by
  simp only [Lit.wf, Bool.and_eq_true, decide_eq_true_eq] at h
  exact h
theorem rs_u8 {w : World} {n : Int} : RS w (fun _ => none) (fun _ => False) (intS .u8 n) (.int .u8 n) := RS.int
theorem rs_bool {w : World} {b : Bool} : RS w (fun _ => none) (fun _ => False) (boolS b) (.bool b) := RS.bool
theorem wf_range {n : Int} (h : (Lit.int .i64 n).wf = true) : -9223372036854775808 ≤ n ∧ n ≤ 9223372036854775807 := by
  simp only [Lit.wf, Bool.and_eq_true, decide_eq_true_eq] at h
  exact h
theorem rs_int {w : World} {n : Int} : RS w (fun _ => none) (fun _ => False) (intS .i64 n) (.int .i64 n) := RS.int

/-- arguments one by one -/
inductive RArgs (w : World) : List S → List Value → Prop
  | nil : RArgs w [] []
  | cons {s : S} {v : Value} {ss : List S} {vs : List Value} (h : RS w (fun _ => none) (fun _ => False) s v) (hs : RArgs w ss vs) : RArgs w (s :: ss) (v :: vs)
theorem RArgs.get {w : World} {ss : List S} {vs : List Value} (h : RArgs w ss vs) : vs.length = ss.length ∧ ∀ (j : Nat) (s : S), ss[j]? = some s → RS w (fun _ => none) (fun _ => False) s (vs.getD j undef) := by
  induction h with
  | nil => exact ⟨rfl, by simp⟩
  | cons h hs ih =>
    refine ⟨by simp [ih.1], fun j s hj => ?_⟩
    cases j with
    | zero => simp at hj; subst hj; exact h
    | succ j => simpa using ih.2 j s (by simpa using hj)

theorem law_of_acall {P : Program} {g : FuncId} {ss : List S} {b : Bool} (h : ACall P g ss [] (boolS b) []) {w : World} {vs : List Value} (ha : RArgs w ss vs) :
    Calls P g vs.toArray w fun e w' => e = .returned (.bool b) ∧ Below w.heap.size w w' := by
  obtain ⟨h1, h2⟩ := ha.get
  refine Calls.mono (h.2 w (fun _ => none) (fun _ => False) vs h1 h2 ⟨by simp, by simp, by simp, by simp, by simp⟩ (fun _ h => h.elim) (fun _ _ => rfl)) ?_
  rintro e w' ⟨v, rfl, ι', M', q1, q2, q3, q4, q5⟩
  rw [q1.inv_atm]
  exact ⟨rfl, q5.os, q5.tape, q5.output, q5.size, fun k hk => q5.keep k hk (by rintro ⟨id, k, _, _, hk, _⟩; simp at hk)⟩
end Go.Proofs.Ythjgbjakpbfnoaa
/- Arguments of type []bool and []int opened. -/
namespace Go.Proofs.Ythjgbjakpbfnoaa
open Go.RowKit Go.ChangeShapes Go.WideShapes Go.Deep

section
variable {H : Type} {enc : TypeId × Value → H} {w : World} {base : Nat} {spare : Nat → Bool} {held : Bool}
theorem open_bools {r : Reach} {b0 : Nat} {v : Value} {d : DataW H} {p : List MemPlace} (hv : Value.okWide Try.prog w r b0 48 v) (h : DataW.Trod enc Try.prog w base spare held 48 v d p) :
    ∃ A n c xs, v = .slice A n c ∧ Rd 1 (fun x => [Value.bool x]) w A n xs ∧ n ≤ c ∧ c ≤ maxLen := by
  obtain ⟨a, len, cap, rfl⟩ := okWide_slice Try.underlying48 hv
  obtain ⟨fuel, hf⟩ := h
  exact open_ones (f := Value.bool) Try.underlying48 (by kernel_rfl) (fun u y n hy => dec_bool Try.underlying4 ⟨y, n, hy⟩) hf
theorem open_ints {r : Reach} {b0 : Nat} {v : Value} {d : DataW H} {p : List MemPlace} (hv : Value.okWide Try.prog w r b0 35 v) (h : DataW.Trod enc Try.prog w base spare held 35 v d p) :
    ∃ A n c xs, v = .slice A n c ∧ Rd 1 (fun x => [Value.int .i64 x]) w A n xs ∧ n ≤ c ∧ c ≤ maxLen := by
  obtain ⟨a, len, cap, rfl⟩ := okWide_slice Try.underlying35 hv
  obtain ⟨fuel, hf⟩ := h
  exact open_ones (f := Value.int .i64) Try.underlying35 (by kernel_rfl) (fun u y n hy => dec_int Try.underlying3 ⟨y, n, hy⟩) hf
end
theorem rs_bools {w : World} {A : Option Addr} {n c : Nat} {xs : List Bool} (h : Rd 1 (fun x => [Value.bool x]) w A n xs) (h1 : n ≤ c) (h2 : c ≤ maxLen) : RS w (fun _ => none) (fun _ => False) (boolsS xs) (.slice A n c) :=
  .c (.t (rt_of_rd (k := 1) (f := fun x => [Value.bool x]) (row := boolRow) (fun _ => rfl) (by intro x v hv; simp at hv; subst hv; rfl) (fun _ => rfl) h h1 h2))
theorem rs_ints {w : World} {A : Option Addr} {n c : Nat} {xs : List Int} (h : Rd 1 (fun x => [Value.int .i64 x]) w A n xs) (h1 : n ≤ c) (h2 : c ≤ maxLen) : RS w (fun _ => none) (fun _ => False) (intsS xs) (.slice A n c) :=
  .c (.t (rt_of_rd (k := 1) (f := fun x => [Value.int .i64 x]) (row := intRow) (fun _ => rfl) (by intro x v hv; simp at hv; subst hv; rfl) (fun _ => rfl) h h1 h2))
end Go.Proofs.Ythjgbjakpbfnoaa
namespace Go.Proofs.Ythjgbjakpbfnoaa
open Go.RowKit Go.ChangeShapes Go.WideShapes Go.ChangeAt

set_option maxRecDepth 100000 in
theorem reachMore_lifted (os : Os) (started : os.Started) (H : Type) (enc : TypeId × Value → H) :
    ReturnsInHanded {} Try.checked os 9 .any (Rows.reachMoreSpec.pre6 enc Try.prog Try.f9 Rows.reachMoreRow.domain false) (Rows.reachMoreSpec.post enc Try.prog Try.f9 false true false false) := by
  refine returnsInHanded_of_change (C := Try.checked) law_own started (by kernel_rfl) Try.func9
    (ChangeSpec.witness6 (enc := enc) (C := Try.checked) false ⟨#[], #[.agg #[.int .i64 0, .int .i64 0, .int .i64 0, .slice none 0 0, .slice none 0 0, .slice none 0 0, .slice none 0 0, .slice none 0 0], .int .i64 0, .slice none 0 0, .slice none 0 0, .int .i64 0], []⟩ 12 (by kernel_rfl) (by kernel_rfl) (by kernel_rfl) (by kernel_rfl)) ?_
  intro W base args ds gs before hval0 hW hcnd _
  have hval : ∀ (j : Nat) t v, Try.f9.params[j]? = some t → args[j]? = some v → Value.okWide Try.prog W .any base t v := hval0
  have hW' := hW
  obtain ⟨p, q, hA0, hV, rfl, hfz, hnd⟩ := hW
  have hA : DataW.TrodAll enc Try.prog W 0 (fun _ => true) true Try.f9.params.toList args.toList ds p := hA0
  rw [Try.params9] at hA hval
  obtain ⟨v0, vs0, d0, ds0, p0, q0, hargs, rfl, rfl, h0, r0⟩ := trodAll_cons hA
  obtain ⟨v1, vs1, d1, ds1, p1, q1, rfl, rfl, rfl, h1, r1⟩ := trodAll_cons r0
  obtain ⟨v2, vs2, d2, ds2, p2, q2, rfl, rfl, rfl, h2, r2⟩ := trodAll_cons r1
  obtain ⟨v3, vs3, d3, ds3, p3, q3, rfl, rfl, rfl, h3, r3⟩ := trodAll_cons r2
  obtain ⟨v4, vs4, d4, ds4, p4, q4, rfl, rfl, rfl, h4, r4⟩ := trodAll_cons r3
  obtain ⟨rfl, rfl, rfl⟩ := trodAll_nil r4
  obtain rfl : args = #[v0, v1, v2, v3, v4] := by cases args; simp_all
  obtain ⟨rfl, rfl⟩ := trodVars_none hV
  obtain ⟨m, h, s, A1, n1, c1, A2, n2, c2, A3, n3, c3, A4, n4, c4, A5, n5, c5, e, rfl, hr, hb⟩ := open_ev (hval 0 28 v0 rfl rfl) h0
  obtain ⟨a1, rfl, rfl, rfl, w1⟩ := open_int Try.underlying3 (hval 1 3 v1 rfl rfl) h1
  obtain ⟨A2, n2, c2, a2, rfl, s2, k2, l2⟩ := Go.Proofs.Ythjgbjakpbfnoaa.open_bools (hval 2 48 v2 rfl rfl) h2
  obtain ⟨A3, n3, c3, a3, rfl, s3, k3, l3⟩ := Go.Proofs.Ythjgbjakpbfnoaa.open_bools (hval 3 48 v3 rfl rfl) h3
  obtain ⟨a4, rfl, rfl, rfl, w4⟩ := open_int Try.underlying3 (hval 4 3 v4 rfl rfl) h4
  refine (law_of_acall (a_ReachMore e a1 a2 a3 a4) (.cons (rs_ev hr hb) (.cons (rs_int) (.cons (rs_bools s2 k2 l2) (.cons (rs_bools s3 k3 l3) (.cons (rs_int) (.nil))))))).mono fun ee W' ⟨he, hg⟩ => ?_
  subst he
  exact ⟨_, rfl, law_post hW' law_laid (by rw [Try.params9]; intro t ht; simp at ht; rcases ht with rfl | rfl | rfl | rfl <;> exact ⟨by kernel_rfl, of_decide_eq_true (by kernel_rfl)⟩) rfl rfl (by kernel_rfl) Try.underlying4 hg⟩

theorem reachMore_holds : Rows.ReachMoreSaid :=
  OpenClaim.holds_of_wide 9 Try.f9 rfl rfl rfl rfl rfl rfl rfl ⟨rfl, rfl, rfl, rfl, rfl⟩ rfl rfl rfl rfl rfl (by kernel_rfl) Try.func9 (by kernel_rfl)
    (of_decide_eq_true (by kernel_rfl)) (by unfold Func.isWrapper; first | (rw [if_pos (by decide +kernel)]; kernel_rfl) | (rw [if_neg (by decide +kernel)]; exact ⟨rfl, rfl⟩))
    (fun os started H enc _ => reachMore_lifted os started H enc)
end Go.Proofs.Ythjgbjakpbfnoaa
