/- The abstract machine is sound: every operation. -/
import Derived.Test.YthjgbjakpbfnoaaAbs9
namespace Go.Proofs.Ythjgbjakpbfnoaa
open Go.RowKit
set_option linter.unusedVariables false
set_option linter.unusedSimpArgs false

section
variable {P : Program} {τ : Tab} {o : Oper} {ev : Operand → S} {H : Hp}

theorem set_get {id : Nat} {kd : Blk} {H : Hp} {j : Nat} {kk : Blk} (hj : (H.set id kd)[j]? = some kk) : (j = id ∧ kk = kd) ∨ (j ≠ id ∧ H[j]? = some kk) := by
  by_cases h : j = id
  · subst h
    have hlt : j < H.length := by have := (List.getElem?_eq_some_iff.1 hj).1; simpa using this
    rw [List.getElem?_set_self hlt] at hj
    injection hj with hj
    exact .inl ⟨rfl, hj.symm⟩
  · rw [getElem?_set_ne' h] at hj
    exact .inr ⟨h, hj⟩

theorem GPost.kill {w w' : World} {ι : Io} {M : Ms} {H H' : Hp} {s : S} {v : Value} {kd : Blk} (hd : kd.mode = .dead) (id : Nat) (h : GPost w ι M H s H' v w') : GPost w ι M H s (H'.set id kd) v w' := by
  obtain ⟨ι', M', h1, h2, h3, h4, h5⟩ := h
  refine ⟨ι', M', h1, ⟨?_, ?_, ?_, ?_⟩, h3, by simpa using h4, ⟨h5.os, h5.tape, h5.output, h5.size, h5.keep, h5.same, h5.mnew, h5.mold, ?_, by simpa using h5.len⟩⟩
  · intro j kk hj hm l hl
    rcases set_get hj with ⟨_, rfl⟩ | ⟨_, hj⟩
    · exact absurd hd hm
    · exact h2.blk j kk hj hm l hl
  · intro j kk hj hm
    rcases set_get hj with ⟨_, rfl⟩ | ⟨_, hj⟩
    · rw [hd] at hm; cases hm
    · exact h2.liv j kk hj hm
  · intro j kk hj hm
    rcases set_get hj with ⟨_, rfl⟩ | ⟨_, hj⟩
    · rw [hd] at hm; cases hm
    · exact h2.fro j kk hj hm
  · intro j j' kk kk' hj hj' hm hm'
    rcases set_get hj with ⟨_, rfl⟩ | ⟨_, hj⟩
    · rw [hd] at hm; cases hm
    · rcases set_get hj' with ⟨_, rfl⟩ | ⟨_, hj'⟩
      · rw [hd] at hm'; cases hm'
      · exact h2.inj j j' kk kk' hj hj' hm hm'
  · rintro b ⟨j, kk, c, sz, hj, hm, hi⟩
    rcases set_get hj with ⟨_, rfl⟩ | ⟨_, hj⟩
    · rw [hd] at hm; cases hm
    · exact h5.live b ⟨j, kk, c, sz, hj, hm, hi⟩

set_option maxHeartbeats 1000000 in
theorem aappend_own (hτ : TabOK P τ) {c : Call} (ho : o.op = .call c) (hc : c.callee = .builtin .append) {t : TypeId} {s x : Operand} (ht : c.argTypes.toList = [t, t]) (ha : c.args.toList = [s, x])
    {e : TypeId} (hu : P.underlying t = some (.slice e)) {d : TD} (hd : τ e = some d) (h0 : d.size ≠ 0) {xr : List (List C)}
    (hx : ∀ (a : Act) (w : World) (ι : Io) (M : Ms), EvRel w ι M ev a → HeapRel w ι M H → ∃ news, CellsOK w ι M d.size xr news ∧ Src P d.size t (a.eval x) xr.length news w ∧
      (xr.length = 0 ∨ ∃ ad c, a.eval x = .slice (some ad) xr.length c ∧ ∀ j v, news[j]? = some v → w.cell? (ad.add j) = some v))
    {id lo len : Nat} (hs : ev s = .c (.own id lo len true)) {k : Blk} (hk : H[id]? = some k) (hlv : k.mode = .live) (hlen : len ≤ k.rows.length) (hbd : (len + xr.length) * (d.bytes + 1) ≤ 140737488355328)
    (hbk : k.size = d.size ∧ k.elem = e) : GOp P o ev H (.c (.own H.length 0 (len + xr.length) true)) ((H.set id ⟨.dead, e, d.size, [], false⟩) ++ [newBlk e d.size (k.rows.take len ++ xr) false]) := by
  obtain ⟨i, hi, hsz, hby, z, hz, hzs, hone, hzl⟩ := (hτ.td _ _ hd).info
  have hidl : id < H.length := (List.getElem?_eq_some_iff.1 hk).1
  have htl : (k.rows.take len).length = len := by simp; omega
  intro a w ι M he hh hm hF
  obtain ⟨news, hn1, hn2, hn3⟩ := hx a w ι M he hh
  have hr := (he.to hs).inv_c
  generalize hv : a.eval s = v at *
  cases hr with
  | @own _ _ _ _ b cap size A cap' hι q1 q2 q3 q4 q5 =>
    obtain ⟨rfl, rfl, rfl⟩ := q5 rfl
    have hbr := hh.blk id k hk (by rw [hlv]; intro h; cases h) _ hι
    obtain rfl : size = d.size := hbr.1.symm.trans hbk.1
    obtain ⟨olds, ho1, ho2⟩ := blk_cells hbr (lo := 0) (len := len) (by omega)
    rw [List.drop_zero] at ho1
    have hall := ho1.append hn1
    have hlall : (k.rows.take len ++ xr).length = len + xr.length := by rw [List.length_append, htl]
    by_cases hxr : xr.length = 0
    · have hxr' : xr = [] := List.eq_nil_of_length_eq_zero hxr
      subst hxr'
      have : news = [] := List.eq_nil_of_length_eq_zero (by rw [hn1.len]; simp)
      subst this
      rw [← hsz] at hn2
      have hrun := run_append_nothing (P := P) w t t o.type e i hu hi (some ⟨b, 0, none⟩) len cap' q3 (a.eval x) hn2
      obtain ⟨r1, r2, r3, r4, r5, cur, r6, r7, r8⟩ := hbr
      refine runs_value (append_exec ho hc ht ha (by rw [hv]; exact hrun)) ?_
      exact GPost.append hh hm hF hk hlv hι rfl rfl rfl rfl (Nat.le_refl _) (fun _ _ _ => rfl) (.inl rfl) (by rw [r6, hbk.2]) (by omega) hlall q3 r4 hall.row r7 (fun i' j c' hc' => by
        obtain ⟨row, s1, s2⟩ := at2_inv hc'
        rw [List.append_nil, List.getElem?_take] at s1
        split at s1
        · exact r8 _ _ _ (at2_some s1 s2)
        · cases s1)
    · obtain ⟨ad, c', hxe, hxc⟩ := hn3.resolve_left hxr
      by_cases hroom : len + xr.length ≤ cap'
      · obtain ⟨r1, r2, r3, r4, r5, cur, r6, r7, r8⟩ := hbr
        have hfit : len * i.size + news.length ≤ cur.size := by
          rw [hn1.len, r7, hsz, ← Nat.add_mul]; exact Nat.mul_le_mul_right _ hroom
        have hg : w.heap[b]? = some (.cells cur e (0, 0)) := by rw [r6, hbk.2]
        have hrun := run_append_room (P := P) w t o.type e i hu hi b len cap' cur hg ad xr.length c' news (by rw [hn1.len, hsz]) hxc hn1.one hroom hfit
        refine runs_value (append_exec ho hc ht ha (by rw [hv, hxe]; exact hrun)) ?_
        have holds : olds = cur.toList.take (len * i.size) := by
          apply List.ext_getElem?
          intro q
          by_cases hq : q < len * i.size
          · have hlt : q < olds.length := by rw [ho1.len, htl, ← hsz]; exact hq
            have e1 := ho2 q _ (List.getElem?_eq_getElem hlt)
            simp only [World.cell?, hg, Nat.zero_mul, Nat.zero_add] at e1
            rw [List.getElem?_eq_getElem hlt, List.getElem?_take_of_lt hq, ← e1]
            simp
          · rw [List.getElem?_eq_none (by rw [ho1.len, htl, ← hsz]; omega), List.getElem?_eq_none (by simp; omega)]
        refine GPost.append (cur := (cur.toList.take (len * i.size) ++ news ++ cur.toList.drop (len * i.size + news.length)).toArray) hh hm hF hk hlv hι rfl rfl rfl rfl (by simp) (fun b' _ hb' => setRow_other w b b' _ hb') (.inl rfl) (setRow_heap w b cur _ e _ hg) (by omega) hlall hroom r4 hall.row ?_ (fun i' j c'' hc'' => ?_)
        · simp only [List.size_toArray, List.length_append, List.length_take, List.length_drop, Array.length_toList]
          omega
        · obtain ⟨u, s1, s2⟩ := hall.cell _ _ _ hc''
          refine ⟨u, cells_at (rest := cur.toList.drop (len * i.size + news.length)) ?_ s1, s2⟩
          rw [holds]
      · obtain ⟨cap2, cur, r1, r2, r3, r4, r5⟩ := append_grow (ty := o.type) hτ hu hd h0 ho1 hn1 htl (base := some ⟨b, 0, none⟩) (sCap := cap') (firstCells_rows (by rw [ho1.len, htl]) (.inr ⟨b, 0, rfl, fun q u hq => by have := ho2 q u hq; simpa using this⟩)) hn2 (by omega) (by rw [htl]; exact hbd)
        refine runs_value (append_exec ho hc ht ha (by rw [hv]; exact r1)) ?_
        exact GPost.append hh hm hF hk hlv hι rfl rfl rfl rfl (by simp) (fun b' hb' _ => heap_alloc_old w.drew _ hb') (.inr (Nat.le_refl _)) (heap_alloc_new w.drew _) (by omega) hlall r3 r4 hall.row r2 r5
  | nil hι =>
    rename_i A
    have hbr := hh.blk id k hk (by rw [hlv]; intro h; cases h) _ hι
    have hkr : k.rows = [] := hbr
    have hset : ∀ nb : Blk, (H.set id ⟨.dead, e, d.size, [], false⟩) ++ [nb] = (H ++ [nb]).set id ⟨.dead, e, d.size, [], false⟩ := fun nb => by
      rw [List.set_append_left _ _ hidl]
    rw [hset, hkr]
    have hfr : ∀ k, k < [newBlk e d.size xr false].length → ι (H.length + k) = none := fun k _ => hF _ (by omega)
    by_cases hxr : xr = []
    · subst hxr
      have : news = [] := List.eq_nil_of_length_eq_zero (by rw [hn1.len]; simp)
      subst this
      rw [← hsz] at hn2
      have hrun := run_append_nothing (P := P) w t t o.type e i hu hi A 0 0 (Nat.le_refl _) (a.eval x) hn2
      refine runs_value (append_exec ho hc ht ha (by rw [hv]; exact hrun)) ?_
      exact GPost.kill rfl id (QPost.gpost hh hm hF QPost.nil)
    · have hpos : 0 < xr.length := List.length_pos_iff.2 hxr
      obtain ⟨cap, cur, q1, q2, q3, q4, q5⟩ := append_grow (ty := o.type) hτ hu hd h0 (CellsOK.nil w ι M d.size) hn1 rfl (base := A) (sLen := 0) (sCap := 0) (firstCells_rows (by simp) (.inl rfl)) hn2 (by simp; omega) (by simpa using hbd)
      refine runs_value (append_exec ho hc ht ha (by rw [hv]; exact q1)) ?_
      simp only [List.length_nil, Nat.zero_add, List.nil_append, List.take_nil] at q3 q5 ⊢
      exact GPost.kill rfl id (QPost.gpost hh hm hF (QPost.new rfl rfl rfl rfl (hfr 0 (by simp)) (by omega) q3 q4 hn1.row q2 q5 fun ι' M' hi' => own_result hi' q3 q4))

set_option maxHeartbeats 1000000 in
theorem aappend_sound (hτ : TabOK P τ) {c : Call} (ho : o.op = .call c) (hc : c.callee = .builtin .append) {t : TypeId} {s x : Operand} (ht : c.argTypes.toList = [t, t]) (ha : c.args.toList = [s, x])
    {Kq : S → List Blk → Prop} {Kg : S → Hp → Prop} (h : aappend τ ev H H.length t s x Kq Kg) : (∃ s B, Kq s B ∧ QOp P o ev H s B) ∨ (∃ s H', Kg s H' ∧ GOp P o ev H s H') := by
  unfold aappend at h
  split at h
  rotate_left
  · exact h.elim
  rename_i e _ _ _ _ hte
  have hu := und_slice hτ hte
  split at h
  rotate_left
  · exact h.elim
  rename_i d hd
  obtain ⟨hb, h⟩ := cond_iff' h
  have h0 : d.size ≠ 0 := by intro e; simp [e] at hb
  obtain ⟨xr, h, hx⟩ := srcK_iff hτ hu h
  obtain ⟨i, hi, hsz, hby, z, hz, hzs, hone, hzl⟩ := (hτ.td _ _ hd).info
  split at h
  · rename_i sz rows hs
    obtain ⟨hbd, h⟩ := h
    refine .inl ⟨_, _, h, fun a w ι M he hh hm hf => ?_⟩
    obtain ⟨news, hn1, hn2, _⟩ := hx a w ι M he hh
    have hr := (he.to hs).inv_t
    generalize hv : a.eval s = v at *
    cases hr with
    | @sl _ _ _ b off cap A f hrow hcap hmax hk hnil hA hc' hr =>
      obtain ⟨rfl, rfl, rfl⟩ := hnil rfl
      by_cases hxr : xr = []
      · subst hxr
        have : news = [] := List.eq_nil_of_length_eq_zero (by rw [hn1.len]; simp)
        subst this
        rw [← hsz] at hn2
        have hrun := run_append_nothing (P := P) w t t o.type e i hu hi none 0 0 (Nat.le_refl _) (a.eval x) hn2
        exact runs_value (append_exec ho hc ht ha (by rw [hv]; exact hrun)) QPost.nil
      · have hpos : 0 < xr.length := List.length_pos_iff.2 hxr
        obtain ⟨cap, cur, q1, q2, q3, q4, q5⟩ := append_grow (ty := o.type) hτ hu hd h0 (CellsOK.nil w ι M d.size) hn1 rfl (base := none) (sLen := 0) (sCap := 0) (firstCells_rows (by simp) (.inl rfl)) hn2 (by omega) (by simpa using hbd)
        refine runs_value (append_exec ho hc ht ha (by rw [hv]; exact q1)) ?_
        simp only [Nat.zero_add, List.nil_append] at q3 q5 ⊢
        exact QPost.new rfl rfl rfl rfl (hf 0 (by simp)) (by omega) q3 q4 hn1.row q2 q5 fun ι' M' hi' => own_result hi' q3 q4
  · rename_i sz rows hs
    obtain ⟨⟨hcd, hbd⟩, h⟩ := h
    refine .inl ⟨_, _, h, fun a w ι M he hh hm hf => ?_⟩
    obtain ⟨news, hn1, hn2, _⟩ := hx a w ι M he hh
    have hr := (he.to hs).inv_t
    generalize hv : a.eval s = v at *
    cases hr with
    | @sl _ _ _ b off cap A f hrow hcap hmax hk hnil hA hc' hr =>
      obtain rfl := hk rfl
      by_cases hxr : xr = []
      · subst hxr
        have hr0 : rows = [] := by
          rcases hcd with h | ⟨h, _⟩
          · exact List.eq_nil_of_length_eq_zero h
          · simp at h
        subst hr0
        have : news = [] := List.eq_nil_of_length_eq_zero (by rw [hn1.len]; simp)
        subst this
        rw [← hsz] at hn2
        have hrun := run_append_nothing (P := P) w t t o.type e i hu hi A 0 0 (Nat.le_refl _) (a.eval x) hn2
        exact runs_value (append_exec ho hc ht ha (by rw [hv]; exact hrun)) QPost.nil
      · have hpos : 0 < xr.length := List.length_pos_iff.2 hxr
        have hbase : ∃ vals, CellsOK w ι M d.size (toC rows) vals ∧ (vals = [] ∨ ∃ b off, A = some ⟨b, off, none⟩ ∧ ∀ q u, vals[q]? = some u → w.cell? ⟨b, off + q, none⟩ = some u) := by
          by_cases hr0 : rows = []
          · subst hr0; exact ⟨[], CellsOK.nil w ι M d.size, .inl rfl⟩
          · have hsz' : sz = d.size := by
              rcases hcd with h | ⟨_, h⟩
              · exact absurd (List.eq_nil_of_length_eq_zero h) hr0
              · exact h
            subst hsz'
            obtain ⟨_, vals, h1, h2⟩ := rt_cells (ι := ι) (RT.sl f hrow hcap hmax hk hnil hA hc' hr)
            exact ⟨vals, h1, .inr (h2 hr0)⟩
        obtain ⟨vals, hv1, hv2⟩ := hbase
        have hl : (toC rows).length = rows.length := by simp [toC]
        obtain ⟨cap, cur, q1, q2, q3, q4, q5⟩ := append_grow (ty := o.type) hτ hu hd h0 hv1 hn1 hl (base := A) (sCap := rows.length) (firstCells_rows (by rw [hv1.len, hl]) hv2) hn2 (by omega) (by rw [hl]; exact hbd)
        refine runs_value (append_exec ho hc ht ha (by rw [hv]; exact q1)) ?_
        exact QPost.new rfl rfl rfl rfl (hf 0 (by simp)) (by omega) (by rw [List.length_append, hl]; exact q3) q4 (hv1.append hn1).row q2 q5 fun ι' M' hi' => own_result hi' q3 q4
  · rename_i id lo len hs
    obtain ⟨k, hk, h⟩ := getK_iff h
    obtain ⟨hlv, h⟩ := writable_iff h
    obtain ⟨hbk, ⟨hlen, hbd⟩, h⟩ := cond_iff h
    rw [setK_iff, appK_iff] at h
    have hbk : k.size = d.size ∧ k.elem = e := by simpa using hbk
    exact .inr ⟨_, _, h, aappend_own hτ ho hc ht ha hu hd h0 hx hs hk hlv hlen hbd hbk⟩
  · exact h.elim
end
end Go.Proofs.Ythjgbjakpbfnoaa
