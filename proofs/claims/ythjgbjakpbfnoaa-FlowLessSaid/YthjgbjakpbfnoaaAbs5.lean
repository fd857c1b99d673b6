/- The abstract machine is sound: addresses, slices, numbers. -/
import Derived.Test.YthjgbjakpbfnoaaAbs4
namespace Go.Proofs.Ythjgbjakpbfnoaa
open Go.RowKit
set_option linter.unusedVariables false
set_option linter.unusedSimpArgs false

section
variable {P : Program} {τ : Tab} {o : Oper} {ev : Operand → S} {H : Hp}

theorem Addr.add_none (b off n : Nat) : (⟨b, off, none⟩ : Addr).add n = ⟨b, off + n, none⟩ := by unfold Addr.add; split <;> simp_all

theorem fieldOff_iff (hτ : TabOK P τ) {s : TypeId} {f : Nat} {k : Nat → Prop} (h : fieldOff τ s f k) :
    ∃ off fields fd, k off ∧ P.underlying s = some (.struct fields) ∧ fields[f]? = some fd ∧ fd.offset = off ∧ ∃ i, P.info? fd.type = some i ∧ i.size ≠ 0 := by
  unfold fieldOff at h
  split at h
  · rename_i fs _ _ _ _ hd
    split at h
    · rename_i off size _ hf
      obtain ⟨h0, hk⟩ := cond_iff' h
      obtain ⟨u, hu, ha, fields, rfl, hm, hall, _⟩ := (hτ.td _ _ hd).und
      have h1 : (fs.map (fun x => (x.1, x.2.1)))[f]? = some (off, size) := by rw [List.getElem?_map, hf]; rfl
      rw [hm, List.getElem?_map] at h1
      cases hfd : fields.toList[f]? with
      | none => rw [hfd] at h1; cases h1
      | some fd =>
        rw [hfd] at h1
        injection h1 with h1
        injection h1 with h1 h2
        have hi := hall fd (List.mem_of_getElem? hfd)
        obtain ⟨i, hi⟩ := Option.isSome_iff_exists.1 hi
        refine ⟨off, fields, fd, hk, hu, by simpa using hfd, h1, i, hi, ?_⟩
        have : P.cellsOf fd.type = i.size := by simp [Program.cellsOf, hi]
        have h0' : size ≠ 0 := by intro hz; subst hz; simp at h0
        omega
    · exact h.elim
  · exact h.elim

theorem run_fieldAt {s : TypeId} {f : Nat} {fields : Array Field} {fd : Field} {i : TypeInfo} (hu : P.underlying s = some (.struct fields)) (hf : fields[f]? = some fd) (hi : P.info? fd.type = some i) (h0 : i.size ≠ 0)
    (w : World) (b off : Nat) : (Instr.fieldAt s (.pointer (some ⟨b, off, none⟩)) f).run P w = .ok (.pointer (some ⟨b, off + fd.offset, none⟩)) w := by
  simp [Instr.fieldAt, run_underlying hu, hf, Instr.sureAddr, fieldPlace, sizeOf, typeInfo, hi, h0, Addr.add_none]

theorem afieldAddr_sound (hτ : TabOK P τ) {s : TypeId} {x : Operand} {f : Nat} (ho : o.op = .fieldAddr s x f) {K : S → Prop} (h : afieldAddr τ ev s x f K) : ∃ s, K s ∧ QOp P o ev H s [] := by
  obtain ⟨off, fields, fd, h, hu, hf, rfl, i, hi, h0⟩ := fieldOff_iff hτ h
  split at h
  · rename_i id r o' hx
    refine ⟨_, h, qop_same fun a w ι M he hh => ?_⟩
    generalize hv : a.eval x = v
    have hr := he.to hx
    rw [hv] at hr
    cases hr with
    | c hr => cases hr with
      | @ptr _ _ _ b cap size hi' =>
        refine ⟨_, by simp [execOp, ho, hv, run_fieldAt hu hf hi h0]; rfl, ?_⟩
        rw [Nat.add_assoc]
        exact .c (.ptr hi')
  · rename_i cells hx
    obtain ⟨hl, h⟩ := dropK_iff h
    refine ⟨_, h, qop_same fun a w ι M he hh => ?_⟩
    generalize hv : a.eval x = v
    have hr := (he.to hx).inv_t
    rw [hv] at hr
    cases hr with
    | @ptr _ b off f hc hr =>
      refine ⟨_, by simp [execOp, ho, hv, run_fieldAt hu hf hi h0], .c (.t (.ptr (b := b) (off := off + fd.offset) (fun j => f (fd.offset + j)) (fun j c hj => ?_) (fun j c hj => ?_)))⟩
      · rw [List.getElem?_drop] at hj
        rw [Nat.add_assoc]
        exact hc _ _ hj
      · rw [List.getElem?_drop] at hj
        exact hr _ _ hj
  · exact h.elim

theorem sizeK_iff (hτ : TabOK P τ) {e : TypeId} {k : Nat → Prop} (h : sizeK τ e k) : ∃ d, τ e = some d ∧ k d.size ∧ ∀ w, (sizeOf e).run P w = .ok d.size w := by
  unfold sizeK at h
  split at h
  · rename_i d hd
    exact ⟨d, hd, h, sizeOf_run (hτ.td _ _ hd)⟩
  · exact h.elim

theorem und_slice (hτ : TabOK P τ) {t e : TypeId} {a : Bool} {s b : Nat} {z : List Value} (h : τ t = some ⟨.slice e, a, s, b, z⟩) : P.underlying t = some (.slice e) := by
  obtain ⟨u, hu, _, rfl⟩ := (hτ.td _ _ h).und; exact hu
theorem und_arr (hτ : TabOK P τ) {t e : TypeId} {a : Bool} {n s b : Nat} {z : List Value} (h : τ t = some ⟨.arr n e, a, s, b, z⟩) : P.underlying t = some (.array n e) := by
  obtain ⟨u, hu, _, rfl⟩ := (hτ.td _ _ h).und; exact hu

theorem run_indexAt {t e : TypeId} (hu : P.underlying t = some (.slice e)) {w : World} {size : Nat} (hs : (sizeOf e).run P w = .ok size w) {k : IntKind} {n : Int} {A : Option Addr} {len cap b off : Nat}
    (h0 : 0 ≤ n) (h1 : n < (len : Int)) (hA : 0 < len → A = some ⟨b, off, none⟩) :
    (Instr.indexAt t (.slice A len cap) (.int k n)).run P w = .ok (.pointer (some ⟨b, off + n.toNat * size, none⟩)) w := by
  have := hA (by omega)
  subst this
  simp [Instr.indexAt, asIntOf, run_underlying hu, h0, h1, hs, Addr.add_none]
theorem run_indexArr {t e : TypeId} {m : Nat} (hu : P.underlying t = some (.array m e)) {w : World} {size : Nat} (hs : (sizeOf e).run P w = .ok size w) {k : IntKind} {n : Int} {b off : Nat}
    (h0 : 0 ≤ n) (h1 : n < (m : Int)) :
    (Instr.indexAt t (.pointer (some ⟨b, off, none⟩)) (.int k n)).run P w = .ok (.pointer (some ⟨b, off + n.toNat * size, none⟩)) w := by
  simp [Instr.indexAt, asIntOf, run_underlying hu, Instr.sureAddr, h0, h1, hs, Addr.add_none]

theorem at2_some {α : Type} {rows : List (List α)} {i j : Nat} {row : List α} {c : α} (h : rows[i]? = some row) (h' : row[j]? = some c) : at2 rows i j = some c := by simp [at2, h, h']
theorem at2_inv {α : Type} {rows : List (List α)} {i j : Nat} {c : α} (h : at2 rows i j = some c) : ∃ row, rows[i]? = some row ∧ row[j]? = some c := by
  unfold at2 at h
  cases hr : rows[i]? with
  | none => rw [hr] at h; cases h
  | some row => rw [hr] at h; exact ⟨row, rfl, h⟩

theorem aindexAddr_sound (hτ : TabOK P τ) {t : TypeId} {x i : Operand} (ho : o.op = .indexAddr t x i) {K : S → Prop} (h : aindexAddr τ ev H t x i K) : ∃ s, K s ∧ QOp P o ev H s [] := by
  unfold aindexAddr at h
  split at h
  rotate_left
  · exact h.elim
  rename_i k n hi
  split at h
  · rename_i e _ _ _ _ ht
    have hu := und_slice hτ ht
    split at h
    · rename_i size sk rows hx
      obtain ⟨d, hd, h, hsz⟩ := sizeK_iff hτ h
      obtain ⟨hs, row, h0, hrow, hK⟩ := cond_iff h
      clear h
      have hs : d.size = size := by simpa using hs
      subst hs
      refine ⟨_, hK, qop_same fun a w ι M he hh => ?_⟩
      generalize hv : a.eval x = v
      have hiv := (he.to hi).inv_atm
      have hr := (he.to hx).inv_t
      rw [hv] at hr
      have hlt : n.toNat < rows.length := (List.getElem?_eq_some_iff.1 hrow).1
      cases hr with
      | @sl _ _ _ b off cap A f hrow' hcap hmax hk hn hA hc hr =>
        refine ⟨_, by simp [execOp, ho, hv, hiv]; rw [run_indexAt hu (hsz w) (b := b) (off := off) h0 (by omega) (fun h => hA (by intro e; rw [e] at h; simp at h))]; rfl,
          .c (.t (.ptr (fun j => f n.toNat j) (fun j c hj => ?_) (fun j c hj => hr _ _ _ (at2_some hrow hj))))⟩
        have := hc n.toNat j c (at2_some hrow hj)
        rw [Nat.add_assoc]
        exact this
    · rename_i id lo len app hx
      obtain ⟨d, hd, h, hsz⟩ := sizeK_iff hτ h
      obtain ⟨bk, hbk, h⟩ := getK_iff h
      obtain ⟨hdead, h⟩ := readable_iff h
      obtain ⟨hs, ⟨h0, h1⟩, h⟩ := cond_iff h
      have hs : d.size = bk.size := by simpa using hs
      refine ⟨_, h, qop_same fun a w ι M he hh => ?_⟩
      generalize hv : a.eval x = v
      have hiv := (he.to hi).inv_atm
      have hr := he.to hx
      rw [hv] at hr
      cases hr with
      | c hr => cases hr with
        | @own _ _ _ _ b cap size A cap' h' q1 q2 q3 q4 q5 =>
          obtain ⟨hq, _⟩ := hh.blk id bk hbk hdead _ h'
          refine ⟨_, by simp [execOp, ho, hv, hiv]; rw [run_indexAt hu (hsz w) (b := b) (off := lo * size) h0 h1 q2]; rfl, ?_⟩
          have e : lo * size + n.toNat * d.size = (lo + n.toNat) * size + 0 := by rw [hs, hq, Nat.add_mul, Nat.add_zero]
          rw [e]
          exact .c (.ptr h')
        | nil h => simp at h1; omega
    · exact h.elim
  · rename_i m e _ _ _ _ ht
    have hu := und_arr hτ ht
    obtain ⟨d, hd, h, hsz⟩ := sizeK_iff hτ h
    split at h
    · rename_i id r o' hx
      obtain ⟨⟨h0, h1⟩, h⟩ := h
      refine ⟨_, h, qop_same fun a w ι M he hh => ?_⟩
      generalize hv : a.eval x = v
      have hiv := (he.to hi).inv_atm
      have hr := he.to hx
      rw [hv] at hr
      cases hr with
      | c hr => cases hr with
        | ptr hi' =>
          refine ⟨_, by simp [execOp, ho, hv, hiv]; rw [run_indexArr hu (hsz w) h0 h1]; rfl, ?_⟩
          rw [Nat.add_assoc]
          exact .c (.ptr hi')
    · rename_i cells hx
      obtain ⟨⟨h0, h1⟩, h⟩ := h
      obtain ⟨hl, h⟩ := dropK_iff h
      refine ⟨_, h, qop_same fun a w ι M he hh => ?_⟩
      generalize hv : a.eval x = v
      have hiv := (he.to hi).inv_atm
      have hr := (he.to hx).inv_t
      rw [hv] at hr
      cases hr with
      | @ptr _ b off f hc hr =>
        refine ⟨_, by simp [execOp, ho, hv, hiv]; rw [run_indexArr hu (hsz w) h0 h1]; rfl, .c (.t (.ptr (fun j => f (n.toNat * d.size + j)) (fun j c hj => ?_) (fun j c hj => ?_)))⟩
        · rw [List.getElem?_drop] at hj
          rw [Nat.add_assoc]
          exact hc _ _ hj
        · rw [List.getElem?_drop] at hj
          exact hr _ _ hj
    · exact h.elim
  · exact h.elim

theorem optInt_iff {x : Option Operand} {dflt : Int} {k : Int → Prop} (h : optInt ev x dflt k) :
    ∃ n, k n ∧ ((x = none ∧ n = dflt) ∨ ∃ y kk, x = some y ∧ ev y = intS kk n) := by
  unfold optInt at h
  split at h
  · exact ⟨_, h, .inl ⟨rfl, rfl⟩⟩
  · split at h
    · rename_i y _ kk n hy
      exact ⟨n, h, .inr ⟨y, kk, rfl, hy⟩⟩
    · exact h.elim

/-- the bounds of a slice expression, as values -/
theorem run_sliceBounds {w : World} {ι : Io} {M : Ms} {a : Act} (he : EvRel w ι M ev a) {lo hi : Option Operand} {l h : Int} {len cap : Nat}
    (hl : (lo = none ∧ l = 0) ∨ ∃ y kk, lo = some y ∧ ev y = intS kk l) (hh : (hi = none ∧ h = (len : Int)) ∨ ∃ y kk, hi = some y ∧ ev y = intS kk h)
    (h0 : 0 ≤ l) (h1 : l ≤ h) (h2 : h ≤ (cap : Int)) :
    (Instr.sliceBounds true len cap (lo.map a.eval) (hi.map a.eval) none).run P w = .ok (l.toNat, h.toNat, cap) w := by
  have e1 : ∀ (n : Int) (m : Nat) (kk : IntKind) c, 0 ≤ n → n ≤ (m : Int) → (Instr.sliceBound (.int kk n) m c).run P w = .ok n.toNat w := fun n m kk c q1 q2 => by
    simp [Instr.sliceBound, asIntOf, q1, q2]
  rcases hl with ⟨rfl, rfl⟩ | ⟨y, kk, rfl, hy⟩ <;> rcases hh with ⟨rfl, rfl⟩ | ⟨y', kk', rfl, hy'⟩
  · simp [Instr.sliceBounds]
  · simp [Instr.sliceBounds, (he.to hy').inv_atm, e1 _ _ _ _ (by omega) h2]
  · simp only [Instr.sliceBounds, Option.map_some, Option.map_none, (he.to hy).inv_atm, Sem.run_bind, Sem.run_pure, Result.andThen_ok, Option.isSome_none, Bool.false_eq_true, if_false, e1 _ _ _ _ h0 h1]
    simp
  · simp only [Instr.sliceBounds, Option.map_some, Option.map_none, (he.to hy).inv_atm, (he.to hy').inv_atm, Sem.run_bind, Sem.run_pure, Result.andThen_ok, Option.isSome_none, Bool.false_eq_true, if_false, if_true, e1 _ _ _ _ (Int.le_trans h0 h1) h2]
    rw [e1 _ _ _ _ h0 (by omega)]
    simp

theorem aslice_sound (hτ : TabOK P τ) {t : TypeId} {x : Operand} {lo hi max : Option Operand} (ho : o.op = .slice t x lo hi max) {K : S → Prop} (h : aslice τ ev H t x lo hi max K) : ∃ s, K s ∧ QOp P o ev H s [] := by
  unfold aslice at h
  split at h
  rotate_left
  · exact h.elim
  rename_i e _ _ _ _ ht
  have hu := und_slice hτ ht
  split at h
  · rename_i size k rows hx
    obtain ⟨l, h, hl⟩ := optInt_iff h
    obtain ⟨u, h, hhi⟩ := optInt_iff h
    obtain ⟨d, hd, h, hsz⟩ := sizeK_iff hτ h
    obtain ⟨hs, ⟨h0, h1, h2⟩, h⟩ := cond_iff h
    have hs : d.size = size := by simpa using hs
    subst hs
    refine ⟨_, h, qop_same fun a w ι M he hh => ?_⟩
    generalize hv : a.eval x = v
    have hr := (he.to hx).inv_t
    rw [hv] at hr
    cases hr with
    | @sl _ _ _ b off cap A f hrow hcap hmax hk hn hA hc hr =>
      have hb := run_sliceBounds (P := P) (w := w) he hl hhi (cap := cap) h0 h1 (by omega)
      refine ⟨.slice (if cap = l.toNat then A else A.map (·.add (l.toNat * d.size))) (u.toNat - l.toNat) (cap - l.toNat), ?_, ?_⟩
      · simp [execOp, ho, hv, Instr.sliceAt, run_underlying hu, Instr.slice, hb, hsz]
      · have hlen : ((rows.take u.toNat).drop l.toNat).length = u.toNat - l.toNat := by simp; omega
        have hat : ∀ i j c, at2 ((rows.take u.toNat).drop l.toNat) i j = some c → at2 rows (l.toNat + i) j = some c := fun i j c hc => by
          obtain ⟨row, h1, h2⟩ := at2_inv hc
          rw [List.getElem?_drop, List.getElem?_take] at h1
          split at h1
          · exact at2_some h1 h2
          · cases h1
        rw [← hlen]
        refine .c (.t (.sl (b := b) (off := off + l.toNat * d.size) (fun i j => f (l.toNat + i) j) ?_ (by omega) (by omega) ?_ ?_ ?_ ?_ ?_))
        · intro r hr
          exact hrow r (List.mem_of_mem_take (List.mem_of_mem_drop hr))
        · intro hf
          have hkf : k = .full ∧ hi = none := by
            unfold sliceKind at hf
            split at hf
            · exact ⟨rfl, rfl⟩
            · cases hf
          obtain ⟨rfl, rfl⟩ := hkf
          rcases hhi with ⟨_, rfl⟩ | ⟨y, kk, hy, _⟩
          · rw [hk rfl, hlen]; simp
          · cases hy
        · intro hf
          unfold sliceKind at hf
          split at hf <;> cases hf
        · intro hne
          have hlt : 0 < ((rows.take u.toNat).drop l.toNat).length := List.length_pos_iff.2 hne
          rw [if_neg (by omega), hA (by intro e; subst e; simp at hlt)]
          simp [Addr.add_none]
        · intro i j c hc'
          obtain ⟨q1, q2⟩ := hc _ _ _ (hat i j c hc')
          refine ⟨?_, q2⟩
          rw [← q1]
          congr 2
          rw [Nat.add_mul]; omega
        · intro i j c hc'
          exact hr _ _ _ (hat i j c hc')
  · rename_i id l0 len app hx
    obtain ⟨l, h, hl⟩ := optInt_iff h
    obtain ⟨u, h, hhi⟩ := optInt_iff h
    obtain ⟨d, hd, h, hsz⟩ := sizeK_iff hτ h
    obtain ⟨bk, hbk, h⟩ := getK_iff h
    obtain ⟨hdead, h⟩ := readable_iff h
    obtain ⟨hs, ⟨h0, h1, h2⟩, h⟩ := cond_iff h
    have hs : d.size = bk.size := by simpa using hs
    refine ⟨_, h, qop_same fun a w ι M he hh => ?_⟩
    generalize hv : a.eval x = v
    have hr := he.to hx
    rw [hv] at hr
    cases hr with
    | c hr => cases hr with
      | @own _ _ _ _ b cap size A cap' h' q1 q2 q3 q4 q5 =>
        obtain ⟨hq, _⟩ := hh.blk id bk hbk hdead _ h'
        have hb := run_sliceBounds (P := P) (w := w) he hl hhi (cap := cap') h0 h1 (by omega)
        refine ⟨.slice (if cap' = l.toNat then A else A.map (·.add (l.toNat * d.size))) (u.toNat - l.toNat) (cap' - l.toNat), ?_, ?_⟩
        · simp [execOp, ho, hv, Instr.sliceAt, run_underlying hu, Instr.slice, hb, hsz]
        · rw [show (u - l).toNat = u.toNat - l.toNat by omega]
          refine .c (.own h' (by omega) ?_ (by omega) (by omega) ?_)
          · intro hpos
            rw [if_neg (by omega), q2 (by omega)]
            simp [Addr.add_none, hs, hq, Nat.add_mul]
          · intro happ
            obtain ⟨ha, hlo⟩ : app = true ∧ lo = none := by simpa using happ
            subst hlo
            rcases hl with ⟨_, rfl⟩ | ⟨y, kk, hy, _⟩
            · obtain ⟨r1, r2, r3⟩ := q5 ha
              subst r2
              simp [r1, r3, Addr.add_none]
            · cases hy
      | nil h' =>
        have hl0 : l = 0 := by omega
        have hu0 : u = 0 := by simp at h2; omega
        subst hl0 hu0
        have hb := run_sliceBounds (P := P) (w := w) he hl hhi (cap := 0) h0 h1 (by omega)
        refine ⟨_, by simp [execOp, ho, hv, Instr.sliceAt, run_underlying hu, Instr.slice, hb, hsz]; rfl, ?_⟩
        exact .c (.nil h')
  · exact h.elim
end
end Go.Proofs.Ythjgbjakpbfnoaa
