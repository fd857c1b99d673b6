/- The program's data as trees, and small rules of the abstract machine. -/
import Derived.Test.YthjgbjakpbfnoaaAbs17
import Derived.Test.YthjgbjakpbfnoaaTab
import Derived.Test.YthjgbjakpbfnoaaSized
namespace Go.Proofs.Ythjgbjakpbfnoaa
open Go.RowKit
set_option linter.unusedVariables false

abbrev ti (n : Int) : T := .atm (.int .i64 n)
abbrev tb (b : Bool) : T := .atm (.bool b)
def Place.row (p : Place) : List T := [ti p.kind, ti p.hh, ti p.mat]
def Move.row (m : Move) : List T := [ti m.day, ti m.src, ti m.dst, ti m.scale, ti m.reading, tb m.all]
def Cert.row (c : Cert) : List T := [ti c.scale, ti c.since, ti c.till, ti c.grams, ti c.permille, ti c.drift]
def Recall.row (r : Recall) : List T := [ti r.scale, ti r.since]
def Purity.row (p : Purity) : List T := [ti p.move, ti p.mat, ti p.least, ti p.most]
def intRow (n : Int) : List T := [ti n]
def boolRow (b : Bool) : List T := [tb b]
abbrev placesT (l : List Place) : T := .sl 3 .any (l.map Place.row)
abbrev movesT (l : List Move) : T := .sl 6 .any (l.map Move.row)
abbrev certsT (l : List Cert) : T := .sl 6 .any (l.map Cert.row)
abbrev recallsT (l : List Recall) : T := .sl 2 .any (l.map Recall.row)
abbrev puritiesT (l : List Purity) : T := .sl 4 .any (l.map Purity.row)
abbrev intsT (l : List Int) : T := .sl 1 .any (l.map intRow)
abbrev boolsT (l : List Bool) : T := .sl 1 .any (l.map boolRow)
def evC (e : Ev) : List C := [.t (ti e.mats), .t (ti e.hhs), .t (ti e.scs), .t (placesT e.places), .t (movesT e.moves), .t (certsT e.certs), .t (recallsT e.recalls), .t (puritiesT e.purities)]
def evT (e : Ev) : List T := [ti e.mats, ti e.hhs, ti e.scs, placesT e.places, movesT e.moves, certsT e.certs, recallsT e.recalls, puritiesT e.purities]
abbrev evS (e : Ev) : S := .agg (evC e)
abbrev intsS (l : List Int) : S := .c (.t (intsT l))
abbrev boolsS (l : List Bool) : S := .c (.t (boolsT l))
def Place.cs (p : Place) : List C := p.row.map .t
def Move.cs (m : Move) : List C := m.row.map .t
abbrev moveS (m : Move) : S := .agg m.cs
abbrev placeS (p : Place) : S := .agg p.cs
abbrev evB (e : Ev) : Blk := newBlk 28 8 [evC e] true

theorem fin_bool {a b : Bool} {H1 : Hp} (h : a = b) : Fin 0 (boolS a) H1 (boolS b) [] := fin_t (by subst h; exact rfl)
theorem fin_int {a b : Int} {k : IntKind} {H1 : Hp} (h : a = b) : Fin 0 (intS k a) H1 (intS k b) [] := fin_t (by subst h; exact rfl)
theorem boolS_t : (S.c (C.t (T.atm (Value.bool true)))) = boolS true := rfl
theorem boolS_congr {a b : Bool} (h : a = b) : boolS a = boolS b := by rw [h]
theorem intS_congr {a b : Int} {k : IntKind} (h : a = b) : intS k a = intS k b := by rw [h]
theorem ent_t {x y : T} {ρ : List (Option Nat)} {H : Hp} (h : x = y) : EntS ρ H (.c (.t x)) (.c (.t y)) := weak_eq h
theorem ent_i {a b : Int} {k : IntKind} {ρ : List (Option Nat)} {H : Hp} (h : a = b) : EntS ρ H (intS k a) (intS k b) := by subst h; exact rfl
theorem rowsT_ev (e : Ev) : rowsT [evC e] := by simp [rowsT, evC, C.isT]
theorem vs_ev {H : Hp} {p : Nat → Prop} (e : Ev) : VS H p (evS e) (evS e) := vs_ts (evT e)
end Go.Proofs.Ythjgbjakpbfnoaa
