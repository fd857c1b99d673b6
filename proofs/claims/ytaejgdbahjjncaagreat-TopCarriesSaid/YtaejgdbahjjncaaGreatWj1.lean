/- Part 1. -/
import Derived.WalkKit
import Derived.WalkSpells
import Derived.WalkLawsBesides
import Derived.Lib.Hide
import Derived.Laws.OwnMore
import Derived.Deep.AppendLies
import Derived.Deep.Draws
namespace Go.Proofs.YtaejgdbahjjncaaGreat
set_option linter.unusedVariables false
set_option linter.unusedSimpArgs false
section
abbrev lba:=@List.getElem?_map
abbrev lbb:=@List.getElem?_append_left
abbrev lbc:=@List.getElem?_append_right
abbrev lbd:=@List.getElem?_eq_none
abbrev lbe:=@List.getElem?_eq_some_iff
abbrev lbf:=@List.getElem?_eq_getElem
abbrev lbg:=@List.getElem?_set
abbrev lbh:=@List.getElem?_range
abbrev lbi:=@List.getElem?_take
abbrev lbj:=@List.getElem?_drop
abbrev lbk:=@List.getElem?_replicate
abbrev lbl:=@List.getD_eq_getElem?_getD
abbrev lbm:=@List.mem_of_getElem?
abbrev lbn:=@List.take_of_length_le
abbrev lbo:=@List.drop_of_length_le
abbrev lbp:=@List.map_congr_left
abbrev lbq:=@List.length_append
abbrev lbr:=@List.length_map
abbrev lbs:=@List.length_take
abbrev lbt:=@List.length_filter_le
abbrev lbu:=@List.length_cons
abbrev lbv:=@List.all_eq_true
abbrev lbw:=@List.any_eq_true
abbrev lbx:=@List.mem_map
abbrev lby:=@List.mem_filter
abbrev lbz:=@List.mem_append
abbrev lbA:=@List.mem_cons
abbrev lbB:=@List.mem_range
abbrev lbC:=@List.map_append
abbrev lbD:=@List.append_assoc
abbrev lbE:=@List.getElem_mem
abbrev lbF:=@List.eq_nil_of_length_eq_zero
abbrev lbG:=@List.take_add_one
abbrev lbH:=@decide_eq_true
abbrev lbI:=@decide_eq_true_eq
abbrev lbJ:=@decide_eq_false
abbrev lbK:=@decide_eq_false_iff_not
abbrev lbL:=@of_decide_eq_true
abbrev lbM:=@Bool.and_eq_true
abbrev lbN:=@Bool.or_eq_true
abbrev lbO:=@Bool.and_eq_false_iff
abbrev lbP:=@Bool.not_eq_true
abbrev lbQ:=@Nat.le_refl
abbrev lbR:=@Nat.le_trans
abbrev lbS:=@Nat.mul_le_mul
abbrev lbT:=@Nat.mul_le_mul_right
abbrev lbU:=@Nat.succ_mul
abbrev lbV:=@Int.mul_le_mul_of_nonneg_left
abbrev lbW:=@Int.mul_le_mul_of_nonneg_right
abbrev lbX:=@Int.toNat_natCast
abbrev lbY:=@Int.toNat_of_nonneg
abbrev lbZ:=@Int.mul_nonneg
abbrev lb0:=@Rat.mul_nonneg
abbrev lb1:=@Rat.le_refl
abbrev lb2:=@Rat.not_lt
abbrev lb3:=@Option.some.injEq
abbrev lb4:=@Array.getElem?_eq_some_iff
abbrev lb5:=@List.getD_cons_zero
abbrev lb6:=@List.take_append_drop
abbrev lb7:=@List.filter_append
abbrev lb8:=@List.not_mem_nil
abbrev lb9:=@Classical.byContradiction
abbrev aJ8:=@List.cons_append
abbrev b17:=@List.take_succ_eq_append_getElem
abbrev D8:=@Nat.zero_add
abbrev ab1:=@List.mem_of_mem_take
abbrev aN6:=@List.mem_of_mem_drop
abbrev b4r:=@List.mem_or_eq_of_mem_set
abbrev a1h:=@Nat.min_eq_left
abbrev K4:=@Nat.lt_or_ge
abbrev a52:=@List.drop_eq_getElem_cons
abbrev a3m:=@Nat.eq_zero_or_pos
abbrev K5:=@List.length_nil
abbrev S8:=@List.length_eq_zero_iff
abbrev aF8:=@Nat.add_sub_cancel
abbrev a4c:=@List.take_length
abbrev B9:=@Nat.zero_le
abbrev a9P:=@Int.lt_or_le
abbrev a0P:=@Int.mul_le_mul
abbrev aK0:=@Int.emod_nonneg
abbrev b18:=@Int.emod_lt_of_pos
abbrev b5d:=@List.drop_set_of_lt
abbrev a6c:=@List.drop_zero
abbrev aC5:=@Int.add_comm
abbrev aD9:=@Int.emod_eq_of_lt
abbrev a9Z:=@Int.lt_trichotomy
abbrev ab9:=@Int.mul_comm
abbrev X2:=@Int.le_of_lt
abbrev b4p:=@Int.lt_of_mul_lt_mul_left
abbrev b52:=@Int.sign_mul_natAbs
abbrev al2:=@Int.one_mul
abbrev a5i:=@Int.sign_eq_one_of_pos
abbrev ac1:=@Int.sign_eq_neg_one_of_neg
abbrev N9:=@Bool.true_and
abbrev b4q:=@Int.natAbs_natCast
abbrev a9l:=@List.drop_drop
abbrev af2:=@List.nil_append
abbrev a3Y:=@List.length_drop
abbrev ad1:=@Int.eq_ofNat_of_zero_le
abbrev b0v:=@Nat.mod_eq_of_lt
abbrev a7u:=@Int.natAbs_neg
abbrev aa3:=@Int.natAbs_mul
abbrev a5E:=@Int.natCast_mul
abbrev a9G:=@List.pairwise_cons
abbrev aw3:=@Nat.lt_trichotomy
abbrev ax7:=@Nat.le_of_not_lt
abbrev aV2:=@Classical.epsilon_spec
abbrev a7D:=@Bool.not_eq_true'
abbrev a23:=@Bool.or_eq_false_iff
abbrev a5R:=@Bool.false_eq_true
abbrev a3a:=@List.all_append
abbrev a7M:=@Bool.and_true
abbrev a8g:=@List.mem_replicate
abbrev aP0:=@List.length_replicate
abbrev Y0:=@List.getElem_of_mem
abbrev a7g:=@List.take_zero
abbrev a9D:=@Rat.mul_assoc
abbrev aV5:=@Rat.mul_inv_cancel
abbrev a27:=@Nat.lt_of_lt_of_le
abbrev U9:=@Nat.add_assoc
abbrev a7v:=@Nat.add_zero
abbrev a7O:=@List.map_take
abbrev aB3:=@Option.isSome_iff_exists
abbrev I3:=@Nat.add_mul
abbrev V5:=@Option.map_some
abbrev a5Q:=@List.length_pos_iff
abbrev av0:=@List.getElem_map
abbrev aT1:=@List.mem_iff_getElem?
abbrev ad4:=@List.foldl_cons
abbrev R5:=@Nat.blt_eq
abbrev a9L:=@List.map_cons
abbrev a5B:=@Nat.zero_mul
abbrev ah3:=@Nat.mul_comm
abbrev a5y:=@Nat.mod_lt
abbrev a1A:=@Array.length_toList
abbrev a8a:=@Nat.le_mul_of_pos_right
abbrev a4p:=@List.size_toArray
abbrev R7:=@List.append_nil
abbrev Z4:=@List.ext_getElem?
abbrev av6:=@List.set_append_left
abbrev aa1:=@Nat.lt_or_gt_of_ne
abbrev R6:=@Array.getD_eq_getD_getElem?
abbrev ad9:=@Option.getD_some
abbrev a7y:=@List.mem_zipIdx_iff_getElem?
abbrev av8:=@Bool.not_true
abbrev ax9:=@List.contains_iff_mem
abbrev a9V:=@Nat.beq_refl
abbrev a0H:=@Nat.eq_of_beq_eq_true
abbrev ay8:=@Classical.choose_spec
abbrev a2V:=@Option.map_eq_some_iff
abbrev Z3:=@List.map_map
abbrev af8:=@List.pairwise_iff_getElem
abbrev a2Z:=@List.map_set
abbrev ax2:=@Nat.pow_le_pow_right
abbrev K9:=@List.mem_cons_self
abbrev aw8:=@Bool.eq_iff_iff
abbrev aa8:=@Int.zero_sub
abbrev a44:=@Int.add_mul
abbrev aB5:=@Bool.false_and
abbrev a7U:=@List.range_succ
abbrev a5l:=@Int.le_refl
abbrev a8f:=@Rat.not_le
abbrev O6:=@List.mem_cons_of_mem
abbrev a5S:=@Array.size_range
end
section
open Go.RowKit
structure C2 where
 kind:Int
 hh:Int
 mat:Int
structure j5 where
 day:Int
 src:Int
 dst:Int
 scale:Int
 reading:Int
 all:Bool
structure D7 where
 scale:Int
 since:Int
 till:Int
 grams:Int
 permille:Int
 drift:Int
structure s8 where
 scale:Int
 since:Int
structure w9 where
 move:Int
 mat:Int
 least:Int
 most:Int
structure Ev where
 mats:Int
 hhs:Int
 scs:Int
 places:List C2
 moves:List j5
 certs:List D7
 recalls:List s8
 purities:List w9
abbrev vi (n:Int):Value:=.int .i64 n
def C2.cells (p:C2):List Value:=[vi p.kind,vi p.hh,vi p.mat]
def j5.cells (m:j5):List Value:=[vi m.day,vi m.src,vi m.dst,vi m.scale,vi m.reading,.bool m.all]
def D7.cells (c:D7):List Value:=[vi c.scale,vi c.since,vi c.till,vi c.grams,vi c.permille,vi c.drift]
def s8.cells (r:s8):List Value:=[vi r.scale,vi r.since]
def w9.cells (p:w9):List Value:=[vi p.move,vi p.mat,vi p.least,vi p.most]
def Rd {α:Type} (k:Nat) (f:α->List Value) (w:World) (A:Option Addr) (n:Nat) (xs:List α):Prop:=
 n=xs.length∧(0<n->∃b off,A=some ⟨b,off,none⟩∧∀i x,xs[i]? =some x->∀j u,(f x)[j]? =some u->w.cell? ⟨b,off+(i*k+j),none⟩=some u)
section
variable {α:Type} {k:Nat} {f:α->List Value} {w w':World} {A:Option Addr} {n:Nat} {xs:List α}
theorem Rd.nil (A:Option Addr):Rd k f w A 0 ([]:List α):=⟨rfl,fun h=>absurd h (by omega)⟩
theorem Rd.len (h:Rd k f w A n xs):n=xs.length:=h.1
end
abbrev Ri (w:World) (A:Option Addr) (n:Nat) (xs:List Int):Prop:=Rd 1 (fun x:Int=>[vi x]) w A n xs
structure EvR (w:World) (m h s:Int) (A1:Option Addr) (n1:Nat) (A2:Option Addr) (n2:Nat) (A3:Option Addr) (n3:Nat) (A4:Option Addr) (n4:Nat) (A5:Option Addr) (n5:Nat) (e:Ev):Prop where
 em:m=e.mats
 eh:h=e.hhs
 es:s=e.scs
 r1:Rd 3 C2.cells w A1 n1 e.places
 r2:Rd 6 j5.cells w A2 n2 e.moves
 r3:Rd 6 D7.cells w A3 n3 e.certs
 r4:Rd 2 s8.cells w A4 n4 e.recalls
 r5:Rd 4 w9.cells w A5 n5 e.purities
section
variable {w w':World} {m h s:Int} {A1 A2 A3 A4 A5:Option Addr} {n1 n2 n3 n4 n5:Nat} {e:Ev}
end
end
section
def idx (a b:Int):Bool:=decide (0<=a) && decide (a<b)
def btw (n lo hi:Int):Bool:=decide (lo<=n) && decide (n<=hi)
theorem b6b (a b:Int):btw a 0 (b - 1)=idx a b:=by
 unfold btw idx
 have:decide (a<=b - 1)=decide (a<b):=by simp;omega
 rw [this]
theorem b00 {a b:Int}:idx a b=true↔0<=a∧a<b:=by simp [idx]
theorem a30 {a b c:Int}:btw a b c=true↔b<=a∧a<=c:=by simp [btw]
def ai0 (e:Ev):Bool:=
 decide (6<e.mats) || decide (100<e.hhs) || decide (30<e.scs) || decide (100<e.places.length) || decide (200<e.moves.length) ||
  decide (100<e.certs.length) || decide (30<e.recalls.length) || decide (200<e.purities.length)
def a1L (e:Ev) (p:C2):Bool:=
 idx p.kind 7 && (if p.kind=0 then idx p.hh e.hhs && idx p.mat e.mats else decide (p.hh=-1) && decide (p.mat=-1))
def F4 (e:Ev) (i:Int):Int:=((e.places[i.toNat]?).map (·.kind)).getD (-1)
def X7 (e:Ev) (m:j5):Bool:=
 idx m.src e.places.length && idx m.dst e.places.length && decide (m.src≠m.dst) && decide (F4 e m.src≠5) && decide (F4 e m.src≠6) &&
  !(decide (F4 e m.src=0) && m.all) && decide (F4 e m.dst≠0) && (if m.scale=-1 then decide (m.reading=0) else idx m.scale e.scs && btw m.reading 0 1099511627776)
def a9R (e:Ev) (c:D7):Bool:=
 decide (0<=c.since) && decide (c.since<=c.till) && decide (c.till<=100000) && idx c.scale e.scs && btw c.grams 0 1099511627776 && btw c.permille 0 1000 && btw c.drift 0 10000000
def a3S (e:Ev) (r:s8):Bool:=idx r.scale e.scs && btw r.since 0 100000
def a1d (e:Ev) (p:w9):Bool:=
 idx p.move e.moves.length && idx p.mat e.mats && decide (0<=p.least) && decide (p.least<=p.most) && decide (p.most<=1000)
def a1o (e:Ev):Bool:=e.certs.all (a9R e) && e.recalls.all (a3S e) && e.purities.all (a1d e)
def I0 (e:Ev):Int->List j5->Int
 |_,[]=>0
 |last,m::r=>if m.day<last∨100000<m.day then 17 else if X7 e m then I0 e m.day r else 1
def p7 (e:Ev):Int:=
 if ai0 e then 6 else if e.mats<1∨e.hhs<0∨e.scs<0∨e.places.all (a1L e)=false then 1
 else if I0 e 0 e.moves≠0 then I0 e 0 e.moves else if a1o e then 0 else 1
theorem b2y {e:Ev} {i:Nat} {p:C2} (h:e.places[i]? =some p):F4 e (i:Int)=p.kind:=by
 simp [F4,h]
theorem ak0 {e:Ev} {l:List j5}:∀{last:Int},I0 e last l=0->∀m ∈ l,X7 e m=true:=by
 induction l with
 |nil=>intro last _ m hm;cases hm
 |cons m r ih=>
  intro last h x hx
  unfold I0 at h
  split at h
  ·simp at h
  ·split at h
   ·rename_i hmk
    rcases lbA.1 hx with rfl|hx
    ·exact hmk
    ·exact ih h x hx
   ·simp at h
theorem a32 {e:Ev} (h:p7 e=0):ai0 e=false∧1<=e.mats∧0<=e.hhs∧0<=e.scs∧e.places.all (a1L e)=true∧I0 e 0 e.moves=0∧a1o e=true:=by
 unfold p7 at h
 by_cases h1:ai0 e=true
 ·rw [if_pos h1] at h;simp at h
 rw [if_neg h1] at h
 by_cases h2:e.mats<1∨e.hhs<0∨e.scs<0∨e.places.all (a1L e)=false
 ·rw [if_pos h2] at h;simp at h
 rw [if_neg h2] at h
 by_cases h3:I0 e 0 e.moves≠0
 ·rw [if_pos h3] at h;exact absurd h h3
 rw [if_neg h3] at h
 by_cases h4:a1o e=true
 ·refine ⟨by simpa using h1,by omega,by omega,by omega,?_,by simpa using h3,h4⟩
  rw [← Bool.not_eq_false]
  exact fun hq=>h2 (.inr (.inr (.inr hq)))
 ·rw [if_neg h4] at h;simp at h
theorem a07 {e:Ev} (h:p7 e=0) {m:j5} (hm:m ∈ e.moves):X7 e m=true:=ak0 (a32 h).2.2.2.2.2.1 m hm
theorem a9u {e:Ev} {m:j5} (h:X7 e m=true):0<=m.src∧m.src<e.places.length:=by
 simp [X7] at h
 exact b00.1 h.1.1.1.1.1.1.1
def l9 {α:Type} (p:Nat->α->Bool):Nat->List α->List Int
 |_,[]=>[]
 |k,m::r=>if p k m then (k:Int)::l9 p (k+1) r else l9 p (k+1) r
def U6 {α:Type} (p:Nat->α->Bool) (l:List α) (k:Nat):List Int:=l9 p 0 (l.take k)
theorem a8Q {α:Type} (p:Nat->α->Bool) (a b:List α):∀k,l9 p k (a++b)=l9 p k a++l9 p (k+a.length) b:=by
 induction a with
 |nil=>intro k;simp [l9]
 |cons m r ih=>
  intro k
  simp only [aJ8,l9,ih,lbu]
  rw [show k+1+r.length=k+(r.length+1) from by omega]
  split<;>simp
theorem a8l {α:Type} (p:Nat->α->Bool) {l:List α} {k:Nat} {x:α} (h:l[k]? =some x):U6 p l (k+1)=U6 p l k++(if p k x then [(k:Int)] else []):=by
 obtain ⟨hk,hx⟩:=lbe.1 h
 unfold U6
 rw [b17 hk,a8Q,hx]
 have:(l.take k).length=k:=by simp;omega
 rw [this]
 simp only [l9,D8]
theorem af1 {α:Type} (p:Nat->α->Bool) {l:List α} {k:Nat} {x:α} (h:l[k]? =some x) (hp:p k x=true):U6 p l (k+1)=U6 p l k++[(k:Int)]:=by
 rw [a8l p h,if_pos hp]
theorem aq6 {α:Type} (p:Nat->α->Bool) {l:List α} {k:Nat} {x:α} (h:l[k]? =some x) (hp:p k x=false):U6 p l (k+1)=U6 p l k:=by
 rw [a8l p h,if_neg (by simp [hp])];simp
theorem aS7 {α:Type} (p:Nat->α->Bool) {l:List α} {k:Nat} (h:l.length<=k):U6 p l k=l9 p 0 l:=by
 unfold U6;rw [lbn h]
theorem a8T {α:Type} (p:Nat->α->Bool) (l:List α):∀k,(l9 p k l).length<=l.length:=by
 induction l with
 |nil=>intro k;simp [l9]
 |cons m r ih=>
  intro k
  have:=ih (k+1)
  simp only [l9]
  split<;>simp<;>omega
theorem ai4 {α:Type} (p:Nat->α->Bool) (l:List α) (k:Nat):(U6 p l k).length<=k:=by
 have:=a8T p (l.take k) 0
 have h2:(l.take k).length<=k:=List.length_take_le _ _
 unfold U6
 omega
def a0L (e:Ev) (place:Int):Bool:=decide (p7 e=0) && idx place e.places.length && decide (F4 e place=0)
def a3z (e:Ev) (place upto:Int):List Int:=if p7 e=0 then l9 (fun k m=>decide ((k:Int)<upto) && decide (m.dst=place)) 0 e.moves else []
def a1V (e:Ev) (place upto:Int):List Int:=if p7 e=0 then l9 (fun k m=>decide ((k:Int)<upto) && decide (m.src=place)) 0 e.moves else []
def few (e:Ev):Bool:=decide (e.places.length<=110) && decide (e.moves.length<=210) && decide (e.certs.length<=110) && decide (e.recalls.length<=40) && decide (e.purities.length<=210)
end
section
abbrev Bs:Int:=1048576
def val:List Int->Int
 |[]=>0
 |d::r=>d+1048576*val r
def Okd (l:List Int):Prop:=∀d ∈ l,0<=d∧d<1048576
def dgF:Nat->Nat->List Int
 |0,_=>[]
 |f+1,n=>if n=0 then [] else ((n % 1048576:Nat):Int)::dgF f (n / 1048576)
def dg (n:Nat):List Int:=dgF n n
def pw (i:Nat):Int:=1048576 ^ i
theorem b5Q:pw 0=1:=rfl
theorem J2 (i:Nat):pw (i+1)=pw i*1048576:=Int.pow_succ ..
theorem Q1 (i:Nat):0<pw i:=Int.pow_pos (by decide)
theorem a7i (i j:Nat):pw (i+j)=pw i*pw j:=Int.pow_add ..
theorem a1T {i j:Nat} (h:i<=j):pw i<=pw j:=by
 obtain ⟨k,rfl⟩:=Nat.exists_eq_add_of_le h
 rw [a7i]
 have h1:=Q1 i
 have h2:=Q1 k
 have:=lbV (a:=1) (b:=pw k) (c:=pw i) (by omega) (by omega)
 omega
theorem Okd.nil:Okd []:=fun _ h=>nomatch h
theorem Okd.cons {d:Int} {l:List Int} (h1:0<=d∧d<1048576) (h2:Okd l):Okd (d::l):=by
 intro x hx
 rcases lbA.1 hx with rfl|hx
 ·exact h1
 ·exact h2 x hx
theorem Okd.head {d:Int} {l:List Int} (h:Okd (d::l)):0<=d∧d<1048576:=h d (by simp)
theorem Okd.tail {d:Int} {l:List Int} (h:Okd (d::l)):Okd l:=fun x hx=>h x (by simp [hx])
theorem Okd.take {l:List Int} (h:Okd l) (n:Nat):Okd (l.take n):=fun x hx=>h x (ab1 hx)
theorem Okd.drop {l:List Int} (h:Okd l) (n:Nat):Okd (l.drop n):=fun x hx=>h x (aN6 hx)
theorem Okd.append {a b:List Int} (h:Okd a) (h2:Okd b):Okd (a++b):=fun x hx=>by
 rcases lbz.1 hx with hx|hx
 ·exact h x hx
 ·exact h2 x hx
theorem Okd.set {l:List Int} (h:Okd l) {i:Nat} {x:Int} (hx:0<=x∧x<1048576):Okd (l.set i x):=fun y hy=>by
 rcases b4r hy with hy|rfl
 ·exact h y hy
 ·exact hx
theorem Okd.zeros (n:Nat):Okd (List.replicate n 0):=fun x hx=>by rw [List.eq_of_mem_replicate hx];decide
theorem p8 {l:List Int} (h:Okd l):0<=val l:=by
 induction l with
 |nil=>simp [val]
 |cons d l ih=>have:=ih h.tail;have:=h.head;simp only [val];omega
theorem a02 {l:List Int} (h:Okd l):val l<pw l.length:=by
 induction l with
 |nil=>simp [val,pw]
 |cons d l ih=>
  have:=ih h.tail;have:=h.head
  simp only [val,lbu,J2];omega
theorem P6 (a b:List Int):val (a++b)=val a+pw a.length*val b:=by
 induction a with
 |nil=>simp [val,pw]
 |cons d a ih=>simp only [aJ8,val,ih,lbu,J2];grind
theorem a7Q (n:Nat):val (List.replicate n 0)=0:=by
 induction n with
 |zero=>rfl
 |succ n ih=>simp [List.replicate_succ,val,ih]
theorem a7c (l:List Int) (i:Nat) (h:i<=l.length):val l=val (l.take i)+pw i*val (l.drop i):=by
 have:=P6 (l.take i) (l.drop i)
 rw [lb6] at this
 rw [this]
 rw [lbs,a1h h]
theorem a57 {l:List Int} {i:Nat} {x:Int} (h:l[i]? =some x):val (l.take (i+1))=val (l.take i)+pw i*x:=by
 have hi:i<l.length:=by
  rcases K4 i l.length with h1|h1
  ·exact h1
  ·rw [lbd h1] at h;cases h
 rw [lbG,h,P6,lbs,a1h (by omega)]
 simp [val]
theorem a4k {l:List Int} {i:Nat} {x:Int} (h:l[i]? =some x):val (l.drop i)=x+1048576*val (l.drop (i+1)):=by
 have hi:i<l.length:=by
  rcases K4 i l.length with h1|h1
  ·exact h1
  ·rw [lbd h1] at h;cases h
 rw [a52 hi]
 rw [lbf hi] at h
 injection h with h
 rw [h];rfl
theorem b5F {l:List Int} {i:Nat} {x y:Int} (h:l[i]? =some y):val (l.set i x)=val l+pw i*(x - y):=by
 induction l generalizing i with
 |nil=>simp at h
 |cons d l ih=>
  cases i with
  |zero=>
   simp only [List.getElem?_cons_zero,lb3] at h
   subst h
   simp [val,pw];omega
  |succ i=>
   simp only [List.getElem?_cons_succ] at h
   simp only [List.set_cons_succ,val,ih h,J2];grind
theorem b3D (f n:Nat) (h:n<=f):dgF f n=dg n:=by
 unfold dg
 induction f using Nat.strongRecOn generalizing n with
 |ind f ih=>
  cases f with
  |zero=>cases Nat.le_zero.1 h;rfl
  |succ f=>
   cases n with
   |zero=>rfl
   |succ n=>
    simp only [dgF,Nat.succ_ne_zero,if_false]
    rw [ih f (by omega) _ (by omega),ih n (by omega) _ (by omega)]
theorem a1S:dg 0=[]:=rfl
theorem a5Y {n:Nat} (h:0<n):dg n=((n % 1048576:Nat):Int)::dg (n / 1048576):=by
 obtain ⟨m,rfl⟩:∃m,n=m+1:=⟨n - 1,by omega⟩
 show dgF (m+1) (m+1)=_
 simp only [dgF,Nat.succ_ne_zero,if_false]
 rw [b3D _ _ (by omega)]
theorem aR3 {P:Nat->Prop} (h0:P 0) (h:∀n,0<n->P (n / 1048576)->P n) (n:Nat):P n:=by
 induction n using Nat.strongRecOn with
 |ind n ih=>
  rcases a3m n with rfl|hn
  ·exact h0
  ·exact h n hn (ih _ (by omega))
theorem x3 (n:Nat):val (dg n)=n:=by
 induction n using aR3 with
 |h0=>rfl
 |h n hn ih=>rw [a5Y hn,val,ih];omega
theorem B5 (n:Nat):Okd (dg n):=by
 induction n using aR3 with
 |h0=>exact .nil
 |h n hn ih=>rw [a5Y hn];exact .cons (by omega) ih
theorem R1 {n:Nat}:dg n=[]↔n=0:=by
 constructor
 ·intro h
  have:=x3 n
  rw [h] at this
  simp only [val] at this;omega
 ·rintro rfl;rfl
def N3:List Int->List Int
 |[]=>[]
 |d::r=>if N3 r=[]∧d=0 then [] else d::N3 r
theorem T0 {l:List Int} (h:Okd l):N3 l=dg (val l).toNat:=by
 induction l with
 |nil=>rfl
 |cons d l ih=>
  have h0:=p8 h.tail
  have h1:=h.head
  have hv:(val (d::l)).toNat=d.toNat+1048576*(val l).toNat:=by simp only [val];omega
  rw [N3,ih h.tail,hv]
  split
  ·rename_i hc
   have:=R1.1 hc.1
   rw [this,hc.2];rfl
  ·rename_i hc
   rw [a5Y (n:=d.toNat+1048576*(val l).toNat)]
   ·congr 1
    ·omega
    ·congr 1;omega
   ·rcases a3m (val l).toNat with h2|h2
    ·have:d≠0:=fun h3=>hc ⟨by rw [h2];rfl,h3⟩
     omega
    ·omega
theorem a5C {l:List Int} {n:Nat} (h1:∀j x,n<=j->l[j]? =some x->x=0) (h2:∀x,0<n->l[n-1]? =some x->x≠0) (hn:n<=l.length):l.take n=N3 l:=by
 induction l generalizing n with
 |nil=>simp [N3]
 |cons d l ih=>
  cases n with
  |zero=>
   have ht:N3 l=[]:=by
    rw [← ih (n:=0) (fun j x _ hx=>h1 (j+1) x (by omega) (by simpa using hx)) (fun x h=>absurd h (by omega)) (by omega)];rfl
   have hd:d=0:=h1 0 d (by omega) (by simp)
   simp [N3,ht,hd]
  |succ n=>
   have ht:N3 l=l.take n:=by
    refine (ih (n:=n) (fun j x hj hx=>h1 (j+1) x (by omega) (by simpa using hx)) (fun x h hx=>h2 x (by omega) ?_) (by simpa using hn)).symm
    obtain ⟨m,rfl⟩:∃m,n=m+1:=⟨n - 1,by omega⟩
    simpa using hx
   rw [N3,ht,List.take_succ_cons,if_neg]
   rintro ⟨h3,h4⟩
   have hn0:n=0:=by
    rcases a3m n with h5|h5
    ·exact h5
    ·have:=congrArg List.length h3
     simp only [lbs,K5,lbu] at this hn
     omega
   subst hn0
   exact h2 d (by omega) (by simp) h4
theorem O2 {n k:Nat} (h:(n:Int)<pw k):(dg n).length<=k:=by
 induction k generalizing n with
 |zero=>have:n=0:=by simp [pw] at h;omega
        subst this;simp [a1S]
 |succ k ih=>
  rcases a3m n with rfl|hn
  ·simp [a1S]
  ·rw [a5Y hn]
   rw [J2] at h
   have:=ih (n:=n / 1048576) (by omega)
   simp;omega
theorem aA3 {n:Nat} (h:0<n):pw ((dg n).length - 1)<=n:=by
 induction n using aR3 with
 |h0=>omega
 |h n hn ih=>
  rw [a5Y hn]
  rcases a3m (n / 1048576) with h1|h1
  ·rw [h1,a1S]
   simp [pw];omega
  ·have h2:=ih h1
   have:(dg (n / 1048576)).length≠0:=by rw [Ne,S8,R1];omega
   obtain ⟨m,hm⟩:∃m,(dg (n / 1048576)).length=m+1:=⟨(dg (n / 1048576)).length - 1,by omega⟩
   rw [hm] at h2
   rw [lbu,hm]
   simp only [aF8] at h2 ⊢
   rw [J2];omega
theorem N7 (n:Nat):(n:Int)<pw (dg n).length:=by
 have:=a02 (B5 n);rw [x3] at this;exact this
theorem x6 {m n:Nat} (h:m<=n):(dg m).length<=(dg n).length:=O2 (by have:=N7 n;omega)
theorem at5 {m n:Nat} (h:(dg m).length<(dg n).length):m<n:=by
 rcases K4 m n with h1|h1
 ·exact h1
 ·have:=x6 h1;omega
def Can (l:List Int):Prop:=Okd l∧∀x,l[l.length - 1]? =some x->x≠0
theorem aX1 {l:List Int} (h:Can l):l=dg (val l).toNat:=by
 rw [← T0 h.1]
 have:=a5C (l:=l) (n:=l.length) (fun j x hj hx=>by rw [lbd hj] at hx;cases hx) (fun x _ hx=>h.2 x hx) (lbQ _)
 rw [a4c] at this
 exact this
theorem a1t (n:Nat):Can (dg n):=by
 refine ⟨B5 n,fun x hx h0=>?_⟩
 subst h0
 have hl:0<(dg n).length:=by
  rcases a3m (dg n).length with h|h
  ·rw [S8.1 h] at hx;simp at hx
  ·exact h
 have hp:0<n:=by
  rcases a3m n with rfl|h
  ·simp [a1S] at hl
  ·exact h
 have h1:=aA3 hp
 have h2:=a57 hx
 rw [show (dg n).length - 1+1=(dg n).length by omega,a4c,x3] at h2
 have h3:=a02 ((B5 n).take ((dg n).length - 1))
 rw [lbs,a1h (by omega)] at h3
 omega
theorem a8j {a b:List Int} (ha:Okd a) (hb:Okd b) (hl:a.length=b.length) {i:Nat} {x y:Int} (hx:a[i]? =some x) (hy:b[i]? =some y)
 (hd:a.drop (i+1)=b.drop (i+1)) (h:x<y):val a<val b:=by
 have hi:i<a.length:=by
  rcases K4 i a.length with h1|h1
  ·exact h1
  ·rw [lbd h1] at hx;cases hx
 have e1:=a7c a i (by omega)
 have e2:=a7c b i (by omega)
 rw [a4k hx] at e1
 rw [a4k hy] at e2
 rw [hd] at e1
 have h1:=a02 (ha.take i)
 rw [lbs,a1h (by omega)] at h1
 have h2:=p8 (hb.take i)
 have h3:=Q1 i
 have h4:pw i*(x+1048576*val (b.drop (i+1)))+pw i<=pw i*(y+1048576*val (b.drop (i+1))):=by
  have:=lbV (a:=x+1048576*val (b.drop (i+1))+1) (b:=y+1048576*val (b.drop (i+1))) (c:=pw i) (by omega) (by omega)
  rw [Int.mul_add (pw i) _ 1] at this
  omega
 omega
def dat (l:List Int) (i:Nat):Int:=l.getD i 0
theorem a2r {l:List Int} {i:Nat} {x:Int} (h:l[i]? =some x):dat l i=x:=by unfold dat;rw [lbl,h];rfl
theorem a1C {l:List Int} {i:Nat} (h:l.length<=i):dat l i=0:=by unfold dat;rw [lbl,lbd h];rfl
theorem Okd.dat {l:List Int} (h:Okd l) (i:Nat):0<=dat l i∧dat l i<1048576:=by
 rcases K4 i l.length with h1|h1
 ·rw [a2r (lbf h1)]
  exact h _ (lbE h1)
 ·rw [a1C h1];decide
theorem s6 (l:List Int) (i:Nat):val (l.take (i+1))=val (l.take i)+pw i*dat l i:=by
 rcases K4 i l.length with h1|h1
 ·rw [a2r (lbf h1)]
  exact a57 (lbf h1)
 ·rw [a1C h1,lbn (by omega),lbn (by omega)];simp
theorem a6s (n:Int):0<=n % 1048576∧n % 1048576<1048576:=by omega
structure a7F (a b:List Int) (i:Nat) (out:List Int) (c:Int):Prop where
 len:out.length=a.length+1
 ok:Okd out
 le:i<=a.length
 zero:∀j,i<=j->dat out j=0
 c0:0<=c
 c1:c<=1
 eq:val out+pw i*c=val (a.take i)+val (b.take i)
theorem a7F.init (a b:List Int):a7F a b 0 (List.replicate (a.length+1) 0) 0:=
 ⟨by simp,.zeros _,B9 _,fun j _=>by unfold dat;rw [lbl,lbk];split<;>rfl,by decide,by decide,by rw [a7Q];simp [val]⟩
theorem a4H {l:List Int} {i j:Nat} {x:Int} (h:i≠j):dat (l.set i x) j=dat l j:=by
 unfold dat;rw [lbl,lbl,List.getElem?_set_ne h]
theorem a1v {l:List Int} {i:Nat} {x:Int} (hi:i<l.length):val (l.set i x)=val l+pw i*(x - dat l i):=by
 rw [a2r (lbf hi)];exact b5F (lbf hi)
theorem a7F.step {a b out:List Int} {i:Nat} {c:Int} (h:a7F a b i out c) (ha:Okd a) (hb:Okd b) (hi:i<a.length):
 a7F a b (i+1) (out.set i ((c+dat a i+dat b i) % 1048576)) ((c+dat a i+dat b i) / 1048576):=by
 have h1:=ha.dat i
 have h2:=hb.dat i
 have h3:=h.c0
 have h4:=h.c1
 have hl:=h.len
 refine ⟨by simp [hl],h.ok.set (a6s _),hi,fun j hj=>?_,by omega,by omega,?_⟩
 ·rw [a4H (by omega)];exact h.zero j (by omega)
 ·rw [a1v (by omega),h.zero i (lbQ _),s6,s6,J2]
  have h5:=h.eq
  have h6:(c+dat a i+dat b i) % 1048576=c+dat a i+dat b i - 1048576*((c+dat a i+dat b i) / 1048576):=by omega
  rw [h6]
  grind
theorem a7F.fin {a b out:List Int} {c:Int} (h:a7F a b a.length out c) (hl:b.length<=a.length):N3 (out.set a.length c)=dg (val a+val b).toNat:=by
 have h1:=h.c0
 have h2:=h.c1
 have h3:=h.eq
 have hl:=h.len
 rw [T0 (h.ok.set (by omega)),a1v (by omega),h.zero _ (lbQ _)]
 rw [a4c,lbn (by omega)] at h3
 congr 2
 grind
structure aj1 (a b:List Int) (i:Nat) (out:List Int) (c:Int):Prop where
 len:out.length=a.length
 ok:Okd out
 le:i<=a.length
 rest:∀j,i<=j->dat out j=dat a j
 c0:0<=c
 c1:c<=1
 eq:val out - pw i*c=val a - val (b.take i)
theorem aj1.init {a b:List Int} (ha:Okd a):aj1 a b 0 a 0:=⟨rfl,ha,B9 _,fun _ _=>rfl,by decide,by decide,by simp [val]⟩
theorem aj1.step {a b out:List Int} {i:Nat} {c:Int} (h:aj1 a b i out c) (ha:Okd a) (hb:Okd b) (hi:i<a.length):
 aj1 a b (i+1) (out.set i ((dat out i - c - dat b i) % 1048576)) ((dat out i - c - dat b i) / 1048576 % 2):=by
 have h1:=h.ok.dat i
 have h2:=hb.dat i
 have h3:=h.c0
 have h4:=h.c1
 have hl:=h.len
 refine ⟨by simp [hl],h.ok.set (a6s _),hi,fun j hj=>?_,by omega,by omega,?_⟩
 ·rw [a4H (by omega)];exact h.rest j (by omega)
 ·rw [a1v (by omega),s6,J2]
  have h5:=h.eq
  have h6:(dat out i - c - dat b i) % 1048576=dat out i - c - dat b i+1048576*((dat out i - c - dat b i) / 1048576 % 2):=by omega
  rw [h6]
  grind
theorem aj1.fin {a b out:List Int} {c:Int} (h:aj1 a b a.length out c) (hl:b.length<=a.length) (hv:val b<=val a):N3 out=dg (val a - val b).toNat:=by
 have h1:=h.c0
 have h2:=h.c1
 have h3:=h.eq
 have hlen:=h.len
 rw [lbn (by omega)] at h3
 have h4:=a02 h.ok
 rw [hlen] at h4
 rw [T0 h.ok]
 rcases a9P 0 c with h5|h5
 ·have:c=1:=by omega
  subst this;omega
 ·have:c=0:=by omega
  subst this
  congr 2;omega
structure aj2 (a b:List Int) (i k:Nat) (out:List Int) (c:Int):Prop where
 len:out.length=a.length+b.length
 ok:Okd out
 le:k<=b.length
 zero:∀j,i+b.length<=j->dat out j=0
 c0:0<=c
 c1:c<1048576
 eq:val out+pw (i+k)*c=val (a.take i)*val b+pw i*dat a i*val (b.take k)
structure a7a (a b:List Int) (i:Nat) (out:List Int):Prop where
 len:out.length=a.length+b.length
 ok:Okd out
 le:i<=a.length
 zero:∀j,i+b.length<=j->dat out j=0
 eq:val out=val (a.take i)*val b
theorem a7a.init (a b:List Int):a7a a b 0 (List.replicate (a.length+b.length) 0):=
 ⟨by simp,.zeros _,B9 _,fun j _=>by unfold dat;rw [lbl,lbk];split<;>rfl,by rw [a7Q];simp [val]⟩
theorem a7a.start {a b out:List Int} {i:Nat} (h:a7a a b i out):aj2 a b i 0 out 0:=
 ⟨h.len,h.ok,B9 _,h.zero,by decide,by decide,by rw [h.eq];simp [val]⟩
theorem a4z {x y:Int} (hx:0<=x∧x<1048576) (hy:0<=y∧y<1048576):0<=x*y∧x*y<=1048575*1048575:=
 ⟨lbZ hx.1 hy.1,a0P (by omega) (by omega) hy.1 (by decide)⟩
theorem aj2.step {a b out:List Int} {i k:Nat} {c:Int} (h:aj2 a b i k out c) (ha:Okd a) (hb:Okd b) (hi:i<a.length) (hk:k<b.length):
 aj2 a b i (k+1) (out.set (i+k) ((dat out (i+k)+dat a i*dat b k+c) % 1048576)) ((dat out (i+k)+dat a i*dat b k+c) / 1048576):=by
 have h1:=h.ok.dat (i+k)
 have h2:=a4z (ha.dat i) (hb.dat k)
 have h3:=h.c0
 have h4:=h.c1
 have hl:=h.len
 refine ⟨by simp [hl],h.ok.set (a6s _),hk,fun j hj=>?_,by omega,by omega,?_⟩
 ·rw [a4H (by omega)];exact h.zero j (by omega)
 ·rw [a1v (by omega),s6,show i+(k+1)=i+k+1 by omega,J2]
  have h5:=h.eq
  have h6:(dat out (i+k)+dat a i*dat b k+c) % 1048576=dat out (i+k)+dat a i*dat b k+c - 1048576*((dat out (i+k)+dat a i*dat b k+c) / 1048576):=by omega
  rw [h6]
  have h7:=a7i i k
  grind
theorem aj2.done {a b out:List Int} {i:Nat} {c:Int} (h:aj2 a b i b.length out c) (ha:Okd a) (hb:Okd b) (hi:i<a.length):
 a7a a b (i+1) (out.set (i+b.length) (dat out (i+b.length)+c)):=by
 have h3:=h.c0
 have h4:=h.c1
 have hl:=h.len
 have h8:=h.zero _ (lbQ _)
 refine ⟨by simp [hl],h.ok.set (by omega),hi,fun j hj=>?_,?_⟩
 ·rw [a4H (by omega)];exact h.zero j (by omega)
 ·rw [a1v (by omega),s6]
  have h5:=h.eq
  rw [a4c] at h5
  grind
theorem a7a.fin {a b out:List Int} (h:a7a a b a.length out):N3 out=dg (val a*val b).toNat:=by
 rw [T0 h.ok,h.eq,a4c]
structure a2b (a:List Int) (d:Int) (j:Nat) (out:List Int) (r:Int):Prop where
 len:out.length=a.length
 ok:Okd out
 le:j<=a.length
 r0:0<=r
 r1:r<d
 eq:val (a.drop j)=d*val (out.drop j)+r
theorem a2b.init (a:List Int) {d:Int} (hd:0<d):a2b a d a.length (List.replicate a.length 0) 0:=
 ⟨by simp,.zeros _,lbQ _,by decide,hd,by simp [val]⟩
theorem af7 {l:List Int} {i:Nat} (h:i<l.length):val (l.drop i)=dat l i+1048576*val (l.drop (i+1)):=by
 rw [a2r (lbf h)];exact a4k (lbf h)
theorem a6r {l:List Int} {i:Nat} {x:Int} (h:i<l.length):dat (l.set i x) i=x:=by
 unfold dat;rw [lbl,List.getElem?_set_self h];rfl
theorem a2b.step {a out:List Int} {d r:Int} {j:Nat} (h:a2b a d (j+1) out r) (ha:Okd a) (hd:0<d):
 a2b a d j (out.set j ((r*1048576+dat a j) / d)) ((r*1048576+dat a j) % d):=by
 have h1:=ha.dat j
 have h3:=h.r0
 have h4:=h.r1
 have hl:=h.len
 have hle:=h.le
 have h6:0<=(r*1048576+dat a j) / d:=Int.ediv_nonneg (by omega) (by omega)
 have h7:(r*1048576+dat a j) / d<1048576:=by
  apply Int.ediv_lt_of_lt_mul hd
  have:=lbV (a:=r+1) (b:=d) (c:=1048576) (by omega) (by omega)
  omega
 refine ⟨by simp [hl],h.ok.set ⟨h6,h7⟩,by omega,aK0 _ (by omega),b18 _ hd,?_⟩
 rw [af7 (by omega),af7 (l:=out.set j _) (by simp;omega),a6r (by omega),b5d (by omega),h.eq]
 have h8:=Int.emod_add_mul_ediv (r*1048576+dat a j) d
 grind
theorem a2b.fin {a out:List Int} {d r:Int} (h:a2b a d 0 out r) (ha:Okd a) (hd:0<d):N3 out=dg (val a / d).toNat∧r=val a % d:=by
 have h3:=h.r0
 have h4:=h.r1
 have h5:=h.eq
 simp only [a6c] at h5
 rw [T0 h.ok]
 have e1:val a / d=val out:=by rw [h5];rw [aC5,Int.add_mul_ediv_left _ _ (by omega),Int.ediv_eq_zero_of_lt h3 h4];omega
 have e2:val a % d=r:=by rw [h5,aC5,Int.add_mul_emod_self_left,aD9 h3 h4]
 exact ⟨by rw [e1],e2.symm⟩
structure a8L (w v:List Int) (g:Int) (i:Nat) (out:List Int) (c:Int):Prop where
 len:out.length=w.length
 ok:Okd out
 le:i<=w.length
 rest:∀j,i<=j->dat out j=dat w j
 c0:0<=c
 c1:c<1048576
 eq:val out - pw i*c=val w - g*val (v.take i)
theorem a8L.init {w v:List Int} (g:Int) (hw:Okd w):a8L w v g 0 w 0:=⟨rfl,hw,B9 _,fun _ _=>rfl,by decide,by decide,by simp [val]⟩
theorem a8L.step {w v out:List Int} {g:Int} {i:Nat} {c:Int} (h:a8L w v g i out c) (hv:Okd v) (hg:0<=g∧g<1048576) (hi:i<w.length):
 a8L w v g (i+1) (out.set i ((dat out i - c - g*dat v i) % 1048576)) (-((dat out i - c - g*dat v i) / 1048576)):=by
 have h1:=h.ok.dat i
 have h2:=a4z hg (hv.dat i)
 have h3:=h.c0
 have h4:=h.c1
 have hl:=h.len
 refine ⟨by simp [hl],h.ok.set (a6s _),hi,fun j hj=>?_,by omega,by omega,?_⟩
 ·rw [a4H (by omega)];exact h.rest j (by omega)
 ·rw [a1v (by omega),s6,J2]
  have h5:=h.eq
  have h6:(dat out i - c - g*dat v i) % 1048576=dat out i - c - g*dat v i - 1048576*((dat out i - c - g*dat v i) / 1048576):=by omega
  rw [h6]
  grind
structure a69 (w v:List Int) (i:Nat) (out:List Int) (c:Int):Prop where
 len:out.length=w.length
 ok:Okd out
 le:i<=w.length
 rest:∀j,i<=j->dat out j=dat w j
 c0:0<=c
 c1:c<=1
 eq:val out+pw i*c=val w+val (v.take i)
theorem a69.init {w v:List Int} (hw:Okd w):a69 w v 0 w 0:=⟨rfl,hw,B9 _,fun _ _=>rfl,by decide,by decide,by simp [val]⟩
theorem a69.step {w v out:List Int} {i:Nat} {c:Int} (h:a69 w v i out c) (hv:Okd v) (hi:i<w.length):
 a69 w v (i+1) (out.set i ((c+dat out i+dat v i) % 1048576)) ((c+dat out i+dat v i) / 1048576):=by
 have h1:=h.ok.dat i
 have h2:=hv.dat i
 have h3:=h.c0
 have h4:=h.c1
 have hl:=h.len
 refine ⟨by simp [hl],h.ok.set (a6s _),hi,fun j hj=>?_,by omega,by omega,?_⟩
 ·rw [a4H (by omega)];exact h.rest j (by omega)
 ·rw [a1v (by omega),s6,J2]
  have h5:=h.eq
  have h6:(c+dat out i+dat v i) % 1048576=c+dat out i+dat v i - 1048576*((c+dat out i+dat v i) / 1048576):=by omega
  rw [h6]
  grind
theorem a8L.zero {w v out:List Int} {g c:Int} (h:a8L w v g w.length out c) (hl:v.length<=w.length) (hw:Okd w) (hv:Okd v) (hg:0<=g):
 (c=0↔g*val v<=val w)∧(c=0->val out=val w - g*val v):=by
 have h3:=h.c0
 have h5:=h.eq
 rw [lbn (by omega)] at h5
 have h6:=a02 h.ok
 have h7:=p8 h.ok
 rw [h.len] at h6
 have h8:=Q1 w.length
 have h9:0<c->pw w.length<=pw w.length*c:=fun hc=>by
  have:=lbV (a:=1) (b:=c) (c:=pw w.length) (by omega) (by omega)
  omega
 constructor
 ·constructor
  ·rintro rfl;omega
  ·intro h10
   rcases a9P 0 c with h11|h11
   ·have:=h9 h11;omega
   ·omega
 ·rintro rfl;omega
theorem a8L.back {w v out out':List Int} {g c c':Int} (h:a8L w v g w.length out c) (h':a69 out v w.length out' c') (hl:v.length<=w.length)
 (h1:0<=val w - g*val v+val v) (h2:val w - g*val v+val v<pw w.length):val out'=val w - g*val v+val v:=by
 have h5:=h.eq
 have h6:=h'.eq
 rw [lbn (by omega)] at h5 h6
 have h7:=a02 h'.ok
 have h8:=p8 h'.ok
 rw [h'.len,h.len] at h7
 have h9:=Q1 w.length
 have e:val out'+pw w.length*(c' - c)=val w - g*val v+val v:=by grind
 rcases a9Z (c' - c) 0 with hc|hc|hc
 ·have:=lbV (a:=c' - c) (b:=-1) (c:=pw w.length) (by omega) (by omega)
  omega
 ·rw [hc] at e;omega
 ·have:=lbV (a:=1) (b:=c' - c) (c:=pw w.length) (by omega) (by omega)
  omega
structure Win (P V W v1 v2 top u2:Int):Prop where
 P0:0<P
 v1l:524288<=v1
 v1u:v1<1048576
 v20:0<=v2
 v2u:v2<1048576
 u20:0<=u2
 u2u:u2<1048576
 t0:0<=top
 tu:top<1048576*1048576
 Vl:P*(v1*1048576+v2)<=V
 Vu:V<P*(v1*1048576+v2)+P
 Wl:P*(top*1048576+u2)<=W
 Wu:W<P*(top*1048576+u2)+P
 lt:W<V*1048576
theorem Win.V0 {P V W v1 v2 top u2:Int} (h:Win P V W v1 v2 top u2):0<V:=by
 have h1:=h.Vl
 have h2:=h.P0
 have h3:=h.v1l
 have h4:=h.v20
 have:=Int.mul_pos h2 (b:=v1*1048576+v2) (by omega)
 omega
structure V8 (V W v1 top g r:Int):Prop where
 g0:0<=g
 gu:g<=2097152
 r0:0<=r
 ru:r<2097152
 eq:g*v1+r=top
 hi:W<(g+1)*V
theorem V8.init {P V W v1 v2 top u2:Int} (h:Win P V W v1 v2 top u2):V8 V W v1 top (top / v1) (top % v1):=by
 have h1:=h.v1l
 have h2:=h.v1u
 have h3:=h.t0
 have h4:=h.tu
 have h5:=aK0 top (b:=v1) (by omega)
 have h6:=b18 top (b:=v1) (by omega)
 have h7:=Int.mul_ediv_add_emod top v1
 have h8:0<=top / v1:=Int.ediv_nonneg h3 (by omega)
 have hq:top / v1*v1+top % v1=top:=by rw [ab9];exact h7
 refine ⟨h8,?_,h5,by omega,hq,?_⟩
 ·have h9:=lbV (a:=524288) (b:=v1) (c:=top / v1) h1 h8
  omega
 ·have hW:=h.Wu
  have hV:=h.Vl
  have hP:=h.P0
  have h20:=h.v20
  have hu:=h.u2u
  have e1:(top / v1+1)*(P*(v1*1048576+v2))<=(top / v1+1)*V:=lbV hV (by omega)
  have e2:top*1048576+u2+1<=(top / v1+1)*(v1*1048576+v2):=by
   have:0<=(top / v1+1)*v2:=lbZ (by omega) h20
   have e3:(top / v1+1)*v1≥top+1:=by grind
   grind
  have e4:=lbV (c:=P) e2 (by omega)
  grind
theorem V8.dec {P V W v1 v2 top u2 g r:Int} (h:Win P V W v1 v2 top u2) (hg:V8 V W v1 top g r) (hc:1048576<=g∨(r<1048576∧r*1048576+u2<g*v2)):
 W<g*V:=by
 have hV0:=h.V0
 rcases hc with hc|⟨hr,hc⟩
 ·have:=lbW (a:=1048576) (b:=g) (c:=V) hc (by omega)
  have:=h.lt
  omega
 ·have hW:=h.Wu
  have e1:g*(P*(v1*1048576+v2))<=g*V:=lbV h.Vl hg.g0
  have e2:top*1048576+u2+1<=g*(v1*1048576+v2):=by
   have:=hg.eq
   grind
  have e4:=lbV (c:=P) e2 (X2 h.P0)
  grind
theorem V8.small {P V W v1 v2 top u2 g r:Int} (h:Win P V W v1 v2 top u2) (hg:V8 V W v1 top g r) (hc:1048576<=g):r<1048576:=by
 have h1:=h.Wl
 have h2:=h.lt
 have h3:=h.Vu
 have hP:=h.P0
 have e1:P*(top*1048576+u2)<P*((v1*1048576+v2+1)*1048576):=by grind
 have e2:top*1048576+u2<(v1*1048576+v2+1)*1048576:=b4p e1 (X2 hP)
 have h4:=h.u20
 have h5:=hg.eq
 have h6:=lbW (a:=1048576) (b:=g) (c:=v1) hc (by have:=h.v1l;omega)
 have h7:=h.v2u
 omega
theorem V8.step {P V W v1 v2 top u2 g r:Int} (h:Win P V W v1 v2 top u2) (hg:V8 V W v1 top g r) (hc:1048576<=g∨(r<1048576∧r*1048576+u2<g*v2))
 (hW0:0<=W):V8 V W v1 top (g - 1) (r+v1):=by
 have h1:=V8.dec h hg hc
 have hV0:=h.V0
 have hg0:0<g:=by
  rcases a9P 0 g with h2|h2
  ·exact h2
  ·have:=hg.g0
   have:g=0:=by omega
   subst this;omega
 have h2:=hg.gu
 have h3:=hg.r0
 have h4:=h.v1l
 have h5:=h.v1u
 have h6:=hg.eq
 have h7:r<1048576:=by
  rcases hc with hc|hc
  ·exact V8.small h hg hc
  ·exact hc.1
 exact ⟨by omega,by omega,by omega,by omega,by grind,by grind⟩
theorem V8.fin {P V W v1 v2 top u2 g r:Int} (h:Win P V W v1 v2 top u2) (hg:V8 V W v1 top g r) (hc:¬(1048576<=g∨(r<1048576∧r*1048576+u2<g*v2)))
 (hP:P*1048576<=V):g<1048576∧g*V<=W+V:=by
 have hg1:g<1048576:=by omega
 refine ⟨hg1,?_⟩
 have h0:=hg.g0
 have h20:=h.v20
 have h2u:=h.v2u
 have hu0:=h.u20
 have e1:g*v2<=r*1048576+u2:=by
  rcases a9P r 1048576 with hr|hr
  ·omega
  ·have:=a4z ⟨h0,hg1⟩ ⟨h20,h2u⟩
   omega
 have e2:g*(v1*1048576+v2)<=top*1048576+u2:=by
  have:=hg.eq
  grind
 have e3:=lbV (c:=P) e2 (X2 h.P0)
 have e4:g*V<=g*(P*(v1*1048576+v2)+P):=lbV (X2 h.Vu) h0
 have e5:g*P<=1048576*P:=lbW (X2 hg1) (X2 h.P0)
 have hW:=h.Wl
 grind
structure Bg where
 sg:Int
 dl:List Int
def bz (z:Int):Bg:=⟨z.sign,dg z.natAbs⟩
def inD (d:Int):Bool:=decide (0<=d) && decide (d<=1048575)
def O4 (b:Bg):Bool:=b.dl.all inD && (if b.dl.length=0 then b.sg == 0 else (b.sg == 1 || b.sg == -1) && !(dat b.dl (b.dl.length - 1) == 0))
def bv (b:Bg):Int:=b.sg*val b.dl
theorem aZ5 {l:List Int}:l.all inD=true↔Okd l:=by
 simp only [lbv,inD,lbM,lbI]
 exact ⟨fun h d hd=>by have:=h d hd;omega,fun h d hd=>by have:=h d hd;omega⟩
theorem a8p (z:Int):bv (bz z)=z:=by
 unfold bv bz
 rw [x3]
 exact b52 z
theorem b9Z {b:Bg} (h:O4 b=true):b=bz (bv b):=by
 unfold O4 at h
 rw [lbM,aZ5] at h
 obtain ⟨h1,h2⟩:=h
 obtain ⟨sg,dl⟩:=b
 simp only at h1 h2
 have hv:=p8 h1
 by_cases hl:dl.length=0
 ·rw [if_pos hl] at h2
  have:dl=[]:=lbF hl
  subst this
  have:sg=0:=by simpa using h2
  subst this
  rfl
 ·rw [if_neg hl,lbM] at h2
  have hc:Can dl:=⟨h1,fun x hx=>by rw [a2r hx] at h2;simpa using h2.2⟩
  have h3:=aX1 hc
  have hp:0<val dl:=by
   rcases a9P 0 (val dl) with h4|h4
   ·exact h4
   ·have:val dl=0:=by omega
    rw [this] at h3
    rw [h3] at hl
    exact absurd rfl hl
  have hs:sg=1∨sg=-1:=by simpa using h2.1
  have ha:(sg*val dl).natAbs=(val dl).toNat:=by
   rcases hs with rfl|rfl<;>omega
  have hg:(sg*val dl).sign=sg:=by
   rcases hs with rfl|rfl
   ·rw [al2];exact a5i hp
   ·exact ac1 (by omega)
  unfold bz bv
  simp only
  rw [ha,hg,←h3]
theorem a2v (z:Int):O4 (bz z)=true:=by
 unfold O4
 rw [lbM,aZ5]
 refine ⟨B5 _,?_⟩
 by_cases hl:(bz z).dl.length=0
 ·rw [if_pos hl]
  have h0:dg z.natAbs=[]:=lbF hl
  have:z=0:=by have:=R1.1 h0;omega
  subst this;rfl
 ·rw [if_neg hl]
  have hz:z≠0:=by rintro rfl;exact hl rfl
  have hl0:(dg z.natAbs).length - 1<(dg z.natAbs).length:=by have:(dg z.natAbs).length≠0:=hl;omega
  have h1:=(a1t z.natAbs).2 _ (lbf hl0)
  have h2:dat (bz z).dl ((bz z).dl.length - 1)≠0:=by
   show dat (dg z.natAbs) ((dg z.natAbs).length - 1)≠0
   rw [a2r (lbf hl0)];exact h1
  rw [lbM]
  refine ⟨?_,by simpa using h2⟩
  show ((z.sign == 1) || (z.sign == -1))=true
  rcases a9Z z 0 with h|h|h
  ·rw [ac1 h];rfl
  ·exact absurd h hz
  ·rw [a5i h];rfl
theorem b06 {z:Int}:(bz z).sg=z.sign:=rfl
structure Fr where
 p:Bg
 q:Bg
def fz (x:Rat):Fr:=⟨bz x.num,bz x.den⟩
def R4 (f:Fr):Bool:=O4 f.p && O4 f.q && (f.q.sg == 1) && (Int.gcd (bv f.p) (bv f.q) == 1)
def fv (f:Fr):Rat:=mkRat (bv f.p) (bv f.q).toNat
theorem a9E (x:Rat):R4 (fz x)=true:=by
 unfold R4 fz
 simp only [a2v,a8p,N9,lbM]
 have hd:=x.den_pos
 refine ⟨?_,?_⟩
 ·rw [b06,a5i (by omega)];rfl
 ·have:=x.reduced
  simp only [Int.gcd,b4q]
  rw [this];rfl
theorem an7 {p q g:Int} (hq:0<q) (hg:g=Int.gcd p q):fz (Rat.divInt p q)=⟨bz (p / g),bz (q / g)⟩:=by
 unfold fz
 rw [Rat.num_divInt,Rat.den_divInt,if_neg (by omega),a5i hq,al2,Int.gcd_comm q p,←hg]
 congr 2
 rw [hg]
 have:((q.natAbs / Int.gcd p q:Nat):Int)=(q.natAbs:Int) / (Int.gcd p q:Int):=by simp
 rw [this,show (q.natAbs:Int)=q by omega]
structure a8S (U V N L:Nat) (j:Nat) (u q:List Int):Prop where
 lu:u.length=N
 oku:Okd u
 lq:q.length=N - L
 okq:Okd q
 le:j<=N - L
 eq:val (q.drop j)*pw j*V+val u=U
 lt:val u<V*pw j
theorem a8S.init {U V:Nat} (hV:0<V) (hl:(dg V).length<=(dg U).length+1):a8S U V ((dg U).length+1) (dg V).length ((dg U).length+1 - (dg V).length) (dg U++[0]) (List.replicate ((dg U).length+1 - (dg V).length) 0):=by
 have h1:=aA3 hV
 have h2:=N7 U
 have hv:val (dg U++[0])=U:=by rw [P6,x3];simp [val]
 have hL:(dg V).length≠0:=by rw [Ne,S8,R1];omega
 refine ⟨by simp,(B5 U).append (by intro x hx;simp at hx;omega),by simp,.zeros _,lbQ _,?_,?_⟩
 ·rw [lbo (by simp),hv];simp [val]
 ·rw [hv]
  have h3:=lbW (a:=pw ((dg V).length - 1)) (b:=V) (c:=pw ((dg U).length+1 - (dg V).length)) h1 (X2 (Q1 _))
  rw [← a7i,show (dg V).length - 1+((dg U).length+1 - (dg V).length)=(dg U).length by omega] at h3
  omega
theorem a8S.window {U V N L j:Nat} {u q:List Int} (h:a8S U V N L (j+1) u q) (hL:(dg V).length=L):
 u=u.take j++(u.drop j).take (L+1)++u.drop (j+(L+1))∧((u.drop j).take (L+1)).length=L+1∧(u.take j).length=j∧
 val u=val (u.take j)+pw j*val ((u.drop j).take (L+1))∧val (u.drop (j+(L+1)))=0∧val ((u.drop j).take (L+1))<V*1048576:=by
 have h1:=h.lu
 have h2:=h.le
 have h3:=h.lt
 have hp:=Q1 j
 have e0:(u.take j).length=j:=by simp;omega
 have e1:u.drop j=(u.drop j).take (L+1)++u.drop (j+(L+1)):=by rw [← a9l,lb6]
 have e2:((u.drop j).take (L+1)).length=L+1:=by simp;omega
 have e3:u=u.take j++(u.drop j).take (L+1)++u.drop (j+(L+1)):=by rw [lbD,←e1,lb6]
 have hv:=a7c u j (by omega)
 have hw:=P6 ((u.drop j).take (L+1)) (u.drop (j+(L+1)))
 rw [← e1,e2] at hw
 have h4:=p8 (h.oku.take j)
 have h5:=p8 ((h.oku.drop j).take (L+1))
 have h6:=p8 (h.oku.drop (j+(L+1)))
 have hVp:=N7 V
 rw [hL] at hVp
 have hz:val (u.drop (j+(L+1)))=0:=by
  rcases a9P 0 (val (u.drop (j+(L+1)))) with h7|h7
  ·exfalso
   have a1:=lbV (a:=1) (b:=val (u.drop (j+(L+1)))) (c:=pw (L+1)) (by omega) (X2 (Q1 _))
   have a2:=lbV (a:=pw (L+1)) (b:=val (u.drop j)) (c:=pw j) (by omega) (X2 hp)
   have a3:=lbW (a:=(V:Int)) (b:=pw L) (c:=pw (j+1)) (X2 hVp) (X2 (Q1 _))
   have a4:pw j*pw (L+1)=pw L*pw (j+1):=by rw [← a7i,←a7i];congr 1;omega
   omega
  ·omega
 rw [hz,Int.mul_zero,Int.add_zero] at hw
 rw [hw] at hv
 refine ⟨e3,e2,e0,hv,hz,?_⟩
 have a5:pw j*val ((u.drop j).take (L+1))<pw j*(V*1048576):=by
  rw [J2] at h3
  have:(V:Int)*(pw j*1048576)=pw j*(V*1048576):=by grind
  omega
 exact b4p a5 (X2 hp)
theorem ar0 (l:List Int):N3 l++List.replicate (l.length - (N3 l).length) 0=l:=by
 induction l with
 |nil=>rfl
 |cons d r ih=>
  rw [N3]
  split
  ·rename_i h
   rw [h.1] at ih
   rw [h.2]
   simp only [af2,K5,Nat.sub_zero,lbu,List.replicate_succ] at ih ⊢
   rw [ih]
  ·simp only [aJ8,lbu,Nat.add_sub_add_right]
   rw [ih]
def Z7 (n:Nat) (l:List Int):List Int:=l++List.replicate (n - l.length) 0
theorem b0n {l:List Int} (h:Okd l) {n:Nat} (hn:l.length=n):l=Z7 n (dg (val l).toNat):=by
 subst hn
 have:=ar0 l
 rw [T0 h] at this
 exact this.symm
theorem b6C (n:Nat) (l:List Int):val (Z7 n l)=val l:=by unfold Z7;rw [P6,a7Q];simp
theorem ar6 {n:Nat} {l:List Int} (h:l.length<=n):(Z7 n l).length=n:=by unfold Z7;simp;omega
theorem b43 {n:Nat} {l:List Int} (h:Okd l):Okd (Z7 n l):=h.append (.zeros _)
theorem Win.of {v w:List Int} {L:Nat} (hv:Okd v) (hw:Okd w) (lv:v.length=L+2) (lw:w.length=L+3) (ht:524288<=dat v (L+1)) (hlt:val w<val v*1048576):
 Win (pw L) (val v) (val w) (dat v (L+1)) (dat v L) (dat w (L+2)*1048576+dat w (L+1)) (dat w L):=by
 have v1:=s6 v (L+1)
 have v2:=s6 v L
 have w1:=s6 w (L+2)
 have w2:=s6 w (L+1)
 have w3:=s6 w L
 rw [lbn (by omega)] at v1 w1
 have a1:=p8 (hv.take L)
 have a2:=a02 (hv.take L)
 have a3:=p8 (hw.take L)
 have a4:=a02 (hw.take L)
 rw [lbs,a1h (by omega)] at a2 a4
 have d1:=hv.dat (L+1)
 have d2:=hv.dat L
 have d3:=hw.dat (L+2)
 have d4:=hw.dat (L+1)
 have d5:=hw.dat L
 have p1:=J2 L
 have p2:=J2 (L+1)
 have e1:val v=pw L*(dat v (L+1)*1048576+dat v L)+val (v.take L):=by grind
 have e2:val w=pw L*((dat w (L+2)*1048576+dat w (L+1))*1048576+dat w L)+val (w.take L):=by grind
 exact ⟨Q1 L,ht,by omega,by omega,by omega,by omega,by omega,by omega,by omega,by omega,by omega,by omega,by omega,hlt⟩
theorem a8S.step {U V N L j:Nat} {u q:List Int} (h:a8S U V N L (j+1) u q) (hL:(dg V).length=L) (hV:0<V) {Q:Int} (hQ:0<=Q∧Q<1048576)
 (hr0:0<=val ((u.drop j).take (L+1)) - Q*V) (hr1:val ((u.drop j).take (L+1)) - Q*V<V):
 a8S U V N L j (u.take j++Z7 (L+1) (dg (val ((u.drop j).take (L+1)) - Q*V).toNat)++u.drop (j+(L+1))) (q.set j Q):=by
 obtain ⟨e3,e2,e0,hv,hz,hW⟩:=h.window hL
 have h1:=h.lu
 have h2:=h.le
 have h3:=h.lq
 have hVp:=N7 V
 rw [hL] at hVp
 have hmono:=a1T (Nat.le_succ L)
 have lp:(dg (val ((u.drop j).take (L+1)) - Q*V).toNat).length<=L+1:=O2 (by have:pw L<=pw (L+1):=hmono;omega)
 have hpl:=ar6 lp
 have hvp:val (Z7 (L+1) (dg (val ((u.drop j).take (L+1)) - Q*V).toNat))=val ((u.drop j).take (L+1)) - Q*V:=by
  rw [b6C,x3,lbY hr0]
 have hu':val (u.take j++Z7 (L+1) (dg (val ((u.drop j).take (L+1)) - Q*V).toNat)++u.drop (j+(L+1)))=val (u.take j)+pw j*(val ((u.drop j).take (L+1)) - Q*V):=by
  rw [P6,hz,P6,hvp,e0];simp
 have hp:=Q1 j
 have hlt:=a02 (h.oku.take j)
 rw [e0] at hlt
 refine ⟨?_,((h.oku.take j).append (b43 (B5 _))).append (h.oku.drop _),by simp [h3],h.okq.set hQ,by omega,?_,?_⟩
 ·simp only [lbq,hpl,e0,a3Y];omega
 ·rw [hu',af7 (by simp;omega),a6r (by omega),b5d (by omega)]
  have h4:=h.eq
  rw [hv,J2] at h4
  grind
 ·rw [hu']
  have h5:=lbV (a:=val ((u.drop j).take (L+1)) - Q*V) (b:=(V:Int) - 1) (c:=pw j) (by omega) (by omega)
  have h6:pw j*((V:Int) - 1)=V*pw j - pw j:=by grind
  omega
theorem a8S.fin {U V N L:Nat} {u q:List Int} (h:a8S U V N L 0 u q) (hV:0<V):val q=(U / V:Nat)∧val u=(U % V:Nat):=by
 have h1:=h.eq
 have h2:=h.lt
 simp only [a6c,b5Q,Int.mul_one] at h1 h2
 have h3:=p8 h.oku
 have h4:=p8 h.okq
 obtain ⟨Q,hQ⟩:=ad1 h4
 obtain ⟨R,hR⟩:=ad1 h3
 rw [hQ,hR] at h1
 rw [hR] at h2
 have e:U=R+Q*V:=by
  have:((R+Q*V:Nat):Int)=(U:Int):=by rw [← h1];simp [aC5]
  omega
 have hlt:R<V:=by omega
 rw [hQ,hR,e,Nat.add_mul_div_right _ _ hV,Nat.div_eq_of_lt hlt,Nat.add_mul_mod_self_right,b0v hlt]
 simp
end
section
def bl (z:Int):Nat:=(dg z.natAbs).length
theorem a5M (m n:Nat):(dg (m+n)).length<=max (dg m).length (dg n).length+1:=by
 refine O2 ?_
 have h1:=N7 m
 have h2:=N7 n
 have h3:=a1T (Nat.le_max_left (dg m).length (dg n).length)
 have h4:=a1T (Nat.le_max_right (dg m).length (dg n).length)
 rw [J2]
 omega
theorem ae7 (m n:Nat):(dg (m*n)).length<=(dg m).length+(dg n).length:=by
 refine O2 ?_
 have h1:=N7 m
 have h2:=N7 n
 rw [a7i]
 have h3:(m:Int)*n<=m*(pw (dg n).length):=lbV (by omega) (by omega)
 have h4:(m:Int)*pw (dg n).length<pw (dg m).length*pw (dg n).length:=Int.mul_lt_mul_of_pos_right h1 (Q1 _)
 have h5:((m*n:Nat):Int)=m*n:=by simp
 omega
theorem a4m (x:Int):bl (-x)=bl x:=by unfold bl;rw [a7u]
theorem b4H (x y:Int):bl (x+y)<=max (bl x) (bl y)+1:=lbR (x6 (Int.natAbs_add_le x y)) (a5M _ _)
theorem X8 (x y:Int):bl (x*y)<=bl x+bl y:=by unfold bl;rw [aa3];exact ae7 _ _
theorem b0q {x y:Int} (h:x.natAbs<=y.natAbs):bl x<=bl y:=x6 h
theorem a2U {x:Int} (h0:-9223372036854775808<=x) (h1:x<=9223372036854775807):bl x<=4:=O2 (by simp only [pw];omega)
theorem S5 {x:Int} (h0:-1048575<=x) (h1:x<=1048575):bl x<=1:=O2 (by simp only [pw];omega)
theorem aU4 (x y:Int) {n:Nat} (lx:bl x<=n) (ly:bl y<=n):bl (Int.gcd x y)<=n:=by
 by_cases h:x=0
 ·subst h;unfold bl at *;rw [Int.gcd_zero_left];simpa using ly
 ·refine lbR (x6 ?_) lx
  simp only [b4q]
  exact Int.gcd_le_natAbs_left y h
def rl (x:Rat):Nat:=max (bl x.num) (bl x.den)
theorem K0 (x:Rat):bl x.num<=rl x:=Nat.le_max_left _ _
theorem M3 (x:Rat):bl x.den<=rl x:=Nat.le_max_right _ _
theorem a2k {p q:Int} (hq:q≠0):rl (Rat.divInt p q)<=max (bl p) (bl q):=by
 unfold rl
 rw [Rat.num_divInt,Rat.den_divInt,if_neg hq]
 have h1:bl (q.sign*p / (q.gcd p:Nat))<=bl p:=b0q (by
  refine lbR (Int.natAbs_ediv_le_natAbs _ _) ?_
  rw [aa3]
  have:q.sign.natAbs=1:=by
   rcases a9Z q 0 with h|h|h
   ·rw [ac1 h];rfl
   ·exact absurd h hq
   ·rw [a5i h];rfl
  rw [this,Nat.one_mul];exact lbQ _)
 have h2:bl ((q.natAbs / q.gcd p:Nat):Int)<=bl q:=b0q (by simp only [b4q];exact Nat.div_le_self _ _)
 omega
theorem b0I (x y:Rat):x+y=Rat.divInt (x.num*y.den+y.num*x.den) (x.den*y.den):=by rw [Rat.add_def',←Rat.divInt_ofNat,a5E]
theorem b0e (x y:Rat):x*y=Rat.divInt (x.num*y.num) (x.den*y.den):=by rw [Rat.mul_def',←Rat.divInt_ofNat,a5E]
theorem b5Z (x y:Rat):x / y=Rat.divInt (x.num*y.den) (x.den*y.num):=by
 rw [Rat.div_def,Rat.inv_def]
 conv=>lhs;rw [← Rat.num_divInt_den x]
 rw [Rat.divInt_mul_divInt]
theorem aT2 (x:Rat):(x.den:Int)≠0:=by have:=x.den_pos;omega
theorem a9g (x y:Rat):(x.den:Int)*y.den≠0:=Int.mul_ne_zero (aT2 x) (aT2 y)
theorem a3Z (x y:Rat):rl (x+y)<=rl x+rl y+1:=by
 rw [b0I]
 have h1:=b4H (x.num*y.den) (y.num*x.den)
 have h2:=X8 x.num y.den
 have h3:=X8 y.num x.den
 have h4:=X8 x.den y.den
 have:=a2k (p:=x.num*y.den+y.num*x.den) (a9g x y)
 unfold rl at *
 omega
theorem R9 (x:Rat):rl (-x)=rl x:=by unfold rl;rw [Rat.neg_num,Rat.neg_den,a4m]
theorem b8x (x y:Rat):rl (x - y)<=rl x+rl y+1:=by rw [Rat.sub_eq_add_neg];have:=a3Z x (-y);rw [R9] at this;exact this
theorem a86 (x y:Rat):rl (x*y)<=rl x+rl y:=by
 rw [b0e]
 have h2:=X8 x.num y.num
 have h4:=X8 x.den y.den
 have:=a2k (p:=x.num*y.num) (a9g x y)
 unfold rl at *
 omega
theorem a7e (n:Int):rl (n:Rat)=max (bl n) 1:=by unfold rl;rw [Rat.num_intCast,Rat.den_intCast];rfl
def a1G (x y:Rat):Int:=if x<y then -1 else if y<x then 1 else 0
theorem b59 {x:Rat}:x.num<0↔x<0:=by rw [Rat.lt_iff];simp
theorem b3Y {x:Rat}:0<x.num↔0<x:=by rw [Rat.lt_iff];simp
def sgR (x:Rat):Int:=if x<0 then -1 else if 0<x then 1 else 0
theorem ag5 (x:Rat):x.num.sign=sgR x:=by
 unfold sgR
 by_cases h:x<0
 ·rw [if_pos h,ac1 (b59.2 h)]
 ·rw [if_neg h]
  by_cases h2:0<x
  ·rw [if_pos h2,a5i (b3Y.2 h2)]
  ·rw [if_neg h2]
   have h3:¬x.num<0:=fun e=>h (b59.1 e)
   have h4:¬0<x.num:=fun e=>h2 (b3Y.1 e)
   rw [show x.num=0 by omega];rfl
end
section
def a0d (c:D7):Bool:=
 decide (0<=c.since) && decide (c.since<=c.till) && decide (c.till<=100000) && idx c.scale 30 && btw c.grams 0 1099511627776 && btw c.permille 0 1000 && btw c.drift 0 10000000
def Z2 (c:D7) (day:Int):Bool:=a0d c && btw day c.since c.till
def ax0 (cs:List D7) (i:Nat):Int:=((cs[i]?).map (·.since)).getD 0
def a8n (cs:List D7) (o:Option Nat) (c:D7):Bool:=match o with
 |none=>true
 |some b=>decide (ax0 cs b<=c.since)
def Q0 (cs:List D7) (scale day:Int):Nat->Option Nat
 |0=>none
 |k+1=>match cs[k]? with
  |none=>Q0 cs scale day k
  |some c=>if decide (c.scale=scale) && Z2 c day && a8n cs (Q0 cs scale day k) c then some k else Q0 cs scale day k
theorem W9 {cs:List D7} {scale day:Int}:∀{k b:Nat},Q0 cs scale day k=some b->b<k∧∃c,cs[b]? =some c∧c.scale=scale∧Z2 c day=true
 |0,b,h=>by simp [Q0] at h
 |k+1,b,h=>by
  unfold Q0 at h
  split at h
  ·obtain ⟨h1,h2⟩:=W9 h;exact ⟨by omega,h2⟩
  ·rename_i c hc
   split at h
   ·rename_i hcc
    injection h with h
    subst h
    simp only [lbM,lbI] at hcc
    exact ⟨by omega,c,hc,hcc.1.1,hcc.1.2⟩
   ·obtain ⟨h1,h2⟩:=W9 h;exact ⟨by omega,h2⟩
def a9i (rs:List s8) (scale day:Int):Bool:=rs.any fun r=>decide (r.scale=scale) && decide (r.since<=day)
def a5U (c:D7) (reading day:Int):Rat:=Rat.divInt (c.permille*reading) 1000+((c.grams+c.drift*(day - c.since):Int):Rat)
def b1l (x y:Rat):Rat:=if x<y then y else x
def b2E:D7:=⟨0,0,0,0,0,0⟩
def a3U (cs:List D7) (i:Nat):D7:=(cs[i]?).getD b2E
def Q4 (cs:List D7) (rs:List s8) (scale reading day:Int):Option (Rat × Rat):=
 match Q0 cs scale day cs.length with
 |none=>none
 |some i=>if a9i rs scale day then none else if btw reading 0 1099511627776 then
   some (b1l ((reading:Rat) - a5U (a3U cs i) reading day) ((0:Int):Rat),(reading:Rat)+a5U (a3U cs i) reading day) else none
def bc0 (l:List Rat):Rat:=l.foldl (·+·) ((0:Int):Rat)
def hz (H:List (List Rat)):List (List Fr):=H.map (·.map fz)
structure b9P (e:Ev) (H:List (List Rat)):Prop where
 len:H.length=e.moves.length
 wid:∀l ∈ H,(l.length:Int)=e.mats
def hAt (H:List (List Rat)) (k m:Nat):Rat:=(H.getD k []).getD m 0
def aT8 (x:j5) (v:Nat->Rat) (f:Nat->Nat->Rat):Nat->Nat->Rat:=fun p m=>if x.src=(p:Int) then f p m - v m else if x.dst=(p:Int) then f p m+v m else f p m
def stk (e:Ev) (H:List (List Rat)):Nat->Nat->Nat->Rat
 |0=>fun _ _=>((0:Int):Rat)
 |k+1=>match e.moves[k]? with
  |none=>stk e H k
  |some x=>aT8 x (hAt H k) (stk e H k)
def inB (iv:Option (Rat × Rat)) (mass:Rat):Bool:=match iv with
 |none=>true
 |some (lo,hi)=>decide (lo<=mass) && decide (mass<=hi)
def b9K (e:Ev) (x:j5) (mass:Rat):Bool:=if x.scale=-1 then true else inB (Q4 e.certs e.recalls x.scale x.reading x.day) mass
theorem b5T:rl ((0:Int):Rat)=1:=by rw [a7e];rfl
end
section
def i6 (f:Nat->Rat):Nat->Rat
 |0=>((0:Int):Rat)
 |n+1=>i6 f n+f n
theorem T7:((0:Int):Rat)=0:=rfl
theorem d8 {f g:Nat->Rat}:∀{n:Nat},(∀ m,m<n->f m=g m)->i6 f n=i6 g n
 |0,_=>rfl
 |n+1,h=>by simp only [i6];rw [d8 fun m hm=>h m (by omega),h n (by omega)]
end
section
theorem getD_some {l:List Rat} {m:Nat} (h:m<l.length):l[m]? =some (l.getD m 0):=by rw [lbl,lbf h];rfl
end
section
structure Ev.Sized (e:Ev):Prop where
 s1:e.places.length<=1000000
 s2:e.moves.length<=1000000
 s3:e.certs.length<=1000000
 s4:e.recalls.length<=1000000
 s5:e.purities.length<=1000000
end
section
def ba7 (xs ys:List Int) (k:Nat):Prop:=xs.take k=ys.take k
end
section
theorem a10 {α:Type} {p:Nat->α->Bool} {l:List α}:∀{k:Nat} {x:Int},x ∈ l9 p k l↔∃i m,l[i]? =some m∧p (k+i) m=true∧x=((k+i:Nat):Int):=by
 induction l with
 |nil=>intro k x;simp [l9]
 |cons a r ih=>
  intro k x
  have step:x ∈ l9 p (k+1) r↔∃i m,(a::r)[i+1]? =some m∧p (k+(i+1)) m=true∧x=((k+(i+1):Nat):Int):=by
   rw [ih]
   constructor
   ·rintro ⟨i,m,h1,h2,h3⟩
    exact ⟨i,m,by simpa using h1,by rw [show k+(i+1)=k+1+i from by omega];exact h2,by rw [h3];omega⟩
   ·rintro ⟨i,m,h1,h2,h3⟩
    exact ⟨i,m,by simpa using h1,by rw [show k+1+i=k+(i+1) from by omega];exact h2,by rw [h3];omega⟩
  unfold l9
  by_cases hp:p k a=true
  ·rw [if_pos hp,lbA,step]
   constructor
   ·rintro (rfl|⟨i,m,h⟩)
    ·exact ⟨0,a,rfl,hp,rfl⟩
    ·exact ⟨i+1,m,h⟩
   ·rintro ⟨i,m,h1,h2,h3⟩
    cases i with
    |zero=>left;simpa using h3
    |succ i=>right;exact ⟨i,m,h1,h2,h3⟩
  ·rw [if_neg hp,step]
   constructor
   ·rintro ⟨i,m,h⟩
    exact ⟨i+1,m,h⟩
   ·rintro ⟨i,m,h1,h2,h3⟩
    cases i with
    |zero=>simp at h1;subst h1;exact absurd h2 hp
    |succ i=>exact ⟨i,m,h1,h2,h3⟩
theorem U4 {α:Type} (p:Nat->α->Bool) (l:List α):∀k,(l9 p k l).Pairwise (·<·):=by
 induction l with
 |nil=>intro k;simp [l9]
 |cons a r ih=>
  intro k
  unfold l9
  split
  ·rw [a9G]
   refine ⟨fun x hx=>?_,ih (k+1)⟩
   obtain ⟨i,m,_,_,rfl⟩:=a10.1 hx
   omega
  ·exact ih (k+1)
end
section
theorem b57 {e:Ev} {G:List (List Rat)} {k:Nat} {x:j5} (hx:e.moves[k]? =some x):stk e G (k+1)=aT8 x (hAt G k) (stk e G k):=by
 conv=>lhs;unfold stk
 rw [hx]
theorem b5E {e:Ev} {G:List (List Rat)} {k:Nat} (hx:e.moves[k]? =none):stk e G (k+1)=stk e G k:=by
 conv=>lhs;unfold stk
 rw [hx]
end
section
theorem aS9 {e:Ev} {x:j5} (h:X7 e x=true) (ha:x.all=true):F4 e x.src≠0:=by
 unfold X7 at h
 simp only [lbM,lbI] at h
 have:=h.1.1.2
 rw [ha] at this
 simpa using this
end
section
def a3u (e:Ev) (x:j5):Option (Rat × Rat):=if x.scale=-1 then none else Q4 e.certs e.recalls x.scale x.reading x.day
end
section
structure b2q where
 mv:Int
 kind:Int
 grams:Int
structure aE4 where
 mv:Int
 kind:Int
structure P1 where
 ev:Ev
 finds:List b2q
 cleans:List aE4
def b1d (e:Ev) (mv kind:Int):Int:=if mv<0∨(e.moves.length:Int)<=mv then 4 else if kind<0∨8<=kind then 1 else 0
def a7r (e:Ev):List b2q->Int
 |[]=>0
 |f::r=>if b1d e f.mv f.kind≠0 then b1d e f.mv f.kind else if f.grams<1∨1099511627776<f.grams then 3 else a7r e r
def a9f (e:Ev):List aE4->Int
 |[]=>0
 |c::r=>if b1d e c.mv c.kind≠0 then b1d e c.mv c.kind else a9f e r
def a3d (t:P1):Int:=
 if p7 t.ev≠0 then p7 t.ev else if 20<t.finds.length∨50<t.cleans.length then 6
 else if a7r t.ev t.finds≠0 then a7r t.ev t.finds else a9f t.ev t.cleans
def a4u (l:List b2q) (kind:Int) (i:Nat):List Int:=(l.filter fun f=>decide (f.kind=kind) && decide (f.mv=(i:Int))).map (·.grams)
def a3M (l:List aE4) (kind:Int) (i:Nat):Nat:=(l.filter fun c=>decide (c.kind=kind) && decide (c.mv=(i:Int))).length
def col (z:List Rat):List (List Rat):=z.map fun v=>[v]
theorem b60 (z:List Rat) (k:Nat):hAt (col z) k 0=z.getD k 0:=by
 unfold hAt col
 cases h:z[k]?<;>simp [lbl,h]
def a36 (e:Ev) (z:List Rat) (k p:Nat):Rat:=stk e (col z) k p 0
def b8B (iv:Option (Rat × Rat)) (v:Rat):Bool:=match iv with
 |none=>true
 |some (_,hi)=>decide (v<=hi)
structure b9n (e:Ev) (x:j5) (v f:Rat):Prop where
 pos:0<=v
 most:F4 e x.src≠0->v<=f
 all:x.all=true->v=f
structure b5n (t:P1) (kind:Int) (i:Nat) (x:j5) (v:Rat):Prop where
 cap:b8B (a3u t.ev x) v=true
 fin:∀g ∈ a4u t.finds kind i,(g:Rat)<=v
 cln:0<a3M t.cleans kind i->v=0
structure b9w (t:P1) (kind:Int) (z:List Rat):Prop where
 tr:a3d t=0
 k0:0<=kind
 k1:kind<8
 len:z.length=t.ev.moves.length
 step:∀i x,t.ev.moves[i]? =some x->b9n t.ev x (z.getD i 0) (a36 t.ev z i x.src.toNat)∧b5n t kind i x (z.getD i 0)
theorem a49 {t:P1} (h:a3d t=0):p7 t.ev=0∧t.finds.length<=20∧t.cleans.length<=50∧a7r t.ev t.finds=0∧a9f t.ev t.cleans=0:=by
 unfold a3d at h
 by_cases h1:p7 t.ev≠0
 ·rw [if_pos h1] at h;exact absurd h h1
 rw [if_neg h1] at h
 by_cases h2:20<t.finds.length∨50<t.cleans.length
 ·rw [if_pos h2] at h;cases h
 rw [if_neg h2] at h
 by_cases h3:a7r t.ev t.finds≠0
 ·rw [if_pos h3] at h;exact absurd h h3
 rw [if_neg h3] at h
 exact ⟨by simpa using h1,by omega,by omega,by simpa using h3,h⟩
theorem b1q {t:P1} (h1:p7 t.ev=0) (h2:t.finds.length<=20) (h3:t.cleans.length<=50) (h4:a7r t.ev t.finds=0) (h5:a9f t.ev t.cleans=0):a3d t=0:=by
 unfold a3d
 rw [if_neg (by simp [h1]),if_neg (by omega),if_neg (by simp [h4]),h5]
end
section
def a0s (t:P1):P1:={ t with finds:=[] }
theorem b1U {t:P1} (h:a3d t=0):a3d (a0s t)=0:=by
 obtain ⟨q1,q2,q3,q4,q5⟩:=a49 h
 exact b1q q1 (by simp [a0s]) q3 rfl q5
theorem b1x {e:Ev} {z:List Rat} {k:Nat} {x:j5} (hx:e.moves[k]? =some x) (p:Nat):a36 e z (k+1) p=if x.src=(p:Int) then a36 e z k p - z.getD k 0 else if x.dst=(p:Int) then a36 e z k p+z.getD k 0 else a36 e z k p:=by
 unfold a36
 rw [b57 hx]
 unfold aT8
 rw [b60]
theorem b4s {e:Ev} {z:List Rat} {k:Nat} (hx:e.moves[k]? =none) (p:Nat):a36 e z (k+1) p=a36 e z k p:=by
 unfold a36
 rw [b5E hx]
theorem a1f {f:Nat->Rat}:∀{n:Nat},(∀ p,p<n->0<=f p)->0<=i6 f n
 |0,_=>lb1
 |n+1,h=>by
  have h1:=a1f (n:=n) fun p hp=>h p (by omega)
  have h2:=h n (by omega)
  simp only [i6];grind
end
section
structure Fd where
 V:Nat->Rat
 A:Nat->Nat->Rat
 G:Nat->Rat
 O:Nat->Nat
 F:Nat->Nat
namespace Fd
def pRow (D:Fd) (r s j:Nat):Rat:=if j=s then 1 / D.A r s else D.A r j / D.A r s
def exch (D:Fd) (r s:Nat):Fd where
 V:=fun i=>if i=r then D.V r / D.A r s else D.V i - D.A i s*(D.V r / D.A r s)
 A:=fun i j=>if i=r then D.pRow r s j else if j=s then 0 - D.A i s*D.pRow r s s else D.A i j - D.A i s*D.pRow r s j
 G:=fun j=>if j=s then 0 - D.G s*D.pRow r s s else D.G j - D.G s*D.pRow r s j
 O:=fun i=>if i=r then D.F s else D.O i
 F:=fun j=>if j=s then D.O r else D.F j
end Fd
theorem C6 {f:Nat->Rat} {s:Nat}:∀{n:Nat},s<n->i6 f n=i6 (fun j=>if j=s then 0 else f j) n+f s
 |0,h=>by omega
 |n+1,h=>by
  simp only [i6]
  by_cases hs:s=n
  ·subst hs
   rw [if_pos rfl,d8 (n:=s) (f:=fun j=>if j=s then 0 else f j) (g:=f) fun m hm=>by rw [if_neg (by omega)]]
   grind
  ·rw [if_neg (show ¬n=s by omega),C6 (f:=f) (s:=s) (n:=n) (by omega)];grind
theorem G8 {f:Nat->Rat} (k:Rat):∀n:Nat,i6 (fun j=>k*f j) n=k*i6 f n
 |0=>by simp only [i6,T7];grind
 |n+1=>by simp only [i6];rw [G8 k n];grind
theorem U1 {f g:Nat->Rat}:∀n:Nat,i6 (fun j=>f j+g j) n=i6 f n+i6 g n
 |0=>by simp only [i6,T7];grind
 |n+1=>by simp only [i6];rw [U1 n];grind
theorem p6 {f:Nat->Rat}:∀{n:Nat},(∀ j,j<n->f j=0)->i6 f n=0
 |0,_=>by simp only [i6,T7]
 |n+1,h=>by simp only [i6];rw [p6 fun j hj=>h j (by omega),h n (by omega)];grind
theorem a65 {f:Nat->Rat}:∀{n:Nat},(∀ j,j<n->f j<=0)->i6 f n<=0
 |0,_=>by simp only [i6,T7];grind
 |n+1,h=>by
  simp only [i6]
  have h1:=a65 (f:=f) (n:=n) fun j hj=>h j (by omega)
  have h2:=h n (by omega)
  grind
theorem b7k {f:Nat->Rat} {n s:Nat} (h:∀j,j<n->f j<=0) (hs:s<n) (h0:f s<0):i6 f n<0:=by
 rw [C6 hs]
 have:=a65 (f:=fun j=>if j=s then 0 else f j) (n:=n) fun j hj=>by split;grind;exact h j hj
 grind
theorem b71 {f:Nat->Rat} {n s:Nat} (h:∀j,j<n->0<=f j) (hs:s<n) (h0:0<f s):0<i6 f n:=by
 rw [C6 hs]
 have:=a1f (f:=fun j=>if j=s then 0 else f j) (n:=n) fun j hj=>by
  by_cases hj2:j=s
  ·simp only [hj2,if_true];grind
  ·simp only [if_neg hj2];exact h j hj
 grind
def Ids (m n:Nat) (D:Fd) (y:Nat->Rat) (c:Rat):Prop:=∀i,i<m->y (D.O i)=c*D.V i - i6 (fun j=>D.A i j*y (D.F j)) n
theorem a9j {D:Fd} {r s n:Nat} {y:Nat->Rat} (hs:s<n) (f:Nat->Rat) (f':Nat->Rat) (k:Rat) (hf:∀j,j≠s->f' j=f j - k*D.pRow r s j):
 i6 (fun j=>f' j*y ((D.exch r s).F j)) n=i6 (fun j=>if j=s then 0 else f j*y (D.F j)) n - k*i6 (fun j=>if j=s then 0 else D.pRow r s j*y (D.F j)) n+f' s*y (D.O r):=by
 rw [C6 hs]
 have h1:(D.exch r s).F s=D.O r:=by show (if s=s then D.O r else D.F s)=_;rw [if_pos rfl]
 rw [h1]
 have h2:i6 (fun j=>if j=s then 0 else f' j*y ((D.exch r s).F j)) n=i6 (fun j=>(if j=s then 0 else f j*y (D.F j))+(-k)*(if j=s then 0 else D.pRow r s j*y (D.F j))) n:=d8 fun j hj=>by
  by_cases h:j=s
  ·rw [if_pos h,if_pos h,if_pos h];grind
  ·rw [if_neg h,if_neg h,if_neg h,hf j h]
   have:(D.exch r s).F j=D.F j:=by show (if j=s then D.O r else D.F j)=_;rw [if_neg h]
   rw [this];grind
 rw [h2,U1,G8];grind
theorem ah7 {D:Fd} {r s n:Nat} {y:Nat->Rat} {c:Rat} (hs:s<n) (hp:D.A r s≠0):
 y (D.O r)=c*D.V r - i6 (fun j=>D.A r j*y (D.F j)) n↔y (D.F s)=c*(D.V r / D.A r s) - i6 (fun j=>if j=s then 0 else D.pRow r s j*y (D.F j)) n - 1 / D.A r s*y (D.O r):=by
 have e1:i6 (fun j=>D.A r j*y (D.F j)) n=D.A r s*i6 (fun j=>if j=s then 0 else D.pRow r s j*y (D.F j)) n+D.A r s*y (D.F s):=by
  rw [C6 hs,←G8]
  congr 1
  refine d8 fun j hj=>?_
  by_cases h:j=s
  ·simp only [if_pos h];grind
  ·simp only [if_neg h]
   unfold Fd.pRow
   rw [if_neg h];grind
 rw [e1]
 generalize i6 (fun j=>if j=s then 0 else D.pRow r s j*y (D.F j)) n=R
 generalize y (D.F s)=a
 generalize y (D.O r)=b
 generalize D.V r=v
 generalize D.A r s=p at *
 constructor
 ·intro h;rw [h];grind
 ·intro h;rw [h];grind
theorem aa6 {m n:Nat} {D:Fd} {r s:Nat} {y:Nat->Rat} {c:Rat} (hr:r<m) (hs:s<n) (hp:D.A r s≠0):Ids m n D y c↔Ids m n (D.exch r s) y c:=by
 have hO:(D.exch r s).O r=D.F s:=by show (if r=r then D.F s else D.O r)=_;rw [if_pos rfl]
 have hV:(D.exch r s).V r=D.V r / D.A r s:=by show (if r=r then _ else _)=_;rw [if_pos rfl]
 have hA:∀j,(D.exch r s).A r j=D.pRow r s j:=fun j=>by show (if r=r then _ else _)=_;rw [if_pos rfl]
 have hps:D.pRow r s s=1 / D.A r s:=by unfold Fd.pRow;rw [if_pos rfl]
 have rowr:(y ((D.exch r s).O r)=c*(D.exch r s).V r - i6 (fun j=>(D.exch r s).A r j*y ((D.exch r s).F j)) n)↔y (D.O r)=c*D.V r - i6 (fun j=>D.A r j*y (D.F j)) n:=by
  rw [ah7 hs hp,hO,hV]
  have h:=a9j (D:=D) (r:=r) (y:=y) hs (fun _=>0) ((D.exch r s).A r) (-1) (fun j hj=>by rw [hA];grind)
  rw [h,hA,hps,p6 (f:=fun j=>if j=s then 0 else 0*y (D.F j)) (fun j _=>by split<;>grind)]
  constructor
  ·intro h;rw [h];grind
  ·intro h;rw [h];grind
 have rowi:∀i,i≠r->y (D.O r)=c*D.V r - i6 (fun j=>D.A r j*y (D.F j)) n->
  ((y ((D.exch r s).O i)=c*(D.exch r s).V i - i6 (fun j=>(D.exch r s).A i j*y ((D.exch r s).F j)) n)↔y (D.O i)=c*D.V i - i6 (fun j=>D.A i j*y (D.F j)) n):=fun i hi h0=>by
  rw [ah7 hs hp] at h0
  have h1:(D.exch r s).O i=D.O i:=by show (if i=r then _ else _)=_;rw [if_neg hi]
  have h2:(D.exch r s).V i=D.V i - D.A i s*(D.V r / D.A r s):=by show (if i=r then _ else _)=_;rw [if_neg hi]
  have h3:∀j,j≠s->(D.exch r s).A i j=D.A i j - D.A i s*D.pRow r s j:=fun j hj=>by show (if i=r then _ else _)=_;rw [if_neg hi,if_neg hj]
  have h4:(D.exch r s).A i s=0 - D.A i s*D.pRow r s s:=by show (if i=r then _ else _)=_;rw [if_neg hi,if_pos rfl]
  rw [h1,h2,a9j hs (D.A i) ((D.exch r s).A i) (D.A i s) h3,h4,hps,C6 (f:=fun j=>D.A i j*y (D.F j)) hs,h0]
  constructor
  ·intro h;rw [h];grind
  ·intro h;rw [h];grind
 constructor
 ·intro h i hi
  by_cases hir:i=r
  ·subst hir;exact rowr.2 (h i hi)
  ·exact (rowi i hir (h r hr)).2 (h i hi)
 ·intro h i hi
  have h0:=rowr.1 (h r hr)
  by_cases hir:i=r
  ·subst hir;exact h0
  ·exact (rowi i hir h0).1 (h i hi)
def a04 (n:Nat) (D:Fd) (g0:Nat->Rat) (m:Nat) (z:Rat):Prop:=∀y c,Ids m n D y c->i6 (fun j=>g0 j*y j) n=c*z+i6 (fun j=>D.G j*y (D.F j)) n
theorem ap0 {m n:Nat} {D:Fd} {r s:Nat} {g0:Nat->Rat} {z:Rat} (hr:r<m) (hs:s<n) (hp:D.A r s≠0) (h:a04 n D g0 m z):a04 n (D.exch r s) g0 m (z+D.G s*(D.V r / D.A r s)):=by
 intro y c hy
 have hy:=(aa6 hr hs hp).2 hy
 rw [h y c hy]
 have h0:=(ah7 hs hp).1 (hy r hr)
 have hps:D.pRow r s s=1 / D.A r s:=by unfold Fd.pRow;rw [if_pos rfl]
 have h3:∀j,j≠s->(D.exch r s).G j=D.G j - D.G s*D.pRow r s j:=fun j hj=>by show (if j=s then _ else _)=_;rw [if_neg hj]
 have h4:(D.exch r s).G s=0 - D.G s*D.pRow r s s:=by show (if s=s then _ else _)=_;rw [if_pos rfl]
 rw [a9j hs D.G (D.exch r s).G (D.G s) h3,h4,hps,C6 (f:=fun j=>D.G j*y (D.F j)) hs,h0]
 grind
end
section
def a8M (i:Nat):Rat:=if i % 2=0 then 1 else -1
theorem b1n (i:Nat):a8M (i+1)=-(a8M i):=by
 unfold a8M
 by_cases h:i % 2=0
 ·rw [if_pos h,if_neg (by omega)]
 ·rw [if_neg h,if_pos (by omega)];grind
def w8 (i:Nat) (M:Nat->Nat->Rat):Nat->Nat->Rat:=fun r c=>M (if r<i then r else r+1) (c+1)
def G6:Nat->(Nat->Nat->Rat)->Rat
 |0,_=>1
 |n+1,M=>i6 (fun i=>a8M i*M i 0*G6 n (w8 i M)) (n+1)
theorem L3 (n:Nat) (M:Nat->Nat->Rat):G6 (n+1) M=i6 (fun i=>a8M i*M i 0*G6 n (w8 i M)) (n+1):=rfl
theorem a1z:∀{n:Nat} {M N:Nat->Nat->Rat},(∀ i j,i<n->j<n->M i j=N i j)->G6 n M=G6 n N
 |0,_,_,_=>rfl
 |n+1,M,N,h=>by
  rw [L3,L3]
  refine d8 fun i hi=>?_
  rw [h i 0 hi (by omega),a1z (n:=n) (M:=w8 i M) (N:=w8 i N) fun r c hr hc=>?_]
  unfold w8
  split
  ·exact h _ _ (by omega) (by omega)
  ·exact h _ _ (by omega) (by omega)
def D2 (M:Nat->Nat->Rat) (r:Nat) (v:Nat->Rat):Nat->Nat->Rat:=fun i=>if i=r then v else M i
theorem a7P {M:Nat->Nat->Rat} {r:Nat}:D2 M r (M r)=M:=by
 funext i;unfold D2;by_cases h:i=r
 ·rw [if_pos h,h]
 ·rw [if_neg h]
theorem a9s {M:Nat->Nat->Rat} {r:Nat} {v:Nat->Rat}:w8 r (D2 M r v)=w8 r M:=by
 funext a c;unfold w8 D2
 by_cases h:a<r
 ·rw [if_pos h,if_neg (by omega)]
 ·rw [if_neg h,if_neg (by omega)]
theorem ae2 {M:Nat->Nat->Rat} {i r:Nat} {v:Nat->Rat} (h:i<r):w8 i (D2 M r v)=D2 (w8 i M) (r - 1) (fun c=>v (c+1)):=by
 funext a c;unfold w8 D2
 by_cases ha:a<i
 ·simp only [if_pos ha]
  rw [if_neg (by omega),if_neg (by omega)]
 ·simp only [if_neg ha]
  by_cases h2:a+1=r
  ·rw [if_pos h2,if_pos (by omega)]
  ·rw [if_neg h2,if_neg (by omega)]
theorem ab0 {M:Nat->Nat->Rat} {i r:Nat} {v:Nat->Rat} (h:r<i):w8 i (D2 M r v)=D2 (w8 i M) r (fun c=>v (c+1)):=by
 funext a c;unfold w8 D2
 by_cases ha:a<i
 ·simp only [if_pos ha]
  by_cases h2:a=r
  ·rw [if_pos h2,if_pos h2]
  ·rw [if_neg h2,if_neg h2]
 ·simp only [if_neg ha]
  rw [if_neg (by omega),if_neg (by omega)]
theorem a4D:∀{n:Nat} {M:Nat->Nat->Rat} {r:Nat} {a b:Rat} {v w:Nat->Rat},r<n->G6 n (D2 M r fun c=>a*v c+b*w c)=a*G6 n (D2 M r v)+b*G6 n (D2 M r w)
 |0,_,_,_,_,_,_,h=>by omega
 |n+1,M,r,a,b,v,w,h=>by
  rw [L3,L3,L3,←G8,←G8,←U1]
  refine d8 fun i hi=>?_
  by_cases e:i=r
  ·subst e
   rw [a9s,a9s,a9s]
   unfold D2
   simp only [if_true]
   grind
  ·have e2:∀u:Nat->Rat,D2 M r u i 0=M i 0:=fun u=>by unfold D2;rw [if_neg e]
   rw [e2,e2,e2]
   by_cases h2:i<r
   ·rw [ae2 h2,ae2 h2,ae2 h2,a4D (n:=n) (M:=w8 i M) (r:=r - 1) (a:=a) (b:=b) (v:=fun c=>v (c+1)) (w:=fun c=>w (c+1)) (by omega)]
    grind
   ·rw [ab0 (by omega),ab0 (by omega),ab0 (by omega),a4D (n:=n) (M:=w8 i M) (r:=r) (a:=a) (b:=b) (v:=fun c=>v (c+1)) (w:=fun c=>w (c+1)) (by omega)]
    grind
theorem b1f {f:Nat->Rat} {r:Nat}:∀{n:Nat},r+1<n->(∀ i,i<n->i≠r->i≠r+1->f i=0)->i6 f n=f r+f (r+1)
 |0,h,_=>by omega
 |n+1,h,h0=>by
  show i6 f n+f n=_
  by_cases e:n=r+1
  ·subst e
   show i6 f r+f r+f (r+1)=_
   rw [p6 fun j hj=>h0 j (by omega) (by omega) (by omega)];grind
  ·rw [b1f (r:=r) (by omega) (fun i hi=>h0 i (by omega)),h0 n (by omega) (by omega) e];grind
theorem a4K:∀{n:Nat} {M:Nat->Nat->Rat} {r:Nat},r+1<n->M r=M (r+1)->G6 n M=0
 |0,_,_,h,_=>by omega
 |n+1,M,r,h,he=>by
  rw [L3,b1f h fun i hi h1 h2=>?_]
  ·have em:w8 r M=w8 (r+1) M:=by
    funext a c;unfold w8
    by_cases h1:a<r
    ·rw [if_pos h1,if_pos (by omega)]
    ·rw [if_neg h1]
     by_cases h2:a<r+1
     ·have:a=r:=by omega
      subst this
      rw [if_pos h2,he]
     ·rw [if_neg h2]
   rw [em,he,b1n];grind
  ·by_cases hlt:i<r
   ·rw [a4K (n:=n) (M:=w8 i M) (r:=r - 1) (by omega) (by
     funext c;unfold w8
     rw [if_neg (by omega),if_neg (by omega),show r - 1+1=r by omega,he])]
    grind
   ·rw [a4K (n:=n) (M:=w8 i M) (r:=r) (by omega) (by
     funext c;unfold w8
     rw [if_pos (by omega),if_pos (by omega),he])]
    grind
theorem a4R {M:Nat->Nat->Rat} {r s:Nat} {v w:Nat->Rat} (h:r≠s):D2 (D2 M r v) s w=D2 (D2 M s w) r v:=by
 funext i;unfold D2
 by_cases h1:i=r
 ·subst h1;rw [if_neg h,if_pos rfl,if_pos rfl]
 ·rw [if_neg h1]
  by_cases h2:i=s
  ·simp only [if_pos h2,if_neg h1]
  ·simp only [if_neg h2,if_neg h1]
theorem a0l {M:Nat->Nat->Rat} {r:Nat} {v:Nat->Rat}:D2 M r v r=v:=by unfold D2;rw [if_pos rfl]
theorem X4 {M:Nat->Nat->Rat} {r i:Nat} {v:Nat->Rat} (h:i≠r):D2 M r v i=M i:=by unfold D2;rw [if_neg h]
theorem aA7 {n:Nat} {M:Nat->Nat->Rat} {r:Nat} (v w:Nat->Rat) (h:r<n):G6 n (D2 M r fun c=>v c+w c)=G6 n (D2 M r v)+G6 n (D2 M r w):=by
 have:=a4D (M:=M) (a:=1) (b:=1) (v:=v) (w:=w) h
 have e:(fun c=>(1:Rat)*v c+1*w c)=fun c=>v c+w c:=by funext c;grind
 rw [e] at this;grind
theorem b3j {n:Nat} {M:Nat->Nat->Rat} {r:Nat} (h:r+1<n) (v w:Nat->Rat):G6 n (D2 (D2 M r v) (r+1) w)=-(G6 n (D2 (D2 M r w) (r+1) v)):=by
 have key:G6 n (D2 (D2 M r fun c=>v c+w c) (r+1) fun c=>v c+w c)=0:=a4K h (by rw [a0l,X4 (by omega),a0l])
 rw [aA7 v w h,a4R (show r≠r+1 by omega),a4R (show r≠r+1 by omega),aA7 v w (by omega),aA7 v w (by omega)] at key
 have z1:G6 n (D2 (D2 M (r+1) v) r v)=0:=a4K h (by rw [a0l,X4 (by omega),a0l])
 have z2:G6 n (D2 (D2 M (r+1) w) r w)=0:=a4K h (by rw [a0l,X4 (by omega),a0l])
 rw [z1,z2] at key
 rw [a4R (show r≠r+1 by omega),a4R (show r≠r+1 by omega)]
 grind
theorem aY0:∀(d:Nat) {n:Nat} {M:Nat->Nat->Rat} {r s:Nat},s=r+1+d->s<n->M r=M s->G6 n M=0
 |0,n,M,r,s,hs,hn,he=>by subst hs;exact a4K hn he
 |d+1,n,M,r,s,hs,hn,he=>by
  obtain ⟨q,rfl⟩:∃q,s=q+1:=⟨s - 1,by omega⟩
  have e1:M=D2 (D2 M q (M q)) (q+1) (M (q+1)):=by rw [a7P,a7P]
  rw [e1,b3j hn]
  have:=aY0 d (n:=n) (M:=D2 (D2 M q (M (q+1))) (q+1) (M q)) (r:=r) (s:=q) (by omega) (by omega) (by
   rw [X4 (by omega),X4 (by omega),X4 (by omega),a0l,he])
  rw [this];grind
theorem b3M {n:Nat} {M:Nat->Nat->Rat} {r s:Nat} (hr:r<n) (hs:s<n) (h:r≠s) (he:M r=M s):G6 n M=0:=by
 by_cases hlt:r<s
 ·exact aY0 (s - r - 1) (by omega) hs he
 ·exact aY0 (r - s - 1) (r:=s) (s:=r) (by omega) hr he.symm
theorem b0o {n:Nat} {M:Nat->Nat->Rat} {r:Nat} (hr:r<n) (c:Nat->Rat) (v:Nat->Nat->Rat):∀k,G6 n (D2 M r fun l=>i6 (fun i=>c i*v i l) k)=i6 (fun i=>c i*G6 n (D2 M r (v i))) k
 |0=>by
  have:=a4D (M:=M) (a:=0) (b:=0) (v:=fun _=>0) (w:=fun _=>0) hr
  have e:(fun l:Nat=>i6 (fun i=>c i*v i l) 0)=fun _=>(0:Rat)*0+0*0:=by funext l;show (0:Rat)=_;grind
  rw [e,this];show _=(0:Rat);grind
 |k+1=>by
  have ih:=b0o (M:=M) hr c v k
  have:=a4D (M:=M) (a:=1) (b:=c k) (v:=fun l=>i6 (fun i=>c i*v i l) k) (w:=v k) hr
  have e:(fun l=>i6 (fun i=>c i*v i l) (k+1))=fun l=>(1:Rat)*i6 (fun i=>c i*v i l) k+c k*v k l:=by funext l;show i6 _ k+_=_;grind
  rw [e,this,ih];show _=i6 _ k+_;grind
theorem ae0 {n:Nat} {M:Nat->Nat->Rat} {c:Nat->Rat} {u:Nat->Rat} (hu:∀l,l<n->u l=i6 (fun k=>c k*M k l) n) {j:Nat} (hj:j<n):G6 n (D2 M j u)=c j*G6 n M:=by
 have e:G6 n (D2 M j u)=G6 n (D2 M j fun l=>i6 (fun k=>c k*M k l) n):=a1z fun a b ha hb=>by
  unfold D2
  split
  ·exact hu b hb
  ·rfl
 rw [e,b0o hj,C6 hj,a7P,p6 fun k hk=>?_]
 ·grind
 ·by_cases h:k=j
  ·rw [if_pos h]
  ·rw [if_neg h,b3M (r:=k) (s:=j) hk hj h (by rw [X4 h,a0l])];grind
theorem aW8 (i:Nat):∃z:Int,a8M i=((z:Int):Rat)∧z.natAbs=1:=by
 unfold a8M
 split
 ·exact ⟨1,rfl,rfl⟩
 ·exact ⟨-1,rfl,rfl⟩
def a68:Nat->(Nat->Nat)->Nat
 |0,_=>1
 |n+1,B=>(n+1)*(B 0*a68 n fun c=>B (c+1))
theorem aG6 {f:Nat->Rat} {B:Nat}:∀{n:Nat},(∀ i,i<n->∃z:Int,f i=((z:Int):Rat)∧z.natAbs<=B)->∃z:Int,i6 f n=((z:Int):Rat)∧z.natAbs<=n*B
 |0,_=>⟨0,rfl,by simp⟩
 |n+1,h=>by
  obtain ⟨a,ha,ha2⟩:=aG6 (n:=n) fun i hi=>h i (by omega)
  obtain ⟨b,hb,hb2⟩:=h n (by omega)
  refine ⟨a+b,by show i6 f n+f n=_;rw [ha,hb];push_cast;rfl,?_⟩
  have:=Int.natAbs_add_le a b
  rw [lbU];omega
theorem a4E:∀{n:Nat} {M:Nat->Nat->Rat} {B:Nat->Nat},(∀ i j,i<n->j<n->∃z:Int,M i j=((z:Int):Rat)∧z.natAbs<=B j)->∃z:Int,G6 n M=((z:Int):Rat)∧z.natAbs<=a68 n B
 |0,_,_,_=>⟨1,rfl,by simp [a68]⟩
 |n+1,M,B,h=>by
  rw [L3]
  refine aG6 fun i hi=>?_
  obtain ⟨a,ha,ha2⟩:=aW8 i
  obtain ⟨b,hb,hb2⟩:=h i 0 hi (by omega)
  obtain ⟨c,hc,hc2⟩:=a4E (n:=n) (M:=w8 i M) (B:=fun c=>B (c+1)) fun r c hr hc=>by
   unfold w8
   split
   ·exact h _ _ (by omega) (by omega)
   ·exact h _ _ (by omega) (by omega)
  refine ⟨a*b*c,by rw [ha,hb,hc];push_cast;rfl,?_⟩
  rw [aa3,aa3,ha2,Nat.one_mul]
  exact lbS hb2 hc2
theorem a0i {f:Nat->Rat}:∀n:Nat,i6 f (n+1)=f 0+i6 (fun l=>f (l+1)) n
 |0=>by simp only [i6];grind
 |n+1=>by
  have ih:=a0i (f:=f) n
  have e:i6 f (n+1+1)=i6 f (n+1)+f (n+1):=rfl
  rw [e,ih]
  simp only [i6];grind
def a3w:Nat->Nat->Rat:=fun i j=>if i=j then 1 else 0
theorem b0J:∀n,G6 n a3w=1
 |0=>rfl
 |n+1=>by
  rw [L3,a0i (f:=fun i=>a8M i*a3w i 0*G6 n (w8 i a3w)),p6 fun i hi=>?_]
  ·have e:w8 0 a3w=a3w:=by
    funext a c;unfold w8 a3w
    simp
   rw [e,b0J n]
   have:a8M 0=1:=rfl
   have h2:a3w 0 0=1:=rfl
   rw [this,h2];grind
  ·have:a3w (i+1) 0=0:=by unfold a3w;rw [if_neg (by omega)]
   rw [this];grind
end
section
def ai9 (f:Nat->Nat) (w:Nat):Nat->Option Nat
 |0=>none
 |k+1=>match ai9 f w k with
  |some i=>some i
  |none=>if f k=w then some k else none
theorem a4N {f:Nat->Nat} {w:Nat}:∀{k i:Nat},ai9 f w k=some i->i<k∧f i=w
 |0,i,h=>by cases h
 |k+1,i,h=>by
  unfold ai9 at h
  split at h
  ·rename_i i' hi;injection h with h;subst h;have:=a4N hi;exact ⟨by omega,this.2⟩
  ·split at h
   ·injection h with h;subst h;exact ⟨by omega,by assumption⟩
   ·cases h
theorem a7T {f:Nat->Nat} {w:Nat}:∀{k:Nat},ai9 f w k=none->∀i,i<k->f i≠w
 |0,_,i,hi=>by omega
 |k+1,h,i,hi=>by
  unfold ai9 at h
  split at h
  ·cases h
  ·rename_i hn
   split at h
   ·cases h
   ·by_cases hik:i=k
    ·subst hik;assumption
    ·exact a7T hn i (by omega)
structure a0F (m n:Nat) (D:Fd):Prop where
 oi:∀i i',i<m->i'<m->D.O i=D.O i'->i=i'
 fi:∀j j',j<n->j'<n->D.F j=D.F j'->j=j'
 of:∀i j,i<m->j<n->D.O i≠D.F j
 all:∀w,w<n+m->(∃ i,i<m∧D.O i=w)∨(∃ j,j<n∧D.F j=w)
 ob:∀i,i<m->D.O i<n+m
 fb:∀j,j<n->D.F j<n+m
theorem a7J {D:Fd} {r s i:Nat}:(D.exch r s).O i=if i=r then D.F s else D.O i:=rfl
theorem a1l {D:Fd} {r s j:Nat}:(D.exch r s).F j=if j=s then D.O r else D.F j:=rfl
theorem am8 {m n:Nat} {D:Fd} {r s:Nat} (hr:r<m) (hs:s<n) (h:a0F m n D):a0F m n (D.exch r s) where
 oi:=fun i i' hi hi' he=>by
  rw [a7J,a7J] at he
  by_cases h1:i=r<;>by_cases h2:i'=r
  ·omega
  ·rw [if_pos h1,if_neg h2] at he;exact absurd he.symm (h.of i' s hi' hs)
  ·rw [if_neg h1,if_pos h2] at he;exact absurd he (h.of i s hi hs)
  ·rw [if_neg h1,if_neg h2] at he;exact h.oi i i' hi hi' he
 fi:=fun j j' hj hj' he=>by
  rw [a1l,a1l] at he
  by_cases h1:j=s<;>by_cases h2:j'=s
  ·omega
  ·rw [if_pos h1,if_neg h2] at he;exact absurd he (h.of r j' hr hj')
  ·rw [if_neg h1,if_pos h2] at he;exact absurd he.symm (h.of r j hr hj)
  ·rw [if_neg h1,if_neg h2] at he;exact h.fi j j' hj hj' he
 of:=fun i j hi hj he=>by
  rw [a7J,a1l] at he
  by_cases h1:i=r<;>by_cases h2:j=s
  ·rw [if_pos h1,if_pos h2] at he;exact h.of r s hr hs he.symm
  ·rw [if_pos h1,if_neg h2] at he;exact h2 (h.fi s j hs hj he).symm
  ·rw [if_neg h1,if_pos h2] at he;exact h1 (h.oi i r hi hr he)
  ·rw [if_neg h1,if_neg h2] at he;exact h.of i j hi hj he
 all:=fun w hw=>by
  rcases h.all w hw with ⟨i,hi,he⟩|⟨j,hj,he⟩
  ·by_cases h1:i=r
   ·exact .inr ⟨s,hs,by rw [a1l,if_pos rfl,←h1];exact he⟩
   ·exact .inl ⟨i,hi,by rw [a7J,if_neg h1];exact he⟩
  ·by_cases h1:j=s
   ·exact .inl ⟨r,hr,by rw [a7J,if_pos rfl,←h1];exact he⟩
   ·exact .inr ⟨j,hj,by rw [a1l,if_neg h1];exact he⟩
 ob:=fun i hi=>by rw [a7J];split;exact h.fb s hs;exact h.ob i hi
 fb:=fun j hj=>by rw [a1l];split;exact h.ob r hr;exact h.fb j hj
def a1F (m n:Nat) (D:Fd) (c:Rat) (t:Nat->Rat) (w:Nat):Rat:=match ai9 D.F w n with
 |some j=>t j
 |none=>match ai9 D.O w m with
  |some i=>c*D.V i - i6 (fun j=>D.A i j*t j) n
  |none=>0
theorem a0O {m n:Nat} {D:Fd} (h:a0F m n D) {c:Rat} {t:Nat->Rat} {j:Nat} (hj:j<n):a1F m n D c t (D.F j)=t j:=by
 unfold a1F
 cases hi:ai9 D.F (D.F j) n with
 |none=>exact absurd rfl (a7T hi j hj)
 |some i=>obtain ⟨h1,h2⟩:=a4N hi;rw [h.fi i j h1 hj h2]
theorem a58 {m n:Nat} {D:Fd} (h:a0F m n D) {c:Rat} {t:Nat->Rat} {i:Nat} (hi:i<m):a1F m n D c t (D.O i)=c*D.V i - i6 (fun j=>D.A i j*t j) n:=by
 unfold a1F
 cases hj:ai9 D.F (D.O i) n with
 |some j=>obtain ⟨h1,h2⟩:=a4N hj;exact absurd h2.symm (h.of i j hi h1)
 |none=>
  cases hk:ai9 D.O (D.O i) m with
  |none=>exact absurd rfl (a7T hk i hi)
  |some k=>obtain ⟨h1,h2⟩:=a4N hk;rw [h.oi k i h1 hi h2]
theorem a0p {m n:Nat} {D:Fd} (h:a0F m n D) (c:Rat) (t:Nat->Rat):Ids m n D (a1F m n D c t) c:=fun i hi=>by
 rw [a58 h hi]
 congr 1
 exact d8 fun j hj=>by rw [a0O h hj]
def T4 (f:Nat->Nat) (p:Nat->Bool):Nat->Option Nat
 |0=>none
 |k+1=>match T4 f p k with
  |none=>if p k then some k else none
  |some a=>if p k && decide (f k<f a) then some k else some a
theorem a0x {f:Nat->Nat} {p:Nat->Bool}:∀{k:Nat},T4 f p k=none->∀i,i<k->p i=false
 |0,_,i,hi=>by omega
 |k+1,h,i,hi=>by
  unfold T4 at h
  split at h
  ·rename_i hn
   split at h
   ·cases h
   ·rename_i hp
    by_cases hik:i=k
    ·subst hik;simpa using hp
    ·exact a0x hn i (by omega)
  ·split at h<;>cases h
theorem G1 {f:Nat->Nat} {p:Nat->Bool}:∀{k a:Nat},T4 f p k=some a->a<k∧p a=true∧∀i,i<k->p i=true->f a<=f i
 |0,a,h=>by cases h
 |k+1,a,h=>by
  unfold T4 at h
  split at h
  ·rename_i hn
   split at h
   ·rename_i hp
    injection h with h;subst h
    refine ⟨by omega,hp,fun i hi hpi=>?_⟩
    by_cases hik:i=k
    ·subst hik;omega
    ·rw [a0x hn i (by omega)] at hpi;cases hpi
   ·cases h
  ·rename_i b hb
   obtain ⟨h1,h2,h3⟩:=G1 hb
   split at h
   ·rename_i hc
    injection h with h;subst h
    simp only [lbM,lbI] at hc
    refine ⟨by omega,hc.1,fun i hi hpi=>?_⟩
    by_cases hik:i=k
    ·subst hik;omega
    ·have:=h3 i (by omega) hpi;omega
   ·rename_i hc
    injection h with h;subst h
    refine ⟨by omega,h2,fun i hi hpi=>?_⟩
    by_cases hik:i=k
    ·subst hik
     have:¬(f i<f b):=fun h=>hc (by simp [hpi,h])
     omega
    ·exact h3 i (by omega) hpi
inductive b4l where
 |best
 |row (r:Nat)
 |col (s:Nat)
 |next (r s:Nat)
def a0Q (n:Nat) (D:Fd) (r:Nat):b4l:=match T4 D.F (fun j=>decide (D.A r j<0)) n with
 |none=>.row r
 |some s=>.next r s
def a0T (m:Nat) (D:Fd) (s:Nat):b4l:=match T4 D.O (fun i=>decide (0<D.A i s)) m with
 |none=>.col s
 |some r=>.next r s
def C3 (m n:Nat) (D:Fd):b4l:=match T4 D.O (fun i=>decide (D.V i<0)) m,T4 D.F (fun j=>decide (0<D.G j)) n with
 |none,none=>.best
 |some r,none=>a0Q n D r
 |none,some s=>a0T m D s
 |some r,some s=>if D.O r<D.F s then a0Q n D r else a0T m D s
structure ap2 (m n:Nat) (D:Fd) (r s:Nat):Prop where
 v:D.V r<0
 a:D.A r s<0
 f:∀j,j<n->D.F j<D.F s->0<=D.A r j
 o:∀i,i<m->D.O i<D.O r->0<=D.V i
 g:∀j,j<n->D.F j<D.O r->D.G j<=0
structure ar8 (m n:Nat) (D:Fd) (r s:Nat):Prop where
 g:0<D.G s
 a:0<D.A r s
 o:∀i,i<m->D.O i<D.O r->D.A i s<=0
 f:∀j,j<n->D.F j<D.F s->D.G j<=0
 v:∀i,i<m->D.O i<D.F s->0<=D.V i
theorem aJ2 {m n:Nat} {D:Fd} {r r' s:Nat} (hr:T4 D.O (fun i=>decide (D.V i<0)) m=some r) (hg:∀j,j<n->D.F j<D.O r->D.G j<=0) (h:a0Q n D r=.next r' s):r'<m∧s<n∧ap2 m n D r' s:=by
 obtain ⟨a1,a2,a3⟩:=G1 hr
 unfold a0Q at h
 split at h
 ·cases h
 ·rename_i s' hs'
  injection h with h1 h2;subst h1;subst h2
  obtain ⟨b1,b2,b3⟩:=G1 hs'
  refine ⟨a1,b1,lbL a2,lbL b2,fun j hj hlt=>?_,fun i hi hlt=>?_,hg⟩
  ·exact lb2.1 fun h=>by have:=b3 j hj (lbH h);omega
  ·exact lb2.1 fun h=>by have:=a3 i hi (lbH h);omega
theorem aO1 {m n:Nat} {D:Fd} {s s' r:Nat} (hs:T4 D.F (fun j=>decide (0<D.G j)) n=some s) (hv:∀i,i<m->D.O i<D.F s->0<=D.V i) (h:a0T m D s=.next r s'):r<m∧s'<n∧ar8 m n D r s':=by
 obtain ⟨a1,a2,a3⟩:=G1 hs
 unfold a0T at h
 split at h
 ·cases h
 ·rename_i r' hr'
  injection h with h1 h2;subst h1;subst h2
  obtain ⟨b1,b2,b3⟩:=G1 hr'
  refine ⟨b1,a1,lbL a2,lbL b2,fun i hi hlt=>?_,fun j hj hlt=>?_,hv⟩
  ·exact lb2.1 fun h=>by have:=b3 i hi (lbH h);omega
  ·exact lb2.1 fun h=>by have:=a3 j hj (lbH h);omega
theorem a4L {m n:Nat} {D:Fd} {r s:Nat} (h:C3 m n D=.next r s):r<m∧s<n∧(ap2 m n D r s∨ar8 m n D r s):=by
 unfold C3 at h
 cases hr:T4 D.O (fun i=>decide (D.V i<0)) m with
 |none=>
  have hv:∀i,i<m->0<=D.V i:=fun i hi=>lb2.1 (of_decide_eq_false (a0x hr i hi))
  cases hs:T4 D.F (fun j=>decide (0<D.G j)) n with
  |none=>rw [hr,hs] at h;cases h
  |some s'=>
   rw [hr,hs] at h
   obtain ⟨q1,q2,q3⟩:=aO1 hs (fun i hi _=>hv i hi) h
   exact ⟨q1,q2,.inr q3⟩
 |some r'=>
  obtain ⟨a1,a2,a3⟩:=G1 hr
  cases hs:T4 D.F (fun j=>decide (0<D.G j)) n with
  |none=>
   rw [hr,hs] at h
   obtain ⟨q1,q2,q3⟩:=aJ2 (n:=n) hr (fun j hj _=>lb2.1 (of_decide_eq_false (a0x hs j hj))) h
   exact ⟨q1,q2,.inl q3⟩
  |some s'=>
   rw [hr,hs] at h
   obtain ⟨b1,b2,b3⟩:=G1 hs
   simp only at h
   split at h
   ·rename_i hlt
    obtain ⟨q1,q2,q3⟩:=aJ2 (n:=n) hr (fun j hj hj2=>lb2.1 fun h=>by have:=b3 j hj (lbH h);omega) h
    exact ⟨q1,q2,.inl q3⟩
   ·rename_i hlt
    obtain ⟨q1,q2,q3⟩:=aO1 hs (fun i hi hi2=>lb2.1 fun h=>by have:=a3 i hi (lbH h);omega) h
    exact ⟨q1,q2,.inr q3⟩
theorem a6o {m n:Nat} {D:Fd} {r s:Nat} (h:ap2 m n D r s∨ar8 m n D r s):D.A r s≠0:=by
 rcases h with h|h
 ·have:=h.a;intro h0;rw [h0] at this;exact absurd this (by grind)
 ·have:=h.a;intro h0;rw [h0] at this;exact absurd this (by grind)
theorem b3q {m n:Nat} {D D':Fd} {g0:Nat->Rat} {z z':Rat} (hP:a0F m n D) (hP':a0F m n D') (hI:∀y c,Ids m n D y c↔Ids m n D' y c) (hG:a04 n D g0 m z) (hG':a04 n D' g0 m z')
 {r s r' s' q:Nat} (hr:r<m) (hs:s<n) (hr':r'<m) (hs':s'<n) (h:ap2 m n D r s∨ar8 m n D r s) (h':ap2 m n D' r' s'∨ar8 m n D' r' s') (hq:D.F s=q) (hq':D'.O r'=q)
 (hrq:D.O r<q) (hsq:D'.F s'<q) (hst:∀w,q<w->((∃ j,j<n∧D.F j=w)↔∃j,j<n∧D'.F j=w)):False:=by
 have hfree:∀j,j<n->q<D.F j->∃k,k<n∧D'.F k=D.F j:=fun j hj hlt=>(hst _ hlt).1 ⟨j,hj,rfl⟩
 -- a vector of the second dictionary
 obtain ⟨c,y,hc,hy,ypos,yq,yfree,hobj⟩:∃(c:Rat) (y:Nat->Rat),(c=0∨c=1)∧Ids m n D' y c∧(∀ w,w<n+m->w<q->0<=y w)∧y q<0∧(∀ j,j<n->q<D.F j->y (D.F j)=0)∧
  ((c=0∧0<i6 (fun j=>g0 j*y j) n)∨(c=1∧i6 (fun j=>g0 j*y j) n=z'∧∀j,j<n->D'.F j<q->D'.G j<=0)):=by
  rcases h' with h'|h'
  ·refine ⟨1,a1F m n D' 1 (fun _=>0),.inr rfl,a0p hP' 1 _,fun w hw hwq=>?_,?_,fun j hj hlt=>?_,.inr ⟨rfl,?_,fun j hj hlt=>h'.g j hj (by rw [hq'];exact hlt)⟩⟩
   ·rcases hP'.all w hw with ⟨i,hi,rfl⟩|⟨j,hj,rfl⟩
    ·rw [a58 hP' hi,p6 fun j _=>by grind]
     have:=h'.o i hi (by rw [hq'];exact hwq)
     grind
    ·rw [a0O hP' hj];grind
   ·rw [← hq',a58 hP' hr',p6 fun j _=>by grind]
    have:=h'.v
    grind
   ·obtain ⟨k,hk,he⟩:=hfree j hj hlt
    rw [← he,a0O hP' hk]
   ·rw [hG' _ 1 (a0p hP' 1 _),p6 fun j hj=>by rw [a0O hP' hj];grind];grind
  ·refine ⟨0,a1F m n D' 0 (fun j=>if j=s' then 1 else 0),.inl rfl,a0p hP' 0 _,fun w hw hwq=>?_,?_,fun j hj hlt=>?_,.inl ⟨rfl,?_⟩⟩
   ·have hone:∀i,i6 (fun j=>D'.A i j*(if j=s' then 1 else 0)) n=D'.A i s':=fun i=>by
     rw [C6 hs',p6 fun j _=>by by_cases hj:j=s'<;>simp [hj]]
     simp;grind
    rcases hP'.all w hw with ⟨i,hi,rfl⟩|⟨j,hj,rfl⟩
    ·rw [a58 hP' hi,hone]
     have:=h'.o i hi (by rw [hq'];exact hwq)
     grind
    ·rw [a0O hP' hj];split<;>grind
   ·have hone:i6 (fun j=>D'.A r' j*(if j=s' then 1 else 0)) n=D'.A r' s':=by
     rw [C6 hs',p6 fun j _=>by by_cases hj:j=s'<;>simp [hj]]
     simp;grind
    rw [← hq',a58 hP' hr',hone]
    have:=h'.a
    grind
   ·obtain ⟨k,hk,he⟩:=hfree j hj hlt
    rw [← he,a0O hP' hk,if_neg]
    intro hks
    rw [hks] at he;omega
   ·rw [hG' _ 0 (a0p hP' 0 _)]
    have:i6 (fun j=>D'.G j*a1F m n D' 0 (fun j=>if j=s' then 1 else 0) (D'.F j)) n=D'.G s':=by
     rw [d8 (g:=fun j=>D'.G j*(if j=s' then 1 else 0)) fun j hj=>by rw [a0O hP' hj],C6 hs',p6 fun j _=>by by_cases hj:j=s'<;>simp [hj]]
     simp;grind
    rw [this]
    have:=h'.g
    grind
 have hy2:=(hI y c).2 hy
 -- the terms of the first dictionary
 have hF:∀j,j<n->(D.F j<q∧0<=y (D.F j))∨(j=s∧y (D.F j)<0)∨y (D.F j)=0:=fun j hj=>by
  rcases aw3 (D.F j) q with hlt|heq|hgt
  ·exact .inl ⟨hlt,ypos _ (hP.fb j hj) hlt⟩
  ·refine .inr (.inl ⟨hP.fi j s hj hs (by omega),by rw [heq];exact yq⟩)
  ·exact .inr (.inr (yfree j hj hgt))
 rcases h with h|h
 · -- by its row
   have hid:=hy2 r hr
   have h1:0<i6 (fun j=>D.A r j*y (D.F j)) n:=b71 (s:=s) (fun j hj=>by
    rcases hF j hj with ⟨a,b⟩|⟨rfl,b⟩|b
    ·exact lb0 (h.f j hj (by rw [hq];exact a)) b
    ·have:=h.a;exact Rat.le_of_lt (by have:=Rat.mul_pos (a:=-D.A r j) (b:=-y (D.F j)) (by grind) (by grind);grind)
    ·rw [b];grind) hs (by
    have:=h.a
    have hyq:y (D.F s)<0:=by rw [hq];exact yq
    have:=Rat.mul_pos (a:=-D.A r s) (b:=-y (D.F s)) (by grind) (by grind);grind)
   have h2:0<=y (D.O r):=ypos _ (hP.ob r hr) hrq
   have h3:=h.v
   rcases hc with rfl|rfl
   ·grind
   ·grind
 · -- by its goal
   have h1:i6 (fun j=>D.G j*y (D.F j)) n<0:=b7k (s:=s) (fun j hj=>by
    rcases hF j hj with ⟨a,b⟩|⟨rfl,b⟩|b
    ·have:=h.f j hj (by rw [hq];exact a)
     have:=lb0 (a:=-D.G j) (b:=y (D.F j)) (by grind) b
     grind
    ·have:=h.g
     have:=Rat.mul_pos (a:=D.G j) (b:=-y (D.F j)) (by grind) (by grind)
     grind
    ·rw [b];grind) hs (by
    have:=h.g
    have hyq:y (D.F s)<0:=by rw [hq];exact yq
    have:=Rat.mul_pos (a:=D.G s) (b:=-y (D.F s)) (by grind) (by grind)
    grind)
   have hg:=hG y c hy2
   rcases hobj with ⟨rfl,ho⟩|⟨rfl,ho,hneg⟩
   ·grind
   · -- the basic point of the first dictionary
     have k1:=hG (a1F m n D 1 (fun _=>0)) 1 (a0p hP 1 _)
     rw [p6 (f:=fun j=>D.G j*a1F m n D 1 (fun _=>0) (D.F j)) fun j hj=>by rw [a0O hP hj];grind] at k1
     have k2:=hG' (a1F m n D 1 (fun _=>0)) 1 ((hI _ 1).1 (a0p hP 1 _))
     have k3:i6 (fun j=>D'.G j*a1F m n D 1 (fun _=>0) (D'.F j)) n<=0:=a65 fun j hj=>by
      have hv:∀w,w<n+m->w<q->0<=a1F m n D 1 (fun _=>0) w:=fun w hw hwq=>by
       rcases hP.all w hw with ⟨i,hi,rfl⟩|⟨k,hk,rfl⟩
       ·rw [a58 hP hi,p6 fun j _=>by grind]
        have:=h.v i hi (by rw [hq];exact hwq)
        grind
       ·rw [a0O hP hk];grind
      rcases aw3 (D'.F j) q with hlt|heq|hgt
      ·have a1:=hneg j hj hlt
       have a2:=hv _ (hP'.fb j hj) hlt
       have:=lb0 (a:=-D'.G j) (by grind) a2
       grind
      ·exact absurd (hq'.trans heq.symm) (hP'.of r' j hr' hj)
      ·obtain ⟨k,hk,he⟩:=(hst _ hgt).2 ⟨j,hj,rfl⟩
       rw [← he,a0O hP hk];grind
     grind
end
section
def F3 (m n:Nat) (D:Fd):Option Fd:=match C3 m n D with
 |.next r s=>some (D.exch r s)
 |_=>none
theorem a5L {m n:Nat} {D D':Fd} (h:F3 m n D=some D'):∃r s,C3 m n D=.next r s∧D'=D.exch r s:=by
 unfold F3 at h
 split at h
 ·rename_i r s hs;injection h with h;exact ⟨r,s,hs,h.symm⟩
 ·cases h
theorem ag2 {P:Nat->Nat->Prop}:∀N:Nat,(∀ w,w<N->∃T,∀k,T<=k->¬P k w)->∃T,∀w,w<N->∀k,T<=k->¬P k w
 |0,_=>⟨0,fun w hw=>by omega⟩
 |N+1,h=>by
  obtain ⟨T,hT⟩:=ag2 (P:=P) N fun w hw=>h w (by omega)
  obtain ⟨T',hT'⟩:=h N (by omega)
  refine ⟨max T T',fun w hw k hk=>?_⟩
  by_cases hwn:w=N
  ·subst hwn;exact hT' k (by omega)
  ·exact hT w (by omega) k (by omega)
theorem a72 {p:Nat->Prop}:∀N:Nat,(∃ w,w<N∧p w)->∃q,q<N∧p q∧∀w,q<w->w<N->¬p w
 |0,⟨w,hw,_⟩=>by omega
 |N+1,⟨w,hw,hp⟩=>by
  by_cases h:p N
  ·exact ⟨N,by omega,h,fun w h1 h2=>by omega⟩
  ·have hwN:w≠N:=fun e=>h (e ▸ hp)
   obtain ⟨q,h1,h2,h3⟩:=a72 N ⟨w,by omega,hp⟩
   refine ⟨q,by omega,h2,fun w h4 h5=>?_⟩
   by_cases hw2:w=N
   ·subst hw2;exact h
   ·exact h3 w h4 (by omega)
theorem a2Y (p:Nat->Prop) (h:∃n,p n):∃n,p n∧∀m,p m->n<=m:=by
 obtain ⟨n,hn⟩:=h
 induction n using Nat.strongRecOn with
 |_ n ih=>
  by_cases hex:∃m,m<n∧p m
  ·obtain ⟨m,hm,hp⟩:=hex
   exact ih m hm hp
  ·exact ⟨n,hn,fun m hm=>ax7 fun h=>hex ⟨m,h,hm⟩⟩
theorem b7V {m n:Nat} {f:Nat->Fd} {g0:Nat->Rat} (hP0:a0F m n (f 0)) (hG0:∃z,a04 n (f 0) g0 m z) (hf:∀k,F3 m n (f k)=some (f (k+1))):False:=by
 have hstep:∀k,∃rs:Nat × Nat,rs.1<m∧rs.2<n∧(ap2 m n (f k) rs.1 rs.2∨ar8 m n (f k) rs.1 rs.2)∧f (k+1)=(f k).exch rs.1 rs.2:=fun k=>by
  obtain ⟨r,s,h1,h2⟩:=a5L (hf k)
  obtain ⟨a,b,c⟩:=a4L h1
  exact ⟨(r,s),a,b,c,h2⟩
 obtain ⟨W,hW⟩:=Classical.axiomOfChoice hstep
 have hP:∀k,a0F m n (f k):=fun k=>by
  induction k with
  |zero=>exact hP0
  |succ k ih=>obtain ⟨a,b,_,d⟩:=hW k;rw [d];exact am8 a b ih
 have hI:∀k y c,Ids m n (f 0) y c↔Ids m n (f k) y c:=fun k=>by
  induction k with
  |zero=>exact fun _ _=>Iff.rfl
  |succ k ih=>obtain ⟨a,b,c',d⟩:=hW k;rw [d];exact fun y c=>(ih y c).trans (aa6 a b (a6o c'))
 have hG:∀k,∃z,a04 n (f k) g0 m z:=fun k=>by
  induction k with
  |zero=>exact hG0
  |succ k ih=>obtain ⟨a,b,c',d⟩:=hW k;obtain ⟨z,hz⟩:=ih;rw [d];exact ⟨_,ap0 a b (a6o c') hz⟩
 let E:Nat->Nat:=fun k=>(f k).F (W k).2
 let L:Nat->Nat:=fun k=>(f k).O (W k).1
 have hE:∀k,E k<n+m:=fun k=>(hP k).fb _ (hW k).2.1
 have hL:∀k,L k<n+m:=fun k=>(hP k).ob _ (hW k).1
 have hEL:∀k,L k≠E k:=fun k=>(hP k).of _ _ (hW k).1 (hW k).2.1
 let fre:Nat->Nat->Prop:=fun k w=>∃j,j<n∧(f k).F j=w
 have hfre:∀k w,w≠E k->w≠L k->(fre (k+1) w↔fre k w):=fun k w h1 h2=>by
  obtain ⟨a,b,_,d⟩:=hW k
  show (∃ j,j<n∧(f (k+1)).F j=w)↔∃j,j<n∧(f k).F j=w
  rw [d]
  constructor
  ·rintro ⟨j,hj,he⟩
   rw [a1l] at he
   by_cases hjs:j=(W k).2
   ·rw [if_pos hjs] at he;exact absurd he.symm h2
   ·rw [if_neg hjs] at he;exact ⟨j,hj,he⟩
  ·rintro ⟨j,hj,he⟩
   have hjs:j≠(W k).2:=fun h=>h1 (by rw [← he,h])
   exact ⟨j,hj,by rw [a1l,if_neg hjs];exact he⟩
 have hin:∀k,fre k (E k):=fun k=>⟨_,(hW k).2.1,rfl⟩
 have hout:∀k,¬fre k (L k):=fun k=>by rintro ⟨j,hj,he⟩;exact (hP k).of _ _ (hW k).1 hj he.symm
 have hin2:∀k,fre (k+1) (L k):=fun k=>by
  obtain ⟨a,b,_,d⟩:=hW k
  show ∃j,j<n∧(f (k+1)).F j=L k
  rw [d];exact ⟨_,b,by rw [a1l,if_pos rfl]⟩
 have hout2:∀k,¬fre (k+1) (E k):=fun k=>by
  obtain ⟨a,b,_,d⟩:=hW k
  show ¬∃j,j<n∧(f (k+1)).F j=E k
  rw [d]
  rintro ⟨j,hj,he⟩
  rw [a1l] at he
  by_cases hjs:j=(W k).2
  ·rw [if_pos hjs] at he;exact hEL k he
  ·rw [if_neg hjs] at he;exact hjs ((hP k).fi _ _ hj b he)
 let mv:Nat->Nat->Prop:=fun k w=>E k=w∨L k=w
 obtain ⟨q,hqN,hio,hmax⟩:=a72 (p:=fun w=>∀T,∃k,T<=k∧mv k w) (n+m) (lb9 fun hno=>by
  have h1:∀w,w<n+m->∃T,∀k,T<=k->¬mv k w:=fun w hw=>lb9 fun h=>hno ⟨w,hw,fun T=>lb9 fun h'=>h ⟨T,fun k hk hm=>h' ⟨k,hk,hm⟩⟩⟩
  obtain ⟨T,hT⟩:=ag2 (P:=mv) _ h1
  exact hT _ (hE T) T (lbQ _) (.inl rfl))
 obtain ⟨T,hT⟩:∃T,∀w,q<w->∀k,T<=k->¬mv k w:=by
  obtain ⟨T,hT⟩:=ag2 (P:=fun k w=>q<w∧mv k w) (n+m) fun w hw=>by
   by_cases hqw:q<w
   ·have:=hmax w hqw hw
    obtain ⟨T,hT⟩:=Classical.not_forall.1 this
    exact ⟨T,fun k hk ⟨_,hm⟩=>hT ⟨k,hk,hm⟩⟩
   ·exact ⟨0,fun k _ ⟨h,_⟩=>hqw h⟩
  refine ⟨T,fun w hqw k hk hm=>?_⟩
  have hw:w<n+m:=by rcases hm with hm|hm<;>rw [← hm];exact hE k;exact hL k
  exact hT w hw k hk ⟨hqw,hm⟩
 have hEq:∀k,T<=k->E k<=q:=fun k hk=>ax7 fun h=>hT _ h k hk (.inl rfl)
 have hLq:∀k,T<=k->L k<=q:=fun k hk=>ax7 fun h=>hT _ h k hk (.inr rfl)
 have hconst:∀w,q<w->∀d,fre (T+d) w↔fre T w:=fun w hw d=>by
  induction d with
  |zero=>exact Iff.rfl
  |succ d ih=>
   have h1:=hEq (T+d) (by omega)
   have h2:=hLq (T+d) (by omega)
   exact (hfre (T+d) w (by omega) (by omega)).trans ih
 have hsame:∀w,q<w->∀t u,T<=t->T<=u->(fre t w↔fre u w):=fun w hw t u ht hu=>by
  have h1:=hconst w hw (t - T)
  have h2:=hconst w hw (u - T)
  rw [show T+(t - T)=t by omega] at h1
  rw [show T+(u - T)=u by omega] at h2
  exact h1.trans h2.symm
 -- q enters at some time, and leaves at some time
 have hnext:∀k1,T<=k1->mv k1 q->∃k2,T<=k2∧mv k2 q∧(fre k2 q↔fre (k1+1) q):=fun k1 h1 _=>by
  obtain ⟨k2,⟨h2,h3⟩,hleast⟩:=a2Y (fun k=>k1+1<=k∧mv k q) (hio (k1+1))
  refine ⟨k2,by omega,h3,?_⟩
  have key:∀d,k1+1+d<=k2->(fre (k1+1+d) q↔fre (k1+1) q):=fun d=>by
   induction d with
   |zero=>exact fun _=>Iff.rfl
   |succ d ih=>
    intro hd
    have hnm:¬mv (k1+1+d) q:=fun h=>by have:=hleast (k1+1+d) ⟨by omega,h⟩;omega
    exact (hfre (k1+1+d) q (fun h=>hnm (.inl h.symm)) (fun h=>hnm (.inr h.symm))).trans (ih (by omega))
  have:=key (k2 - (k1+1)) (by omega)
  rwa [show k1+1+(k2 - (k1+1))=k2 by omega] at this
 have hboth:∃t u,T<=t∧T<=u∧E t=q∧L u=q:=by
  obtain ⟨k1,h1,hm1⟩:=hio T
  obtain ⟨k2,h2,hm2,hs⟩:=hnext k1 h1 hm1
  rcases hm1 with hm1|hm1
  ·rcases hm2 with hm2|hm2
   ·have a:=hin k2
    rw [hm2] at a
    have b:=hout2 k1
    rw [hm1] at b
    exact absurd (hs.1 a) b
   ·exact ⟨k1,k2,h1,h2,hm1,hm2⟩
  ·rcases hm2 with hm2|hm2
   ·exact ⟨k2,k1,h2,h1,hm2,hm1⟩
   ·have a:=hout k2
    rw [hm2] at a
    have b:=hin2 k1
    rw [hm1] at b
    exact absurd (hs.2 b) a
 obtain ⟨t,u,ht,hu,het,hlu⟩:=hboth
 obtain ⟨z,hz⟩:=hG t
 obtain ⟨z',hz'⟩:=hG u
 obtain ⟨a1,a2,a3,_⟩:=hW t
 obtain ⟨b1,b2,b3,_⟩:=hW u
 have hl:L t<q:=by have:=hLq t ht;have:=hEL t;omega
 have he:E u<q:=by have:=hEq u hu;have:=hEL u;omega
 exact b3q (hP t) (hP u) (fun y c=>(hI t y c).symm.trans (hI u y c)) hz hz' a1 a2 b1 b2 a3 b3 het hlu hl he (fun w hw=>hsame w hw t u ht hu)
def itS (m n:Nat):Nat->Fd->Option Fd
 |0,D=>some D
 |k+1,D=>match F3 m n D with
  |none=>none
  |some D'=>itS m n k D'
theorem Y6 {m n:Nat}:∀(k:Nat) (D:Fd),itS m n (k+1) D=(itS m n k D).bind (F3 m n)
 |0,D=>by
  show (match F3 m n D with|none=>none|some D'=>some D')=F3 m n D
  cases F3 m n D<;>rfl
 |k+1,D=>by
  show (match F3 m n D with|none=>none|some D'=>itS m n (k+1) D')=(match F3 m n D with|none=>none|some D'=>itS m n k D').bind (F3 m n)
  cases F3 m n D with
  |none=>rfl
  |some D'=>exact Y6 k D'
theorem b7E {m n:Nat} {D:Fd} {g0:Nat->Rat} (hP:a0F m n D) (hG:∃z,a04 n D g0 m z):∃k,itS m n k D=none:=lb9 fun h=>by
 have h1:∀k,∃D',itS m n k D=some D':=fun k=>by
  cases hk:itS m n k D with
  |none=>exact absurd ⟨k,hk⟩ h
  |some D'=>exact ⟨D',rfl⟩
 obtain ⟨f,hf⟩:=Classical.axiomOfChoice h1
 have hf:∀k,itS m n k D=some (f k):=hf
 have h0:f 0=D:=by have:=hf 0;injection this with this;exact this.symm
 refine b7V (f:=f) (g0:=g0) (by rw [h0];exact hP) (by rw [h0];exact hG) fun k=>?_
 have h2:=Y6 (m:=m) (n:=n) k D
 rw [hf k,hf (k+1)] at h2
 exact h2.symm
noncomputable def a8A (m n:Nat) (D:Fd):Nat:=Classical.epsilon fun k=>itS m n k D=none∧∀j,itS m n j D=none->k<=j
theorem aX4 {m n:Nat} {D D':Fd} (h:∃k,itS m n k D=none) (hn:F3 m n D=some D'):a8A m n D'<a8A m n D:=by
 have hD:=aV2 (a2Y _ h)
 have h':∃k,itS m n k D'=none:=by
  obtain ⟨k,hk⟩:=h
  cases k with
  |zero=>cases hk
  |succ k=>
   have hk:(match F3 m n D with|none=>none|some D'=>itS m n k D')=none:=hk
   rw [hn] at hk;exact ⟨k,hk⟩
 have hD':=aV2 (a2Y _ h')
 have e:a8A m n D=Classical.epsilon fun k=>itS m n k D=none∧∀j,itS m n j D=none->k<=j:=rfl
 have e':a8A m n D'=Classical.epsilon fun k=>itS m n k D'=none∧∀j,itS m n j D'=none->k<=j:=rfl
 rw [← e] at hD
 rw [← e'] at hD'
 obtain ⟨a1,a2⟩:=hD
 obtain ⟨b1,b2⟩:=hD'
 generalize a8A m n D=k at a1 a2
 cases k with
 |zero=>cases a1
 |succ k=>
  have a1:(match F3 m n D with|none=>none|some D'=>itS m n k D')=none:=a1
  rw [hn] at a1
  have:=b2 k a1
  omega
end
section
structure EqI where
 co:Nat->Int
 rhs:Int
end
section
theorem b6K (x:Int):bl (-x)=bl x:=by unfold bl;rw [a7u]
end
section
def b25 (m n:Nat) (y:Nat->Rat):Prop:=∀w,w<n+m->0<=y w
theorem aD0 {m n:Nat} {D:Fd} {g0:Nat->Rat} {z:Rat} (hP:a0F m n D) (hG:a04 n D g0 m z) (hv:∀i,i<m->0<=D.V i) (hg:∀j,j<n->D.G j<=0):
 (∃ y,Ids m n D y 1∧b25 m n y∧i6 (fun j=>g0 j*y j) n=z∧y=a1F m n D 1 (fun _=>0))∧∀y,Ids m n D y 1->b25 m n y->i6 (fun j=>g0 j*y j) n<=z:=by
 refine ⟨⟨_,a0p hP 1 (fun _=>0),fun w hw=>?_,?_,rfl⟩,fun y hy hp=>?_⟩
 ·rcases hP.all w hw with ⟨i,hi,rfl⟩|⟨j,hj,rfl⟩
  ·rw [a58 hP hi,p6 fun j hj=>by grind]
   have:=hv i hi;grind
  ·rw [a0O hP hj];grind
 ·rw [hG _ _ (a0p hP 1 (fun _=>0)),p6 fun j hj=>by rw [a0O hP hj];grind];grind
 ·rw [hG _ _ hy]
  have:i6 (fun j=>D.G j*y (D.F j)) n<=0:=a65 fun j hj=>by
   have h1:=hg j hj
   have h2:=hp (D.F j) (hP.fb j hj)
   have:=lb0 (show 0<=-(D.G j) by grind) h2
   grind
  grind
theorem b6l {m n:Nat} {D:Fd} (hP:a0F m n D) {r:Nat} (hr:r<m) (hv:D.V r<0) (ha:∀j,j<n->0<=D.A r j):∀y,Ids m n D y 1->¬b25 m n y:=by
 intro y hy hp
 have h1:=hy r hr
 have h2:=hp (D.O r) (hP.ob r hr)
 have h3:0<=i6 (fun j=>D.A r j*y (D.F j)) n:=a1f fun j hj=>lb0 (ha j hj) (hp _ (hP.fb j hj))
 grind
theorem b6t {m n:Nat} {D:Fd} {g0:Nat->Rat} {z:Rat} (hP:a0F m n D) (hG:a04 n D g0 m z) {s:Nat} (hs:s<n) (hg:0<D.G s) (ha:∀i,i<m->D.A i s<=0):
 ∃y,Ids m n D y 0∧b25 m n y∧0<i6 (fun j=>g0 j*y j) n∧y=a1F m n D 0 (fun j=>if j=s then 1 else 0):=by
 have hsum:∀f:Nat->Rat,i6 (fun j=>f j*(if j=s then (1:Rat) else 0)) n=f s:=fun f=>by
  rw [C6 hs,p6 fun j hj=>by by_cases h:j=s;simp only [h,if_true];simp only [if_neg h];grind]
  simp only [if_true];grind
 refine ⟨_,a0p hP 0 _,fun w hw=>?_,?_,rfl⟩
 ·rcases hP.all w hw with ⟨i,hi,rfl⟩|⟨j,hj,rfl⟩
  ·rw [a58 hP hi,hsum]
   have:=ha i hi;grind
  ·rw [a0O hP hj];split<;>grind
 ·rw [hG _ _ (a0p hP 0 _),d8 (g:=fun j=>D.G j*(if j=s then (1:Rat) else 0)) fun j hj=>by rw [a0O hP hj],hsum]
  grind
end
end Go.Proofs.YtaejgdbahjjncaaGreat
