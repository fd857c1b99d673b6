/- Part 1. -/
import Derived.WalkKit
import Derived.WalkSpells
import Derived.WalkLawsBesides
import Derived.Lib.Hide
import Derived.Laws.OwnMore
import Derived.Deep.AppendLies
import Derived.Deep.Draws
import Derived.Laws.Small
import Derived.Laws.StructEq
import Derived.Great.BuildSlice
import Derived.Laws.MakeOwn
import Derived.Laws.Tables
import Derived.Deep.Upon
import Derived.Orders
import Derived.Deep.DeepMust
import Derived.BigQuiet
import Derived.Deep.Light
import Derived.ProofKit
import Derived.OpenShut
import Derived.Deep.Slices
import Derived.Deep.Fields
import Derived.Test.YtdbogogfeffjlaaGreatChecked
import Derived.Test.YtdbogogfeffjlaaGreatRows
namespace Go.Proofs.YtdbogogfeffjlaaGreat
set_option linter.unusedVariables false
set_option linter.unusedSimpArgs false
section
abbrev lba:=@List.getElem?_map
abbrev lbb:=@List.getElem?_append_left
abbrev lbc:=@List.getElem?_append_right
abbrev lbd:=@List.getElem?_eq_none
abbrev lbe:=@List.getElem?_eq_some_iff
abbrev lbf:=@List.getElem?_eq_getElem
abbrev lbg:=@List.getElem?_set
abbrev lbh:=@List.getElem?_range
abbrev lbi:=@List.getElem?_take
abbrev lbj:=@List.getElem?_drop
abbrev lbk:=@List.getElem?_replicate
abbrev lbl:=@List.getD_eq_getElem?_getD
abbrev lbm:=@List.mem_of_getElem?
abbrev lbn:=@List.take_of_length_le
abbrev lbo:=@List.drop_of_length_le
abbrev lbp:=@List.map_congr_left
abbrev lbq:=@List.length_append
abbrev lbr:=@List.length_map
abbrev lbs:=@List.length_take
abbrev lbt:=@List.length_filter_le
abbrev lbu:=@List.length_cons
abbrev lbv:=@List.all_eq_true
abbrev lbw:=@List.any_eq_true
abbrev lbx:=@List.mem_map
abbrev lby:=@List.mem_filter
abbrev lbz:=@List.mem_append
abbrev lbA:=@List.mem_cons
abbrev lbB:=@List.mem_range
abbrev lbC:=@List.map_append
abbrev lbD:=@List.append_assoc
abbrev lbE:=@List.getElem_mem
abbrev lbF:=@List.eq_nil_of_length_eq_zero
abbrev lbG:=@List.take_add_one
abbrev lbH:=@decide_eq_true
abbrev lbI:=@decide_eq_true_eq
abbrev lbJ:=@decide_eq_false
abbrev lbK:=@decide_eq_false_iff_not
abbrev lbL:=@of_decide_eq_true
abbrev lbM:=@of_decide_eq_false
abbrev lbN:=@Bool.and_eq_true
abbrev lbO:=@Bool.or_eq_true
abbrev lbP:=@Bool.and_eq_false_iff
abbrev lbQ:=@Bool.not_eq_true
abbrev lbR:=@Nat.le_refl
abbrev lbS:=@Nat.le_trans
abbrev lbT:=@Nat.mul_le_mul
abbrev lbU:=@Nat.mul_le_mul_right
abbrev lbV:=@Nat.succ_mul
abbrev lbW:=@Int.mul_le_mul_of_nonneg_left
abbrev lbX:=@Int.mul_le_mul_of_nonneg_right
abbrev lbY:=@Int.toNat_natCast
abbrev lbZ:=@Int.toNat_of_nonneg
abbrev lb0:=@Int.mul_nonneg
abbrev lb1:=@Rat.mul_nonneg
abbrev lb2:=@Rat.mul_pos
abbrev lb3:=@Rat.le_refl
abbrev lb4:=@Rat.not_lt
abbrev lb5:=@Option.some.injEq
abbrev lb6:=@Array.getElem?_eq_some_iff
abbrev lb7:=@List.take_append_drop
abbrev lb8:=@List.filter_append
abbrev lb9:=@List.pairwise_append
abbrev as7:=@Classical.byContradiction
abbrev ai7:=@Decidable.not_not
end
section
open Go.RowKit
structure G5 where
 kind:Int
 hh:Int
 mat:Int
structure n9 where
 day:Int
 src:Int
 dst:Int
 scale:Int
 reading:Int
 all:Bool
structure J2 where
 scale:Int
 since:Int
 till:Int
 grams:Int
 permille:Int
 drift:Int
structure C2 where
 scale:Int
 since:Int
structure a1f where
 move:Int
 mat:Int
 least:Int
 most:Int
structure Ev where
 mats:Int
 hhs:Int
 scs:Int
 places:List G5
 moves:List n9
 certs:List J2
 recalls:List C2
 purities:List a1f
section
variable {α:Type} {k:Nat} {f:α->List Value} {w w':World} {A:Option Addr} {n:Nat} {xs:List α}
end
section
variable {w w':World} {m h s:Int} {A1 A2 A3 A4 A5:Option Addr} {n1 n2 n3 n4 n5:Nat} {e:Ev}
end
end
section
def idx (a b:Int):Bool:=decide (0<=a) && decide (a<b)
def btw (n lo hi:Int):Bool:=decide (lo<=n) && decide (n<=hi)
theorem b1B (a b:Int):btw a 0 (b - 1)=idx a b:=by
 unfold btw idx
 have:decide (a<=b - 1)=decide (a<b):=by simp;omega
 rw [this]
theorem aA8 {a b:Int}:idx a b=true↔0<=a∧a<b:=by simp [idx]
theorem W6 {a b c:Int}:btw a b c=true↔b<=a∧a<=c:=by simp [btw]
def a1M (e:Ev):Bool:=
 decide (6<e.mats) || decide (100<e.hhs) || decide (30<e.scs) || decide (100<e.places.length) || decide (200<e.moves.length) ||
  decide (100<e.certs.length) || decide (30<e.recalls.length) || decide (200<e.purities.length)
def T9 (e:Ev) (p:G5):Bool:=
 idx p.kind 7 && (if p.kind=0 then idx p.hh e.hhs && idx p.mat e.mats else decide (p.hh=-1) && decide (p.mat=-1))
def j9 (e:Ev) (i:Int):Int:=((e.places[i.toNat]?).map (·.kind)).getD (-1)
def D5 (e:Ev) (m:n9):Bool:=
 idx m.src e.places.length && idx m.dst e.places.length && decide (m.src≠m.dst) && decide (j9 e m.src≠5) && decide (j9 e m.src≠6) &&
  !(decide (j9 e m.src=0) && m.all) && decide (j9 e m.dst≠0) && (if m.scale=-1 then decide (m.reading=0) else idx m.scale e.scs && btw m.reading 0 1099511627776)
def a43 (e:Ev) (c:J2):Bool:=
 decide (0<=c.since) && decide (c.since<=c.till) && decide (c.till<=100000) && idx c.scale e.scs && btw c.grams 0 1099511627776 && btw c.permille 0 1000 && btw c.drift 0 10000000
def a0b (e:Ev) (r:C2):Bool:=idx r.scale e.scs && btw r.since 0 100000
def a06 (e:Ev) (p:a1f):Bool:=
 idx p.move e.moves.length && idx p.mat e.mats && decide (0<=p.least) && decide (p.least<=p.most) && decide (p.most<=1000)
def X6 (e:Ev):Bool:=e.certs.all (a43 e) && e.recalls.all (a0b e) && e.purities.all (a06 e)
def w8 (e:Ev):Int->List n9->Int
 |_,[]=>0
 |last,m::r=>if m.day<last∨100000<m.day then 17 else if D5 e m then w8 e m.day r else 1
def y8 (e:Ev):Int:=
 if a1M e then 6 else if e.mats<1∨e.hhs<0∨e.scs<0∨e.places.all (T9 e)=false then 1
 else if w8 e 0 e.moves≠0 then w8 e 0 e.moves else if X6 e then 0 else 1
theorem a8J {e:Ev} {i:Nat} {p:G5} (h:e.places[i]? =some p):j9 e (i:Int)=p.kind:=by
 simp [j9,h]
theorem ap0 {e:Ev} {l:List n9}:∀{last:Int},w8 e last l=0->∀m ∈ l,D5 e m=true:=by
 induction l with
 |nil=>intro last _ m hm;cases hm
 |cons m r ih=>
  intro last h x hx
  unfold w8 at h
  split at h
  ·simp at h
  ·split at h
   ·rename_i hmk
    rcases lbA.1 hx with rfl|hx
    ·exact hmk
    ·exact ih h x hx
   ·simp at h
theorem a6K {e:Ev} (h:y8 e=0):a1M e=false∧1<=e.mats∧0<=e.hhs∧0<=e.scs∧e.places.all (T9 e)=true∧w8 e 0 e.moves=0∧X6 e=true:=by
 unfold y8 at h
 by_cases h1:a1M e=true
 ·rw [if_pos h1] at h;simp at h
 rw [if_neg h1] at h
 by_cases h2:e.mats<1∨e.hhs<0∨e.scs<0∨e.places.all (T9 e)=false
 ·rw [if_pos h2] at h;simp at h
 rw [if_neg h2] at h
 by_cases h3:w8 e 0 e.moves≠0
 ·rw [if_pos h3] at h;exact absurd h h3
 rw [if_neg h3] at h
 by_cases h4:X6 e=true
 ·refine ⟨by simpa using h1,by omega,by omega,by omega,?_,by simpa using h3,h4⟩
  rw [← Bool.not_eq_false]
  exact fun hq=>h2 (.inr (.inr (.inr hq)))
 ·rw [if_neg h4] at h;simp at h
theorem p8 {e:Ev} (h:y8 e=0) {m:n9} (hm:m ∈ e.moves):D5 e m=true:=ap0 (a6K h).2.2.2.2.2.1 m hm
theorem B6 {e:Ev} {m:n9} (h:D5 e m=true):0<=m.src∧m.src<e.places.length:=by
 simp [D5] at h
 exact aA8.1 h.1.1.1.1.1.1.1
theorem H9 {e:Ev} {m:n9} (h:D5 e m=true):0<=m.dst∧m.dst<e.places.length:=by
 simp [D5] at h
 exact aA8.1 h.1.1.1.1.1.1.2
def m8 {α:Type} (p:Nat->α->Bool):Nat->List α->List Int
 |_,[]=>[]
 |k,m::r=>if p k m then (k:Int)::m8 p (k+1) r else m8 p (k+1) r
def z7 {α:Type} (p:Nat->α->Bool) (l:List α) (k:Nat):List Int:=m8 p 0 (l.take k)
theorem a4n {α:Type} (p:Nat->α->Bool) (a b:List α):∀k,m8 p k (a++b)=m8 p k a++m8 p (k+a.length) b:=by
 induction a with
 |nil=>intro k;simp [m8]
 |cons m r ih=>
  intro k
  simp only [List.cons_append,m8,ih,lbu]
  rw [show k+1+r.length=k+(r.length+1) from by omega]
  split<;>simp
theorem a9a {α:Type} (p:Nat->α->Bool) {l:List α} {k:Nat} {x:α} (h:l[k]? =some x):z7 p l (k+1)=z7 p l k++(if p k x then [(k:Int)] else []):=by
 obtain ⟨hk,hx⟩:=lbe.1 h
 unfold z7
 rw [List.take_succ_eq_append_getElem hk,a4n,hx]
 have:(l.take k).length=k:=by simp;omega
 rw [this]
 simp only [m8,Nat.zero_add]
theorem a1G {α:Type} (p:Nat->α->Bool) {l:List α} {k:Nat} {x:α} (h:l[k]? =some x) (hp:p k x=true):z7 p l (k+1)=z7 p l k++[(k:Int)]:=by
 rw [a9a p h,if_pos hp]
theorem Y2 {α:Type} (p:Nat->α->Bool) {l:List α} {k:Nat} {x:α} (h:l[k]? =some x) (hp:p k x=false):z7 p l (k+1)=z7 p l k:=by
 rw [a9a p h,if_neg (by simp [hp])];simp
theorem a6z {α:Type} (p:Nat->α->Bool) {l:List α} {k:Nat} (h:l.length<=k):z7 p l k=m8 p 0 l:=by
 unfold z7;rw [lbn h]
theorem P7 {α:Type} (p:Nat->α->Bool) (l:List α):∀k,(m8 p k l).length<=l.length:=by
 induction l with
 |nil=>intro k;simp [m8]
 |cons m r ih=>
  intro k
  have:=ih (k+1)
  simp only [m8]
  split<;>simp<;>omega
theorem a2S {α:Type} (p:Nat->α->Bool) (l:List α) (k:Nat):(z7 p l k).length<=k:=by
 have:=P7 p (l.take k) 0
 have h2:(l.take k).length<=k:=List.length_take_le _ _
 unfold z7
 omega
end
section
def val:List Int->Int
 |[]=>0
 |d::r=>d+1048576*val r
def Okd (l:List Int):Prop:=∀d ∈ l,0<=d∧d<1048576
def dgF:Nat->Nat->List Int
 |0,_=>[]
 |f+1,n=>if n=0 then [] else ((n % 1048576:Nat):Int)::dgF f (n / 1048576)
def dg (n:Nat):List Int:=dgF n n
def pw (i:Nat):Int:=1048576 ^ i
theorem b7r:pw 0=1:=rfl
theorem F3 (i:Nat):pw (i+1)=pw i*1048576:=Int.pow_succ ..
theorem R0 (i:Nat):0<pw i:=Int.pow_pos (by decide)
theorem a8r (i j:Nat):pw (i+j)=pw i*pw j:=Int.pow_add ..
theorem a1r {i j:Nat} (h:i<=j):pw i<=pw j:=by
 obtain ⟨k,rfl⟩:=Nat.exists_eq_add_of_le h
 rw [a8r]
 have h1:=R0 i
 have h2:=R0 k
 have:=lbW (a:=1) (b:=pw k) (c:=pw i) (by omega) (by omega)
 omega
theorem Okd.nil:Okd []:=fun _ h=>nomatch h
theorem Okd.cons {d:Int} {l:List Int} (h1:0<=d∧d<1048576) (h2:Okd l):Okd (d::l):=by
 intro x hx
 rcases lbA.1 hx with rfl|hx
 ·exact h1
 ·exact h2 x hx
theorem Okd.head {d:Int} {l:List Int} (h:Okd (d::l)):0<=d∧d<1048576:=h d (by simp)
theorem Okd.tail {d:Int} {l:List Int} (h:Okd (d::l)):Okd l:=fun x hx=>h x (by simp [hx])
theorem Okd.take {l:List Int} (h:Okd l) (n:Nat):Okd (l.take n):=fun x hx=>h x (List.mem_of_mem_take hx)
theorem Okd.drop {l:List Int} (h:Okd l) (n:Nat):Okd (l.drop n):=fun x hx=>h x (List.mem_of_mem_drop hx)
theorem Okd.append {a b:List Int} (h:Okd a) (h2:Okd b):Okd (a++b):=fun x hx=>by
 rcases lbz.1 hx with hx|hx
 ·exact h x hx
 ·exact h2 x hx
theorem Okd.set {l:List Int} (h:Okd l) {i:Nat} {x:Int} (hx:0<=x∧x<1048576):Okd (l.set i x):=fun y hy=>by
 rcases List.mem_or_eq_of_mem_set hy with hy|rfl
 ·exact h y hy
 ·exact hx
theorem Okd.zeros (n:Nat):Okd (List.replicate n 0):=fun x hx=>by rw [List.eq_of_mem_replicate hx];decide
theorem v4 {l:List Int} (h:Okd l):0<=val l:=by
 induction l with
 |nil=>simp [val]
 |cons d l ih=>have:=ih h.tail;have:=h.head;simp only [val];omega
theorem X4 {l:List Int} (h:Okd l):val l<pw l.length:=by
 induction l with
 |nil=>simp [val,pw]
 |cons d l ih=>
  have:=ih h.tail;have:=h.head
  simp only [val,lbu,F3];omega
theorem L7 (a b:List Int):val (a++b)=val a+pw a.length*val b:=by
 induction a with
 |nil=>simp [val,pw]
 |cons d a ih=>simp only [List.cons_append,val,ih,lbu,F3];grind
theorem a8N (n:Nat):val (List.replicate n 0)=0:=by
 induction n with
 |zero=>rfl
 |succ n ih=>simp [List.replicate_succ,val,ih]
theorem a5X (l:List Int) (i:Nat) (h:i<=l.length):val l=val (l.take i)+pw i*val (l.drop i):=by
 have:=L7 (l.take i) (l.drop i)
 rw [lb7] at this
 rw [this]
 rw [lbs,Nat.min_eq_left h]
theorem a65 {l:List Int} {i:Nat} {x:Int} (h:l[i]? =some x):val (l.take (i+1))=val (l.take i)+pw i*x:=by
 have hi:i<l.length:=by
  rcases Nat.lt_or_ge i l.length with h1|h1
  ·exact h1
  ·rw [lbd h1] at h;cases h
 rw [lbG,h,L7,lbs,Nat.min_eq_left (by omega)]
 simp [val]
theorem a4M {l:List Int} {i:Nat} {x:Int} (h:l[i]? =some x):val (l.drop i)=x+1048576*val (l.drop (i+1)):=by
 have hi:i<l.length:=by
  rcases Nat.lt_or_ge i l.length with h1|h1
  ·exact h1
  ·rw [lbd h1] at h;cases h
 rw [List.drop_eq_getElem_cons hi]
 rw [lbf hi] at h
 injection h with h
 rw [h];rfl
theorem b7Q {l:List Int} {i:Nat} {x y:Int} (h:l[i]? =some y):val (l.set i x)=val l+pw i*(x - y):=by
 induction l generalizing i with
 |nil=>simp at h
 |cons d l ih=>
  cases i with
  |zero=>
   simp only [List.getElem?_cons_zero,lb5] at h
   subst h
   simp [val,pw];omega
  |succ i=>
   simp only [List.getElem?_cons_succ] at h
   simp only [List.set_cons_succ,val,ih h,F3];grind
theorem b6p (f n:Nat) (h:n<=f):dgF f n=dg n:=by
 unfold dg
 induction f using Nat.strongRecOn generalizing n with
 |ind f ih=>
  cases f with
  |zero=>cases Nat.le_zero.1 h;rfl
  |succ f=>
   cases n with
   |zero=>rfl
   |succ n=>
    simp only [dgF,Nat.succ_ne_zero,if_false]
    rw [ih f (by omega) _ (by omega),ih n (by omega) _ (by omega)]
theorem W4:dg 0=[]:=rfl
theorem a6n {n:Nat} (h:0<n):dg n=((n % 1048576:Nat):Int)::dg (n / 1048576):=by
 obtain ⟨m,rfl⟩:∃m,n=m+1:=⟨n - 1,by omega⟩
 show dgF (m+1) (m+1)=_
 simp only [dgF,Nat.succ_ne_zero,if_false]
 rw [b6p _ _ (by omega)]
theorem aZ2 {P:Nat->Prop} (h0:P 0) (h:∀n,0<n->P (n / 1048576)->P n) (n:Nat):P n:=by
 induction n using Nat.strongRecOn with
 |ind n ih=>
  rcases Nat.eq_zero_or_pos n with rfl|hn
  ·exact h0
  ·exact h n hn (ih _ (by omega))
theorem o9 (n:Nat):val (dg n)=n:=by
 induction n using aZ2 with
 |h0=>rfl
 |h n hn ih=>rw [a6n hn,val,ih];omega
theorem t5 (n:Nat):Okd (dg n):=by
 induction n using aZ2 with
 |h0=>exact .nil
 |h n hn ih=>rw [a6n hn];exact .cons (by omega) ih
theorem Q5 {n:Nat}:dg n=[]↔n=0:=by
 constructor
 ·intro h
  have:=o9 n
  rw [h] at this
  simp only [val] at this;omega
 ·rintro rfl;rfl
def G0:List Int->List Int
 |[]=>[]
 |d::r=>if G0 r=[]∧d=0 then [] else d::G0 r
theorem K5 {l:List Int} (h:Okd l):G0 l=dg (val l).toNat:=by
 induction l with
 |nil=>rfl
 |cons d l ih=>
  have h0:=v4 h.tail
  have h1:=h.head
  have hv:(val (d::l)).toNat=d.toNat+1048576*(val l).toNat:=by simp only [val];omega
  rw [G0,ih h.tail,hv]
  split
  ·rename_i hc
   have:=Q5.1 hc.1
   rw [this,hc.2];rfl
  ·rename_i hc
   rw [a6n (n:=d.toNat+1048576*(val l).toNat)]
   ·congr 1
    ·omega
    ·congr 1;omega
   ·rcases Nat.eq_zero_or_pos (val l).toNat with h2|h2
    ·have:d≠0:=fun h3=>hc ⟨by rw [h2];rfl,h3⟩
     omega
    ·omega
theorem a3v {l:List Int} {n:Nat} (h1:∀j x,n<=j->l[j]? =some x->x=0) (h2:∀x,0<n->l[n-1]? =some x->x≠0) (hn:n<=l.length):l.take n=G0 l:=by
 induction l generalizing n with
 |nil=>simp [G0]
 |cons d l ih=>
  cases n with
  |zero=>
   have ht:G0 l=[]:=by
    rw [← ih (n:=0) (fun j x _ hx=>h1 (j+1) x (by omega) (by simpa using hx)) (fun x h=>absurd h (by omega)) (by omega)];rfl
   have hd:d=0:=h1 0 d (by omega) (by simp)
   simp [G0,ht,hd]
  |succ n=>
   have ht:G0 l=l.take n:=by
    refine (ih (n:=n) (fun j x hj hx=>h1 (j+1) x (by omega) (by simpa using hx)) (fun x h hx=>h2 x (by omega) ?_) (by simpa using hn)).symm
    obtain ⟨m,rfl⟩:∃m,n=m+1:=⟨n - 1,by omega⟩
    simpa using hx
   rw [G0,ht,List.take_succ_cons,if_neg]
   rintro ⟨h3,h4⟩
   have hn0:n=0:=by
    rcases Nat.eq_zero_or_pos n with h5|h5
    ·exact h5
    ·have:=congrArg List.length h3
     simp only [lbs,List.length_nil,lbu] at this hn
     omega
   subst hn0
   exact h2 d (by omega) (by simp) h4
theorem N3 {n k:Nat} (h:(n:Int)<pw k):(dg n).length<=k:=by
 induction k generalizing n with
 |zero=>have:n=0:=by simp [pw] at h;omega
        subst this;simp [W4]
 |succ k ih=>
  rcases Nat.eq_zero_or_pos n with rfl|hn
  ·simp [W4]
  ·rw [a6n hn]
   rw [F3] at h
   have:=ih (n:=n / 1048576) (by omega)
   simp;omega
theorem aB4 {n:Nat} (h:0<n):pw ((dg n).length - 1)<=n:=by
 induction n using aZ2 with
 |h0=>omega
 |h n hn ih=>
  rw [a6n hn]
  rcases Nat.eq_zero_or_pos (n / 1048576) with h1|h1
  ·rw [h1,W4]
   simp [pw];omega
  ·have h2:=ih h1
   have:(dg (n / 1048576)).length≠0:=by rw [Ne,List.length_eq_zero_iff,Q5];omega
   obtain ⟨m,hm⟩:∃m,(dg (n / 1048576)).length=m+1:=⟨(dg (n / 1048576)).length - 1,by omega⟩
   rw [hm] at h2
   rw [lbu,hm]
   simp only [Nat.add_sub_cancel] at h2 ⊢
   rw [F3];omega
theorem O3 (n:Nat):(n:Int)<pw (dg n).length:=by
 have:=X4 (t5 n);rw [o9] at this;exact this
theorem p7 {m n:Nat} (h:m<=n):(dg m).length<=(dg n).length:=N3 (by have:=O3 n;omega)
theorem aD3 {m n:Nat} (h:(dg m).length<(dg n).length):m<n:=by
 rcases Nat.lt_or_ge m n with h1|h1
 ·exact h1
 ·have:=p7 h1;omega
def Can (l:List Int):Prop:=Okd l∧∀x,l[l.length - 1]? =some x->x≠0
theorem aY1 {l:List Int} (h:Can l):l=dg (val l).toNat:=by
 rw [← K5 h.1]
 have:=a3v (l:=l) (n:=l.length) (fun j x hj hx=>by rw [lbd hj] at hx;cases hx) (fun x _ hx=>h.2 x hx) (lbR _)
 rw [List.take_length] at this
 exact this
theorem a26 (n:Nat):Can (dg n):=by
 refine ⟨t5 n,fun x hx h0=>?_⟩
 subst h0
 have hl:0<(dg n).length:=by
  rcases Nat.eq_zero_or_pos (dg n).length with h|h
  ·rw [List.length_eq_zero_iff.1 h] at hx;simp at hx
  ·exact h
 have hp:0<n:=by
  rcases Nat.eq_zero_or_pos n with rfl|h
  ·simp [W4] at hl
  ·exact h
 have h1:=aB4 hp
 have h2:=a65 hx
 rw [show (dg n).length - 1+1=(dg n).length by omega,List.take_length,o9] at h2
 have h3:=X4 ((t5 n).take ((dg n).length - 1))
 rw [lbs,Nat.min_eq_left (by omega)] at h3
 omega
theorem a98 {a b:List Int} (ha:Okd a) (hb:Okd b) (hl:a.length=b.length) {i:Nat} {x y:Int} (hx:a[i]? =some x) (hy:b[i]? =some y)
 (hd:a.drop (i+1)=b.drop (i+1)) (h:x<y):val a<val b:=by
 have hi:i<a.length:=by
  rcases Nat.lt_or_ge i a.length with h1|h1
  ·exact h1
  ·rw [lbd h1] at hx;cases hx
 have e1:=a5X a i (by omega)
 have e2:=a5X b i (by omega)
 rw [a4M hx] at e1
 rw [a4M hy] at e2
 rw [hd] at e1
 have h1:=X4 (ha.take i)
 rw [lbs,Nat.min_eq_left (by omega)] at h1
 have h2:=v4 (hb.take i)
 have h3:=R0 i
 have h4:pw i*(x+1048576*val (b.drop (i+1)))+pw i<=pw i*(y+1048576*val (b.drop (i+1))):=by
  have:=lbW (a:=x+1048576*val (b.drop (i+1))+1) (b:=y+1048576*val (b.drop (i+1))) (c:=pw i) (by omega) (by omega)
  rw [Int.mul_add (pw i) _ 1] at this
  omega
 omega
def dat (l:List Int) (i:Nat):Int:=l.getD i 0
theorem a34 {l:List Int} {i:Nat} {x:Int} (h:l[i]? =some x):dat l i=x:=by unfold dat;rw [lbl,h];rfl
theorem Q1 {l:List Int} {i:Nat} (h:l.length<=i):dat l i=0:=by unfold dat;rw [lbl,lbd h];rfl
theorem Okd.dat {l:List Int} (h:Okd l) (i:Nat):0<=dat l i∧dat l i<1048576:=by
 rcases Nat.lt_or_ge i l.length with h1|h1
 ·rw [a34 (lbf h1)]
  exact h _ (lbE h1)
 ·rw [Q1 h1];decide
theorem s8 (l:List Int) (i:Nat):val (l.take (i+1))=val (l.take i)+pw i*dat l i:=by
 rcases Nat.lt_or_ge i l.length with h1|h1
 ·rw [a34 (lbf h1)]
  exact a65 (lbf h1)
 ·rw [Q1 h1,lbn (by omega),lbn (by omega)];simp
theorem a5E (n:Int):0<=n % 1048576∧n % 1048576<1048576:=by omega
structure a7X (a b:List Int) (i:Nat) (out:List Int) (c:Int):Prop where
 len:out.length=a.length+1
 ok:Okd out
 le:i<=a.length
 zero:∀j,i<=j->dat out j=0
 c0:0<=c
 c1:c<=1
 eq:val out+pw i*c=val (a.take i)+val (b.take i)
theorem a7X.init (a b:List Int):a7X a b 0 (List.replicate (a.length+1) 0) 0:=
 ⟨by simp,.zeros _,Nat.zero_le _,fun j _=>by unfold dat;rw [lbl,lbk];split<;>rfl,by decide,by decide,by rw [a8N];simp [val]⟩
theorem a5G {l:List Int} {i j:Nat} {x:Int} (h:i≠j):dat (l.set i x) j=dat l j:=by
 unfold dat;rw [lbl,lbl,List.getElem?_set_ne h]
theorem a1U {l:List Int} {i:Nat} {x:Int} (hi:i<l.length):val (l.set i x)=val l+pw i*(x - dat l i):=by
 rw [a34 (lbf hi)];exact b7Q (lbf hi)
theorem a7X.step {a b out:List Int} {i:Nat} {c:Int} (h:a7X a b i out c) (ha:Okd a) (hb:Okd b) (hi:i<a.length):
 a7X a b (i+1) (out.set i ((c+dat a i+dat b i) % 1048576)) ((c+dat a i+dat b i) / 1048576):=by
 have h1:=ha.dat i
 have h2:=hb.dat i
 have h3:=h.c0
 have h4:=h.c1
 have hl:=h.len
 refine ⟨by simp [hl],h.ok.set (a5E _),hi,fun j hj=>?_,by omega,by omega,?_⟩
 ·rw [a5G (by omega)];exact h.zero j (by omega)
 ·rw [a1U (by omega),h.zero i (lbR _),s8,s8,F3]
  have h5:=h.eq
  have h6:(c+dat a i+dat b i) % 1048576=c+dat a i+dat b i - 1048576*((c+dat a i+dat b i) / 1048576):=by omega
  rw [h6]
  grind
theorem a7X.fin {a b out:List Int} {c:Int} (h:a7X a b a.length out c) (hl:b.length<=a.length):G0 (out.set a.length c)=dg (val a+val b).toNat:=by
 have h1:=h.c0
 have h2:=h.c1
 have h3:=h.eq
 have hl:=h.len
 rw [K5 (h.ok.set (by omega)),a1U (by omega),h.zero _ (lbR _)]
 rw [List.take_length,lbn (by omega)] at h3
 congr 2
 grind
structure ao1 (a b:List Int) (i:Nat) (out:List Int) (c:Int):Prop where
 len:out.length=a.length
 ok:Okd out
 le:i<=a.length
 rest:∀j,i<=j->dat out j=dat a j
 c0:0<=c
 c1:c<=1
 eq:val out - pw i*c=val a - val (b.take i)
theorem ao1.init {a b:List Int} (ha:Okd a):ao1 a b 0 a 0:=⟨rfl,ha,Nat.zero_le _,fun _ _=>rfl,by decide,by decide,by simp [val]⟩
theorem ao1.step {a b out:List Int} {i:Nat} {c:Int} (h:ao1 a b i out c) (ha:Okd a) (hb:Okd b) (hi:i<a.length):
 ao1 a b (i+1) (out.set i ((dat out i - c - dat b i) % 1048576)) ((dat out i - c - dat b i) / 1048576 % 2):=by
 have h1:=h.ok.dat i
 have h2:=hb.dat i
 have h3:=h.c0
 have h4:=h.c1
 have hl:=h.len
 refine ⟨by simp [hl],h.ok.set (a5E _),hi,fun j hj=>?_,by omega,by omega,?_⟩
 ·rw [a5G (by omega)];exact h.rest j (by omega)
 ·rw [a1U (by omega),s8,F3]
  have h5:=h.eq
  have h6:(dat out i - c - dat b i) % 1048576=dat out i - c - dat b i+1048576*((dat out i - c - dat b i) / 1048576 % 2):=by omega
  rw [h6]
  grind
theorem ao1.fin {a b out:List Int} {c:Int} (h:ao1 a b a.length out c) (hl:b.length<=a.length) (hv:val b<=val a):G0 out=dg (val a - val b).toNat:=by
 have h1:=h.c0
 have h2:=h.c1
 have h3:=h.eq
 have hlen:=h.len
 rw [lbn (by omega)] at h3
 have h4:=X4 h.ok
 rw [hlen] at h4
 rw [K5 h.ok]
 rcases Int.lt_or_le 0 c with h5|h5
 ·have:c=1:=by omega
  subst this;omega
 ·have:c=0:=by omega
  subst this
  congr 2;omega
structure ag8 (a b:List Int) (i k:Nat) (out:List Int) (c:Int):Prop where
 len:out.length=a.length+b.length
 ok:Okd out
 le:k<=b.length
 zero:∀j,i+b.length<=j->dat out j=0
 c0:0<=c
 c1:c<1048576
 eq:val out+pw (i+k)*c=val (a.take i)*val b+pw i*dat a i*val (b.take k)
structure a4y (a b:List Int) (i:Nat) (out:List Int):Prop where
 len:out.length=a.length+b.length
 ok:Okd out
 le:i<=a.length
 zero:∀j,i+b.length<=j->dat out j=0
 eq:val out=val (a.take i)*val b
theorem a4y.init (a b:List Int):a4y a b 0 (List.replicate (a.length+b.length) 0):=
 ⟨by simp,.zeros _,Nat.zero_le _,fun j _=>by unfold dat;rw [lbl,lbk];split<;>rfl,by rw [a8N];simp [val]⟩
theorem a4y.start {a b out:List Int} {i:Nat} (h:a4y a b i out):ag8 a b i 0 out 0:=
 ⟨h.len,h.ok,Nat.zero_le _,h.zero,by decide,by decide,by rw [h.eq];simp [val]⟩
theorem a3N {x y:Int} (hx:0<=x∧x<1048576) (hy:0<=y∧y<1048576):0<=x*y∧x*y<=1048575*1048575:=
 ⟨lb0 hx.1 hy.1,Int.mul_le_mul (by omega) (by omega) hy.1 (by decide)⟩
theorem ag8.step {a b out:List Int} {i k:Nat} {c:Int} (h:ag8 a b i k out c) (ha:Okd a) (hb:Okd b) (hi:i<a.length) (hk:k<b.length):
 ag8 a b i (k+1) (out.set (i+k) ((dat out (i+k)+dat a i*dat b k+c) % 1048576)) ((dat out (i+k)+dat a i*dat b k+c) / 1048576):=by
 have h1:=h.ok.dat (i+k)
 have h2:=a3N (ha.dat i) (hb.dat k)
 have h3:=h.c0
 have h4:=h.c1
 have hl:=h.len
 refine ⟨by simp [hl],h.ok.set (a5E _),hk,fun j hj=>?_,by omega,by omega,?_⟩
 ·rw [a5G (by omega)];exact h.zero j (by omega)
 ·rw [a1U (by omega),s8,show i+(k+1)=i+k+1 by omega,F3]
  have h5:=h.eq
  have h6:(dat out (i+k)+dat a i*dat b k+c) % 1048576=dat out (i+k)+dat a i*dat b k+c - 1048576*((dat out (i+k)+dat a i*dat b k+c) / 1048576):=by omega
  rw [h6]
  have h7:=a8r i k
  grind
theorem ag8.done {a b out:List Int} {i:Nat} {c:Int} (h:ag8 a b i b.length out c) (ha:Okd a) (hb:Okd b) (hi:i<a.length):
 a4y a b (i+1) (out.set (i+b.length) (dat out (i+b.length)+c)):=by
 have h3:=h.c0
 have h4:=h.c1
 have hl:=h.len
 have h8:=h.zero _ (lbR _)
 refine ⟨by simp [hl],h.ok.set (by omega),hi,fun j hj=>?_,?_⟩
 ·rw [a5G (by omega)];exact h.zero j (by omega)
 ·rw [a1U (by omega),s8]
  have h5:=h.eq
  rw [List.take_length] at h5
  grind
theorem a4y.fin {a b out:List Int} (h:a4y a b a.length out):G0 out=dg (val a*val b).toNat:=by
 rw [K5 h.ok,h.eq,List.take_length]
structure a0D (a:List Int) (d:Int) (j:Nat) (out:List Int) (r:Int):Prop where
 len:out.length=a.length
 ok:Okd out
 le:j<=a.length
 r0:0<=r
 r1:r<d
 eq:val (a.drop j)=d*val (out.drop j)+r
theorem a0D.init (a:List Int) {d:Int} (hd:0<d):a0D a d a.length (List.replicate a.length 0) 0:=
 ⟨by simp,.zeros _,lbR _,by decide,hd,by simp [val]⟩
theorem a6T {l:List Int} {i:Nat} (h:i<l.length):val (l.drop i)=dat l i+1048576*val (l.drop (i+1)):=by
 rw [a34 (lbf h)];exact a4M (lbf h)
theorem a7R {l:List Int} {i:Nat} {x:Int} (h:i<l.length):dat (l.set i x) i=x:=by
 unfold dat;rw [lbl,List.getElem?_set_self h];rfl
theorem a0D.step {a out:List Int} {d r:Int} {j:Nat} (h:a0D a d (j+1) out r) (ha:Okd a) (hd:0<d):
 a0D a d j (out.set j ((r*1048576+dat a j) / d)) ((r*1048576+dat a j) % d):=by
 have h1:=ha.dat j
 have h3:=h.r0
 have h4:=h.r1
 have hl:=h.len
 have hle:=h.le
 have h6:0<=(r*1048576+dat a j) / d:=Int.ediv_nonneg (by omega) (by omega)
 have h7:(r*1048576+dat a j) / d<1048576:=by
  apply Int.ediv_lt_of_lt_mul hd
  have:=lbW (a:=r+1) (b:=d) (c:=1048576) (by omega) (by omega)
  omega
 refine ⟨by simp [hl],h.ok.set ⟨h6,h7⟩,by omega,Int.emod_nonneg _ (by omega),Int.emod_lt_of_pos _ hd,?_⟩
 rw [a6T (by omega),a6T (l:=out.set j _) (by simp;omega),a7R (by omega),List.drop_set_of_lt (by omega),h.eq]
 have h8:=Int.emod_add_mul_ediv (r*1048576+dat a j) d
 grind
theorem a0D.fin {a out:List Int} {d r:Int} (h:a0D a d 0 out r) (ha:Okd a) (hd:0<d):G0 out=dg (val a / d).toNat∧r=val a % d:=by
 have h3:=h.r0
 have h4:=h.r1
 have h5:=h.eq
 simp only [List.drop_zero] at h5
 rw [K5 h.ok]
 have e1:val a / d=val out:=by rw [h5];rw [Int.add_comm,Int.add_mul_ediv_left _ _ (by omega),Int.ediv_eq_zero_of_lt h3 h4];omega
 have e2:val a % d=r:=by rw [h5,Int.add_comm,Int.add_mul_emod_self_left,Int.emod_eq_of_lt h3 h4]
 exact ⟨by rw [e1],e2.symm⟩
structure a9G (w v:List Int) (g:Int) (i:Nat) (out:List Int) (c:Int):Prop where
 len:out.length=w.length
 ok:Okd out
 le:i<=w.length
 rest:∀j,i<=j->dat out j=dat w j
 c0:0<=c
 c1:c<1048576
 eq:val out - pw i*c=val w - g*val (v.take i)
theorem a9G.init {w v:List Int} (g:Int) (hw:Okd w):a9G w v g 0 w 0:=⟨rfl,hw,Nat.zero_le _,fun _ _=>rfl,by decide,by decide,by simp [val]⟩
theorem a9G.step {w v out:List Int} {g:Int} {i:Nat} {c:Int} (h:a9G w v g i out c) (hv:Okd v) (hg:0<=g∧g<1048576) (hi:i<w.length):
 a9G w v g (i+1) (out.set i ((dat out i - c - g*dat v i) % 1048576)) (-((dat out i - c - g*dat v i) / 1048576)):=by
 have h1:=h.ok.dat i
 have h2:=a3N hg (hv.dat i)
 have h3:=h.c0
 have h4:=h.c1
 have hl:=h.len
 refine ⟨by simp [hl],h.ok.set (a5E _),hi,fun j hj=>?_,by omega,by omega,?_⟩
 ·rw [a5G (by omega)];exact h.rest j (by omega)
 ·rw [a1U (by omega),s8,F3]
  have h5:=h.eq
  have h6:(dat out i - c - g*dat v i) % 1048576=dat out i - c - g*dat v i - 1048576*((dat out i - c - g*dat v i) / 1048576):=by omega
  rw [h6]
  grind
structure a7j (w v:List Int) (i:Nat) (out:List Int) (c:Int):Prop where
 len:out.length=w.length
 ok:Okd out
 le:i<=w.length
 rest:∀j,i<=j->dat out j=dat w j
 c0:0<=c
 c1:c<=1
 eq:val out+pw i*c=val w+val (v.take i)
theorem a7j.init {w v:List Int} (hw:Okd w):a7j w v 0 w 0:=⟨rfl,hw,Nat.zero_le _,fun _ _=>rfl,by decide,by decide,by simp [val]⟩
theorem a7j.step {w v out:List Int} {i:Nat} {c:Int} (h:a7j w v i out c) (hv:Okd v) (hi:i<w.length):
 a7j w v (i+1) (out.set i ((c+dat out i+dat v i) % 1048576)) ((c+dat out i+dat v i) / 1048576):=by
 have h1:=h.ok.dat i
 have h2:=hv.dat i
 have h3:=h.c0
 have h4:=h.c1
 have hl:=h.len
 refine ⟨by simp [hl],h.ok.set (a5E _),hi,fun j hj=>?_,by omega,by omega,?_⟩
 ·rw [a5G (by omega)];exact h.rest j (by omega)
 ·rw [a1U (by omega),s8,F3]
  have h5:=h.eq
  have h6:(c+dat out i+dat v i) % 1048576=c+dat out i+dat v i - 1048576*((c+dat out i+dat v i) / 1048576):=by omega
  rw [h6]
  grind
theorem a9G.zero {w v out:List Int} {g c:Int} (h:a9G w v g w.length out c) (hl:v.length<=w.length) (hw:Okd w) (hv:Okd v) (hg:0<=g):
 (c=0↔g*val v<=val w)∧(c=0->val out=val w - g*val v):=by
 have h3:=h.c0
 have h5:=h.eq
 rw [lbn (by omega)] at h5
 have h6:=X4 h.ok
 have h7:=v4 h.ok
 rw [h.len] at h6
 have h8:=R0 w.length
 have h9:0<c->pw w.length<=pw w.length*c:=fun hc=>by
  have:=lbW (a:=1) (b:=c) (c:=pw w.length) (by omega) (by omega)
  omega
 constructor
 ·constructor
  ·rintro rfl;omega
  ·intro h10
   rcases Int.lt_or_le 0 c with h11|h11
   ·have:=h9 h11;omega
   ·omega
 ·rintro rfl;omega
theorem a9G.back {w v out out':List Int} {g c c':Int} (h:a9G w v g w.length out c) (h':a7j out v w.length out' c') (hl:v.length<=w.length)
 (h1:0<=val w - g*val v+val v) (h2:val w - g*val v+val v<pw w.length):val out'=val w - g*val v+val v:=by
 have h5:=h.eq
 have h6:=h'.eq
 rw [lbn (by omega)] at h5 h6
 have h7:=X4 h'.ok
 have h8:=v4 h'.ok
 rw [h'.len,h.len] at h7
 have h9:=R0 w.length
 have e:val out'+pw w.length*(c' - c)=val w - g*val v+val v:=by grind
 rcases Int.lt_trichotomy (c' - c) 0 with hc|hc|hc
 ·have:=lbW (a:=c' - c) (b:=-1) (c:=pw w.length) (by omega) (by omega)
  omega
 ·rw [hc] at e;omega
 ·have:=lbW (a:=1) (b:=c' - c) (c:=pw w.length) (by omega) (by omega)
  omega
structure Win (P V W v1 v2 top u2:Int):Prop where
 P0:0<P
 v1l:524288<=v1
 v1u:v1<1048576
 v20:0<=v2
 v2u:v2<1048576
 u20:0<=u2
 u2u:u2<1048576
 t0:0<=top
 tu:top<1048576*1048576
 Vl:P*(v1*1048576+v2)<=V
 Vu:V<P*(v1*1048576+v2)+P
 Wl:P*(top*1048576+u2)<=W
 Wu:W<P*(top*1048576+u2)+P
 lt:W<V*1048576
theorem Win.V0 {P V W v1 v2 top u2:Int} (h:Win P V W v1 v2 top u2):0<V:=by
 have h1:=h.Vl
 have h2:=h.P0
 have h3:=h.v1l
 have h4:=h.v20
 have:=Int.mul_pos h2 (b:=v1*1048576+v2) (by omega)
 omega
structure Z1 (V W v1 top g r:Int):Prop where
 g0:0<=g
 gu:g<=2097152
 r0:0<=r
 ru:r<2097152
 eq:g*v1+r=top
 hi:W<(g+1)*V
theorem Z1.init {P V W v1 v2 top u2:Int} (h:Win P V W v1 v2 top u2):Z1 V W v1 top (top / v1) (top % v1):=by
 have h1:=h.v1l
 have h2:=h.v1u
 have h3:=h.t0
 have h4:=h.tu
 have h5:=Int.emod_nonneg top (b:=v1) (by omega)
 have h6:=Int.emod_lt_of_pos top (b:=v1) (by omega)
 have h7:=Int.mul_ediv_add_emod top v1
 have h8:0<=top / v1:=Int.ediv_nonneg h3 (by omega)
 have hq:top / v1*v1+top % v1=top:=by rw [Int.mul_comm];exact h7
 refine ⟨h8,?_,h5,by omega,hq,?_⟩
 ·have h9:=lbW (a:=524288) (b:=v1) (c:=top / v1) h1 h8
  omega
 ·have hW:=h.Wu
  have hV:=h.Vl
  have hP:=h.P0
  have h20:=h.v20
  have hu:=h.u2u
  have e1:(top / v1+1)*(P*(v1*1048576+v2))<=(top / v1+1)*V:=lbW hV (by omega)
  have e2:top*1048576+u2+1<=(top / v1+1)*(v1*1048576+v2):=by
   have:0<=(top / v1+1)*v2:=lb0 (by omega) h20
   have e3:(top / v1+1)*v1≥top+1:=by grind
   grind
  have e4:=lbW (c:=P) e2 (by omega)
  grind
theorem Z1.dec {P V W v1 v2 top u2 g r:Int} (h:Win P V W v1 v2 top u2) (hg:Z1 V W v1 top g r) (hc:1048576<=g∨(r<1048576∧r*1048576+u2<g*v2)):
 W<g*V:=by
 have hV0:=h.V0
 rcases hc with hc|⟨hr,hc⟩
 ·have:=lbX (a:=1048576) (b:=g) (c:=V) hc (by omega)
  have:=h.lt
  omega
 ·have hW:=h.Wu
  have e1:g*(P*(v1*1048576+v2))<=g*V:=lbW h.Vl hg.g0
  have e2:top*1048576+u2+1<=g*(v1*1048576+v2):=by
   have:=hg.eq
   grind
  have e4:=lbW (c:=P) e2 (Int.le_of_lt h.P0)
  grind
theorem Z1.small {P V W v1 v2 top u2 g r:Int} (h:Win P V W v1 v2 top u2) (hg:Z1 V W v1 top g r) (hc:1048576<=g):r<1048576:=by
 have h1:=h.Wl
 have h2:=h.lt
 have h3:=h.Vu
 have hP:=h.P0
 have e1:P*(top*1048576+u2)<P*((v1*1048576+v2+1)*1048576):=by grind
 have e2:top*1048576+u2<(v1*1048576+v2+1)*1048576:=Int.lt_of_mul_lt_mul_left e1 (Int.le_of_lt hP)
 have h4:=h.u20
 have h5:=hg.eq
 have h6:=lbX (a:=1048576) (b:=g) (c:=v1) hc (by have:=h.v1l;omega)
 have h7:=h.v2u
 omega
theorem Z1.step {P V W v1 v2 top u2 g r:Int} (h:Win P V W v1 v2 top u2) (hg:Z1 V W v1 top g r) (hc:1048576<=g∨(r<1048576∧r*1048576+u2<g*v2))
 (hW0:0<=W):Z1 V W v1 top (g - 1) (r+v1):=by
 have h1:=Z1.dec h hg hc
 have hV0:=h.V0
 have hg0:0<g:=by
  rcases Int.lt_or_le 0 g with h2|h2
  ·exact h2
  ·have:=hg.g0
   have:g=0:=by omega
   subst this;omega
 have h2:=hg.gu
 have h3:=hg.r0
 have h4:=h.v1l
 have h5:=h.v1u
 have h6:=hg.eq
 have h7:r<1048576:=by
  rcases hc with hc|hc
  ·exact Z1.small h hg hc
  ·exact hc.1
 exact ⟨by omega,by omega,by omega,by omega,by grind,by grind⟩
theorem Z1.fin {P V W v1 v2 top u2 g r:Int} (h:Win P V W v1 v2 top u2) (hg:Z1 V W v1 top g r) (hc:¬(1048576<=g∨(r<1048576∧r*1048576+u2<g*v2)))
 (hP:P*1048576<=V):g<1048576∧g*V<=W+V:=by
 have hg1:g<1048576:=by omega
 refine ⟨hg1,?_⟩
 have h0:=hg.g0
 have h20:=h.v20
 have h2u:=h.v2u
 have hu0:=h.u20
 have e1:g*v2<=r*1048576+u2:=by
  rcases Int.lt_or_le r 1048576 with hr|hr
  ·omega
  ·have:=a3N ⟨h0,hg1⟩ ⟨h20,h2u⟩
   omega
 have e2:g*(v1*1048576+v2)<=top*1048576+u2:=by
  have:=hg.eq
  grind
 have e3:=lbW (c:=P) e2 (Int.le_of_lt h.P0)
 have e4:g*V<=g*(P*(v1*1048576+v2)+P):=lbW (Int.le_of_lt h.Vu) h0
 have e5:g*P<=1048576*P:=lbX (Int.le_of_lt hg1) (Int.le_of_lt h.P0)
 have hW:=h.Wl
 grind
structure Bg where
 sg:Int
 dl:List Int
def bz (z:Int):Bg:=⟨z.sign,dg z.natAbs⟩
def inD (d:Int):Bool:=decide (0<=d) && decide (d<=1048575)
def I3 (b:Bg):Bool:=b.dl.all inD && (if b.dl.length=0 then b.sg == 0 else (b.sg == 1 || b.sg == -1) && !(dat b.dl (b.dl.length - 1) == 0))
def bv (b:Bg):Int:=b.sg*val b.dl
theorem b1S {l:List Int}:l.all inD=true↔Okd l:=by
 simp only [lbv,inD,lbN,lbI]
 exact ⟨fun h d hd=>by have:=h d hd;omega,fun h d hd=>by have:=h d hd;omega⟩
theorem a4p (z:Int):bv (bz z)=z:=by
 unfold bv bz
 rw [o9]
 exact Int.sign_mul_natAbs z
theorem bc6 {b:Bg} (h:I3 b=true):b=bz (bv b):=by
 unfold I3 at h
 rw [lbN,b1S] at h
 obtain ⟨h1,h2⟩:=h
 obtain ⟨sg,dl⟩:=b
 simp only at h1 h2
 have hv:=v4 h1
 by_cases hl:dl.length=0
 ·rw [if_pos hl] at h2
  have:dl=[]:=lbF hl
  subst this
  have:sg=0:=by simpa using h2
  subst this
  rfl
 ·rw [if_neg hl,lbN] at h2
  have hc:Can dl:=⟨h1,fun x hx=>by rw [a34 hx] at h2;simpa using h2.2⟩
  have h3:=aY1 hc
  have hp:0<val dl:=by
   rcases Int.lt_or_le 0 (val dl) with h4|h4
   ·exact h4
   ·have:val dl=0:=by omega
    rw [this] at h3
    rw [h3] at hl
    exact absurd rfl hl
  have hs:sg=1∨sg=-1:=by simpa using h2.1
  have ha:(sg*val dl).natAbs=(val dl).toNat:=by
   rcases hs with rfl|rfl<;>omega
  have hg:(sg*val dl).sign=sg:=by
   rcases hs with rfl|rfl
   ·rw [Int.one_mul];exact Int.sign_eq_one_of_pos hp
   ·exact Int.sign_eq_neg_one_of_neg (by omega)
  unfold bz bv
  simp only
  rw [ha,hg,←h3]
theorem a0i (z:Int):I3 (bz z)=true:=by
 unfold I3
 rw [lbN,b1S]
 refine ⟨t5 _,?_⟩
 by_cases hl:(bz z).dl.length=0
 ·rw [if_pos hl]
  have h0:dg z.natAbs=[]:=lbF hl
  have:z=0:=by have:=Q5.1 h0;omega
  subst this;rfl
 ·rw [if_neg hl]
  have hz:z≠0:=by rintro rfl;exact hl rfl
  have hl0:(dg z.natAbs).length - 1<(dg z.natAbs).length:=by have:(dg z.natAbs).length≠0:=hl;omega
  have h1:=(a26 z.natAbs).2 _ (lbf hl0)
  have h2:dat (bz z).dl ((bz z).dl.length - 1)≠0:=by
   show dat (dg z.natAbs) ((dg z.natAbs).length - 1)≠0
   rw [a34 (lbf hl0)];exact h1
  rw [lbN]
  refine ⟨?_,by simpa using h2⟩
  show ((z.sign == 1) || (z.sign == -1))=true
  rcases Int.lt_trichotomy z 0 with h|h|h
  ·rw [Int.sign_eq_neg_one_of_neg h];rfl
  ·exact absurd h hz
  ·rw [Int.sign_eq_one_of_pos h];rfl
theorem aq0 {z:Int}:(bz z).sg=z.sign:=rfl
structure Fr where
 p:Bg
 q:Bg
def fz (x:Rat):Fr:=⟨bz x.num,bz x.den⟩
def N5 (f:Fr):Bool:=I3 f.p && I3 f.q && (f.q.sg == 1) && (Int.gcd (bv f.p) (bv f.q) == 1)
def fv (f:Fr):Rat:=mkRat (bv f.p) (bv f.q).toNat
theorem ad8 (x:Rat):N5 (fz x)=true:=by
 unfold N5 fz
 simp only [a0i,a4p,Bool.true_and,lbN]
 have hd:=x.den_pos
 refine ⟨?_,?_⟩
 ·rw [aq0,Int.sign_eq_one_of_pos (by omega)];rfl
 ·have:=x.reduced
  simp only [Int.gcd,Int.natAbs_natCast]
  rw [this];rfl
theorem bf3 (x:Rat):fv (fz x)=x:=by
 unfold fv fz
 simp only [a4p,lbY]
 exact Rat.mkRat_self x
theorem a8O {p q g:Int} (hq:0<q) (hg:g=Int.gcd p q):fz (Rat.divInt p q)=⟨bz (p / g),bz (q / g)⟩:=by
 unfold fz
 rw [Rat.num_divInt,Rat.den_divInt,if_neg (by omega),Int.sign_eq_one_of_pos hq,Int.one_mul,Int.gcd_comm q p,←hg]
 congr 2
 rw [hg]
 have:((q.natAbs / Int.gcd p q:Nat):Int)=(q.natAbs:Int) / (Int.gcd p q:Int):=by simp
 rw [this,show (q.natAbs:Int)=q by omega]
structure a9w (U V N L:Nat) (j:Nat) (u q:List Int):Prop where
 lu:u.length=N
 oku:Okd u
 lq:q.length=N - L
 okq:Okd q
 le:j<=N - L
 eq:val (q.drop j)*pw j*V+val u=U
 lt:val u<V*pw j
theorem a9w.init {U V:Nat} (hV:0<V) (hl:(dg V).length<=(dg U).length+1):a9w U V ((dg U).length+1) (dg V).length ((dg U).length+1 - (dg V).length) (dg U++[0]) (List.replicate ((dg U).length+1 - (dg V).length) 0):=by
 have h1:=aB4 hV
 have h2:=O3 U
 have hv:val (dg U++[0])=U:=by rw [L7,o9];simp [val]
 have hL:(dg V).length≠0:=by rw [Ne,List.length_eq_zero_iff,Q5];omega
 refine ⟨by simp,(t5 U).append (by intro x hx;simp at hx;omega),by simp,.zeros _,lbR _,?_,?_⟩
 ·rw [lbo (by simp),hv];simp [val]
 ·rw [hv]
  have h3:=lbX (a:=pw ((dg V).length - 1)) (b:=V) (c:=pw ((dg U).length+1 - (dg V).length)) h1 (Int.le_of_lt (R0 _))
  rw [← a8r,show (dg V).length - 1+((dg U).length+1 - (dg V).length)=(dg U).length by omega] at h3
  omega
theorem a9w.window {U V N L j:Nat} {u q:List Int} (h:a9w U V N L (j+1) u q) (hL:(dg V).length=L):
 u=u.take j++(u.drop j).take (L+1)++u.drop (j+(L+1))∧((u.drop j).take (L+1)).length=L+1∧(u.take j).length=j∧
 val u=val (u.take j)+pw j*val ((u.drop j).take (L+1))∧val (u.drop (j+(L+1)))=0∧val ((u.drop j).take (L+1))<V*1048576:=by
 have h1:=h.lu
 have h2:=h.le
 have h3:=h.lt
 have hp:=R0 j
 have e0:(u.take j).length=j:=by simp;omega
 have e1:u.drop j=(u.drop j).take (L+1)++u.drop (j+(L+1)):=by rw [← List.drop_drop,lb7]
 have e2:((u.drop j).take (L+1)).length=L+1:=by simp;omega
 have e3:u=u.take j++(u.drop j).take (L+1)++u.drop (j+(L+1)):=by rw [lbD,←e1,lb7]
 have hv:=a5X u j (by omega)
 have hw:=L7 ((u.drop j).take (L+1)) (u.drop (j+(L+1)))
 rw [← e1,e2] at hw
 have h4:=v4 (h.oku.take j)
 have h5:=v4 ((h.oku.drop j).take (L+1))
 have h6:=v4 (h.oku.drop (j+(L+1)))
 have hVp:=O3 V
 rw [hL] at hVp
 have hz:val (u.drop (j+(L+1)))=0:=by
  rcases Int.lt_or_le 0 (val (u.drop (j+(L+1)))) with h7|h7
  ·exfalso
   have a1:=lbW (a:=1) (b:=val (u.drop (j+(L+1)))) (c:=pw (L+1)) (by omega) (Int.le_of_lt (R0 _))
   have a2:=lbW (a:=pw (L+1)) (b:=val (u.drop j)) (c:=pw j) (by omega) (Int.le_of_lt hp)
   have a3:=lbX (a:=(V:Int)) (b:=pw L) (c:=pw (j+1)) (Int.le_of_lt hVp) (Int.le_of_lt (R0 _))
   have a4:pw j*pw (L+1)=pw L*pw (j+1):=by rw [← a8r,←a8r];congr 1;omega
   omega
  ·omega
 rw [hz,Int.mul_zero,Int.add_zero] at hw
 rw [hw] at hv
 refine ⟨e3,e2,e0,hv,hz,?_⟩
 have a5:pw j*val ((u.drop j).take (L+1))<pw j*(V*1048576):=by
  rw [F3] at h3
  have:(V:Int)*(pw j*1048576)=pw j*(V*1048576):=by grind
  omega
 exact Int.lt_of_mul_lt_mul_left a5 (Int.le_of_lt hp)
theorem ar7 (l:List Int):G0 l++List.replicate (l.length - (G0 l).length) 0=l:=by
 induction l with
 |nil=>rfl
 |cons d r ih=>
  rw [G0]
  split
  ·rename_i h
   rw [h.1] at ih
   rw [h.2]
   simp only [List.nil_append,List.length_nil,Nat.sub_zero,lbu,List.replicate_succ] at ih ⊢
   rw [ih]
  ·simp only [List.cons_append,lbu,Nat.add_sub_add_right]
   rw [ih]
def a0r (n:Nat) (l:List Int):List Int:=l++List.replicate (n - l.length) 0
theorem b1G {l:List Int} (h:Okd l) {n:Nat} (hn:l.length=n):l=a0r n (dg (val l).toNat):=by
 subst hn
 have:=ar7 l
 rw [K5 h] at this
 exact this.symm
theorem b7I (n:Nat) (l:List Int):val (a0r n l)=val l:=by unfold a0r;rw [L7,a8N];simp
theorem au0 {n:Nat} {l:List Int} (h:l.length<=n):(a0r n l).length=n:=by unfold a0r;simp;omega
theorem b3Z {n:Nat} {l:List Int} (h:Okd l):Okd (a0r n l):=h.append (.zeros _)
theorem Win.of {v w:List Int} {L:Nat} (hv:Okd v) (hw:Okd w) (lv:v.length=L+2) (lw:w.length=L+3) (ht:524288<=dat v (L+1)) (hlt:val w<val v*1048576):
 Win (pw L) (val v) (val w) (dat v (L+1)) (dat v L) (dat w (L+2)*1048576+dat w (L+1)) (dat w L):=by
 have v1:=s8 v (L+1)
 have v2:=s8 v L
 have w1:=s8 w (L+2)
 have w2:=s8 w (L+1)
 have w3:=s8 w L
 rw [lbn (by omega)] at v1 w1
 have a1:=v4 (hv.take L)
 have a2:=X4 (hv.take L)
 have a3:=v4 (hw.take L)
 have a4:=X4 (hw.take L)
 rw [lbs,Nat.min_eq_left (by omega)] at a2 a4
 have d1:=hv.dat (L+1)
 have d2:=hv.dat L
 have d3:=hw.dat (L+2)
 have d4:=hw.dat (L+1)
 have d5:=hw.dat L
 have p1:=F3 L
 have p2:=F3 (L+1)
 have e1:val v=pw L*(dat v (L+1)*1048576+dat v L)+val (v.take L):=by grind
 have e2:val w=pw L*((dat w (L+2)*1048576+dat w (L+1))*1048576+dat w L)+val (w.take L):=by grind
 exact ⟨R0 L,ht,by omega,by omega,by omega,by omega,by omega,by omega,by omega,by omega,by omega,by omega,by omega,hlt⟩
theorem a9w.step {U V N L j:Nat} {u q:List Int} (h:a9w U V N L (j+1) u q) (hL:(dg V).length=L) (hV:0<V) {Q:Int} (hQ:0<=Q∧Q<1048576)
 (hr0:0<=val ((u.drop j).take (L+1)) - Q*V) (hr1:val ((u.drop j).take (L+1)) - Q*V<V):
 a9w U V N L j (u.take j++a0r (L+1) (dg (val ((u.drop j).take (L+1)) - Q*V).toNat)++u.drop (j+(L+1))) (q.set j Q):=by
 obtain ⟨e3,e2,e0,hv,hz,hW⟩:=h.window hL
 have h1:=h.lu
 have h2:=h.le
 have h3:=h.lq
 have hVp:=O3 V
 rw [hL] at hVp
 have hmono:=a1r (Nat.le_succ L)
 have lp:(dg (val ((u.drop j).take (L+1)) - Q*V).toNat).length<=L+1:=N3 (by have:pw L<=pw (L+1):=hmono;omega)
 have hpl:=au0 lp
 have hvp:val (a0r (L+1) (dg (val ((u.drop j).take (L+1)) - Q*V).toNat))=val ((u.drop j).take (L+1)) - Q*V:=by
  rw [b7I,o9,lbZ hr0]
 have hu':val (u.take j++a0r (L+1) (dg (val ((u.drop j).take (L+1)) - Q*V).toNat)++u.drop (j+(L+1)))=val (u.take j)+pw j*(val ((u.drop j).take (L+1)) - Q*V):=by
  rw [L7,hz,L7,hvp,e0];simp
 have hp:=R0 j
 have hlt:=X4 (h.oku.take j)
 rw [e0] at hlt
 refine ⟨?_,((h.oku.take j).append (b3Z (t5 _))).append (h.oku.drop _),by simp [h3],h.okq.set hQ,by omega,?_,?_⟩
 ·simp only [lbq,hpl,e0,List.length_drop];omega
 ·rw [hu',a6T (by simp;omega),a7R (by omega),List.drop_set_of_lt (by omega)]
  have h4:=h.eq
  rw [hv,F3] at h4
  grind
 ·rw [hu']
  have h5:=lbW (a:=val ((u.drop j).take (L+1)) - Q*V) (b:=(V:Int) - 1) (c:=pw j) (by omega) (by omega)
  have h6:pw j*((V:Int) - 1)=V*pw j - pw j:=by grind
  omega
theorem a9w.fin {U V N L:Nat} {u q:List Int} (h:a9w U V N L 0 u q) (hV:0<V):val q=(U / V:Nat)∧val u=(U % V:Nat):=by
 have h1:=h.eq
 have h2:=h.lt
 simp only [List.drop_zero,b7r,Int.mul_one] at h1 h2
 have h3:=v4 h.oku
 have h4:=v4 h.okq
 obtain ⟨Q,hQ⟩:=Int.eq_ofNat_of_zero_le h4
 obtain ⟨R,hR⟩:=Int.eq_ofNat_of_zero_le h3
 rw [hQ,hR] at h1
 rw [hR] at h2
 have e:U=R+Q*V:=by
  have:((R+Q*V:Nat):Int)=(U:Int):=by rw [← h1];simp [Int.add_comm]
  omega
 have hlt:R<V:=by omega
 rw [hQ,hR,e,Nat.add_mul_div_right _ _ hV,Nat.div_eq_of_lt hlt,Nat.add_mul_mod_self_right,Nat.mod_eq_of_lt hlt]
 simp
end
section
def bl (z:Int):Nat:=(dg z.natAbs).length
theorem a40 (m n:Nat):(dg (m+n)).length<=max (dg m).length (dg n).length+1:=by
 refine N3 ?_
 have h1:=O3 m
 have h2:=O3 n
 have h3:=a1r (Nat.le_max_left (dg m).length (dg n).length)
 have h4:=a1r (Nat.le_max_right (dg m).length (dg n).length)
 rw [F3]
 omega
theorem a3K (m n:Nat):(dg (m*n)).length<=(dg m).length+(dg n).length:=by
 refine N3 ?_
 have h1:=O3 m
 have h2:=O3 n
 rw [a8r]
 have h3:(m:Int)*n<=m*(pw (dg n).length):=lbW (by omega) (by omega)
 have h4:(m:Int)*pw (dg n).length<pw (dg m).length*pw (dg n).length:=Int.mul_lt_mul_of_pos_right h1 (R0 _)
 have h5:((m*n:Nat):Int)=m*n:=by simp
 omega
theorem a2h (x:Int):bl (-x)=bl x:=by unfold bl;rw [Int.natAbs_neg]
theorem a7Z (x y:Int):bl (x+y)<=max (bl x) (bl y)+1:=lbS (p7 (Int.natAbs_add_le x y)) (a40 _ _)
theorem E9 (x y:Int):bl (x*y)<=bl x+bl y:=by unfold bl;rw [Int.natAbs_mul];exact a3K _ _
theorem b2d {x y:Int} (h:x.natAbs<=y.natAbs):bl x<=bl y:=p7 h
theorem U7 {x:Int} (h0:-9223372036854775808<=x) (h1:x<=9223372036854775807):bl x<=4:=N3 (by simp only [pw];omega)
theorem s9 {x:Int} (h0:-1048575<=x) (h1:x<=1048575):bl x<=1:=N3 (by simp only [pw];omega)
theorem ab4 (x y:Int) {n:Nat} (lx:bl x<=n) (ly:bl y<=n):bl (Int.gcd x y)<=n:=by
 by_cases h:x=0
 ·subst h;unfold bl at *;rw [Int.gcd_zero_left];simpa using ly
 ·refine lbS (p7 ?_) lx
  simp only [Int.natAbs_natCast]
  exact Int.gcd_le_natAbs_left y h
def rl (x:Rat):Nat:=max (bl x.num) (bl x.den)
theorem G9 (x:Rat):bl x.num<=rl x:=Nat.le_max_left _ _
theorem I0 (x:Rat):bl x.den<=rl x:=Nat.le_max_right _ _
theorem Q4 {p q:Int} (hq:q≠0):rl (Rat.divInt p q)<=max (bl p) (bl q):=by
 unfold rl
 rw [Rat.num_divInt,Rat.den_divInt,if_neg hq]
 have h1:bl (q.sign*p / (q.gcd p:Nat))<=bl p:=b2d (by
  refine lbS (Int.natAbs_ediv_le_natAbs _ _) ?_
  rw [Int.natAbs_mul]
  have:q.sign.natAbs=1:=by
   rcases Int.lt_trichotomy q 0 with h|h|h
   ·rw [Int.sign_eq_neg_one_of_neg h];rfl
   ·exact absurd h hq
   ·rw [Int.sign_eq_one_of_pos h];rfl
  rw [this,Nat.one_mul];exact lbR _)
 have h2:bl ((q.natAbs / q.gcd p:Nat):Int)<=bl q:=b2d (by simp only [Int.natAbs_natCast];exact Nat.div_le_self _ _)
 omega
theorem aa0 (x y:Rat):x+y=Rat.divInt (x.num*y.den+y.num*x.den) (x.den*y.den):=by rw [Rat.add_def',←Rat.divInt_ofNat,Int.natCast_mul]
theorem ay5 (x y:Rat):x*y=Rat.divInt (x.num*y.num) (x.den*y.den):=by rw [Rat.mul_def',←Rat.divInt_ofNat,Int.natCast_mul]
theorem b8g (x y:Rat):x / y=Rat.divInt (x.num*y.den) (x.den*y.num):=by
 rw [Rat.div_def,Rat.inv_def]
 conv=>lhs;rw [← Rat.num_divInt_den x]
 rw [Rat.divInt_mul_divInt]
theorem aX9 (x:Rat):(x.den:Int)≠0:=by have:=x.den_pos;omega
theorem a9S (x y:Rat):(x.den:Int)*y.den≠0:=Int.mul_ne_zero (aX9 x) (aX9 y)
theorem a4H (x y:Rat):rl (x+y)<=rl x+rl y+1:=by
 rw [aa0]
 have h1:=a7Z (x.num*y.den) (y.num*x.den)
 have h2:=E9 x.num y.den
 have h3:=E9 y.num x.den
 have h4:=E9 x.den y.den
 have:=Q4 (p:=x.num*y.den+y.num*x.den) (a9S x y)
 unfold rl at *
 omega
theorem T5 (x:Rat):rl (-x)=rl x:=by unfold rl;rw [Rat.neg_num,Rat.neg_den,a2h]
theorem aU3 (x y:Rat):rl (x - y)<=rl x+rl y+1:=by rw [Rat.sub_eq_add_neg];have:=a4H x (-y);rw [T5] at this;exact this
theorem a45 (x y:Rat):rl (x*y)<=rl x+rl y:=by
 rw [ay5]
 have h2:=E9 x.num y.num
 have h4:=E9 x.den y.den
 have:=Q4 (p:=x.num*y.num) (a9S x y)
 unfold rl at *
 omega
theorem a2K (n:Int):rl (n:Rat)=max (bl n) 1:=by unfold rl;rw [Rat.num_intCast,Rat.den_intCast];rfl
def a42 (x y:Rat):Int:=if x<y then -1 else if y<x then 1 else 0
theorem b4c {x:Rat}:x.num<0↔x<0:=by rw [Rat.lt_iff];simp
theorem b5D {x:Rat}:0<x.num↔0<x:=by rw [Rat.lt_iff];simp
def sgR (x:Rat):Int:=if x<0 then -1 else if 0<x then 1 else 0
theorem a6X (x:Rat):x.num.sign=sgR x:=by
 unfold sgR
 by_cases h:x<0
 ·rw [if_pos h,Int.sign_eq_neg_one_of_neg (b4c.2 h)]
 ·rw [if_neg h]
  by_cases h2:0<x
  ·rw [if_pos h2,Int.sign_eq_one_of_pos (b5D.2 h2)]
  ·rw [if_neg h2]
   have h3:¬x.num<0:=fun e=>h (b4c.1 e)
   have h4:¬0<x.num:=fun e=>h2 (b5D.1 e)
   rw [show x.num=0 by omega];rfl
end
section
def N0 (c:J2):Bool:=
 decide (0<=c.since) && decide (c.since<=c.till) && decide (c.till<=100000) && idx c.scale 30 && btw c.grams 0 1099511627776 && btw c.permille 0 1000 && btw c.drift 0 10000000
def I1 (c:J2) (day:Int):Bool:=N0 c && btw day c.since c.till
def aC9 (cs:List J2) (i:Nat):Int:=((cs[i]?).map (·.since)).getD 0
def a3p (cs:List J2) (o:Option Nat) (c:J2):Bool:=match o with
 |none=>true
 |some b=>decide (aC9 cs b<=c.since)
def A0 (cs:List J2) (scale day:Int):Nat->Option Nat
 |0=>none
 |k+1=>match cs[k]? with
  |none=>A0 cs scale day k
  |some c=>if decide (c.scale=scale) && I1 c day && a3p cs (A0 cs scale day k) c then some k else A0 cs scale day k
theorem K9 {cs:List J2} {scale day:Int}:∀{k b:Nat},A0 cs scale day k=some b->b<k∧∃c,cs[b]? =some c∧c.scale=scale∧I1 c day=true
 |0,b,h=>by simp [A0] at h
 |k+1,b,h=>by
  unfold A0 at h
  split at h
  ·obtain ⟨h1,h2⟩:=K9 h;exact ⟨by omega,h2⟩
  ·rename_i c hc
   split at h
   ·rename_i hcc
    injection h with h
    subst h
    simp only [lbN,lbI] at hcc
    exact ⟨by omega,c,hc,hcc.1.1,hcc.1.2⟩
   ·obtain ⟨h1,h2⟩:=K9 h;exact ⟨by omega,h2⟩
def a28 (rs:List C2) (scale day:Int):Bool:=rs.any fun r=>decide (r.scale=scale) && decide (r.since<=day)
def a2R (c:J2) (reading day:Int):Rat:=Rat.divInt (c.permille*reading) 1000+((c.grams+c.drift*(day - c.since):Int):Rat)
def aF0 (x y:Rat):Rat:=if x<y then y else x
def b5O:J2:=⟨0,0,0,0,0,0⟩
def a1c (cs:List J2) (i:Nat):J2:=(cs[i]?).getD b5O
def G4 (cs:List J2) (rs:List C2) (scale reading day:Int):Option (Rat × Rat):=
 match A0 cs scale day cs.length with
 |none=>none
 |some i=>if a28 rs scale day then none else if btw reading 0 1099511627776 then
   some (aF0 ((reading:Rat) - a2R (a1c cs i) reading day) ((0:Int):Rat),(reading:Rat)+a2R (a1c cs i) reading day) else none
def bl5 (l:List Rat):Rat:=l.foldl (·+·) ((0:Int):Rat)
def hz (H:List (List Rat)):List (List Fr):=H.map (·.map fz)
def hAt (H:List (List Rat)) (k m:Nat):Rat:=(H.getD k []).getD m 0
def aG1 (x:n9) (v:Nat->Rat) (f:Nat->Nat->Rat):Nat->Nat->Rat:=fun p m=>if x.src=(p:Int) then f p m - v m else if x.dst=(p:Int) then f p m+v m else f p m
def stk (e:Ev) (H:List (List Rat)):Nat->Nat->Nat->Rat
 |0=>fun _ _=>((0:Int):Rat)
 |k+1=>match e.moves[k]? with
  |none=>stk e H k
  |some x=>aG1 x (hAt H k) (stk e H k)
def inB (iv:Option (Rat × Rat)) (mass:Rat):Bool:=match iv with
 |none=>true
 |some (lo,hi)=>decide (lo<=mass) && decide (mass<=hi)
def be8 (e:Ev) (x:n9) (mass:Rat):Bool:=if x.scale=-1 then true else inB (G4 e.certs e.recalls x.scale x.reading x.day) mass
theorem b1j:rl ((0:Int):Rat)=1:=by rw [a2K];rfl
end
section
def f7 (f:Nat->Rat):Nat->Rat
 |0=>((0:Int):Rat)
 |n+1=>f7 f n+f n
theorem X0:((0:Int):Rat)=0:=rfl
theorem e7 {f g:Nat->Rat}:∀{n:Nat},(∀ m,m<n->f m=g m)->f7 f n=f7 g n
 |0,_=>rfl
 |n+1,h=>by simp only [f7];rw [e7 fun m hm=>h m (by omega),h n (by omega)]
theorem a7P (f:Nat->Rat) (v:Rat) (d:Nat):∀n,f7 (fun p=>if p=d then f p+v else f p) n=f7 f n+(if d<n then v else 0)
 |0=>by simp only [f7,X0];rw [if_neg (by omega)];grind
 |n+1=>by
  simp only [f7]
  rw [a7P f v d n]
  rcases Nat.lt_trichotomy d n with h|h|h
  ·rw [if_pos h,if_neg (by omega),if_pos (by omega)];grind
  ·subst h;rw [if_neg (by omega),if_pos rfl,if_pos (by omega)];grind
  ·rw [if_neg (by omega),if_neg (by omega),if_neg (by omega)];grind
theorem b2h (f:Nat->Rat) (v:Rat) {s d n:Nat} (hs:s<n) (hd:d<n) (hsd:s≠d):f7 (fun p=>if p=s then f p - v else if p=d then f p+v else f p) n=f7 f n:=by
 have e:∀m,m<n->(if m=s then f m - v else if m=d then f m+v else f m)=(if m=s then (if m=d then f m+v else f m)+-v else (if m=d then f m+v else f m)):=fun m _=>by
  by_cases h:m=s
  ·subst h;rw [if_pos rfl,if_pos rfl,if_neg hsd];grind
  ·rw [if_neg h,if_neg h]
 rw [e7 e,a7P (fun p=>if p=d then f p+v else f p) (-v) s n,a7P f v d n,if_pos hs,if_pos hd]
 grind
end
section
theorem getD_some {l:List Rat} {m:Nat} (h:m<l.length):l[m]? =some (l.getD m 0):=by rw [lbl,lbf h];rfl
end
section
structure Ev.Sized (e:Ev):Prop where
 s1:e.places.length<=1000000
 s2:e.moves.length<=1000000
 s3:e.certs.length<=1000000
 s4:e.recalls.length<=1000000
 s5:e.purities.length<=1000000
end
section
def bl4 (xs ys:List Int) (k:Nat):Prop:=xs.take k=ys.take k
end
section
theorem y0 {α:Type} {p:Nat->α->Bool} {l:List α}:∀{k:Nat} {x:Int},x ∈ m8 p k l↔∃i m,l[i]? =some m∧p (k+i) m=true∧x=((k+i:Nat):Int):=by
 induction l with
 |nil=>intro k x;simp [m8]
 |cons a r ih=>
  intro k x
  have step:x ∈ m8 p (k+1) r↔∃i m,(a::r)[i+1]? =some m∧p (k+(i+1)) m=true∧x=((k+(i+1):Nat):Int):=by
   rw [ih]
   constructor
   ·rintro ⟨i,m,h1,h2,h3⟩
    exact ⟨i,m,by simpa using h1,by rw [show k+(i+1)=k+1+i from by omega];exact h2,by rw [h3];omega⟩
   ·rintro ⟨i,m,h1,h2,h3⟩
    exact ⟨i,m,by simpa using h1,by rw [show k+1+i=k+(i+1) from by omega];exact h2,by rw [h3];omega⟩
  unfold m8
  by_cases hp:p k a=true
  ·rw [if_pos hp,lbA,step]
   constructor
   ·rintro (rfl|⟨i,m,h⟩)
    ·exact ⟨0,a,rfl,hp,rfl⟩
    ·exact ⟨i+1,m,h⟩
   ·rintro ⟨i,m,h1,h2,h3⟩
    cases i with
    |zero=>left;simpa using h3
    |succ i=>right;exact ⟨i,m,h1,h2,h3⟩
  ·rw [if_neg hp,step]
   constructor
   ·rintro ⟨i,m,h⟩
    exact ⟨i+1,m,h⟩
   ·rintro ⟨i,m,h1,h2,h3⟩
    cases i with
    |zero=>simp at h1;subst h1;exact absurd h2 hp
    |succ i=>exact ⟨i,m,h1,h2,h3⟩
end
section
theorem a07 {e:Ev} {m:n9} (h:D5 e m=true):j9 e m.dst≠0:=by
 simp [D5] at h;exact h.1.2
end
section
theorem a74 {e:Ev} {G:List (List Rat)} {k:Nat} {x:n9} (hx:e.moves[k]? =some x):stk e G (k+1)=aG1 x (hAt G k) (stk e G k):=by
 conv=>lhs;unfold stk
 rw [hx]
theorem a9U {e:Ev} {G:List (List Rat)} {k:Nat} (hx:e.moves[k]? =none):stk e G (k+1)=stk e G k:=by
 conv=>lhs;unfold stk
 rw [hx]
end
section
theorem ac4 {e:Ev} {x:n9} (h:D5 e x=true) (ha:x.all=true):j9 e x.src≠0:=by
 unfold D5 at h
 simp only [lbN,lbI] at h
 have:=h.1.1.2
 rw [ha] at this
 simpa using this
end
section
def B2 (e:Ev) (x:n9):Option (Rat × Rat):=if x.scale=-1 then none else G4 e.certs e.recalls x.scale x.reading x.day
end
section
structure L0 where
 mv:Int
 kind:Int
 grams:Int
structure Q3 where
 mv:Int
 kind:Int
structure d9 where
 ev:Ev
 finds:List L0
 cleans:List Q3
def a1n (e:Ev) (mv kind:Int):Int:=if mv<0∨(e.moves.length:Int)<=mv then 4 else if kind<0∨8<=kind then 1 else 0
def N2 (e:Ev):List L0->Int
 |[]=>0
 |f::r=>if a1n e f.mv f.kind≠0 then a1n e f.mv f.kind else if f.grams<1∨1099511627776<f.grams then 3 else N2 e r
def M5 (e:Ev):List Q3->Int
 |[]=>0
 |c::r=>if a1n e c.mv c.kind≠0 then a1n e c.mv c.kind else M5 e r
def v3 (t:d9):Int:=
 if y8 t.ev≠0 then y8 t.ev else if 20<t.finds.length∨50<t.cleans.length then 6
 else if N2 t.ev t.finds≠0 then N2 t.ev t.finds else M5 t.ev t.cleans
def i8 (l:List L0) (kind:Int) (i:Nat):List Int:=(l.filter fun f=>decide (f.kind=kind) && decide (f.mv=(i:Int))).map (·.grams)
def o6 (l:List Q3) (kind:Int) (i:Nat):Nat:=(l.filter fun c=>decide (c.kind=kind) && decide (c.mv=(i:Int))).length
def col (z:List Rat):List (List Rat):=z.map fun v=>[v]
theorem a9W (z:List Rat) (k:Nat):hAt (col z) k 0=z.getD k 0:=by
 unfold hAt col
 cases h:z[k]?<;>simp [lbl,h]
def Q8 (e:Ev) (z:List Rat) (k p:Nat):Rat:=stk e (col z) k p 0
def aD1 (iv:Option (Rat × Rat)) (v:Rat):Bool:=match iv with
 |none=>true
 |some (_,hi)=>decide (v<=hi)
structure be1 (e:Ev) (x:n9) (v f:Rat):Prop where
 pos:0<=v
 most:j9 e x.src≠0->v<=f
 all:x.all=true->v=f
structure b4M (t:d9) (kind:Int) (i:Nat) (x:n9) (v:Rat):Prop where
 cap:aD1 (B2 t.ev x) v=true
 fin:∀g ∈ i8 t.finds kind i,(g:Rat)<=v
 cln:0<o6 t.cleans kind i->v=0
structure a9D (t:d9) (kind:Int) (z:List Rat):Prop where
 tr:v3 t=0
 k0:0<=kind
 k1:kind<8
 len:z.length=t.ev.moves.length
 step:∀i x,t.ev.moves[i]? =some x->be1 t.ev x (z.getD i 0) (Q8 t.ev z i x.src.toNat)∧b4M t kind i x (z.getD i 0)
theorem b8Y (z:List Rat):(z.map fz).map fv=z:=by
 rw [List.map_map]
 conv=>rhs;rw [← List.map_id z]
 exact lbp fun x _=>bf3 x
theorem o4 {t:d9} (h:v3 t=0):y8 t.ev=0∧t.finds.length<=20∧t.cleans.length<=50∧N2 t.ev t.finds=0∧M5 t.ev t.cleans=0:=by
 unfold v3 at h
 by_cases h1:y8 t.ev≠0
 ·rw [if_pos h1] at h;exact absurd h h1
 rw [if_neg h1] at h
 by_cases h2:20<t.finds.length∨50<t.cleans.length
 ·rw [if_pos h2] at h;cases h
 rw [if_neg h2] at h
 by_cases h3:N2 t.ev t.finds≠0
 ·rw [if_pos h3] at h;exact absurd h h3
 rw [if_neg h3] at h
 exact ⟨by simpa using h1,by omega,by omega,by simpa using h3,h⟩
theorem b33 {t:d9} (h1:y8 t.ev=0) (h2:t.finds.length<=20) (h3:t.cleans.length<=50) (h4:N2 t.ev t.finds=0) (h5:M5 t.ev t.cleans=0):v3 t=0:=by
 unfold v3
 rw [if_neg (by simp [h1]),if_neg (by omega),if_neg (by simp [h4]),h5]
theorem F9 {e:Ev}:∀{l:List L0},N2 e l=0->∀f ∈ l,0<=f.mv∧f.mv<e.moves.length∧0<=f.kind∧f.kind<8∧1<=f.grams∧f.grams<=1099511627776
 |[],_,f,hf=>by cases hf
 |g::r,h,f,hf=>by
  unfold N2 at h
  by_cases h1:a1n e g.mv g.kind≠0
  ·rw [if_pos h1] at h;exact absurd h h1
  rw [if_neg h1] at h
  by_cases h2:g.grams<1∨1099511627776<g.grams
  ·rw [if_pos h2] at h;cases h
  rw [if_neg h2] at h
  rcases lbA.1 hf with rfl|hf
  ·unfold a1n at h1
   by_cases h3:f.mv<0∨(e.moves.length:Int)<=f.mv
   ·rw [if_pos h3] at h1;exact absurd (by decide) h1
   rw [if_neg h3] at h1
   by_cases h4:f.kind<0∨8<=f.kind
   ·rw [if_pos h4] at h1;exact absurd (by decide) h1
   omega
  ·exact F9 h f hf
theorem a6Z (l:List L0) (f:L0) (kind:Int) (i:Nat):i8 (l++[f]) kind i=i8 l kind i++(if f.kind=kind∧f.mv=(i:Int) then [f.grams] else []):=by
 unfold i8
 rw [lb8,lbC]
 by_cases h:f.kind=kind∧f.mv=(i:Int)
 ·rw [if_pos h];simp [h.1,h.2]
 ·rw [if_neg h]
  have:(decide (f.kind=kind) && decide (f.mv=(i:Int)))=false:=by
   rw [← lbQ];simp only [lbN,lbI];exact h
  simp [this]
theorem a0N (l:List Q3) (c:Q3) (kind:Int) (i:Nat):o6 (l++[c]) kind i=o6 l kind i+(if c.kind=kind∧c.mv=(i:Int) then 1 else 0):=by
 unfold o6
 rw [lb8,lbq]
 by_cases h:c.kind=kind∧c.mv=(i:Int)
 ·rw [if_pos h];simp [h.1,h.2]
 ·rw [if_neg h]
  have:(decide (c.kind=kind) && decide (c.mv=(i:Int)))=false:=by
   rw [← lbQ];simp only [lbN,lbI];exact h
  simp [this]
end
section
theorem b1Z {e:Ev} {W A B:List (List Rat)} {a b:Rat} {m ma mb:Nat} (h:∀i,i<e.moves.length->hAt W i m=a*hAt A i ma+b*hAt B i mb):∀k p,stk e W k p m=a*stk e A k p ma+b*stk e B k p mb
 |0,p=>by simp only [stk,X0];grind
 |k+1,p=>by
  have ih:=b1Z h k p
  cases hx:e.moves[k]? with
  |none=>rw [a9U hx,a9U hx,a9U hx];exact ih
  |some x=>
   have hk:k<e.moves.length:=(lbe.1 hx).1
   rw [a74 hx,a74 hx,a74 hx]
   unfold aG1
   have hv:=h k hk
   split
   ·rw [ih,hv];grind
   ·split
    ·rw [ih,hv];grind
    ·exact ih
theorem al3 {e:Ev} {w y z:List Rat} {a b:Rat} (h:∀i,i<e.moves.length->w.getD i 0=a*z.getD i 0+b*y.getD i 0) (k p:Nat):Q8 e w k p=a*Q8 e z k p+b*Q8 e y k p:=
 b1Z (fun i hi=>by rw [a9W,a9W,a9W];exact h i hi) k p
theorem a17 {a b c:Rat} (h:a<=b) (hc:0<=c):c*a<=c*b:=by
 have:=lb1 hc (show 0<=b - a by grind)
 grind
theorem am1 {a c:Rat} (h:0<=a) (hc:c<=1):c*a<=a:=by
 have:=lb1 (show 0<=1 - c by grind) h
 grind
def v8 (t:d9):d9:={ t with finds:=[] }
theorem a1z {t:d9} (h:v3 t=0):v3 (v8 t)=0:=by
 obtain ⟨q1,q2,q3,q4,q5⟩:=o4 h
 exact b33 q1 (by simp [v8]) q3 rfl q5
def a1N (e:Ev) (z:List Rat) (j:Nat):Rat:=match e.moves[j]? with
 |none=>0
 |some x=>if j9 e x.src=0 then z.getD j 0 else 0
theorem Z2 {e:Ev} {z:List Rat} {k:Nat} {x:n9} (hx:e.moves[k]? =some x) (p:Nat):Q8 e z (k+1) p=if x.src=(p:Int) then Q8 e z k p - z.getD k 0 else if x.dst=(p:Int) then Q8 e z k p+z.getD k 0 else Q8 e z k p:=by
 unfold Q8
 rw [a74 hx]
 unfold aG1
 rw [a9W]
theorem a4E {e:Ev} {z:List Rat} {k:Nat} (hx:e.moves[k]? =none) (p:Nat):Q8 e z (k+1) p=Q8 e z k p:=by
 unfold Q8
 rw [a9U hx]
def a0q (e:Ev) (z:List Rat) (k p:Nat):Rat:=if j9 e p=0 then 0 else Q8 e z k p
theorem ai2 {t:d9} {kind:Int} {z:List Rat} (h:a9D t kind z):∀k p:Nat,j9 t.ev p≠0->0<=Q8 t.ev z k p
 |0,p,_=>lb3
 |k+1,p,hp=>by
  have ih:=ai2 h k p hp
  cases hx:t.ev.moves[k]? with
  |none=>rw [a4E hx];exact ih
  |some x=>
   obtain ⟨h1,_⟩:=h.step k x hx
   have hz:=h1.pos
   rw [Z2 hx]
   split
   ·rename_i hs
    have:=h1.most (by rw [hs];exact hp)
    rw [hs,show ((p:Int)).toNat=p by omega] at this
    grind
   ·split
    ·grind
    ·exact ih
theorem aL9 {t:d9} {kind:Int} {z:List Rat} (h:a9D t kind z):∀k,f7 (a0q t.ev z k) t.ev.places.length=f7 (a1N t.ev z) k
 |0=>by
  have:∀n,f7 (a0q t.ev z 0) n=0:=fun n=>by
   induction n with
   |zero=>rfl
   |succ n ih=>
    simp only [f7];rw [ih]
    have:a0q t.ev z 0 n=0:=by unfold a0q;split<;>rfl
    rw [this];grind
  exact this _
 |k+1=>by
  have ih:=aL9 h k
  have h0:=(o4 h.tr).1
  simp only [f7]
  rw [← ih]
  cases hx:t.ev.moves[k]? with
  |none=>
   have e1:a1N t.ev z k=0:=by unfold a1N;rw [hx]
   rw [e1]
   have:a0q t.ev z (k+1)=a0q t.ev z k:=by funext p;unfold a0q;rw [a4E hx]
   rw [this];grind
  |some x=>
   have hm:=p8 h0 (lbm hx)
   have ms:=B6 hm
   have md:=H9 hm
   have hd:=a07 hm
   have hne:x.src≠x.dst:=by unfold D5 at hm;simp only [lbN,lbI] at hm;exact hm.1.1.1.1.1.2
   by_cases hb:j9 t.ev x.src=0
   ·have e1:a1N t.ev z k=z.getD k 0:=by unfold a1N;rw [hx];simp [hb]
    rw [e1]
    have:=a7P (a0q t.ev z k) (z.getD k 0) x.dst.toNat t.ev.places.length
    rw [if_pos (by omega)] at this
    rw [← this]
    refine e7 fun p _=>?_
    unfold a0q
    rw [Z2 hx]
    by_cases c2:p=x.dst.toNat
    ·have:x.dst=(p:Int):=by omega
     have hk:j9 t.ev (p:Int)≠0:=by rw [← this];exact hd
     rw [if_pos c2]
     simp only [if_neg hk]
     rw [if_neg (show ¬x.src=(p:Int) by omega),if_pos this]
    ·rw [if_neg c2]
     by_cases c1:x.src=(p:Int)
     ·simp only [← c1,if_pos hb]
     ·rw [if_neg c1,if_neg (show ¬x.dst=(p:Int) by omega)]
   ·have e1:a1N t.ev z k=0:=by unfold a1N;rw [hx];simp [hb]
    rw [e1]
    have:=b2h (a0q t.ev z k) (z.getD k 0) (s:=x.src.toNat) (d:=x.dst.toNat) (n:=t.ev.places.length) (by omega) (by omega) (by omega)
    rw [show f7 (a0q t.ev z k) t.ev.places.length+0=f7 (a0q t.ev z k) t.ev.places.length by grind,←this]
    refine e7 fun p _=>?_
    unfold a0q
    rw [Z2 hx]
    by_cases c1:p=x.src.toNat
    ·have:x.src=(p:Int):=by omega
     have hk:j9 t.ev (p:Int)≠0:=by rw [← this];exact hb
     rw [if_pos c1,if_pos this]
     simp only [if_neg hk]
    ·rw [if_neg c1,if_neg (c:=x.src=(p:Int)) (by omega)]
     by_cases c2:p=x.dst.toNat
     ·have:x.dst=(p:Int):=by omega
      have hk:j9 t.ev (p:Int)≠0:=by rw [← this];exact hd
      rw [if_pos c2,if_pos this]
      simp only [if_neg hk]
     ·rw [if_neg c2,if_neg (c:=x.dst=(p:Int)) (by omega)]
theorem a1Q {f:Nat->Rat}:∀{n:Nat},(∀ p,p<n->0<=f p)->0<=f7 f n
 |0,_=>lb3
 |n+1,h=>by
  have h1:=a1Q (n:=n) fun p hp=>h p (by omega)
  have h2:=h n (by omega)
  simp only [f7];grind
theorem al7 {f:Nat->Rat}:∀{n p:Nat},(∀ p,p<n->0<=f p)->p<n->f p<=f7 f n
 |n+1,p,h,hp=>by
  simp only [f7]
  rcases Nat.lt_or_ge p n with hpn|hpn
  ·have h1:=al7 (f:=f) (n:=n) (p:=p) (fun q hq=>h q (by omega)) hpn
   have h2:=h n (by omega)
   grind
  ·obtain rfl:p=n:=by omega
   have h1:=a1Q (f:=f) (n:=p) fun q hq=>h q (by omega)
   grind
theorem aI9 {t:d9} {kind:Int} {z:List Rat} (h:a9D t kind z) (j:Nat):0<=a1N t.ev z j:=by
 unfold a1N
 cases hx:t.ev.moves[j]? with
 |none=>exact lb3
 |some x=>
  simp only
  split
  ·exact (h.step j x hx).1.pos
  ·exact lb3
theorem b8x {t:d9} {kind:Int} {z:List Rat} (h:a9D t kind z) {i:Nat} {x:n9} (hx:t.ev.moves[i]? =some x):z.getD i 0<=f7 (a1N t.ev z) (i+1):=by
 have h0:=(o4 h.tr).1
 have hm:=p8 h0 (lbm hx)
 have ms:=B6 hm
 by_cases hb:j9 t.ev x.src=0
 ·have e1:a1N t.ev z i=z.getD i 0:=by unfold a1N;rw [hx];simp [hb]
  rw [← e1]
  exact al7 (fun q _=>aI9 h q) (by omega)
 ·have h1:=(h.step i x hx).1.most hb
  have hk:j9 t.ev ((x.src.toNat:Nat):Int)≠0:=by rw [show ((x.src.toNat:Nat):Int)=x.src by omega];exact hb
  have h2:a0q t.ev z i x.src.toNat=Q8 t.ev z i x.src.toNat:=by unfold a0q;rw [if_neg hk]
  have h3:a0q t.ev z i x.src.toNat<=f7 (a0q t.ev z i) t.ev.places.length:=by
   refine al7 (fun q _=>?_) (by omega)
   unfold a0q
   split
   ·exact lb3
   ·exact ai2 h i q ‹_›
  rw [aL9 h] at h3
  have h4:=aI9 h i
  simp only [f7]
  grind
end
section
structure D3 where
 terms:List (Int × Rat)
 kind:Int
 value:Rat
structure g4 where
 n:Int
 rows:List D3
def p4 (l:List (Int × Rat)) (z:List Rat):Rat:=l.foldl (fun a t=>a+t.2*z.getD t.1.toNat 0) ((0:Int):Rat)
theorem T7 (l:List (Int × Rat)) (t:Int × Rat) (z:List Rat):p4 (l++[t]) z=p4 l z+t.2*z.getD t.1.toNat 0:=by unfold p4;rw [List.foldl_append];rfl
def f9:Int->Int->List (Int × Rat)->Bool
 |_,_,[]=>true
 |last,n,t::r=>decide (last<t.1) && decide (t.1<n) && decide (t.2≠0) && f9 t.1 n r
def v7 (n:Int) (w:D3):Bool:=f9 (-1) n w.terms && decide (0<=w.kind) && decide (w.kind<3)
def j8 (s:g4):Bool:=decide (0<=s.n) && decide (s.n<=1500) && decide (s.rows.length<=6000) && s.rows.all (v7 s.n)
def U5 (w:D3) (z:List Rat):Bool:=!((decide (p4 w.terms z<w.value) && decide (w.kind≠1)) || (decide (w.value<p4 w.terms z) && decide (w.kind≠0)))
def o7 (s:g4) (z:List Rat):Bool:=j8 s && decide ((z.length:Int)=s.n) && z.all (fun v=>decide (0<=v)) && s.rows.all (fun w=>U5 w z)
def j0 (e:Ev) (p:Int):Nat->List (Int × Rat)
 |0=>[]
 |k+1=>match e.moves[k]? with
  |none=>j0 e p k
  |some y=>if y.dst=p then j0 e p k++[((k:Int),((1:Int):Rat))] else if y.src=p then j0 e p k++[((k:Int),((-1:Int):Rat))] else j0 e p k
def u9 (e:Ev) (i:Nat) (x:n9):D3:=⟨j0 e x.src i++[((i:Int),((-1:Int):Rat))],if x.all then 2 else 0,((0:Int):Rat)⟩
def p9 (i:Nat) (kind:Int) (v:Rat):D3:=⟨[((i:Int),((1:Int):Rat))],kind,v⟩
def P1 (iv:Option (Rat × Rat)) (i:Nat):List D3:=match iv with
 |none=>[]
 |some (_,hi)=>[p9 i 1 hi]
def N6 (t:d9) (kind:Int) (i:Nat) (x:n9):List D3:=
 (if j9 t.ev x.src=0 then [] else [u9 t.ev i x])++P1 (B2 t.ev x) i++(i8 t.finds kind i).map (fun g:Int=>p9 i 0 (g:Rat))++List.replicate (o6 t.cleans kind i) (p9 i 2 ((0:Int):Rat))
def s6 (t:d9) (kind:Int):Nat->List D3
 |0=>[]
 |k+1=>match t.ev.moves[k]? with
  |none=>s6 t kind k
  |some x=>s6 t kind k++N6 t kind k x
def R5 (t:d9) (kind:Int):g4:=⟨t.ev.moves.length,s6 t kind t.ev.moves.length⟩
theorem a6i {e:Ev} (h0:y8 e=0) (z:List Rat) (p:Nat):∀k,p4 (j0 e p k) z=Q8 e z k p
 |0=>rfl
 |k+1=>by
  have ih:=a6i h0 z p k
  unfold j0
  cases hx:e.moves[k]? with
  |none=>rw [a4E hx];exact ih
  |some y=>
   have hm:=p8 h0 (lbm hx)
   have hne:y.src≠y.dst:=by unfold D5 at hm;simp only [lbN,lbI] at hm;exact hm.1.1.1.1.1.2
   rw [Z2 hx]
   simp only
   by_cases c1:y.dst=(p:Int)
   ·rw [if_pos c1,if_neg (by omega),if_pos c1,T7,ih]
    simp only [lbY]
    have:((1:Int):Rat)=1:=rfl
    rw [this];grind
   ·rw [if_neg c1]
    by_cases c2:y.src=(p:Int)
    ·rw [if_pos c2,if_pos c2,T7,ih]
     simp only [lbY]
     have:((-1:Int):Rat)=-1:=rfl
     rw [this];grind
    ·rw [if_neg c2,if_neg c2,if_neg c1];exact ih
theorem a3l {w:D3} {z:List Rat}:U5 w z=true↔(p4 w.terms z<w.value->w.kind=1)∧(w.value<p4 w.terms z->w.kind=0):=by
 unfold U5
 simp only [Bool.not_eq_true',Bool.or_eq_false_iff,lbP,lbK,Classical.not_not]
 constructor
 ·rintro ⟨h1,h2⟩
  exact ⟨fun h=>h1.resolve_left (fun h'=>h' h),fun h=>h2.resolve_left (fun h'=>h' h)⟩
 ·rintro ⟨h1,h2⟩
  refine ⟨?_,?_⟩
  ·by_cases h:p4 w.terms z<w.value
   ·exact .inr (h1 h)
   ·exact .inl h
  ·by_cases h:w.value<p4 w.terms z
   ·exact .inr (h2 h)
   ·exact .inl h
theorem az7 (i:Nat) (kind:Int) (v:Rat) (z:List Rat):p4 (p9 i kind v).terms z=z.getD i 0:=by
 show ((0:Int):Rat)+((1:Int):Rat)*z.getD ((i:Int)).toNat 0=_
 rw [lbY]
 have h0:((0:Int):Rat)=0:=rfl
 have h1:((1:Int):Rat)=1:=rfl
 rw [h0,h1];grind
theorem b4i {i:Nat} {v:Rat} {z:List Rat}:U5 (p9 i 1 v) z=true↔z.getD i 0<=v:=by
 rw [a3l,az7]
 show (_->(1:Int)=1)∧(v<z.getD i 0->(1:Int)=0)↔_
 constructor
 ·rintro ⟨_,h⟩;exact lb4.1 fun h'=>absurd (h h') (by decide)
 ·intro h;exact ⟨fun _=>rfl,fun h'=>absurd h' (lb4.2 h)⟩
theorem au2 {i:Nat} {v:Rat} {z:List Rat}:U5 (p9 i 0 v) z=true↔v<=z.getD i 0:=by
 rw [a3l,az7]
 show (z.getD i 0<v->(0:Int)=1)∧(_->(0:Int)=0)↔_
 constructor
 ·rintro ⟨h,_⟩;exact lb4.1 fun h'=>absurd (h h') (by decide)
 ·intro h;exact ⟨fun h'=>absurd h' (lb4.2 h),fun _=>rfl⟩
theorem a5R {i:Nat} {v:Rat} {z:List Rat}:U5 (p9 i 2 v) z=true↔z.getD i 0=v:=by
 rw [a3l,az7]
 show (z.getD i 0<v->(2:Int)=1)∧(v<z.getD i 0->(2:Int)=0)↔_
 constructor
 ·rintro ⟨h,h2⟩
  have q1:¬z.getD i 0<v:=fun h'=>absurd (h h') (by decide)
  have q2:¬v<z.getD i 0:=fun h'=>absurd (h2 h') (by decide)
  grind
 ·intro h;exact ⟨fun h'=>by grind,fun h'=>by grind⟩
theorem stock_holds {e:Ev} (h0:y8 e=0) {i:Nat} {x:n9} (hx:e.moves[i]? =some x) {z:List Rat}:U5 (u9 e i x) z=true↔z.getD i 0<=Q8 e z i x.src.toNat∧(x.all=true->z.getD i 0=Q8 e z i x.src.toNat):=by
 have hm:=p8 h0 (lbm hx)
 have ms:=B6 hm
 have hv:p4 (u9 e i x).terms z=Q8 e z i x.src.toNat - z.getD i 0:=by
  unfold u9
  simp only
  rw [T7,show j0 e x.src i=j0 e ((x.src.toNat:Nat):Int) i by rw [show ((x.src.toNat:Nat):Int)=x.src by omega],a6i h0]
  simp only [lbY]
  have:((-1:Int):Rat)=-1:=rfl
  rw [this];grind
 have hz:(u9 e i x).value=0:=rfl
 have hk:(u9 e i x).kind=if x.all then 2 else 0:=rfl
 rw [a3l,hv,hz,hk]
 cases hal:x.all with
 |true=>
  simp only [if_true]
  constructor
  ·rintro ⟨h,h2⟩
   have q1:¬Q8 e z i x.src.toNat - z.getD i 0<0:=fun h'=>absurd (h h') (by decide)
   have q2:¬0<Q8 e z i x.src.toNat - z.getD i 0:=fun h'=>absurd (h2 h') (by decide)
   exact ⟨by grind,fun _=>by grind⟩
  ·rintro ⟨h,h2⟩
   have h2:=h2 trivial
   exact ⟨fun h'=>by grind,fun h'=>by grind⟩
 |false=>
  simp only [Bool.false_eq_true,if_false]
  constructor
  ·rintro ⟨h,h2⟩
   have q1:¬Q8 e z i x.src.toNat - z.getD i 0<0:=fun h'=>absurd (h h') (by decide)
   exact ⟨by grind,fun h=>(by cases h)⟩
  ·rintro ⟨h,_⟩
   exact ⟨fun h'=>by grind,fun _=>trivial⟩
theorem move_holds {t:d9} {kind:Int} (h0:y8 t.ev=0) {i:Nat} {x:n9} (hx:t.ev.moves[i]? =some x) {z:List Rat} (hz:0<=z.getD i 0):
 (N6 t kind i x).all (fun w=>U5 w z)=true↔be1 t.ev x (z.getD i 0) (Q8 t.ev z i x.src.toNat)∧b4M t kind i x (z.getD i 0):=by
 have hmo:=p8 h0 (lbm hx)
 unfold N6
 simp only [List.all_append,lbN,List.all_map]
 have e1:(if j9 t.ev x.src=0 then ([]:List D3) else [u9 t.ev i x]).all (fun w=>U5 w z)=true↔(j9 t.ev x.src≠0->z.getD i 0<=Q8 t.ev z i x.src.toNat∧(x.all=true->z.getD i 0=Q8 t.ev z i x.src.toNat)):=by
  by_cases hb:j9 t.ev x.src=0
  ·rw [if_pos hb];exact ⟨fun _ h=>absurd hb h,fun _=>rfl⟩
  ·rw [if_neg hb]
   simp only [List.all_cons,List.all_nil,Bool.and_true]
   rw [stock_holds h0 hx]
   exact ⟨fun h _=>h,fun h=>h hb⟩
 have e2:(P1 (B2 t.ev x) i).all (fun w=>U5 w z)=true↔aD1 (B2 t.ev x) (z.getD i 0)=true:=by
  cases hiv:B2 t.ev x with
  |none=>exact ⟨fun _=>rfl,fun _=>rfl⟩
  |some p=>
   obtain ⟨lo,hi⟩:=p
   simp only [P1,aD1,List.all_cons,List.all_nil,Bool.and_true,lbI]
   exact b4i
 have e3:(i8 t.finds kind i).all ((fun w=>U5 w z) ∘ fun g:Int=>p9 i 0 (g:Rat))=true↔∀g ∈ i8 t.finds kind i,(g:Rat)<=z.getD i 0:=by
  rw [lbv]
  exact ⟨fun h g hg=>au2.1 (h g hg),fun h g hg=>au2.2 (h g hg)⟩
 have e4:(List.replicate (o6 t.cleans kind i) (p9 i 2 ((0:Int):Rat))).all (fun w=>U5 w z)=true↔(0<o6 t.cleans kind i->z.getD i 0=0):=by
  rw [lbv]
  constructor
  ·intro h hc;exact a5R.1 (h _ (List.mem_replicate.2 ⟨by omega,rfl⟩))
  ·intro h w hw
   obtain ⟨h1,rfl⟩:=List.mem_replicate.1 hw
   exact a5R.2 (h (by omega))
 rw [e1,e2,e3,e4]
 constructor
 ·rintro ⟨⟨⟨q1,q2⟩,q3⟩,q4⟩
  exact ⟨⟨hz,fun h=>(q1 h).1,fun h=>(q1 (ac4 hmo h)).2 h⟩,⟨q2,q3,q4⟩⟩
 ·rintro ⟨p1,p2⟩
  exact ⟨⟨⟨fun h=>⟨p1.most h,p1.all⟩,p2.cap⟩,p2.fin⟩,p2.cln⟩
theorem a16 {t:d9} {kind:Int} {q:D3->Bool}:∀n,n<=t.ev.moves.length->((s6 t kind n).all q=true↔∀i x,i<n->t.ev.moves[i]? =some x->(N6 t kind i x).all q=true)
 |0,_=>⟨fun _ i x h=>by omega,fun _=>rfl⟩
 |n+1,h=>by
  obtain ⟨y,hy⟩:∃y,t.ev.moves[n]? =some y:=⟨_,lbf (by omega)⟩
  unfold s6
  rw [hy]
  simp only [List.all_append,lbN]
  rw [a16 n (by omega)]
  constructor
  ·rintro ⟨h1,h2⟩ i x hi hx
   rcases Nat.lt_or_ge i n with h3|h3
   ·exact h1 i x h3 hx
   ·obtain rfl:i=n:=by omega
    rw [hy] at hx;injection hx with hx;subst hx;exact h2
  ·intro h1
   exact ⟨fun i x hi hx=>h1 i x (by omega) hx,h1 n y (by omega) hy⟩
theorem a6w {last n i:Int} {c:Rat} (h1:last<i) (h2:i<n) (h3:c≠0):f9 last n [(i,c)]=true:=by
 unfold f9
 simp [h1,h2,h3,f9]
theorem a51 {n:Int} {c:Rat} {i:Int} (h2:i<n) (h3:c≠0):∀{l:List (Int × Rat)} {last:Int},f9 last n l=true->last<i->(∀ t ∈ l,t.1<i)->f9 last n (l++[(i,c)])=true
 |[],last,_,h,_=>a6w h h2 h3
 |t::r,last,h,h1,ht=>by
  unfold f9 at h
  simp only [lbN,lbI] at h
  show f9 last n (t::(r++[(i,c)]))=true
  unfold f9
  simp only [lbN,lbI]
  exact ⟨h.1,a51 h2 h3 h.2 (ht t (by simp)) fun u hu=>ht u (by simp [hu])⟩
theorem a6D:((1:Int):Rat)≠0:=by decide
theorem a9d:((-1:Int):Rat)≠0:=by decide
theorem a2U {e:Ev} {p:Int} {n:Int}:∀k:Nat,(k:Int)<=n->f9 (-1) n (j0 e p k)=true∧∀t ∈ j0 e p k,t.1<(k:Int)
 |0,_=>⟨rfl,fun t ht=>by cases ht⟩
 |k+1,h=>by
  obtain ⟨h1,h2⟩:=a2U (e:=e) (p:=p) (n:=n) k (by omega)
  have h3:∀c:Rat,c≠0->f9 (-1) n (j0 e p k++[((k:Int),c)])=true∧∀t ∈ j0 e p k++[((k:Int),c)],t.1<((k+1:Nat):Int):=fun c hc=>
   ⟨a51 (by omega) hc h1 (by omega) h2,fun t ht=>by
     rcases lbz.1 ht with ht|ht
     ·have:=h2 t ht;omega
     ·simp at ht;subst ht;simp;omega⟩
  unfold j0
  cases hx:e.moves[k]? with
  |none=>exact ⟨h1,fun t ht=>by have:=h2 t ht;omega⟩
  |some y=>
   simp only
   split
   ·exact h3 _ a6D
   ·split
    ·exact h3 _ a9d
    ·exact ⟨h1,fun t ht=>by have:=h2 t ht;omega⟩
theorem b0z {t:d9} {kind:Int} {i:Nat} {x:n9} {n:Int} (hi:(i:Int)<n):(N6 t kind i x).all (v7 n)=true:=by
 have ho:∀(k:Int) (v:Rat),0<=k->k<3->v7 n (p9 i k v)=true:=fun k v h1 h2=>by
  unfold v7 p9
  simp only [lbN,lbI]
  exact ⟨⟨a6w (by omega) hi a6D,h1⟩,h2⟩
 unfold N6
 simp only [List.all_append,lbN,lbv]
 refine ⟨⟨⟨fun w hw=>?_,fun w hw=>?_⟩,fun w hw=>?_⟩,fun w hw=>?_⟩
 ·by_cases hb:j9 t.ev x.src=0
  ·rw [if_pos hb] at hw;cases hw
  ·rw [if_neg hb] at hw
   simp at hw
   subst hw
   obtain ⟨h1,h2⟩:=a2U (e:=t.ev) (p:=x.src) (n:=n) i (by omega)
   unfold v7 u9
   simp only [lbN,lbI]
   refine ⟨⟨a51 hi a9d h1 (by omega) h2,?_⟩,?_⟩<;>split<;>decide
 ·cases hiv:B2 t.ev x with
  |none=>rw [hiv] at hw;cases hw
  |some p=>
   obtain ⟨lo,hi⟩:=p
   rw [hiv] at hw
   simp [P1] at hw
   subst hw
   exact ho 1 hi (by decide) (by decide)
 ·obtain ⟨g,_,rfl⟩:=lbx.1 hw
  exact ho 0 _ (by decide) (by decide)
 ·obtain ⟨_,rfl⟩:=List.mem_replicate.1 hw
  exact ho 2 _ (by decide) (by decide)
theorem aA1 {t:d9} {kind:Int} {i:Nat} {x:n9}:(N6 t kind i x).length<=2+t.finds.length+t.cleans.length:=by
 unfold N6
 have h1:(P1 (B2 t.ev x) i).length<=1:=by unfold P1;split<;>simp
 have h2:(i8 t.finds kind i).length<=t.finds.length:=by unfold i8;rw [lbr];exact lbt _ _
 have h3:o6 t.cleans kind i<=t.cleans.length:=lbt _ _
 have h4:(if j9 t.ev x.src=0 then ([]:List D3) else [u9 t.ev i x]).length<=1:=by split<;>simp
 simp only [lbq,lbr,List.length_replicate]
 omega
theorem S7 {t:d9} {kind:Int}:∀n,(s6 t kind n).length<=n*(2+t.finds.length+t.cleans.length)
 |0=>by simp [s6]
 |n+1=>by
  have ih:=S7 (t:=t) (kind:=kind) n
  unfold s6
  rw [lbV]
  cases hx:t.ev.moves[n]? with
  |none=>simp only;omega
  |some x=>
   have:=aA1 (t:=t) (kind:=kind) (i:=n) (x:=x)
   simp only [lbq]
   omega
theorem a83 {t:d9} {kind:Int} (hm:t.ev.moves.length<=14) (hf:t.finds.length<=20) (hc:t.cleans.length<=50):j8 (R5 t kind)=true:=by
 unfold j8 R5
 have h1:=S7 (t:=t) (kind:=kind) t.ev.moves.length
 have h2:t.ev.moves.length*(2+t.finds.length+t.cleans.length)<=14*72:=lbT hm (by omega)
 simp only [lbN,lbI]
 refine ⟨⟨⟨by omega,by omega⟩,by omega⟩,?_⟩
 rw [a16 _ (lbR _)]
 intro i x hi hx
 exact b0z (by omega)
theorem sys_holds {t:d9} {kind:Int} {z:List Rat} (ht:v3 t=0) (k0:0<=kind) (k1:kind<8) (hm:t.ev.moves.length<=14):o7 (R5 t kind) z=true↔a9D t kind z:=by
 obtain ⟨q1,q2,q3,q4,q5⟩:=o4 ht
 unfold o7
 rw [a83 hm q2 q3]
 simp only [Bool.true_and,lbN,lbI]
 constructor
 ·rintro ⟨⟨h1,h2⟩,h3⟩
  have hl:z.length=t.ev.moves.length:=by have:(z.length:Int)=t.ev.moves.length:=h1;omega
  refine ⟨ht,k0,k1,hl,fun i x hx=>?_⟩
  have hi:i<t.ev.moves.length:=(lbe.1 hx).1
  have hz:0<=z.getD i 0:=lbL (lbv.1 h2 _ (lbm (getD_some (by omega))))
  exact (move_holds q1 hx hz).1 ((a16 _ (lbR _)).1 h3 i x hi hx)
 ·intro h
  refine ⟨⟨?_,?_⟩,?_⟩
  ·show (z.length:Int)=t.ev.moves.length
   rw [h.len]
  ·rw [lbv]
   intro v hv
   obtain ⟨i,hi,rfl⟩:=List.getElem_of_mem hv
   obtain ⟨x,hx⟩:∃x,t.ev.moves[i]? =some x:=⟨_,lbf (by rw [← h.len];exact hi)⟩
   have:=(h.step i x hx).1.pos
   rw [lbl,lbf hi] at this
   exact lbH this
  ·show (s6 t kind t.ev.moves.length).all _=true
   rw [a16 _ (lbR _)]
   intro i x hi hx
   obtain ⟨a,b⟩:=h.step i x hx
   exact (move_holds q1 hx a.pos).2 ⟨a,b⟩
end
section
structure Fd where
 V:Nat->Rat
 A:Nat->Nat->Rat
 G:Nat->Rat
 O:Nat->Nat
 F:Nat->Nat
namespace Fd
def pRow (D:Fd) (r s j:Nat):Rat:=if j=s then 1 / D.A r s else D.A r j / D.A r s
def exch (D:Fd) (r s:Nat):Fd where
 V:=fun i=>if i=r then D.V r / D.A r s else D.V i - D.A i s*(D.V r / D.A r s)
 A:=fun i j=>if i=r then D.pRow r s j else if j=s then 0 - D.A i s*D.pRow r s s else D.A i j - D.A i s*D.pRow r s j
 G:=fun j=>if j=s then 0 - D.G s*D.pRow r s s else D.G j - D.G s*D.pRow r s j
 O:=fun i=>if i=r then D.F s else D.O i
 F:=fun j=>if j=s then D.O r else D.F j
end Fd
theorem A9 {f:Nat->Rat} {s:Nat}:∀{n:Nat},s<n->f7 f n=f7 (fun j=>if j=s then 0 else f j) n+f s
 |0,h=>by omega
 |n+1,h=>by
  simp only [f7]
  by_cases hs:s=n
  ·subst hs
   rw [if_pos rfl,e7 (n:=s) (f:=fun j=>if j=s then 0 else f j) (g:=f) fun m hm=>by rw [if_neg (by omega)]]
   grind
  ·rw [if_neg (show ¬n=s by omega),A9 (f:=f) (s:=s) (n:=n) (by omega)];grind
theorem C5 {f:Nat->Rat} (k:Rat):∀n:Nat,f7 (fun j=>k*f j) n=k*f7 f n
 |0=>by simp only [f7,X0];grind
 |n+1=>by simp only [f7];rw [C5 k n];grind
theorem a0Q {f g:Nat->Rat}:∀n:Nat,f7 (fun j=>f j+g j) n=f7 f n+f7 g n
 |0=>by simp only [f7,X0];grind
 |n+1=>by simp only [f7];rw [a0Q n];grind
theorem u0 {f:Nat->Rat}:∀{n:Nat},(∀ j,j<n->f j=0)->f7 f n=0
 |0,_=>by simp only [f7,X0]
 |n+1,h=>by simp only [f7];rw [u0 fun j hj=>h j (by omega),h n (by omega)];grind
theorem a6S {f:Nat->Rat}:∀{n:Nat},(∀ j,j<n->f j<=0)->f7 f n<=0
 |0,_=>by simp only [f7,X0];grind
 |n+1,h=>by
  simp only [f7]
  have h1:=a6S (f:=f) (n:=n) fun j hj=>h j (by omega)
  have h2:=h n (by omega)
  grind
theorem b78 {f:Nat->Rat} {n s:Nat} (h:∀j,j<n->f j<=0) (hs:s<n) (h0:f s<0):f7 f n<0:=by
 rw [A9 hs]
 have:=a6S (f:=fun j=>if j=s then 0 else f j) (n:=n) fun j hj=>by split;grind;exact h j hj
 grind
theorem b25 {f:Nat->Rat} {n s:Nat} (h:∀j,j<n->0<=f j) (hs:s<n) (h0:0<f s):0<f7 f n:=by
 rw [A9 hs]
 have:=a1Q (f:=fun j=>if j=s then 0 else f j) (n:=n) fun j hj=>by
  by_cases hj2:j=s
  ·simp only [hj2,if_true];grind
  ·simp only [if_neg hj2];exact h j hj
 grind
def Ids (m n:Nat) (D:Fd) (y:Nat->Rat) (c:Rat):Prop:=∀i,i<m->y (D.O i)=c*D.V i - f7 (fun j=>D.A i j*y (D.F j)) n
theorem ae0 {D:Fd} {r s n:Nat} {y:Nat->Rat} (hs:s<n) (f:Nat->Rat) (f':Nat->Rat) (k:Rat) (hf:∀j,j≠s->f' j=f j - k*D.pRow r s j):
 f7 (fun j=>f' j*y ((D.exch r s).F j)) n=f7 (fun j=>if j=s then 0 else f j*y (D.F j)) n - k*f7 (fun j=>if j=s then 0 else D.pRow r s j*y (D.F j)) n+f' s*y (D.O r):=by
 rw [A9 hs]
 have h1:(D.exch r s).F s=D.O r:=by show (if s=s then D.O r else D.F s)=_;rw [if_pos rfl]
 rw [h1]
 have h2:f7 (fun j=>if j=s then 0 else f' j*y ((D.exch r s).F j)) n=f7 (fun j=>(if j=s then 0 else f j*y (D.F j))+(-k)*(if j=s then 0 else D.pRow r s j*y (D.F j))) n:=e7 fun j hj=>by
  by_cases h:j=s
  ·rw [if_pos h,if_pos h,if_pos h];grind
  ·rw [if_neg h,if_neg h,if_neg h,hf j h]
   have:(D.exch r s).F j=D.F j:=by show (if j=s then D.O r else D.F j)=_;rw [if_neg h]
   rw [this];grind
 rw [h2,a0Q,C5];grind
theorem am7 {D:Fd} {r s n:Nat} {y:Nat->Rat} {c:Rat} (hs:s<n) (hp:D.A r s≠0):
 y (D.O r)=c*D.V r - f7 (fun j=>D.A r j*y (D.F j)) n↔y (D.F s)=c*(D.V r / D.A r s) - f7 (fun j=>if j=s then 0 else D.pRow r s j*y (D.F j)) n - 1 / D.A r s*y (D.O r):=by
 have e1:f7 (fun j=>D.A r j*y (D.F j)) n=D.A r s*f7 (fun j=>if j=s then 0 else D.pRow r s j*y (D.F j)) n+D.A r s*y (D.F s):=by
  rw [A9 hs,←C5]
  congr 1
  refine e7 fun j hj=>?_
  by_cases h:j=s
  ·simp only [if_pos h];grind
  ·simp only [if_neg h]
   unfold Fd.pRow
   rw [if_neg h];grind
 rw [e1]
 generalize f7 (fun j=>if j=s then 0 else D.pRow r s j*y (D.F j)) n=R
 generalize y (D.F s)=a
 generalize y (D.O r)=b
 generalize D.V r=v
 generalize D.A r s=p at *
 constructor
 ·intro h;rw [h];grind
 ·intro h;rw [h];grind
theorem aj9 {m n:Nat} {D:Fd} {r s:Nat} {y:Nat->Rat} {c:Rat} (hr:r<m) (hs:s<n) (hp:D.A r s≠0):Ids m n D y c↔Ids m n (D.exch r s) y c:=by
 have hO:(D.exch r s).O r=D.F s:=by show (if r=r then D.F s else D.O r)=_;rw [if_pos rfl]
 have hV:(D.exch r s).V r=D.V r / D.A r s:=by show (if r=r then _ else _)=_;rw [if_pos rfl]
 have hA:∀j,(D.exch r s).A r j=D.pRow r s j:=fun j=>by show (if r=r then _ else _)=_;rw [if_pos rfl]
 have hps:D.pRow r s s=1 / D.A r s:=by unfold Fd.pRow;rw [if_pos rfl]
 have rowr:(y ((D.exch r s).O r)=c*(D.exch r s).V r - f7 (fun j=>(D.exch r s).A r j*y ((D.exch r s).F j)) n)↔y (D.O r)=c*D.V r - f7 (fun j=>D.A r j*y (D.F j)) n:=by
  rw [am7 hs hp,hO,hV]
  have h:=ae0 (D:=D) (r:=r) (y:=y) hs (fun _=>0) ((D.exch r s).A r) (-1) (fun j hj=>by rw [hA];grind)
  rw [h,hA,hps,u0 (f:=fun j=>if j=s then 0 else 0*y (D.F j)) (fun j _=>by split<;>grind)]
  constructor
  ·intro h;rw [h];grind
  ·intro h;rw [h];grind
 have rowi:∀i,i≠r->y (D.O r)=c*D.V r - f7 (fun j=>D.A r j*y (D.F j)) n->
  ((y ((D.exch r s).O i)=c*(D.exch r s).V i - f7 (fun j=>(D.exch r s).A i j*y ((D.exch r s).F j)) n)↔y (D.O i)=c*D.V i - f7 (fun j=>D.A i j*y (D.F j)) n):=fun i hi h0=>by
  rw [am7 hs hp] at h0
  have h1:(D.exch r s).O i=D.O i:=by show (if i=r then _ else _)=_;rw [if_neg hi]
  have h2:(D.exch r s).V i=D.V i - D.A i s*(D.V r / D.A r s):=by show (if i=r then _ else _)=_;rw [if_neg hi]
  have h3:∀j,j≠s->(D.exch r s).A i j=D.A i j - D.A i s*D.pRow r s j:=fun j hj=>by show (if i=r then _ else _)=_;rw [if_neg hi,if_neg hj]
  have h4:(D.exch r s).A i s=0 - D.A i s*D.pRow r s s:=by show (if i=r then _ else _)=_;rw [if_neg hi,if_pos rfl]
  rw [h1,h2,ae0 hs (D.A i) ((D.exch r s).A i) (D.A i s) h3,h4,hps,A9 (f:=fun j=>D.A i j*y (D.F j)) hs,h0]
  constructor
  ·intro h;rw [h];grind
  ·intro h;rw [h];grind
 constructor
 ·intro h i hi
  by_cases hir:i=r
  ·subst hir;exact rowr.2 (h i hi)
  ·exact (rowi i hir (h r hr)).2 (h i hi)
 ·intro h i hi
  have h0:=rowr.1 (h r hr)
  by_cases hir:i=r
  ·subst hir;exact h0
  ·exact (rowi i hir h0).1 (h i hi)
def X3 (n:Nat) (D:Fd) (g0:Nat->Rat) (m:Nat) (z:Rat):Prop:=∀y c,Ids m n D y c->f7 (fun j=>g0 j*y j) n=c*z+f7 (fun j=>D.G j*y (D.F j)) n
theorem aw7 {m n:Nat} {D:Fd} {r s:Nat} {g0:Nat->Rat} {z:Rat} (hr:r<m) (hs:s<n) (hp:D.A r s≠0) (h:X3 n D g0 m z):X3 n (D.exch r s) g0 m (z+D.G s*(D.V r / D.A r s)):=by
 intro y c hy
 have hy:=(aj9 hr hs hp).2 hy
 rw [h y c hy]
 have h0:=(am7 hs hp).1 (hy r hr)
 have hps:D.pRow r s s=1 / D.A r s:=by unfold Fd.pRow;rw [if_pos rfl]
 have h3:∀j,j≠s->(D.exch r s).G j=D.G j - D.G s*D.pRow r s j:=fun j hj=>by show (if j=s then _ else _)=_;rw [if_neg hj]
 have h4:(D.exch r s).G s=0 - D.G s*D.pRow r s s:=by show (if s=s then _ else _)=_;rw [if_pos rfl]
 rw [ae0 hs D.G (D.exch r s).G (D.G s) h3,h4,hps,A9 (f:=fun j=>D.G j*y (D.F j)) hs,h0]
 grind
end
section
def an3 (f:Nat->Nat) (w:Nat):Nat->Option Nat
 |0=>none
 |k+1=>match an3 f w k with
  |some i=>some i
  |none=>if f k=w then some k else none
theorem a5y {f:Nat->Nat} {w:Nat}:∀{k i:Nat},an3 f w k=some i->i<k∧f i=w
 |0,i,h=>by cases h
 |k+1,i,h=>by
  unfold an3 at h
  split at h
  ·rename_i i' hi;injection h with h;subst h;have:=a5y hi;exact ⟨by omega,this.2⟩
  ·split at h
   ·injection h with h;subst h;exact ⟨by omega,by assumption⟩
   ·cases h
theorem a8j {f:Nat->Nat} {w:Nat}:∀{k:Nat},an3 f w k=none->∀i,i<k->f i≠w
 |0,_,i,hi=>by omega
 |k+1,h,i,hi=>by
  unfold an3 at h
  split at h
  ·cases h
  ·rename_i hn
   split at h
   ·cases h
   ·by_cases hik:i=k
    ·subst hik;assumption
    ·exact a8j hn i (by omega)
structure a0n (m n:Nat) (D:Fd):Prop where
 oi:∀i i',i<m->i'<m->D.O i=D.O i'->i=i'
 fi:∀j j',j<n->j'<n->D.F j=D.F j'->j=j'
 of:∀i j,i<m->j<n->D.O i≠D.F j
 all:∀w,w<n+m->(∃ i,i<m∧D.O i=w)∨(∃ j,j<n∧D.F j=w)
 ob:∀i,i<m->D.O i<n+m
 fb:∀j,j<n->D.F j<n+m
theorem a8I {D:Fd} {r s i:Nat}:(D.exch r s).O i=if i=r then D.F s else D.O i:=rfl
theorem a2l {D:Fd} {r s j:Nat}:(D.exch r s).F j=if j=s then D.O r else D.F j:=rfl
theorem ap7 {m n:Nat} {D:Fd} {r s:Nat} (hr:r<m) (hs:s<n) (h:a0n m n D):a0n m n (D.exch r s) where
 oi:=fun i i' hi hi' he=>by
  rw [a8I,a8I] at he
  by_cases h1:i=r<;>by_cases h2:i'=r
  ·omega
  ·rw [if_pos h1,if_neg h2] at he;exact absurd he.symm (h.of i' s hi' hs)
  ·rw [if_neg h1,if_pos h2] at he;exact absurd he (h.of i s hi hs)
  ·rw [if_neg h1,if_neg h2] at he;exact h.oi i i' hi hi' he
 fi:=fun j j' hj hj' he=>by
  rw [a2l,a2l] at he
  by_cases h1:j=s<;>by_cases h2:j'=s
  ·omega
  ·rw [if_pos h1,if_neg h2] at he;exact absurd he (h.of r j' hr hj')
  ·rw [if_neg h1,if_pos h2] at he;exact absurd he.symm (h.of r j hr hj)
  ·rw [if_neg h1,if_neg h2] at he;exact h.fi j j' hj hj' he
 of:=fun i j hi hj he=>by
  rw [a8I,a2l] at he
  by_cases h1:i=r<;>by_cases h2:j=s
  ·rw [if_pos h1,if_pos h2] at he;exact h.of r s hr hs he.symm
  ·rw [if_pos h1,if_neg h2] at he;exact h2 (h.fi s j hs hj he).symm
  ·rw [if_neg h1,if_pos h2] at he;exact h1 (h.oi i r hi hr he)
  ·rw [if_neg h1,if_neg h2] at he;exact h.of i j hi hj he
 all:=fun w hw=>by
  rcases h.all w hw with ⟨i,hi,he⟩|⟨j,hj,he⟩
  ·by_cases h1:i=r
   ·exact .inr ⟨s,hs,by rw [a2l,if_pos rfl,←h1];exact he⟩
   ·exact .inl ⟨i,hi,by rw [a8I,if_neg h1];exact he⟩
  ·by_cases h1:j=s
   ·exact .inl ⟨r,hr,by rw [a8I,if_pos rfl,←h1];exact he⟩
   ·exact .inr ⟨j,hj,by rw [a2l,if_neg h1];exact he⟩
 ob:=fun i hi=>by rw [a8I];split;exact h.fb s hs;exact h.ob i hi
 fb:=fun j hj=>by rw [a2l];split;exact h.ob r hr;exact h.fb j hj
def a0m (m n:Nat) (D:Fd) (c:Rat) (t:Nat->Rat) (w:Nat):Rat:=match an3 D.F w n with
 |some j=>t j
 |none=>match an3 D.O w m with
  |some i=>c*D.V i - f7 (fun j=>D.A i j*t j) n
  |none=>0
theorem a0o {m n:Nat} {D:Fd} (h:a0n m n D) {c:Rat} {t:Nat->Rat} {j:Nat} (hj:j<n):a0m m n D c t (D.F j)=t j:=by
 unfold a0m
 cases hi:an3 D.F (D.F j) n with
 |none=>exact absurd rfl (a8j hi j hj)
 |some i=>obtain ⟨h1,h2⟩:=a5y hi;rw [h.fi i j h1 hj h2]
theorem a6d {m n:Nat} {D:Fd} (h:a0n m n D) {c:Rat} {t:Nat->Rat} {i:Nat} (hi:i<m):a0m m n D c t (D.O i)=c*D.V i - f7 (fun j=>D.A i j*t j) n:=by
 unfold a0m
 cases hj:an3 D.F (D.O i) n with
 |some j=>obtain ⟨h1,h2⟩:=a5y hj;exact absurd h2.symm (h.of i j hi h1)
 |none=>
  cases hk:an3 D.O (D.O i) m with
  |none=>exact absurd rfl (a8j hk i hi)
  |some k=>obtain ⟨h1,h2⟩:=a5y hk;rw [h.oi k i h1 hi h2]
theorem W2 {m n:Nat} {D:Fd} (h:a0n m n D) (c:Rat) (t:Nat->Rat):Ids m n D (a0m m n D c t) c:=fun i hi=>by
 rw [a6d h hi]
 congr 1
 exact e7 fun j hj=>by rw [a0o h hj]
def W0 (f:Nat->Nat) (p:Nat->Bool):Nat->Option Nat
 |0=>none
 |k+1=>match W0 f p k with
  |none=>if p k then some k else none
  |some a=>if p k && decide (f k<f a) then some k else some a
theorem a0U {f:Nat->Nat} {p:Nat->Bool}:∀{k:Nat},W0 f p k=none->∀i,i<k->p i=false
 |0,_,i,hi=>by omega
 |k+1,h,i,hi=>by
  unfold W0 at h
  split at h
  ·rename_i hn
   split at h
   ·cases h
   ·rename_i hp
    by_cases hik:i=k
    ·subst hik;simpa using hp
    ·exact a0U hn i (by omega)
  ·split at h<;>cases h
theorem G6 {f:Nat->Nat} {p:Nat->Bool}:∀{k a:Nat},W0 f p k=some a->a<k∧p a=true∧∀i,i<k->p i=true->f a<=f i
 |0,a,h=>by cases h
 |k+1,a,h=>by
  unfold W0 at h
  split at h
  ·rename_i hn
   split at h
   ·rename_i hp
    injection h with h;subst h
    refine ⟨by omega,hp,fun i hi hpi=>?_⟩
    by_cases hik:i=k
    ·subst hik;omega
    ·rw [a0U hn i (by omega)] at hpi;cases hpi
   ·cases h
  ·rename_i b hb
   obtain ⟨h1,h2,h3⟩:=G6 hb
   split at h
   ·rename_i hc
    injection h with h;subst h
    simp only [lbN,lbI] at hc
    refine ⟨by omega,hc.1,fun i hi hpi=>?_⟩
    by_cases hik:i=k
    ·subst hik;omega
    ·have:=h3 i (by omega) hpi;omega
   ·rename_i hc
    injection h with h;subst h
    refine ⟨by omega,h2,fun i hi hpi=>?_⟩
    by_cases hik:i=k
    ·subst hik
     have:¬(f i<f b):=fun h=>hc (by simp [hpi,h])
     omega
    ·exact h3 i (by omega) hpi
inductive b4y where
 |best
 |row (r:Nat)
 |col (s:Nat)
 |next (r s:Nat)
def a1m (n:Nat) (D:Fd) (r:Nat):b4y:=match W0 D.F (fun j=>decide (D.A r j<0)) n with
 |none=>.row r
 |some s=>.next r s
def a1i (m:Nat) (D:Fd) (s:Nat):b4y:=match W0 D.O (fun i=>decide (0<D.A i s)) m with
 |none=>.col s
 |some r=>.next r s
def B8 (m n:Nat) (D:Fd):b4y:=match W0 D.O (fun i=>decide (D.V i<0)) m,W0 D.F (fun j=>decide (0<D.G j)) n with
 |none,none=>.best
 |some r,none=>a1m n D r
 |none,some s=>a1i m D s
 |some r,some s=>if D.O r<D.F s then a1m n D r else a1i m D s
structure aq9 (m n:Nat) (D:Fd) (r s:Nat):Prop where
 v:D.V r<0
 a:D.A r s<0
 f:∀j,j<n->D.F j<D.F s->0<=D.A r j
 o:∀i,i<m->D.O i<D.O r->0<=D.V i
 g:∀j,j<n->D.F j<D.O r->D.G j<=0
structure at3 (m n:Nat) (D:Fd) (r s:Nat):Prop where
 g:0<D.G s
 a:0<D.A r s
 o:∀i,i<m->D.O i<D.O r->D.A i s<=0
 f:∀j,j<n->D.F j<D.F s->D.G j<=0
 v:∀i,i<m->D.O i<D.F s->0<=D.V i
theorem aI7 {m n:Nat} {D:Fd} {r r' s:Nat} (hr:W0 D.O (fun i=>decide (D.V i<0)) m=some r) (hg:∀j,j<n->D.F j<D.O r->D.G j<=0) (h:a1m n D r=.next r' s):r'<m∧s<n∧aq9 m n D r' s:=by
 obtain ⟨a1,a2,a3⟩:=G6 hr
 unfold a1m at h
 split at h
 ·cases h
 ·rename_i s' hs'
  injection h with h1 h2;subst h1;subst h2
  obtain ⟨b1,b2,b3⟩:=G6 hs'
  refine ⟨a1,b1,lbL a2,lbL b2,fun j hj hlt=>?_,fun i hi hlt=>?_,hg⟩
  ·exact lb4.1 fun h=>by have:=b3 j hj (lbH h);omega
  ·exact lb4.1 fun h=>by have:=a3 i hi (lbH h);omega
theorem aR0 {m n:Nat} {D:Fd} {s s' r:Nat} (hs:W0 D.F (fun j=>decide (0<D.G j)) n=some s) (hv:∀i,i<m->D.O i<D.F s->0<=D.V i) (h:a1i m D s=.next r s'):r<m∧s'<n∧at3 m n D r s':=by
 obtain ⟨a1,a2,a3⟩:=G6 hs
 unfold a1i at h
 split at h
 ·cases h
 ·rename_i r' hr'
  injection h with h1 h2;subst h1;subst h2
  obtain ⟨b1,b2,b3⟩:=G6 hr'
  refine ⟨b1,a1,lbL a2,lbL b2,fun i hi hlt=>?_,fun j hj hlt=>?_,hv⟩
  ·exact lb4.1 fun h=>by have:=b3 i hi (lbH h);omega
  ·exact lb4.1 fun h=>by have:=a3 j hj (lbH h);omega
theorem a5T {m n:Nat} {D:Fd} {r s:Nat} (h:B8 m n D=.next r s):r<m∧s<n∧(aq9 m n D r s∨at3 m n D r s):=by
 unfold B8 at h
 cases hr:W0 D.O (fun i=>decide (D.V i<0)) m with
 |none=>
  have hv:∀i,i<m->0<=D.V i:=fun i hi=>lb4.1 (lbM (a0U hr i hi))
  cases hs:W0 D.F (fun j=>decide (0<D.G j)) n with
  |none=>rw [hr,hs] at h;cases h
  |some s'=>
   rw [hr,hs] at h
   obtain ⟨q1,q2,q3⟩:=aR0 hs (fun i hi _=>hv i hi) h
   exact ⟨q1,q2,.inr q3⟩
 |some r'=>
  obtain ⟨a1,a2,a3⟩:=G6 hr
  cases hs:W0 D.F (fun j=>decide (0<D.G j)) n with
  |none=>
   rw [hr,hs] at h
   obtain ⟨q1,q2,q3⟩:=aI7 (n:=n) hr (fun j hj _=>lb4.1 (lbM (a0U hs j hj))) h
   exact ⟨q1,q2,.inl q3⟩
  |some s'=>
   rw [hr,hs] at h
   obtain ⟨b1,b2,b3⟩:=G6 hs
   simp only at h
   split at h
   ·rename_i hlt
    obtain ⟨q1,q2,q3⟩:=aI7 (n:=n) hr (fun j hj hj2=>lb4.1 fun h=>by have:=b3 j hj (lbH h);omega) h
    exact ⟨q1,q2,.inl q3⟩
   ·rename_i hlt
    obtain ⟨q1,q2,q3⟩:=aR0 hs (fun i hi hi2=>lb4.1 fun h=>by have:=a3 i hi (lbH h);omega) h
    exact ⟨q1,q2,.inr q3⟩
theorem a7D {m n:Nat} {D:Fd} {r s:Nat} (h:aq9 m n D r s∨at3 m n D r s):D.A r s≠0:=by
 rcases h with h|h
 ·have:=h.a;intro h0;rw [h0] at this;exact absurd this (by grind)
 ·have:=h.a;intro h0;rw [h0] at this;exact absurd this (by grind)
theorem b3F {m n:Nat} {D D':Fd} {g0:Nat->Rat} {z z':Rat} (hP:a0n m n D) (hP':a0n m n D') (hI:∀y c,Ids m n D y c↔Ids m n D' y c) (hG:X3 n D g0 m z) (hG':X3 n D' g0 m z')
 {r s r' s' q:Nat} (hr:r<m) (hs:s<n) (hr':r'<m) (hs':s'<n) (h:aq9 m n D r s∨at3 m n D r s) (h':aq9 m n D' r' s'∨at3 m n D' r' s') (hq:D.F s=q) (hq':D'.O r'=q)
 (hrq:D.O r<q) (hsq:D'.F s'<q) (hst:∀w,q<w->((∃ j,j<n∧D.F j=w)↔∃j,j<n∧D'.F j=w)):False:=by
 have hfree:∀j,j<n->q<D.F j->∃k,k<n∧D'.F k=D.F j:=fun j hj hlt=>(hst _ hlt).1 ⟨j,hj,rfl⟩
 -- a vector of the second dictionary
 obtain ⟨c,y,hc,hy,ypos,yq,yfree,hobj⟩:∃(c:Rat) (y:Nat->Rat),(c=0∨c=1)∧Ids m n D' y c∧(∀ w,w<n+m->w<q->0<=y w)∧y q<0∧(∀ j,j<n->q<D.F j->y (D.F j)=0)∧
  ((c=0∧0<f7 (fun j=>g0 j*y j) n)∨(c=1∧f7 (fun j=>g0 j*y j) n=z'∧∀j,j<n->D'.F j<q->D'.G j<=0)):=by
  rcases h' with h'|h'
  ·refine ⟨1,a0m m n D' 1 (fun _=>0),.inr rfl,W2 hP' 1 _,fun w hw hwq=>?_,?_,fun j hj hlt=>?_,.inr ⟨rfl,?_,fun j hj hlt=>h'.g j hj (by rw [hq'];exact hlt)⟩⟩
   ·rcases hP'.all w hw with ⟨i,hi,rfl⟩|⟨j,hj,rfl⟩
    ·rw [a6d hP' hi,u0 fun j _=>by grind]
     have:=h'.o i hi (by rw [hq'];exact hwq)
     grind
    ·rw [a0o hP' hj];grind
   ·rw [← hq',a6d hP' hr',u0 fun j _=>by grind]
    have:=h'.v
    grind
   ·obtain ⟨k,hk,he⟩:=hfree j hj hlt
    rw [← he,a0o hP' hk]
   ·rw [hG' _ 1 (W2 hP' 1 _),u0 fun j hj=>by rw [a0o hP' hj];grind];grind
  ·refine ⟨0,a0m m n D' 0 (fun j=>if j=s' then 1 else 0),.inl rfl,W2 hP' 0 _,fun w hw hwq=>?_,?_,fun j hj hlt=>?_,.inl ⟨rfl,?_⟩⟩
   ·have hone:∀i,f7 (fun j=>D'.A i j*(if j=s' then 1 else 0)) n=D'.A i s':=fun i=>by
     rw [A9 hs',u0 fun j _=>by by_cases hj:j=s'<;>simp [hj]]
     simp;grind
    rcases hP'.all w hw with ⟨i,hi,rfl⟩|⟨j,hj,rfl⟩
    ·rw [a6d hP' hi,hone]
     have:=h'.o i hi (by rw [hq'];exact hwq)
     grind
    ·rw [a0o hP' hj];split<;>grind
   ·have hone:f7 (fun j=>D'.A r' j*(if j=s' then 1 else 0)) n=D'.A r' s':=by
     rw [A9 hs',u0 fun j _=>by by_cases hj:j=s'<;>simp [hj]]
     simp;grind
    rw [← hq',a6d hP' hr',hone]
    have:=h'.a
    grind
   ·obtain ⟨k,hk,he⟩:=hfree j hj hlt
    rw [← he,a0o hP' hk,if_neg]
    intro hks
    rw [hks] at he;omega
   ·rw [hG' _ 0 (W2 hP' 0 _)]
    have:f7 (fun j=>D'.G j*a0m m n D' 0 (fun j=>if j=s' then 1 else 0) (D'.F j)) n=D'.G s':=by
     rw [e7 (g:=fun j=>D'.G j*(if j=s' then 1 else 0)) fun j hj=>by rw [a0o hP' hj],A9 hs',u0 fun j _=>by by_cases hj:j=s'<;>simp [hj]]
     simp;grind
    rw [this]
    have:=h'.g
    grind
 have hy2:=(hI y c).2 hy
 -- the terms of the first dictionary
 have hF:∀j,j<n->(D.F j<q∧0<=y (D.F j))∨(j=s∧y (D.F j)<0)∨y (D.F j)=0:=fun j hj=>by
  rcases Nat.lt_trichotomy (D.F j) q with hlt|heq|hgt
  ·exact .inl ⟨hlt,ypos _ (hP.fb j hj) hlt⟩
  ·refine .inr (.inl ⟨hP.fi j s hj hs (by omega),by rw [heq];exact yq⟩)
  ·exact .inr (.inr (yfree j hj hgt))
 rcases h with h|h
 · -- by its row
   have hid:=hy2 r hr
   have h1:0<f7 (fun j=>D.A r j*y (D.F j)) n:=b25 (s:=s) (fun j hj=>by
    rcases hF j hj with ⟨a,b⟩|⟨rfl,b⟩|b
    ·exact lb1 (h.f j hj (by rw [hq];exact a)) b
    ·have:=h.a;exact Rat.le_of_lt (by have:=lb2 (a:=-D.A r j) (b:=-y (D.F j)) (by grind) (by grind);grind)
    ·rw [b];grind) hs (by
    have:=h.a
    have hyq:y (D.F s)<0:=by rw [hq];exact yq
    have:=lb2 (a:=-D.A r s) (b:=-y (D.F s)) (by grind) (by grind);grind)
   have h2:0<=y (D.O r):=ypos _ (hP.ob r hr) hrq
   have h3:=h.v
   rcases hc with rfl|rfl
   ·grind
   ·grind
 · -- by its goal
   have h1:f7 (fun j=>D.G j*y (D.F j)) n<0:=b78 (s:=s) (fun j hj=>by
    rcases hF j hj with ⟨a,b⟩|⟨rfl,b⟩|b
    ·have:=h.f j hj (by rw [hq];exact a)
     have:=lb1 (a:=-D.G j) (b:=y (D.F j)) (by grind) b
     grind
    ·have:=h.g
     have:=lb2 (a:=D.G j) (b:=-y (D.F j)) (by grind) (by grind)
     grind
    ·rw [b];grind) hs (by
    have:=h.g
    have hyq:y (D.F s)<0:=by rw [hq];exact yq
    have:=lb2 (a:=D.G s) (b:=-y (D.F s)) (by grind) (by grind)
    grind)
   have hg:=hG y c hy2
   rcases hobj with ⟨rfl,ho⟩|⟨rfl,ho,hneg⟩
   ·grind
   · -- the basic point of the first dictionary
     have k1:=hG (a0m m n D 1 (fun _=>0)) 1 (W2 hP 1 _)
     rw [u0 (f:=fun j=>D.G j*a0m m n D 1 (fun _=>0) (D.F j)) fun j hj=>by rw [a0o hP hj];grind] at k1
     have k2:=hG' (a0m m n D 1 (fun _=>0)) 1 ((hI _ 1).1 (W2 hP 1 _))
     have k3:f7 (fun j=>D'.G j*a0m m n D 1 (fun _=>0) (D'.F j)) n<=0:=a6S fun j hj=>by
      have hv:∀w,w<n+m->w<q->0<=a0m m n D 1 (fun _=>0) w:=fun w hw hwq=>by
       rcases hP.all w hw with ⟨i,hi,rfl⟩|⟨k,hk,rfl⟩
       ·rw [a6d hP hi,u0 fun j _=>by grind]
        have:=h.v i hi (by rw [hq];exact hwq)
        grind
       ·rw [a0o hP hk];grind
      rcases Nat.lt_trichotomy (D'.F j) q with hlt|heq|hgt
      ·have a1:=hneg j hj hlt
       have a2:=hv _ (hP'.fb j hj) hlt
       have:=lb1 (a:=-D'.G j) (by grind) a2
       grind
      ·exact absurd (hq'.trans heq.symm) (hP'.of r' j hr' hj)
      ·obtain ⟨k,hk,he⟩:=(hst _ hgt).2 ⟨j,hj,rfl⟩
       rw [← he,a0o hP hk];grind
     grind
end
section
def E8 (m n:Nat) (D:Fd):Option Fd:=match B8 m n D with
 |.next r s=>some (D.exch r s)
 |_=>none
theorem a6H {m n:Nat} {D D':Fd} (h:E8 m n D=some D'):∃r s,B8 m n D=.next r s∧D'=D.exch r s:=by
 unfold E8 at h
 split at h
 ·rename_i r s hs;injection h with h;exact ⟨r,s,hs,h.symm⟩
 ·cases h
theorem ah1 {P:Nat->Nat->Prop}:∀N:Nat,(∀ w,w<N->∃T,∀k,T<=k->¬P k w)->∃T,∀w,w<N->∀k,T<=k->¬P k w
 |0,_=>⟨0,fun w hw=>by omega⟩
 |N+1,h=>by
  obtain ⟨T,hT⟩:=ah1 (P:=P) N fun w hw=>h w (by omega)
  obtain ⟨T',hT'⟩:=h N (by omega)
  refine ⟨max T T',fun w hw k hk=>?_⟩
  by_cases hwn:w=N
  ·subst hwn;exact hT' k (by omega)
  ·exact hT w (by omega) k (by omega)
theorem af2 {p:Nat->Prop}:∀N:Nat,(∃ w,w<N∧p w)->∃q,q<N∧p q∧∀w,q<w->w<N->¬p w
 |0,⟨w,hw,_⟩=>by omega
 |N+1,⟨w,hw,hp⟩=>by
  by_cases h:p N
  ·exact ⟨N,by omega,h,fun w h1 h2=>by omega⟩
  ·have hwN:w≠N:=fun e=>h (e ▸ hp)
   obtain ⟨q,h1,h2,h3⟩:=af2 N ⟨w,by omega,hp⟩
   refine ⟨q,by omega,h2,fun w h4 h5=>?_⟩
   by_cases hw2:w=N
   ·subst hw2;exact h
   ·exact h3 w h4 (by omega)
theorem a2k (p:Nat->Prop) (h:∃n,p n):∃n,p n∧∀m,p m->n<=m:=by
 obtain ⟨n,hn⟩:=h
 induction n using Nat.strongRecOn with
 |_ n ih=>
  by_cases hex:∃m,m<n∧p m
  ·obtain ⟨m,hm,hp⟩:=hex
   exact ih m hm hp
  ·exact ⟨n,hn,fun m hm=>Nat.le_of_not_lt fun h=>hex ⟨m,h,hm⟩⟩
theorem b9P {m n:Nat} {f:Nat->Fd} {g0:Nat->Rat} (hP0:a0n m n (f 0)) (hG0:∃z,X3 n (f 0) g0 m z) (hf:∀k,E8 m n (f k)=some (f (k+1))):False:=by
 have hstep:∀k,∃rs:Nat × Nat,rs.1<m∧rs.2<n∧(aq9 m n (f k) rs.1 rs.2∨at3 m n (f k) rs.1 rs.2)∧f (k+1)=(f k).exch rs.1 rs.2:=fun k=>by
  obtain ⟨r,s,h1,h2⟩:=a6H (hf k)
  obtain ⟨a,b,c⟩:=a5T h1
  exact ⟨(r,s),a,b,c,h2⟩
 obtain ⟨W,hW⟩:=Classical.axiomOfChoice hstep
 have hP:∀k,a0n m n (f k):=fun k=>by
  induction k with
  |zero=>exact hP0
  |succ k ih=>obtain ⟨a,b,_,d⟩:=hW k;rw [d];exact ap7 a b ih
 have hI:∀k y c,Ids m n (f 0) y c↔Ids m n (f k) y c:=fun k=>by
  induction k with
  |zero=>exact fun _ _=>Iff.rfl
  |succ k ih=>obtain ⟨a,b,c',d⟩:=hW k;rw [d];exact fun y c=>(ih y c).trans (aj9 a b (a7D c'))
 have hG:∀k,∃z,X3 n (f k) g0 m z:=fun k=>by
  induction k with
  |zero=>exact hG0
  |succ k ih=>obtain ⟨a,b,c',d⟩:=hW k;obtain ⟨z,hz⟩:=ih;rw [d];exact ⟨_,aw7 a b (a7D c') hz⟩
 let E:Nat->Nat:=fun k=>(f k).F (W k).2
 let L:Nat->Nat:=fun k=>(f k).O (W k).1
 have hE:∀k,E k<n+m:=fun k=>(hP k).fb _ (hW k).2.1
 have hL:∀k,L k<n+m:=fun k=>(hP k).ob _ (hW k).1
 have hEL:∀k,L k≠E k:=fun k=>(hP k).of _ _ (hW k).1 (hW k).2.1
 let fre:Nat->Nat->Prop:=fun k w=>∃j,j<n∧(f k).F j=w
 have hfre:∀k w,w≠E k->w≠L k->(fre (k+1) w↔fre k w):=fun k w h1 h2=>by
  obtain ⟨a,b,_,d⟩:=hW k
  show (∃ j,j<n∧(f (k+1)).F j=w)↔∃j,j<n∧(f k).F j=w
  rw [d]
  constructor
  ·rintro ⟨j,hj,he⟩
   rw [a2l] at he
   by_cases hjs:j=(W k).2
   ·rw [if_pos hjs] at he;exact absurd he.symm h2
   ·rw [if_neg hjs] at he;exact ⟨j,hj,he⟩
  ·rintro ⟨j,hj,he⟩
   have hjs:j≠(W k).2:=fun h=>h1 (by rw [← he,h])
   exact ⟨j,hj,by rw [a2l,if_neg hjs];exact he⟩
 have hin:∀k,fre k (E k):=fun k=>⟨_,(hW k).2.1,rfl⟩
 have hout:∀k,¬fre k (L k):=fun k=>by rintro ⟨j,hj,he⟩;exact (hP k).of _ _ (hW k).1 hj he.symm
 have hin2:∀k,fre (k+1) (L k):=fun k=>by
  obtain ⟨a,b,_,d⟩:=hW k
  show ∃j,j<n∧(f (k+1)).F j=L k
  rw [d];exact ⟨_,b,by rw [a2l,if_pos rfl]⟩
 have hout2:∀k,¬fre (k+1) (E k):=fun k=>by
  obtain ⟨a,b,_,d⟩:=hW k
  show ¬∃j,j<n∧(f (k+1)).F j=E k
  rw [d]
  rintro ⟨j,hj,he⟩
  rw [a2l] at he
  by_cases hjs:j=(W k).2
  ·rw [if_pos hjs] at he;exact hEL k he
  ·rw [if_neg hjs] at he;exact hjs ((hP k).fi _ _ hj b he)
 let mv:Nat->Nat->Prop:=fun k w=>E k=w∨L k=w
 obtain ⟨q,hqN,hio,hmax⟩:=af2 (p:=fun w=>∀T,∃k,T<=k∧mv k w) (n+m) (as7 fun hno=>by
  have h1:∀w,w<n+m->∃T,∀k,T<=k->¬mv k w:=fun w hw=>as7 fun h=>hno ⟨w,hw,fun T=>as7 fun h'=>h ⟨T,fun k hk hm=>h' ⟨k,hk,hm⟩⟩⟩
  obtain ⟨T,hT⟩:=ah1 (P:=mv) _ h1
  exact hT _ (hE T) T (lbR _) (.inl rfl))
 obtain ⟨T,hT⟩:∃T,∀w,q<w->∀k,T<=k->¬mv k w:=by
  obtain ⟨T,hT⟩:=ah1 (P:=fun k w=>q<w∧mv k w) (n+m) fun w hw=>by
   by_cases hqw:q<w
   ·have:=hmax w hqw hw
    obtain ⟨T,hT⟩:=Classical.not_forall.1 this
    exact ⟨T,fun k hk ⟨_,hm⟩=>hT ⟨k,hk,hm⟩⟩
   ·exact ⟨0,fun k _ ⟨h,_⟩=>hqw h⟩
  refine ⟨T,fun w hqw k hk hm=>?_⟩
  have hw:w<n+m:=by rcases hm with hm|hm<;>rw [← hm];exact hE k;exact hL k
  exact hT w hw k hk ⟨hqw,hm⟩
 have hEq:∀k,T<=k->E k<=q:=fun k hk=>Nat.le_of_not_lt fun h=>hT _ h k hk (.inl rfl)
 have hLq:∀k,T<=k->L k<=q:=fun k hk=>Nat.le_of_not_lt fun h=>hT _ h k hk (.inr rfl)
 have hconst:∀w,q<w->∀d,fre (T+d) w↔fre T w:=fun w hw d=>by
  induction d with
  |zero=>exact Iff.rfl
  |succ d ih=>
   have h1:=hEq (T+d) (by omega)
   have h2:=hLq (T+d) (by omega)
   exact (hfre (T+d) w (by omega) (by omega)).trans ih
 have hsame:∀w,q<w->∀t u,T<=t->T<=u->(fre t w↔fre u w):=fun w hw t u ht hu=>by
  have h1:=hconst w hw (t - T)
  have h2:=hconst w hw (u - T)
  rw [show T+(t - T)=t by omega] at h1
  rw [show T+(u - T)=u by omega] at h2
  exact h1.trans h2.symm
 -- q enters at some time, and leaves at some time
 have hnext:∀k1,T<=k1->mv k1 q->∃k2,T<=k2∧mv k2 q∧(fre k2 q↔fre (k1+1) q):=fun k1 h1 _=>by
  obtain ⟨k2,⟨h2,h3⟩,hleast⟩:=a2k (fun k=>k1+1<=k∧mv k q) (hio (k1+1))
  refine ⟨k2,by omega,h3,?_⟩
  have key:∀d,k1+1+d<=k2->(fre (k1+1+d) q↔fre (k1+1) q):=fun d=>by
   induction d with
   |zero=>exact fun _=>Iff.rfl
   |succ d ih=>
    intro hd
    have hnm:¬mv (k1+1+d) q:=fun h=>by have:=hleast (k1+1+d) ⟨by omega,h⟩;omega
    exact (hfre (k1+1+d) q (fun h=>hnm (.inl h.symm)) (fun h=>hnm (.inr h.symm))).trans (ih (by omega))
  have:=key (k2 - (k1+1)) (by omega)
  rwa [show k1+1+(k2 - (k1+1))=k2 by omega] at this
 have hboth:∃t u,T<=t∧T<=u∧E t=q∧L u=q:=by
  obtain ⟨k1,h1,hm1⟩:=hio T
  obtain ⟨k2,h2,hm2,hs⟩:=hnext k1 h1 hm1
  rcases hm1 with hm1|hm1
  ·rcases hm2 with hm2|hm2
   ·have a:=hin k2
    rw [hm2] at a
    have b:=hout2 k1
    rw [hm1] at b
    exact absurd (hs.1 a) b
   ·exact ⟨k1,k2,h1,h2,hm1,hm2⟩
  ·rcases hm2 with hm2|hm2
   ·exact ⟨k2,k1,h2,h1,hm2,hm1⟩
   ·have a:=hout k2
    rw [hm2] at a
    have b:=hin2 k1
    rw [hm1] at b
    exact absurd (hs.2 b) a
 obtain ⟨t,u,ht,hu,het,hlu⟩:=hboth
 obtain ⟨z,hz⟩:=hG t
 obtain ⟨z',hz'⟩:=hG u
 obtain ⟨a1,a2,a3,_⟩:=hW t
 obtain ⟨b1,b2,b3,_⟩:=hW u
 have hl:L t<q:=by have:=hLq t ht;have:=hEL t;omega
 have he:E u<q:=by have:=hEq u hu;have:=hEL u;omega
 exact b3F (hP t) (hP u) (fun y c=>(hI t y c).symm.trans (hI u y c)) hz hz' a1 a2 b1 b2 a3 b3 het hlu hl he (fun w hw=>hsame w hw t u ht hu)
def itS (m n:Nat):Nat->Fd->Option Fd
 |0,D=>some D
 |k+1,D=>match E8 m n D with
  |none=>none
  |some D'=>itS m n k D'
theorem a02 {m n:Nat}:∀(k:Nat) (D:Fd),itS m n (k+1) D=(itS m n k D).bind (E8 m n)
 |0,D=>by
  show (match E8 m n D with|none=>none|some D'=>some D')=E8 m n D
  cases E8 m n D<;>rfl
 |k+1,D=>by
  show (match E8 m n D with|none=>none|some D'=>itS m n (k+1) D')=(match E8 m n D with|none=>none|some D'=>itS m n k D').bind (E8 m n)
  cases E8 m n D with
  |none=>rfl
  |some D'=>exact a02 k D'
theorem b8M {m n:Nat} {D:Fd} {g0:Nat->Rat} (hP:a0n m n D) (hG:∃z,X3 n D g0 m z):∃k,itS m n k D=none:=as7 fun h=>by
 have h1:∀k,∃D',itS m n k D=some D':=fun k=>by
  cases hk:itS m n k D with
  |none=>exact absurd ⟨k,hk⟩ h
  |some D'=>exact ⟨D',rfl⟩
 obtain ⟨f,hf⟩:=Classical.axiomOfChoice h1
 have hf:∀k,itS m n k D=some (f k):=hf
 have h0:f 0=D:=by have:=hf 0;injection this with this;exact this.symm
 refine b9P (f:=f) (g0:=g0) (by rw [h0];exact hP) (by rw [h0];exact hG) fun k=>?_
 have h2:=a02 (m:=m) (n:=n) k D
 rw [hf k,hf (k+1)] at h2
 exact h2.symm
noncomputable def a91 (m n:Nat) (D:Fd):Nat:=Classical.epsilon fun k=>itS m n k D=none∧∀j,itS m n j D=none->k<=j
theorem b09 {m n:Nat} {D D':Fd} (h:∃k,itS m n k D=none) (hn:E8 m n D=some D'):a91 m n D'<a91 m n D:=by
 have hD:=Classical.epsilon_spec (a2k _ h)
 have h':∃k,itS m n k D'=none:=by
  obtain ⟨k,hk⟩:=h
  cases k with
  |zero=>cases hk
  |succ k=>
   have hk:(match E8 m n D with|none=>none|some D'=>itS m n k D')=none:=hk
   rw [hn] at hk;exact ⟨k,hk⟩
 have hD':=Classical.epsilon_spec (a2k _ h')
 have e:a91 m n D=Classical.epsilon fun k=>itS m n k D=none∧∀j,itS m n j D=none->k<=j:=rfl
 have e':a91 m n D'=Classical.epsilon fun k=>itS m n k D'=none∧∀j,itS m n j D'=none->k<=j:=rfl
 rw [← e] at hD
 rw [← e'] at hD'
 obtain ⟨a1,a2⟩:=hD
 obtain ⟨b1,b2⟩:=hD'
 generalize a91 m n D=k at a1 a2
 cases k with
 |zero=>cases a1
 |succ k=>
  have a1:(match E8 m n D with|none=>none|some D'=>itS m n k D')=none:=a1
  rw [hn] at a1
  have:=b2 k a1
  omega
end
section
structure EqI where
 co:Nat->Int
 rhs:Int
def a7W (k:Nat) (e:EqI) (u:Nat->Rat):Prop:=f7 (fun l=>((e.co l:Int):Rat)*u l) (k+1)=((e.rhs:Int):Rat)
theorem b6I {f g:Nat->Rat} (a b:Rat) (n:Nat):f7 (fun j=>a*f j - b*g j) n=a*f7 f n - b*f7 g n:=by
 rw [← C5 a,←C5 b]
 have:f7 (fun j=>a*f j - b*g j) n=f7 (fun j=>a*f j+(-1)*(b*g j)) n:=e7 fun j _=>by grind
 rw [this,a0Q,C5 (-1)];grind
def ag1 (k:Nat) (e0 e:EqI):EqI:=⟨fun l=>e0.co (k+1)*e.co l - e.co (k+1)*e0.co l,e0.co (k+1)*e.rhs - e.co (k+1)*e0.rhs⟩
theorem aP7 {k:Nat} {e0 e:EqI} {u:Nat->Rat}:f7 (fun l=>(((ag1 k e0 e).co l:Int):Rat)*u l) (k+1)=
 ((e0.co (k+1):Int):Rat)*f7 (fun l=>((e.co l:Int):Rat)*u l) (k+1) - ((e.co (k+1):Int):Rat)*f7 (fun l=>((e0.co l:Int):Rat)*u l) (k+1):=by
 rw [← b6I]
 refine e7 fun l _=>?_
 unfold ag1
 simp only
 rw [Rat.intCast_sub,Rat.intCast_mul,Rat.intCast_mul];grind
theorem aQ1 {k:Nat} {e0 e:EqI}:(((ag1 k e0 e).rhs:Int):Rat)=((e0.co (k+1):Int):Rat)*((e.rhs:Int):Rat) - ((e.co (k+1):Int):Rat)*((e0.rhs:Int):Rat):=by
 unfold ag1
 simp only
 rw [Rat.intCast_sub,Rat.intCast_mul,Rat.intCast_mul]
theorem b7A {k:Nat} {e0 e:EqI} {s:Nat} (h0:(∀ l,l<=k+1->bl (e0.co l)<=s)∧bl e0.rhs<=s) (h:(∀ l,l<=k+1->bl (e.co l)<=s)∧bl e.rhs<=s):(∀ l,l<=k->bl ((ag1 k e0 e).co l)<=2*s+1)∧bl (ag1 k e0 e).rhs<=2*s+1:=by
 have key:∀a b c d:Int,bl a<=s->bl b<=s->bl c<=s->bl d<=s->bl (a*b - c*d)<=2*s+1:=fun a b c d ha hb hc hd=>by
  have h1:=E9 a b
  have h2:=E9 c d
  have h3:=a7Z (a*b) (-(c*d))
  rw [a2h,←Int.sub_eq_add_neg] at h3
  omega
 exact ⟨fun l hl=>key _ _ _ _ (h0.1 _ (by omega)) (h.1 _ (by omega)) (h.1 _ (by omega)) (h0.1 _ (by omega)),key _ _ _ _ (h0.1 _ (by omega)) h.2 (h.1 _ (by omega)) h0.2⟩
theorem a6s:∀(k s:Nat) (E:List EqI) (u:Nat->Rat),(∀ e ∈ E,(∀ l,l<=k->bl (e.co l)<=s)∧bl e.rhs<=s)->(∀ e ∈ E,a7W k e u)->(∀ u',(∀ e ∈ E,a7W k e u')->u' 0=u 0)->rl (u 0)<=2 ^ k*(s+1)
 |0,s,E,u,hb,hu,hq=>by
  by_cases hex:∃e ∈ E,e.co 0≠0
  ·obtain ⟨e,he,hc⟩:=hex
   have h1:((0:Int):Rat)+((e.co 0:Int):Rat)*u 0=((e.rhs:Int):Rat):=hu e he
   have hne:((e.co 0:Int):Rat)≠0:=fun h=>hc (by exact_mod_cast h)
   have h2:u 0=Rat.divInt e.rhs (e.co 0):=by
    rw [Rat.divInt_eq_div,←h1]
    have:((0:Int):Rat)=0:=rfl
    rw [this];grind
   rw [h2]
   have h3:=(hb e he).1 0 (lbR _)
   have h4:=(hb e he).2
   have:=Q4 (p:=e.rhs) (q:=e.co 0) hc
   omega
  ·have hz:∀e ∈ E,e.co 0=0:=fun e he=>as7 fun h=>hex ⟨e,he,h⟩
   have:=hq (fun _=>u 0+1) fun e he=>by
    have h1:((0:Int):Rat)+((e.co 0:Int):Rat)*u 0=((e.rhs:Int):Rat):=hu e he
    show ((0:Int):Rat)+((e.co 0:Int):Rat)*(u 0+1)=((e.rhs:Int):Rat)
    rw [← h1,hz e he]
    have:((0:Int):Rat)=0:=rfl
    rw [this];grind
   grind
 |k+1,s,E,u,hb,hu,hq=>by
  have hlast:∀(e:EqI) (v:Nat->Rat),f7 (fun l=>((e.co l:Int):Rat)*v l) (k+1+1)=f7 (fun l=>((e.co l:Int):Rat)*v l) (k+1)+((e.co (k+1):Int):Rat)*v (k+1):=fun e v=>rfl
  by_cases hex:∃e ∈ E,e.co (k+1)≠0
  ·obtain ⟨e0,he0,hc⟩:=hex
   have hne:((e0.co (k+1):Int):Rat)≠0:=fun h=>hc (by exact_mod_cast h)
   have ih:=a6s k (2*s+1) (E.map (ag1 k e0)) u (fun e he=>by
    obtain ⟨e1,he1,rfl⟩:=lbx.1 he
    exact b7A (hb e0 he0) (hb e1 he1)) (fun e he=>by
    obtain ⟨e1,he1,rfl⟩:=lbx.1 he
    have a1:f7 _ (k+1+1)=_:=hu e0 he0
    have a2:f7 _ (k+1+1)=_:=hu e1 he1
    rw [hlast] at a1 a2
    unfold a7W
    rw [aP7,aQ1,←a1,←a2];grind) (fun u' hu'=>by
    have hnew:=hq (fun l=>if l=k+1 then (((e0.rhs:Int):Rat) - f7 (fun l=>((e0.co l:Int):Rat)*u' l) (k+1)) / ((e0.co (k+1):Int):Rat) else u' l) fun e he=>by
     have b1:=hu' _ (lbx.2 ⟨e,he,rfl⟩)
     unfold a7W at b1 ⊢
     rw [aP7,aQ1] at b1
     rw [hlast,e7 (g:=fun l=>((e.co l:Int):Rat)*u' l) fun l hl=>by rw [if_neg (by omega)],if_pos rfl]
     generalize f7 (fun l=>((e.co l:Int):Rat)*u' l) (k+1)=X at *
     generalize f7 (fun l=>((e0.co l:Int):Rat)*u' l) (k+1)=Y at *
     generalize ((e0.co (k+1):Int):Rat)=c at *
     generalize ((e.co (k+1):Int):Rat)=d at *
     generalize ((e.rhs:Int):Rat)=r at *
     generalize ((e0.rhs:Int):Rat)=r0 at *
     have h1:c*(X+d*((r0 - Y) / c))=c*r:=by
      have:c*((r0 - Y) / c)=r0 - Y:=by grind
      have h2:c*(X+d*((r0 - Y) / c))=c*X+d*(c*((r0 - Y) / c)):=by grind
      rw [h2,this];grind
     grind
    rw [if_neg (by omega)] at hnew
    exact hnew)
   have e1:2 ^ (k+1)*(s+1)=2 ^ k*(2*s+1+1):=by rw [Nat.pow_succ,Nat.mul_assoc,show 2*(s+1)=2*s+1+1 by omega]
   rw [e1];exact ih
  ·have hz:∀e ∈ E,e.co (k+1)=0:=fun e he=>as7 fun h=>hex ⟨e,he,h⟩
   have hiff:∀e ∈ E,∀v,a7W (k+1) e v↔a7W k e v:=fun e he v=>by
    unfold a7W
    rw [hlast,hz e he]
    have:((0:Int):Rat)=0:=rfl
    rw [this]
    constructor
    ·intro h;rw [← h];grind
    ·intro h;rw [← h];grind
   have ih:=a6s k s E u (fun e he=>⟨fun l hl=>(hb e he).1 l (by omega),(hb e he).2⟩) (fun e he=>(hiff e he u).1 (hu e he)) fun u' hu'=>hq u' fun e he=>(hiff e he u').2 (hu' e he)
   have:2 ^ k<=2 ^ (k+1):=Nat.pow_le_pow_right (by decide) (by omega)
   exact lbS ih (lbU _ this)
end
section
structure b00 (m n s:Nat) (D:Fd):Prop where
 o:∀i,i<m->D.O i=n+i
 f:∀j,j<n->D.F j=j
 w:∀i,i<m->∃(q v:Int) (a:Nat->Int),q≠0∧bl q<=s∧bl v<=s∧(∀ j,j<n->bl (a j)<=s)∧((q:Int):Rat)*D.V i=((v:Int):Rat)∧∀j,j<n->((q:Int):Rat)*D.A i j=((a j:Int):Rat)
theorem aa1 (x:Int):bl (-x)=bl x:=by unfold bl;rw [Int.natAbs_neg]
theorem b5N (x y:Int):bl (x - y)<=max (bl x) (bl y)+1:=by
 have:=a7Z x (-y)
 rw [aa1] at this
 rw [Int.sub_eq_add_neg];exact this
theorem av6 {f:Nat->Rat}:∀n:Nat,f7 f (n+1)=f 0+f7 (fun l=>f (l+1)) n
 |0=>by simp only [f7];grind
 |n+1=>by
  have ih:=av6 (f:=f) n
  have e:f7 f (n+1+1)=f7 f (n+1)+f (n+1):=rfl
  rw [e,ih]
  simp only [f7];grind
def b3c (q0:Int) (b:Nat->Int) (r:Int):EqI:=⟨fun l=>match l with|0=>q0|l+1=>b l,r⟩
theorem ak9 {n:Nat} {q0 r:Int} {b:Nat->Int} {u:Nat->Rat}:a7W n (b3c q0 b r) u↔((q0:Int):Rat)*u 0+f7 (fun l=>((b l:Int):Rat)*u (l+1)) n=((r:Int):Rat):=by
 unfold a7W b3c
 simp only
 rw [av6]
theorem aj4 {n v:Nat} {u:Nat->Rat} (hv:v<n):f7 (fun l=>(((if l=v then (1:Int) else 0):Int):Rat)*u l) n=u v:=by
 rw [A9 hv,u0 fun j hj=>?_]
 ·simp only [if_true]
  have:((1:Int):Rat)=1:=rfl
  rw [this];grind
 ·by_cases h:j=v
  ·simp only [h,if_true]
  ·simp only [if_neg h]
   have:((0:Int):Rat)=0:=rfl
   rw [this];grind
theorem bi7 {s:Nat} (hs:1<=s) (b:Prop) [Decidable b]:bl (if b then (1:Int) else 0)<=s:=by
 split
 ·exact lbS (s9 (by decide) (by decide)) hs
 ·exact lbS (s9 (by decide) (by decide)) hs
theorem aM8 {m n s:Nat} {D0 D:Fd} (h0:b00 m n s D0) (hs:1<=s) (hP:a0n m n D) (hI:∀y c,Ids m n D0 y c↔Ids m n D y c) {c:Int} {t:Nat->Int} (hc:c=0∨c=1) (ht:∀j,t j=0∨t j=1)
 {q r:Int} {b:Nat->Int} {φ:Rat} (hq:q≠0) (hqs:bl q<=s) (hr:bl r<=s) (hb:∀l,l<n->bl (b l)<=s)
 (hφ:((q:Int):Rat)*φ=((r:Int):Rat)*((c:Int):Rat)+f7 (fun l=>((b l:Int):Rat)*a0m m n D ((c:Int):Rat) (fun j=>((t j:Int):Rat)) l) n):rl φ<=2 ^ n*(s+2):=by
 obtain ⟨y,hy⟩:∃y,y=a0m m n D ((c:Int):Rat) (fun j=>((t j:Int):Rat)):=⟨_,rfl⟩
 rw [← hy] at hφ
 have hyD:Ids m n D y ((c:Int):Rat):=by rw [hy];exact W2 hP _ _
 have hy0:=(hI y _).2 hyD
 have hyF:∀j,j<n->y (D.F j)=((t j:Int):Rat):=fun j hj=>by rw [hy];exact a0o hP hj
 -- the equations of the columns
 have eqs:∀j,j<n->∃e:EqI,(∀ l,l<=n->bl (e.co l)<=s+1)∧bl e.rhs<=s+1∧
  ∀(y' u':Nat->Rat),(∀ l,l<n->u' (l+1)=y' l)->Ids m n D0 y' ((c:Int):Rat)->(a7W n e u'↔y' (D.F j)=((t j:Int):Rat)):=by
  intro j hj
  have htb:bl (t j)<=1:=by rcases ht j with h|h<;>rw [h]<;>exact s9 (by decide) (by decide)
  by_cases hv:D.F j<n
  ·refine ⟨b3c 0 (fun l=>if l=D.F j then 1 else 0) (t j),fun l hl=>?_,lbS htb (by omega),fun y' u' hu hy'=>?_⟩
   ·cases l with
    |zero=>exact lbS (s9 (x:=0) (by decide) (by decide)) (by omega)
    |succ l=>exact bi7 (by omega) _
   ·rw [ak9]
    rw [e7 (g:=fun l=>(((if l=D.F j then (1:Int) else 0):Int):Rat)*y' l) fun l hl=>by rw [hu l hl],aj4 hv]
    have:((0:Int):Rat)=0:=rfl
    rw [this]
    constructor<;>intro h<;>grind
  ·have hb1:=hP.fb j hj
   obtain ⟨i,hi⟩:∃i,D.F j=n+i:=⟨D.F j - n,by omega⟩
   have him:i<m:=by omega
   obtain ⟨qi,vi,ai,q1,q2,q3,q4,q5,q6⟩:=h0.w i him
   have hrhs:bl (vi*c - qi*t j)<=s+1:=by
    have h1:bl (vi*c)<=s:=by rcases hc with h|h<;>rw [h]<;>simp<;>first|exact q3|exact lbS (s9 (x:=0) (by decide) (by decide)) hs
    have h2:bl (qi*t j)<=s:=by rcases ht j with h|h<;>rw [h]<;>simp<;>first|exact q2|exact lbS (s9 (x:=0) (by decide) (by decide)) hs
    have:=b5N (vi*c) (qi*t j)
    omega
   refine ⟨b3c 0 ai (vi*c - qi*t j),fun l hl=>?_,hrhs,fun y' u' hu hy'=>?_⟩
   ·cases l with
    |zero=>exact lbS (s9 (x:=0) (by decide) (by decide)) (by omega)
    |succ l=>exact lbS (q4 l (by omega)) (by omega)
   ·rw [ak9,hi]
    have hid:=hy' i him
    rw [h0.o i him] at hid
    have hsum:f7 (fun l=>((ai l:Int):Rat)*u' (l+1)) n=((qi:Int):Rat)*f7 (fun j=>D0.A i j*y' (D0.F j)) n:=by
     rw [← C5]
     refine e7 fun l hl=>?_
     rw [hu l hl,h0.f l hl,←q6 l hl];grind
    rw [hsum]
    have e0:((0:Int):Rat)=0:=rfl
    have e1:((vi*c - qi*t j:Int):Rat)=((vi:Int):Rat)*((c:Int):Rat) - ((qi:Int):Rat)*((t j:Int):Rat):=by push_cast;rfl
    rw [e0,e1,←q5]
    have hqn:((qi:Int):Rat)≠0:=by intro h;exact q1 (by exact_mod_cast h)
    constructor
    ·intro h
     have:((qi:Int):Rat)*(y' (n+i) - ((t j:Int):Rat))=0:=by rw [hid];grind
     have:=(Rat.mul_eq_zero.1 this).resolve_left hqn
     grind
    ·intro h
     rw [← h,hid];grind
 -- the equation of the value
 obtain ⟨E,hE⟩:∃E:Nat->EqI,∀j,(hj:j<n)->E j=Classical.choose (eqs j hj):=⟨fun j=>if hj:j<n then Classical.choose (eqs j hj) else ⟨fun _=>0,0⟩,fun j hj=>by simp [hj]⟩
 have hEs:∀j,j<n->(∀ l,l<=n->bl ((E j).co l)<=s+1)∧bl (E j).rhs<=s+1∧
  ∀(y' u':Nat->Rat),(∀ l,l<n->u' (l+1)=y' l)->Ids m n D0 y' ((c:Int):Rat)->(a7W n (E j) u'↔y' (D.F j)=((t j:Int):Rat)):=fun j hj=>by
  rw [hE j hj];exact Classical.choose_spec (eqs j hj)
 let e0:EqI:=b3c q (fun l=>0 - b l) (r*c)
 have he0:∀(y' u':Nat->Rat),(∀ l,l<n->u' (l+1)=y' l)->(a7W n e0 u'↔((q:Int):Rat)*u' 0=((r:Int):Rat)*((c:Int):Rat)+f7 (fun l=>((b l:Int):Rat)*y' l) n):=by
  intro y' u' hu
  show a7W n (b3c q (fun l=>0 - b l) (r*c)) u'↔_
  rw [ak9]
  have e1:f7 (fun l=>(((0 - b l:Int)):Rat)*u' (l+1)) n=0 - f7 (fun l=>((b l:Int):Rat)*y' l) n:=by
   have:f7 (fun l=>(((0 - b l:Int)):Rat)*u' (l+1)) n=f7 (fun l=>(-1:Rat)*(((b l:Int):Rat)*y' l)) n:=e7 fun l hl=>by
    rw [hu l hl];push_cast;grind
   rw [this,C5];grind
  rw [e1]
  have e2:((r*c:Int):Rat)=((r:Int):Rat)*((c:Int):Rat):=by push_cast;rfl
  rw [e2]
  constructor<;>intro h<;>grind
 let u:Nat->Rat:=fun l=>match l with|0=>φ|l+1=>y l
 have hu:∀l,l<n->u (l+1)=y l:=fun l _=>rfl
 have key:=a6s n (s+1) (e0::(List.range n).map E) u (fun e he=>?_) (fun e he=>?_) (fun u' hu'=>?_)
 ·exact key
 ·rcases lbA.1 he with rfl|he
  ·refine ⟨fun l hl=>?_,?_⟩
   ·cases l with
    |zero=>exact lbS hqs (by omega)
    |succ l=>
     show bl (0 - b l)<=s+1
     have:=hb l (by omega)
     have h1:=b5N 0 (b l)
     have h2:=s9 (x:=0) (by decide) (by decide)
     omega
   ·show bl (r*c)<=s+1
    rcases hc with h|h<;>rw [h]<;>simp
    ·exact lbS (s9 (x:=0) (by decide) (by decide)) (by omega)
    ·omega
  ·obtain ⟨j,hj,rfl⟩:=lbx.1 he
   have:=hEs j (lbB.1 hj)
   exact ⟨this.1,this.2.1⟩
 ·rcases lbA.1 he with rfl|he
  ·exact (he0 y u hu).2 hφ
  ·obtain ⟨j,hj,rfl⟩:=lbx.1 he
   have hj:=lbB.1 hj
   exact ((hEs j hj).2.2 y u hu hy0).2 (hyF j hj)
 ·let y':Nat->Rat:=fun w=>if w<n then u' (w+1) else ((c:Int):Rat)*D0.V (w - n) - f7 (fun j=>D0.A (w - n) j*u' (j+1)) n
  have huy:∀l,l<n->u' (l+1)=y' l:=fun l hl=>by show _=if l<n then _ else _;rw [if_pos hl]
  have hy':Ids m n D0 y' ((c:Int):Rat):=by
   intro i hi
   rw [h0.o i hi]
   show (if n+i<n then _ else _)=_
   rw [if_neg (by omega),show n+i - n=i by omega]
   congr 1
   refine e7 fun j hj=>?_
   rw [h0.f j hj,huy j hj]
  have hyD':=(hI y' _).1 hy'
  have hF':∀j,j<n->y' (D.F j)=((t j:Int):Rat):=fun j hj=>((hEs j hj).2.2 y' u' huy hy').1 (hu' _ (List.mem_cons_of_mem _ (lbx.2 ⟨j,lbB.2 hj,rfl⟩)))
  have same:∀w,w<n+m->y' w=y w:=by
   intro w hw
   rcases hP.all w hw with ⟨i,hi,rfl⟩|⟨j,hj,rfl⟩
   ·rw [hyD' i hi,hyD i hi]
    congr 1
    exact e7 fun j hj=>by rw [hF' j hj,hyF j hj]
   ·rw [hF' j hj,hyF j hj]
  have h1:=(he0 y' u' huy).1 (hu' e0 (List.mem_cons_self))
  have h2:f7 (fun l=>((b l:Int):Rat)*y' l) n=f7 (fun l=>((b l:Int):Rat)*y l) n:=e7 fun l hl=>by rw [same l (by omega)]
  rw [h2,←hφ] at h1
  have hqn:((q:Int):Rat)≠0:=by intro h;exact hq (by exact_mod_cast h)
  show u' 0=φ
  have h3:((q:Int):Rat)*(u' 0 - φ)=0:=by grind
  have:=(Rat.mul_eq_zero.1 h3).resolve_left hqn
  grind
end
section
theorem b7j {m n s:Nat} {D0 D:Fd} (h0:b00 m n s D0) (hs:1<=s) (hP:a0n m n D) (hI:∀y c,Ids m n D0 y c↔Ids m n D y c) {g0:Nat->Rat} {z:Rat} (hG:X3 n D g0 m z) {q:Int} {b:Nat->Int} (hq:q≠0) (hqs:bl q<=s) (hb:∀l,l<n->bl (b l)<=s) (hg:∀l,l<n->((q:Int):Rat)*g0 l=((b l:Int):Rat)) {j:Nat} (hj:j<n):rl (D.G j)<=2 ^ n*(s+2):=by
 have h1:=hG _ _ (W2 hP ((0:Int):Rat) (fun l=>(((if l=j then (1:Int) else 0):Int):Rat)))
 have e:f7 (fun l=>D.G l*a0m m n D ((0:Int):Rat) (fun l=>(((if l=j then (1:Int) else 0):Int):Rat)) (D.F l)) n=D.G j:=by
  rw [e7 (g:=fun l=>(((if l=j then (1:Int) else 0):Int):Rat)*D.G l) fun l hl=>by rw [a0o hP hl];grind,aj4 (u:=fun l=>D.G l) hj]
 rw [e] at h1
 refine aM8 h0 hs hP hI (c:=0) (t:=fun l=>if l=j then 1 else 0) (.inl rfl) (fun l=>by by_cases h:l=j;exact .inr (if_pos h);exact .inl (if_neg h)) (q:=q) (r:=0) (b:=b) hq hqs (lbS (s9 (by decide) (by decide)) hs) hb ?_
 have e0:((0:Int):Rat)=0:=rfl
 have h2:D.G j=f7 (fun l=>g0 l*a0m m n D ((0:Int):Rat) (fun l=>(((if l=j then (1:Int) else 0):Int):Rat)) l) n:=by
  rw [h1];simp only [e0];grind
 rw [h2,←C5]
 have h3:f7 (fun l=>((b l:Int):Rat)*a0m m n D ((0:Int):Rat) (fun l=>(((if l=j then (1:Int) else 0):Int):Rat)) l) n=f7 (fun l=>((q:Int):Rat)*(g0 l*a0m m n D ((0:Int):Rat) (fun l=>(((if l=j then (1:Int) else 0):Int):Rat)) l)) n:=e7 fun l hl=>by rw [← hg l hl];grind
 rw [h3];grind
def b2j (m n:Nat) (y:Nat->Rat):Prop:=∀w,w<n+m->0<=y w
theorem aM7 {m n:Nat} {D:Fd} {g0:Nat->Rat} {z:Rat} (hP:a0n m n D) (hG:X3 n D g0 m z) (hv:∀i,i<m->0<=D.V i) (hg:∀j,j<n->D.G j<=0):
 (∃ y,Ids m n D y 1∧b2j m n y∧f7 (fun j=>g0 j*y j) n=z∧y=a0m m n D 1 (fun _=>0))∧∀y,Ids m n D y 1->b2j m n y->f7 (fun j=>g0 j*y j) n<=z:=by
 refine ⟨⟨_,W2 hP 1 (fun _=>0),fun w hw=>?_,?_,rfl⟩,fun y hy hp=>?_⟩
 ·rcases hP.all w hw with ⟨i,hi,rfl⟩|⟨j,hj,rfl⟩
  ·rw [a6d hP hi,u0 fun j hj=>by grind]
   have:=hv i hi;grind
  ·rw [a0o hP hj];grind
 ·rw [hG _ _ (W2 hP 1 (fun _=>0)),u0 fun j hj=>by rw [a0o hP hj];grind];grind
 ·rw [hG _ _ hy]
  have:f7 (fun j=>D.G j*y (D.F j)) n<=0:=a6S fun j hj=>by
   have h1:=hg j hj
   have h2:=hp (D.F j) (hP.fb j hj)
   have:=lb1 (show 0<=-(D.G j) by grind) h2
   grind
  grind
theorem b6S {m n:Nat} {D:Fd} (hP:a0n m n D) {r:Nat} (hr:r<m) (hv:D.V r<0) (ha:∀j,j<n->0<=D.A r j):∀y,Ids m n D y 1->¬b2j m n y:=by
 intro y hy hp
 have h1:=hy r hr
 have h2:=hp (D.O r) (hP.ob r hr)
 have h3:0<=f7 (fun j=>D.A r j*y (D.F j)) n:=a1Q fun j hj=>lb1 (ha j hj) (hp _ (hP.fb j hj))
 grind
theorem b6L {m n:Nat} {D:Fd} {g0:Nat->Rat} {z:Rat} (hP:a0n m n D) (hG:X3 n D g0 m z) {s:Nat} (hs:s<n) (hg:0<D.G s) (ha:∀i,i<m->D.A i s<=0):
 ∃y,Ids m n D y 0∧b2j m n y∧0<f7 (fun j=>g0 j*y j) n∧y=a0m m n D 0 (fun j=>if j=s then 1 else 0):=by
 have hsum:∀f:Nat->Rat,f7 (fun j=>f j*(if j=s then (1:Rat) else 0)) n=f s:=fun f=>by
  rw [A9 hs,u0 fun j hj=>by by_cases h:j=s;simp only [h,if_true];simp only [if_neg h];grind]
  simp only [if_true];grind
 refine ⟨_,W2 hP 0 _,fun w hw=>?_,?_,rfl⟩
 ·rcases hP.all w hw with ⟨i,hi,rfl⟩|⟨j,hj,rfl⟩
  ·rw [a6d hP hi,hsum]
   have:=ha i hi;grind
  ·rw [a0o hP hj];split<;>grind
 ·rw [hG _ _ (W2 hP 0 _),e7 (g:=fun j=>D.G j*(if j=s then (1:Rat) else 0)) fun j hj=>by rw [a0o hP hj],hsum]
  grind
end
section
def L5 (l:List (Int × Rat)):Nat->Nat->Rat
 |0=>fun _=>0
 |k+1=>match l[k]? with
  |none=>L5 l k
  |some t=>fun j=>if j=t.1.toNat then t.2 else L5 l k j
def x8 (l:List (Int × Rat)):Nat->Rat:=L5 l l.length
theorem J6 {l:List (Int × Rat)} {k:Nat} {t:Int × Rat} (h:l[k]? =some t):L5 l (k+1)=fun j=>if j=t.1.toNat then t.2 else L5 l k j:=by rw [L5,h]
theorem a3m {l:List (Int × Rat)} {v:Nat}:∀k,(∀ i t,i<k->l[i]? =some t->t.1.toNat≠v)->L5 l k v=0
 |0,_=>rfl
 |k+1,h=>by
  have ih:=a3m (l:=l) (v:=v) k fun i t hi ht=>h i t (by omega) ht
  cases hk:l[k]? with
  |none=>rw [L5,hk];exact ih
  |some t=>
   rw [J6 hk]
   simp only
   rw [if_neg (fun e=>h k t (by omega) hk e.symm),ih]
theorem E1:∀{last n:Int} {l:List (Int × Rat)},f9 last n l=true->∀t ∈ l,last<t.1∧t.1<n∧t.2≠0
 |_,_,[],_,t,ht=>by cases ht
 |last,n,a::r,h,t,ht=>by
  unfold f9 at h
  simp only [lbN,lbI] at h
  rcases lbA.1 ht with rfl|ht
  ·exact ⟨h.1.1.1,h.1.1.2,h.1.2⟩
  ·have:=E1 h.2 t ht
   exact ⟨by omega,this.2⟩
theorem a3A:∀{last n:Int} {l:List (Int × Rat)},f9 last n l=true->∀(i j:Nat) (t u:Int × Rat),i<j->l[i]? =some t->l[j]? =some u->t.1<u.1
 |_,_,[],_,i,j,t,u,_,ht,_=>by simp at ht
 |last,n,a::r,h,i,j,t,u,hij,ht,hu=>by
  unfold f9 at h
  simp only [lbN,lbI] at h
  cases j with
  |zero=>omega
  |succ j=>
   simp only [List.getElem?_cons_succ] at hu
   cases i with
   |zero=>
    simp only [List.getElem?_cons_zero] at ht
    injection ht with ht;subst ht
    exact (E1 h.2 u (lbm hu)).1
   |succ i=>
    simp only [List.getElem?_cons_succ] at ht
    exact a3A h.2 i j t u (by omega) ht hu
theorem a4b {α:Type} {l:List α} {k:Nat} {x:α} (h:l[k]? =some x):l.take (k+1)=l.take k++[x]:=by rw [lbG,h];rfl
theorem aK6 {n:Nat} {l:List (Int × Rat)} (h:f9 (-1) (n:Int) l=true) (z:List Rat):∀k,k<=l.length->p4 (l.take k) z=f7 (fun j=>L5 l k j*z.getD j 0) n
 |0,_=>by
  rw [List.take_zero,u0 fun j hj=>by show (0:Rat)*_=0;grind]
  rfl
 |k+1,hk=>by
  have ih:=aK6 h z k (by omega)
  obtain ⟨t,ht⟩:∃t,l[k]? =some t:=⟨_,lbf (by omega)⟩
  have hm:=E1 h t (lbm ht)
  have hv:t.1.toNat<n:=by omega
  have h0:L5 l k t.1.toNat=0:=a3m k fun i u hi hu=>by
   have:=a3A h i k u t hi hu ht
   have h2:=E1 h u (lbm hu)
   omega
  rw [a4b ht,T7,ih,J6 ht]
  rw [A9 (f:=fun j=>(if j=t.1.toNat then t.2 else L5 l k j)*z.getD j 0) hv,A9 (f:=fun j=>L5 l k j*z.getD j 0) hv]
  simp only [if_true,h0]
  rw [e7 (f:=fun j=>if j=t.1.toNat then 0 else (if j=t.1.toNat then t.2 else L5 l k j)*z.getD j 0) (g:=fun j=>if j=t.1.toNat then 0 else L5 l k j*z.getD j 0) fun j hj=>by
   by_cases hj:j=t.1.toNat
   ·rw [if_pos hj,if_pos hj]
   ·rw [if_neg hj,if_neg hj,if_neg hj]]
  grind
theorem O5 {n:Nat} {l:List (Int × Rat)} (h:f9 (-1) (n:Int) l=true) (z:List Rat):p4 l z=f7 (fun j=>x8 l j*z.getD j 0) n:=by
 have:=aK6 h z l.length (lbR _)
 rw [List.take_length] at this
 exact this
def J9 (s:g4):Nat->List (Nat × Bool)
 |0=>[]
 |k+1=>match s.rows[k]? with
  |none=>J9 s k
  |some w=>J9 s k++(if w.kind≠0 then [(k,false)] else [])++(if w.kind≠1 then [(k,true)] else [])
def f5 (s:g4):List (Nat × Bool):=J9 s s.rows.length
def V4 (b:Bool) (x:Rat):Rat:=if b then -x else x
def a4o (s:g4) (f:Nat × Bool):Rat:=match s.rows[f.1]? with
 |none=>0
 |some w=>V4 f.2 w.value
def a2G (s:g4) (f:Nat × Bool) (j:Nat):Rat:=match s.rows[f.1]? with
 |none=>0
 |some w=>V4 f.2 (x8 w.terms j)
def g7 (s:g4) (g:List (Int × Rat)):Fd where
 V:=fun i=>a4o s ((f5 s).getD i (0,false))
 A:=fun i j=>a2G s ((f5 s).getD i (0,false)) j
 G:=fun j=>-(x8 g j)
 O:=fun i=>s.n.toNat+i
 F:=fun j=>j
theorem aq6 {s:g4} {f:Nat × Bool}:∀k,f ∈ J9 s k↔f.1<k∧∃w,s.rows[f.1]? =some w∧(f.2=false->w.kind≠0)∧(f.2=true->w.kind≠1)
 |0=>by simp [J9]
 |k+1=>by
  have ih:=aq6 (s:=s) (f:=f) k
  unfold J9
  cases hw:s.rows[k]? with
  |none=>
   simp only
   rw [ih]
   constructor
   ·rintro ⟨h1,h2⟩;exact ⟨by omega,h2⟩
   ·rintro ⟨h1,w,h2,h3⟩
    refine ⟨?_,w,h2,h3⟩
    by_cases he:f.1=k
    ·rw [he,hw] at h2;cases h2
    ·omega
  |some w=>
   simp only
   rw [lbz,lbz,ih]
   obtain ⟨a,b⟩:=f
   simp only
   constructor
   ·rintro ((⟨h1,h2⟩|h)|h)
    ·exact ⟨by omega,h2⟩
    ·split at h
     ·rename_i hk
      simp at h
      obtain ⟨rfl,rfl⟩:=h
      exact ⟨by omega,w,hw,fun _=>hk,fun h=>by cases h⟩
     ·simp at h
    ·split at h
     ·rename_i hk
      simp at h
      obtain ⟨rfl,rfl⟩:=h
      exact ⟨by omega,w,hw,fun h=>(by cases h),fun _=>hk⟩
     ·simp at h
   ·rintro ⟨h1,w',h2,h3,h4⟩
    by_cases he:a=k
    ·subst he
     rw [hw] at h2;injection h2 with h2;subst h2
     cases b with
     |false=>rw [if_pos (h3 rfl)];simp
     |true=>rw [if_pos (h4 rfl)];simp
    ·exact .inl (.inl ⟨by omega,w',h2,h3,h4⟩)
theorem Y8 {s:g4} {f:Nat × Bool}:f ∈ f5 s↔∃w,s.rows[f.1]? =some w∧(f.2=false->w.kind≠0)∧(f.2=true->w.kind≠1):=by
 unfold f5
 rw [aq6]
 constructor
 ·rintro ⟨_,h⟩;exact h
 ·rintro ⟨w,h⟩;exact ⟨(lbe.1 h.1).1,w,h⟩
theorem b07 {s:g4} {g:List (Int × Rat)}:a0n (f5 s).length s.n.toNat (g7 s g) where
 oi:=fun i i' _ _ h=>by have:s.n.toNat+i=s.n.toNat+i':=h;omega
 fi:=fun j j' _ _ h=>h
 of:=fun i j _ hj h=>by have:s.n.toNat+i=j:=h;omega
 all:=fun w hw=>by
  by_cases h:w<s.n.toNat
  ·exact .inr ⟨w,h,rfl⟩
  ·exact .inl ⟨w - s.n.toNat,by omega,by show s.n.toNat+(w - s.n.toNat)=w;omega⟩
 ob:=fun i hi=>by show s.n.toNat+i<_;omega
 fb:=fun j hj=>by show j<_;omega
theorem aW2 {s:g4} {g:List (Int × Rat)}:X3 s.n.toNat (g7 s g) (fun j=>-(x8 g j)) (f5 s).length 0:=by
 intro y c _
 have:c*(0:Rat)=0:=by grind
 rw [this]
 have e:f7 (fun j=>(g7 s g).G j*y ((g7 s g).F j)) s.n.toNat=f7 (fun j=>-(x8 g j)*y j) s.n.toNat:=rfl
 rw [e];grind
def a6M (s:g4) (g:List (Int × Rat)) (z:List Rat) (w:Nat):Rat:=if w<s.n.toNat then z.getD w 0 else (g7 s g).V (w - s.n.toNat) - f7 (fun j=>(g7 s g).A (w - s.n.toNat) j*z.getD j 0) s.n.toNat
theorem b1r {s:g4} {g:List (Int × Rat)} (z:List Rat):Ids (f5 s).length s.n.toNat (g7 s g) (a6M s g z) 1:=by
 intro i hi
 show a6M s g z (s.n.toNat+i)=_
 unfold a6M
 rw [if_neg (by omega),show s.n.toNat+i - s.n.toNat=i by omega]
 have:(1:Rat)*(g7 s g).V i=(g7 s g).V i:=by grind
 rw [this]
 congr 1
 refine e7 fun j hj=>?_
 show _=(g7 s g).A i j*(if j<s.n.toNat then z.getD j 0 else _)
 rw [if_pos hj]
theorem aq2 {s:g4} {g:List (Int × Rat)} (hr:j8 s=true) {z:List Rat} {i:Nat} {f:Nat × Bool} {w:D3} (hf:(f5 s)[i]? =some f) (hw:s.rows[f.1]? =some w):a6M s g z (s.n.toNat+i)=V4 f.2 (w.value - p4 w.terms z):=by
 unfold a6M
 rw [if_neg (by omega),show s.n.toNat+i - s.n.toNat=i by omega]
 have hfd:(f5 s).getD i (0,false)=f:=by rw [lbl,hf];rfl
 show a4o s ((f5 s).getD i (0,false)) - f7 (fun j=>a2G s ((f5 s).getD i (0,false)) j*z.getD j 0) s.n.toNat=_
 rw [hfd]
 have hrow:v7 s.n w=true:=by
  unfold j8 at hr
  simp only [lbN,lbI,lbv] at hr
  exact hr.2 w (lbm hw)
 have hn:(s.n.toNat:Int)=s.n:=by
  unfold j8 at hr
  simp only [lbN,lbI] at hr
  omega
 unfold v7 at hrow
 simp only [lbN,lbI] at hrow
 have hrt:=hrow.1.1
 rw [← hn] at hrt
 have e1:a4o s f=V4 f.2 w.value:=by unfold a4o;rw [hw]
 have e2:∀j,a2G s f j=V4 f.2 (x8 w.terms j):=fun j=>by unfold a2G;rw [hw]
 rw [e1,O5 hrt z]
 cases hb:f.2 with
 |false=>
  rw [e7 (g:=fun j=>x8 w.terms j*z.getD j 0) fun j hj=>by rw [e2 j,hb];rfl]
  rfl
 |true=>
  rw [e7 (g:=fun j=>(-1:Rat)*(x8 w.terms j*z.getD j 0)) fun j hj=>by rw [e2 j,hb];show -(x8 w.terms j)*_=_;grind,C5]
  show -w.value - _=-(w.value - _)
  grind
theorem first_holds {s:g4} {g:List (Int × Rat)} (hr:j8 s=true) {z:List Rat} (hl:(z.length:Int)=s.n):o7 s z=true↔b2j (f5 s).length s.n.toNat (a6M s g z):=by
 have hn:z.length=s.n.toNat:=by omega
 unfold o7
 rw [hr,lbH hl]
 simp only [Bool.true_and,lbN,lbv,lbI]
 constructor
 ·rintro ⟨h1,h2⟩ w hw
  by_cases hv:w<s.n.toNat
  ·unfold a6M
   rw [if_pos hv,lbl,lbf (by omega)]
   exact h1 _ (lbE _)
  ·obtain ⟨i,rfl⟩:∃i,w=s.n.toNat+i:=⟨w - s.n.toNat,by omega⟩
   have hi:i<(f5 s).length:=by omega
   obtain ⟨f,hf⟩:∃f,(f5 s)[i]? =some f:=⟨_,lbf hi⟩
   obtain ⟨x,hx,hk1,hk2⟩:=Y8.1 (lbm hf)
   rw [aq2 hr hf hx]
   have hb:=h2 x (lbm hx)
   unfold U5 at hb
   simp only [Bool.not_eq_true',Bool.or_eq_false_iff,lbP,lbK] at hb
   cases hfb:f.2 with
   |false=>
    have:=hk1 hfb
    show 0<=x.value - p4 x.terms z
    rcases hb.2 with h|h
    ·grind
    ·exact absurd this h
   |true=>
    have:=hk2 hfb
    show 0<=-(x.value - p4 x.terms z)
    rcases hb.1 with h|h
    ·grind
    ·exact absurd this h
 ·intro hp
  refine ⟨fun v hv=>?_,fun x hx=>?_⟩
  ·obtain ⟨j,hj,rfl⟩:=List.getElem_of_mem hv
   have:=hp j (by omega)
   unfold a6M at this
   rw [if_pos (by omega),lbl,lbf hj] at this
   exact this
  ·obtain ⟨k,hk,hkx⟩:=List.getElem_of_mem hx
   have hxk:s.rows[k]? =some x:=by rw [lbf hk,hkx]
   have side:∀b:Bool,(b=false->x.kind≠0)->(b=true->x.kind≠1)->0<=V4 b (x.value - p4 x.terms z):=by
    intro b h1 h2
    have hm:((k,b):Nat × Bool) ∈ f5 s:=Y8.2 ⟨x,hxk,h1,h2⟩
    obtain ⟨i,hi,hif⟩:=List.getElem_of_mem hm
    have hf:(f5 s)[i]? =some (k,b):=by rw [lbf hi,hif]
    have:=hp (s.n.toNat+i) (by omega)
    rw [aq2 hr hf hxk] at this
    exact this
   unfold U5
   simp only [Bool.not_eq_true',Bool.or_eq_false_iff,lbP,lbK]
   constructor
   ·by_cases h:x.kind≠1
    ·left
     have:=side true (fun h=>by cases h) (fun _=>h)
     have h2:0<=-(x.value - p4 x.terms z):=this
     grind
    ·right;exact h
   ·by_cases h:x.kind≠0
    ·left
     have:=side false (fun _=>h) (fun h=>by cases h)
     have h2:0<=x.value - p4 x.terms z:=this
     grind
    ·right;exact h
end
section
def af6 (B:Nat) (w:D3):Prop:=(∀ t ∈ w.terms,∃c:Int,t.2=((c:Int):Rat)∧bl c<=1)∧rl w.value<=B
theorem a1W {l:List (Int × Rat)} (h:∀t ∈ l,∃c:Int,t.2=((c:Int):Rat)∧bl c<=1):∀(k j:Nat),∃c:Int,L5 l k j=((c:Int):Rat)∧bl c<=1
 |0,j=>⟨0,rfl,s9 (by decide) (by decide)⟩
 |k+1,j=>by
  cases hk:l[k]? with
  |none=>rw [L5,hk];exact a1W h k j
  |some t=>
   rw [J6 hk]
   simp only
   split
   ·exact h t (lbm hk)
   ·exact a1W h k j
theorem b7J {b:Bool} {x:Rat} {c:Int} (h:x=((c:Int):Rat)):∃c':Int,V4 b x=((c':Int):Rat)∧bl c'=bl c:=by
 cases b with
 |false=>exact ⟨c,h,rfl⟩
 |true=>exact ⟨-c,by show -x=_;rw [h];push_cast;rfl,aa1 c⟩
end
section
instance:Inhabited Fd:=⟨⟨fun _=>0,fun _ _=>0,fun _=>0,fun _=>0,fun _=>0⟩⟩
structure a6E (m n:Nat) (D0:Fd) (g0:Nat->Rat) (D:Fd):Prop where
 p:a0n m n D
 i:∀y c,Ids m n D0 y c↔Ids m n D y c
 g:∃z,X3 n D g0 m z
theorem b6s {m n r s:Nat} {D0 D:Fd} {g0:Nat->Rat} (h:a6E m n D0 g0 D) (hs:B8 m n D=.next r s):a6E m n D0 g0 (D.exch r s):=by
 obtain ⟨hr,hsn,hb⟩:=a5T hs
 have hp:=a7D hb
 obtain ⟨z,hz⟩:=h.g
 exact ⟨ap7 hr hsn h.p,fun y c=>(h.i y c).trans (aj9 hr hsn hp),_,aw7 hr hsn hp hz⟩
def X5 (m n:Nat) (D0 D:Fd):Prop:=∃k,itS m n k D0=some D
theorem aW3 {m n:Nat} {D0:Fd}:X5 m n D0 D0:=⟨0,rfl⟩
theorem ak5 {m n:Nat} {D0 D D':Fd} (h:X5 m n D0 D) (hn:E8 m n D=some D'):X5 m n D0 D':=by
 obtain ⟨k,hk⟩:=h
 exact ⟨k+1,by rw [a02,hk];exact hn⟩
theorem a31 {m n:Nat} {D0:Fd} {g0:Nat->Rat} (h0:a6E m n D0 g0 D0):∀{k:Nat} {D:Fd},itS m n k D0=some D->a6E m n D0 g0 D
 |0,D,h=>by injection h with h;subst h;exact h0
 |k+1,D,h=>by
  rw [a02] at h
  cases hk:itS m n k D0 with
  |none=>rw [hk] at h;cases h
  |some D1=>
   rw [hk] at h
   have h:E8 m n D1=some D:=h
   obtain ⟨r,s,hs,rfl⟩:=a6H h
   exact b6s (a31 h0 hk) hs
theorem aj2 {m n:Nat} {D0:Fd} {k:Nat} (h:itS m n k D0=none):∀j,itS m n (k+j) D0=none
 |0=>h
 |j+1=>by rw [show k+(j+1)=(k+j)+1 by omega,a02,aj2 h j];rfl
theorem aW7 {m n:Nat} {D0 D D':Fd} (h:X5 m n D0 D) (hn:E8 m n D=none) (h':X5 m n D0 D') (hn':E8 m n D'=none):D=D':=by
 obtain ⟨k,hk⟩:=h
 obtain ⟨l,hl⟩:=h'
 have a1:itS m n (k+1) D0=none:=by rw [a02,hk];exact hn
 have a2:itS m n (l+1) D0=none:=by rw [a02,hl];exact hn'
 have hkl:k=l:=by
  rcases Nat.lt_trichotomy k l with h|h|h
  ·have:=aj2 a1 (l - (k+1))
   rw [show k+1+(l - (k+1))=l by omega,hl] at this;cases this
  ·exact h
  ·have:=aj2 a2 (k - (l+1))
   rw [show l+1+(k - (l+1))=k by omega,hk] at this;cases this
 subst hkl
 rw [hk] at hl;injection hl
theorem ba0 {m n:Nat} {D0:Fd} {g0:Nat->Rat} (h0:a6E m n D0 g0 D0):∃D,X5 m n D0 D∧E8 m n D=none:=by
 obtain ⟨k,hk,hmin⟩:=a2k (fun k=>itS m n k D0=none) (b8M h0.p h0.g)
 cases k with
 |zero=>cases hk
 |succ k=>
  cases hk':itS m n k D0 with
  |none=>have:=hmin k hk';omega
  |some D=>
   rw [a02,hk'] at hk
   exact ⟨D,⟨k,hk'⟩,hk⟩
noncomputable def al5 (m n:Nat) (D0:Fd):Fd:=Classical.epsilon fun D=>X5 m n D0 D∧E8 m n D=none
theorem a4X {m n:Nat} {D0:Fd} {g0:Nat->Rat} (h0:a6E m n D0 g0 D0):X5 m n D0 (al5 m n D0)∧E8 m n (al5 m n D0)=none:=Classical.epsilon_spec (ba0 h0)
theorem b9H {m n:Nat} {D0 D:Fd} {g0:Nat->Rat} (h0:a6E m n D0 g0 D0) (h:X5 m n D0 D) (hn:E8 m n D=none):D=al5 m n D0:=aW7 h hn (a4X h0).1 (a4X h0).2
theorem b77 {m n:Nat} {D0:Fd} {g0:Nat->Rat} (h0:a6E m n D0 g0 D0):a6E m n D0 g0 (al5 m n D0):=by
 obtain ⟨k,hk⟩:=(a4X h0).1
 exact a31 h0 hk
theorem ax7 {m n:Nat} {D:Fd} (h:B8 m n D=.best):(∀ i,i<m->0<=D.V i)∧∀j,j<n->D.G j<=0:=by
 unfold B8 at h
 split at h
 ·rename_i h1 h2
  refine ⟨fun i hi=>?_,fun j hj=>?_⟩
  ·have:=a0U h1 i hi;simp at this;grind
  ·have:=a0U h2 j hj;simp at this;grind
 ·unfold a1m at h;split at h<;>cases h
 ·unfold a1i at h;split at h<;>cases h
 ·split at h
  ·unfold a1m at h;split at h<;>cases h
  ·unfold a1i at h;split at h<;>cases h
theorem aw2 {n r r':Nat} {D:Fd} (h:a1m n D r=.row r'):r'=r∧∀j,j<n->0<=D.A r j:=by
 unfold a1m at h
 split at h
 ·rename_i h1
  injection h with h
  exact ⟨h.symm,fun j hj=>by have:=a0U h1 j hj;simp at this;grind⟩
 ·cases h
theorem ar0 {m s s':Nat} {D:Fd} (h:a1i m D s=.col s'):s'=s∧∀i,i<m->D.A i s<=0:=by
 unfold a1i at h
 split at h
 ·rename_i h1
  injection h with h
  exact ⟨h.symm,fun i hi=>by have:=a0U h1 i hi;simp at this;grind⟩
 ·cases h
theorem b3Q {m n r:Nat} {D:Fd} (h:B8 m n D=.row r):r<m∧D.V r<0∧∀j,j<n->0<=D.A r j:=by
 unfold B8 at h
 split at h
 ·cases h
 ·rename_i r0 h1 h2
  obtain ⟨rfl,h4⟩:=aw2 h
  have h3:=G6 h1
  exact ⟨h3.1,by simpa using h3.2.1,h4⟩
 ·unfold a1i at h;split at h<;>cases h
 ·rename_i r0 s0 h1 h2
  split at h
  ·obtain ⟨rfl,h4⟩:=aw2 h
   have h3:=G6 h1
   exact ⟨h3.1,by simpa using h3.2.1,h4⟩
  ·unfold a1i at h;split at h<;>cases h
theorem a7d {m n s:Nat} {D:Fd} (h:B8 m n D=.col s):s<n∧0<D.G s∧∀i,i<m->D.A i s<=0:=by
 unfold B8 at h
 split at h
 ·cases h
 ·unfold a1m at h;split at h<;>cases h
 ·rename_i s0 h1 h2
  obtain ⟨rfl,h4⟩:=ar0 h
  have h3:=G6 h2
  exact ⟨h3.1,by simpa using h3.2.1,h4⟩
 ·rename_i r0 s0 h1 h2
  split at h
  ·unfold a1m at h;split at h<;>cases h
  ·obtain ⟨rfl,h4⟩:=ar0 h
   have h3:=G6 h2
   exact ⟨h3.1,by simpa using h3.2.1,h4⟩
theorem b4r {m n:Nat} {D:Fd} (h:E8 m n D=none):B8 m n D=.best∨(∃ r,B8 m n D=.row r)∨∃s,B8 m n D=.col s:=by
 unfold E8 at h
 cases hs:B8 m n D with
 |best=>exact .inl rfl
 |row r=>exact .inr (.inl ⟨r,rfl⟩)
 |col s=>exact .inr (.inr ⟨s,rfl⟩)
 |next r s=>rw [hs] at h;cases h
end
section
def zOf (n:Nat) (y:Nat->Rat):List Rat:=(List.range n).map y
theorem U4 {n:Nat} {y:Nat->Rat}:(zOf n y).length=n:=by simp [zOf]
theorem a7u {n:Nat} {y:Nat->Rat} {j:Nat} (h:j<n):(zOf n y).getD j 0=y j:=by simp [zOf,lbl,h]
theorem a5F {n:Nat} {y:Nat->Rat} {v:Rat} (h:v ∈ zOf n y):∃j,j<n∧v=y j:=by
 obtain ⟨j,hj,rfl⟩:=lbx.1 h
 exact ⟨j,lbB.1 hj,rfl⟩
theorem aM2 {n:Nat} {l:List (Int × Rat)} (h:f9 (-1) (n:Int) l=true) (y:Nat->Rat):p4 l (zOf n y)=f7 (fun j=>x8 l j*y j) n:=by
 rw [O5 h];exact e7 fun j hj=>by rw [a7u hj]
theorem a0V {s:g4} (hr:j8 s=true):((s.n.toNat:Nat):Int)=s.n:=by
 unfold j8 at hr
 simp only [lbN,lbI] at hr
 omega
theorem a0l {s:g4} (hr:j8 s=true) {i:Nat} {w:D3} (hw:s.rows[i]? =some w):f9 (-1) ((s.n.toNat:Nat):Int) w.terms=true∧0<=w.kind∧w.kind<3:=by
 rw [a0V hr]
 unfold j8 at hr
 simp only [lbN,lbv] at hr
 have:=hr.2 w (lbm hw)
 unfold v7 at this
 simp only [lbN,lbI] at this
 exact ⟨this.1.1,this.1.2,this.2⟩
theorem b86 {s:g4} {g:List (Int × Rat)} (hr:j8 s=true) {y:Nat->Rat} {c:Rat} (hy:Ids (f5 s).length s.n.toNat (g7 s g) y c) {i k:Nat} {b:Bool} {w:D3}
 (hf:(f5 s)[i]? =some (k,b)) (hw:s.rows[k]? =some w):y (s.n.toNat+i)=V4 b (c*w.value - p4 w.terms (zOf s.n.toNat y)):=by
 have hi:i<(f5 s).length:=(lbe.1 hf).1
 have h1:y (s.n.toNat+i)=c*(g7 s g).V i - f7 (fun j=>(g7 s g).A i j*y j) s.n.toNat:=hy i hi
 have hd:(f5 s).getD i (0,false)=(k,b):=by rw [lbl,hf];rfl
 have hV:(g7 s g).V i=V4 b w.value:=by show a4o s ((f5 s).getD i (0,false))=_;rw [hd];unfold a4o;simp only [hw]
 have hA:∀j,(g7 s g).A i j=V4 b (x8 w.terms j):=fun j=>by show a2G s ((f5 s).getD i (0,false)) j=_;rw [hd];unfold a2G;simp only [hw]
 rw [h1,hV,aM2 (a0l hr hw).1]
 cases b with
 |false=>rw [e7 (g:=fun j=>x8 w.terms j*y j) fun j hj=>by rw [hA j];rfl];rfl
 |true=>
  rw [e7 (g:=fun j=>(-1:Rat)*(x8 w.terms j*y j)) fun j hj=>by rw [hA j];show -(x8 w.terms j)*_=_;grind,C5]
  show c*-w.value - _=-(c*w.value - _)
  grind
noncomputable def y3 (s:g4) (g:List (Int × Rat)):Fd:=al5 (f5 s).length s.n.toNat (g7 s g)
noncomputable def a1d (s:g4) (g:List (Int × Rat)):b4y:=B8 (f5 s).length s.n.toNat (y3 s g)
theorem a3n {s:g4} {g:List (Int × Rat)}:a6E (f5 s).length s.n.toNat (g7 s g) (fun j=>-(x8 g j)) (g7 s g):=⟨b07,fun _ _=>Iff.rfl,0,aW2⟩
theorem S1 {s:g4} {g:List (Int × Rat)}:a6E (f5 s).length s.n.toNat (g7 s g) (fun j=>-(x8 g j)) (y3 s g):=b77 a3n
theorem ar9 (s:g4) (g:List (Int × Rat)):a1d s g=.best∨(∃ r,a1d s g=.row r)∨∃c,a1d s g=.col c:=b4r (a4X a3n).2
noncomputable def A6 (s:g4) (g:List (Int × Rat)):List Rat:=zOf s.n.toNat (a0m (f5 s).length s.n.toNat (y3 s g) 1 (fun _=>0))
noncomputable def a61 (s:g4) (g:List (Int × Rat)) (c:Nat):List Rat:=zOf s.n.toNat (a0m (f5 s).length s.n.toNat (y3 s g) 0 (fun j=>if j=c then 1 else 0))
theorem aZ7 {s:g4} {g:List (Int × Rat)} {y:Nat->Rat} (hy:Ids (f5 s).length s.n.toNat (g7 s g) y 1):∀w,w<s.n.toNat+(f5 s).length->a6M s g (zOf s.n.toNat y) w=y w:=by
 intro w hw
 unfold a6M
 split
 ·rename_i h;exact a7u h
 ·have h1:y (s.n.toNat+(w - s.n.toNat))=1*(g7 s g).V (w - s.n.toNat) - f7 (fun j=>(g7 s g).A (w - s.n.toNat) j*y j) s.n.toNat:=hy (w - s.n.toNat) (by omega)
  rw [show s.n.toNat+(w - s.n.toNat)=w by omega] at h1
  rw [h1,e7 (g:=fun j=>(g7 s g).A (w - s.n.toNat) j*y j) fun j hj=>by rw [a7u hj]]
  grind
theorem b2y {s:g4} {g:List (Int × Rat)} (hr:j8 s=true) {y:Nat->Rat} (hy:Ids (f5 s).length s.n.toNat (g7 s g) y 1) (hp:b2j (f5 s).length s.n.toNat y):o7 s (zOf s.n.toNat y)=true:=by
 refine (first_holds (g:=g) hr (by rw [U4];exact a0V hr)).2 fun w hw=>?_
 rw [aZ7 hy w hw];exact hp w hw
theorem S5 {s:g4} {z:List Rat} (h:o7 s z=true):j8 s=true∧(z.length:Int)=s.n:=by
 unfold o7 at h
 simp only [lbN,lbI] at h
 exact ⟨h.1.1.1,h.1.1.2⟩
theorem aj6 {s:g4} {g:List (Int × Rat)} (hg:f9 (-1) ((s.n.toNat:Nat):Int) g=true) (z:List Rat):f7 (fun j=>-(x8 g j)*a6M s g z j) s.n.toNat=-(p4 g z):=by
 rw [O5 hg z,e7 (g:=fun j=>(-1:Rat)*(x8 g j*z.getD j 0)) fun j hj=>by
  have:a6M s g z j=z.getD j 0:=by unfold a6M;rw [if_pos hj]
  rw [this];grind,C5]
 grind
theorem a3o {s:g4} {g:List (Int × Rat)} (hr:j8 s=true) (hg:f9 (-1) ((s.n.toNat:Nat):Int) g=true) (h:a1d s g=.best):
 o7 s (A6 s g)=true∧∀z,o7 s z=true->p4 g (A6 s g)<=p4 g z:=by
 obtain ⟨hv,hgj⟩:=ax7 h
 have hi:=S1 (s:=s) (g:=g)
 obtain ⟨v,hv'⟩:=hi.g
 obtain ⟨⟨y,h1,h2,h3,h4⟩,h5⟩:=aM7 hi.p hv' hv hgj
 have h1':=(hi.i y 1).2 h1
 have e:A6 s g=zOf s.n.toNat y:=by unfold A6;rw [h4]
 rw [e]
 refine ⟨b2y hr h1' h2,fun z hz=>?_⟩
 have hx:=h5 (a6M s g z) ((hi.i _ 1).1 (b1r z)) ((first_holds hr (S5 hz).2).1 hz)
 rw [aj6 hg z] at hx
 have h6:f7 (fun j=>-(x8 g j)*y j) s.n.toNat=-(p4 g (zOf s.n.toNat y)):=by
  rw [← aj6 hg]
  exact e7 fun j hj=>by rw [aZ7 h1' j (by omega)]
 rw [h6] at h3
 grind
theorem b0W {s:g4} {g:List (Int × Rat)} {r:Nat} (h:a1d s g=.row r):∀z,o7 s z=false:=by
 intro z
 cases hz:o7 s z with
 |false=>rfl
 |true=>
  obtain ⟨hr1,hv,ha⟩:=b3Q h
  have hi:=S1 (s:=s) (g:=g)
  exact absurd ((first_holds (S5 hz).1 (S5 hz).2).1 hz) (b6S hi.p hr1 hv ha (a6M s g z) ((hi.i _ 1).1 (b1r z)))
structure bh2 (s:g4) (d:List Rat):Prop where
 len:d.length=s.n.toNat
 pos:∀v ∈ d,0<=v
 up:∀(k:Nat) (w:D3),s.rows[k]? =some w->w.kind≠0->p4 w.terms d<=0
 down:∀(k:Nat) (w:D3),s.rows[k]? =some w->w.kind≠1->0<=p4 w.terms d
theorem aB5 {s:g4} {g:List (Int × Rat)} {c:Nat} (hr:j8 s=true) (hg:f9 (-1) ((s.n.toNat:Nat):Int) g=true) (h:a1d s g=.col c):bh2 s (a61 s g c)∧p4 g (a61 s g c)<0:=by
 obtain ⟨hc,hgc,ha⟩:=a7d h
 have hi:=S1 (s:=s) (g:=g)
 obtain ⟨v,hv⟩:=hi.g
 obtain ⟨y,h1,h2,h3,h4⟩:=b6L hi.p hv hc hgc ha
 have h1':=(hi.i y 0).2 h1
 have e:a61 s g c=zOf s.n.toNat y:=by unfold a61;rw [h4]
 rw [e]
 have side:∀(k:Nat) (w:D3) (b:Bool),s.rows[k]? =some w->(b=false->w.kind≠0)->(b=true->w.kind≠1)->0<=V4 b (-(p4 w.terms (zOf s.n.toNat y))):=by
  intro k w b hw hb1 hb2
  have hm:((k,b):Nat × Bool) ∈ f5 s:=Y8.2 ⟨w,hw,hb1,hb2⟩
  obtain ⟨i,hil,hif⟩:=List.getElem_of_mem hm
  have hf:(f5 s)[i]? =some (k,b):=by rw [lbf hil,hif]
  have:=b86 hr h1' hf hw
  have hp:=h2 (s.n.toNat+i) (by omega)
  rw [this] at hp
  have e2:(0:Rat)*w.value - p4 w.terms (zOf s.n.toNat y)=-(p4 w.terms (zOf s.n.toNat y)):=by grind
  rw [e2] at hp;exact hp
 refine ⟨⟨U4,fun v hv=>?_,fun k w hw hk=>?_,fun k w hw hk=>?_⟩,?_⟩
 ·obtain ⟨j,hj,rfl⟩:=a5F hv
  exact h2 j (by omega)
 ·have:0<=-(p4 w.terms (zOf s.n.toNat y)):=side k w false hw (fun _=>hk) (fun h=>by cases h)
  grind
 ·have:0<=-(-(p4 w.terms (zOf s.n.toNat y))):=side k w true hw (fun h=>by cases h) (fun _=>hk)
  grind
 ·rw [aM2 hg,e7 (g:=fun j=>(-1:Rat)*(-(x8 g j)*y j)) fun j hj=>by grind,C5]
  grind
def a00 (x d:List Rat):List Rat:=List.zipWith (·+·) x d
theorem a2g {x d:List Rat} {n:Nat} (hx:x.length=n) (hd:d.length=n):(a00 x d).length=n:=by simp [a00,hx,hd]
theorem a5C {x d:List Rat} {n j:Nat} (hx:x.length=n) (hd:d.length=n) (hj:j<n):(a00 x d).getD j 0=x.getD j 0+d.getD j 0:=by
 simp only [a00,lbl,List.getElem?_zipWith]
 rw [lbf (show j<x.length by omega),lbf (show j<d.length by omega)]
 rfl
theorem a3s {x d:List Rat} {n:Nat} {l:List (Int × Rat)} (hx:x.length=n) (hd:d.length=n) (h:f9 (-1) (n:Int) l=true):p4 l (a00 x d)=p4 l x+p4 l d:=by
 rw [O5 h,O5 h,O5 h,←a0Q]
 exact e7 fun j hj=>by rw [a5C hx hd hj];grind
theorem b6r {w:D3} {z:List Rat}:U5 w z=true↔(w.kind≠1->w.value<=p4 w.terms z)∧(w.kind≠0->p4 w.terms z<=w.value):=by
 unfold U5
 simp only [Bool.not_eq_true',Bool.or_eq_false_iff,lbP,lbK,lb4]
 constructor
 ·rintro ⟨h1,h2⟩
  exact ⟨fun h=>h1.elim id fun h'=>absurd h h',fun h=>h2.elim id fun h'=>absurd h h'⟩
 ·rintro ⟨h1,h2⟩
  refine ⟨?_,?_⟩
  ·by_cases h:w.kind≠1
   ·exact .inl (h1 h)
   ·exact .inr h
  ·by_cases h:w.kind≠0
   ·exact .inl (h2 h)
   ·exact .inr h
theorem a0u {s:g4} {z:List Rat}:o7 s z=true↔j8 s=true∧(z.length:Int)=s.n∧(∀ v ∈ z,0<=v)∧∀w ∈ s.rows,(w.kind≠1->w.value<=p4 w.terms z)∧(w.kind≠0->p4 w.terms z<=w.value):=by
 unfold o7
 simp only [lbN,lbI,lbv,b6r]
 constructor
 ·rintro ⟨⟨⟨h1,h2⟩,h3⟩,h4⟩;exact ⟨h1,h2,h3,h4⟩
 ·rintro ⟨h1,h2,h3,h4⟩;exact ⟨⟨⟨h1,h2⟩,h3⟩,h4⟩
theorem b3p {s:g4} {x d:List Rat} (hx:o7 s x=true) (hd:bh2 s d):o7 s (a00 x d)=true:=by
 obtain ⟨h1,h2,h3,h4⟩:=a0u.1 hx
 have hn:=a0V h1
 have hxl:x.length=s.n.toNat:=by omega
 refine a0u.2 ⟨h1,by rw [a2g hxl hd.len];exact hn,fun v hv=>?_,fun w hw=>?_⟩
 ·obtain ⟨j,hj,rfl⟩:=List.getElem_of_mem hv
  rw [a2g hxl hd.len] at hj
  have h5:0<=x[j]:=h3 _ (lbE _)
  have h6:0<=d[j]'(by rw [hd.len];exact hj):=hd.pos _ (lbE _)
  simp only [a00,List.getElem_zipWith]
  grind
 ·obtain ⟨k,hk,hkw⟩:=List.getElem_of_mem hw
  have hkw':s.rows[k]? =some w:=by rw [lbf hk,hkw]
  have h7:=a3s hxl hd.len (a0l h1 hkw').1
  obtain ⟨h8,h9⟩:=h4 w hw
  rw [h7]
  exact ⟨fun h=>by have:=h8 h;have:=hd.down k w hkw' h;grind,fun h=>by have:=h9 h;have:=hd.up k w hkw' h;grind⟩
theorem b8m {s:g4} (hr:j8 s=true) {c:Nat}:a1d s []≠.col c:=fun h=>by
 have:=(aB5 hr rfl h).2
 have h2:p4 [] (a61 s [] c)=((0:Int):Rat):=rfl
 rw [h2] at this
 exact absurd this (by decide +kernel)
theorem aE9 {s:g4} (hr:j8 s=true):a1d s []=.best↔∃z,o7 s z=true:=by
 constructor
 ·intro h;exact ⟨_,(a3o hr rfl h).1⟩
 ·rintro ⟨z,hz⟩
  rcases ar9 s [] with h|⟨r,h⟩|⟨c,h⟩
  ·exact h
  ·rw [b0W h z] at hz;cases hz
  ·exact absurd h (b8m hr)
end
section
theorem aS3 {f:Nat->Nat->Rat} (m:Nat):∀n:Nat,f7 (fun i=>f7 (f i) m) n=f7 (fun j=>f7 (fun i=>f i j) n) m
 |0=>by
  show f7 _ 0=_
  rw [u0 (f:=fun j=>f7 (fun i=>f i j) 0) (n:=m) fun j hj=>by simp only [f7,X0]]
  simp only [f7,X0]
 |n+1=>by
  simp only [f7]
  rw [aS3 m n,←a0Q]
theorem a57 {n a:Nat} (ha:a<n) (v:Rat) (c:Nat->Rat):f7 (fun i=>(if a=i then v else 0)*c i) n=v*c a:=by
 rw [A9 ha,u0 fun j hj=>by
  by_cases h:j=a
  ·rw [if_pos h]
  ·rw [if_neg h,if_neg (fun e=>h e.symm)];grind]
 rw [if_pos rfl];grind
def y6 (s:g4) (i:Nat):D3:=s.rows.getD i ⟨[],2,0⟩
theorem O9 {s:g4} {i:Nat} {w:D3} (h:s.rows[i]? =some w):y6 s i=w:=by unfold y6;rw [lbl,h];rfl
def C3 (s:g4) (k:Nat):Nat × Bool:=(f5 s).getD k (0,false)
def chg (s:g4) (w:Nat) (p:Rat) (i:Nat):Rat:=if s.n.toNat<=w∧(C3 s (w - s.n.toNat)).1=i then -(V4 (C3 s (w - s.n.toNat)).2 p) else 0
def slV (s:g4) (w:Nat):Rat:=if s.n.toNat<=w then (g7 s []).V (w - s.n.toNat) else 0
def slA (s:g4) (l w:Nat):Rat:=if s.n.toNat<=w then (g7 s []).A (w - s.n.toNat) l else 0
theorem a5U {s:g4} {k:Nat} (hk:k<(f5 s).length):∃w,s.rows[(C3 s k).1]? =some w∧((C3 s k).2=false->w.kind≠0)∧((C3 s k).2=true->w.kind≠1):=by
 have:C3 s k ∈ f5 s:=by
  unfold C3
  rw [lbl,lbf hk]
  exact lbE _
 exact Y8.1 this
theorem aO3 {s:g4} {w:Nat} (hw:w<s.n.toNat+(f5 s).length) (p:Rat) (c:D3->Rat):
 f7 (fun i=>chg s w p i*c (y6 s i)) s.rows.length=if s.n.toNat<=w then -p*V4 (C3 s (w - s.n.toNat)).2 (c (y6 s (C3 s (w - s.n.toNat)).1)) else 0:=by
 by_cases h:s.n.toNat<=w
 ·rw [if_pos h]
  obtain ⟨x,hx,_⟩:=a5U (s:=s) (k:=w - s.n.toNat) (by omega)
  have hl:=(lbe.1 hx).1
  rw [e7 (g:=fun i=>(if (C3 s (w - s.n.toNat)).1=i then -(V4 (C3 s (w - s.n.toNat)).2 p) else 0)*c (y6 s i)) fun i hi=>by
   unfold chg
   by_cases h2:(C3 s (w - s.n.toNat)).1=i
   ·rw [if_pos ⟨h,h2⟩,if_pos h2]
   ·rw [if_neg (fun e=>h2 e.2),if_neg h2]]
  rw [a57 hl]
  cases (C3 s (w - s.n.toNat)).2 with
  |false=>rfl
  |true=>show -(-p)*_=-p*-_;grind
 ·rw [if_neg h]
  exact u0 fun i hi=>by unfold chg;rw [if_neg (fun e=>h e.1)];grind
theorem b6A {s:g4} {w:Nat} (hw:w<s.n.toNat+(f5 s).length) (p:Rat):f7 (fun i=>chg s w p i*(y6 s i).value) s.rows.length=-p*slV s w:=by
 rw [aO3 hw p D3.value]
 unfold slV
 split
 ·rename_i h
  obtain ⟨x,hx,_⟩:=a5U (s:=s) (k:=w - s.n.toNat) (by omega)
  rw [O9 hx]
  have:(g7 s []).V (w - s.n.toNat)=V4 (C3 s (w - s.n.toNat)).2 x.value:=by show a4o s (C3 s (w - s.n.toNat))=_;unfold a4o;simp only [hx]
  rw [this]
 ·grind
theorem b7M {s:g4} {w:Nat} (hw:w<s.n.toNat+(f5 s).length) (p:Rat) (l:Nat):f7 (fun i=>chg s w p i*x8 (y6 s i).terms l) s.rows.length=-p*slA s l w:=by
 rw [aO3 hw p (fun r=>x8 r.terms l)]
 unfold slA
 split
 ·rename_i h
  obtain ⟨x,hx,_⟩:=a5U (s:=s) (k:=w - s.n.toNat) (by omega)
  rw [O9 hx]
  have:(g7 s []).A (w - s.n.toNat) l=V4 (C3 s (w - s.n.toNat)).2 (x8 x.terms l):=by show a2G s (C3 s (w - s.n.toNat)) l=_;unfold a2G;simp only [hx]
  rw [this]
 ·grind
def yv (s:g4) (c:Rat) (t:Nat->Rat) (w:Nat):Rat:=if w<s.n.toNat then t w else c*(g7 s []).V (w - s.n.toNat) - f7 (fun l=>(g7 s []).A (w - s.n.toNat) l*t l) s.n.toNat
theorem b4A {s:g4} {g:List (Int × Rat)} (c:Rat) (t:Nat->Rat):Ids (f5 s).length s.n.toNat (g7 s g) (yv s c t) c:=by
 intro i hi
 show yv s c t (s.n.toNat+i)=_
 unfold yv
 rw [if_neg (by omega),show s.n.toNat+i - s.n.toNat=i by omega]
 show c*(g7 s g).V i - _=c*(g7 s g).V i - _
 congr 1
 refine e7 fun j hj=>?_
 show _=(g7 s g).A i j*(if j<s.n.toNat then t j else _)
 rw [if_pos hj];rfl
theorem b4t {s:g4} (w:Nat):yv s 1 (fun _=>0) w=slV s w:=by
 unfold yv slV
 by_cases h:w<s.n.toNat
 ·rw [if_pos h,if_neg (by omega)]
 ·rw [if_neg h,if_pos (by omega),u0 fun l hl=>by grind];grind
theorem b94 {s:g4} {l:Nat} (hl:l<s.n.toNat) (w:Nat):yv s 0 (fun j=>if l=j then 1 else 0) w=(if l=w then 1 else 0) - slA s l w:=by
 unfold yv slA
 by_cases h:w<s.n.toNat
 ·rw [if_pos h,if_neg (show ¬s.n.toNat<=w by omega)];grind
 ·rw [if_neg h,if_pos (show s.n.toNat<=w by omega),if_neg (show ¬l=w by omega),e7 (g:=fun j=>(if l=j then (1:Rat) else 0)*(g7 s []).A (w - s.n.toNat) j) fun j hj=>by grind,a57 hl]
  grind
def R9 (s:g4) (y:Nat->Rat) (l:Nat):Rat:=f7 (fun i=>y i*x8 (y6 s i).terms l) s.rows.length
def a38 (s:g4) (y:Nat->Rat):Rat:=f7 (fun i=>y i*(y6 s i).value) s.rows.length
def aO8 (s:g4) (y:Nat->Rat):Prop:=∀(i:Nat) (w:D3),s.rows[i]? =some w->(w.kind=0->0<=y i)∧(w.kind=1->y i<=0)
theorem b4I {s:g4} {w:Nat} (hw:w<s.n.toNat+(f5 s).length) {p:Rat} (hp:0<=p):aO8 s (chg s w p):=by
 intro i x hx
 unfold chg
 by_cases h:s.n.toNat<=w∧(C3 s (w - s.n.toNat)).1=i
 ·rw [if_pos h]
  obtain ⟨x',hx',h1,h2⟩:=a5U (s:=s) (k:=w - s.n.toNat) (by omega)
  rw [h.2,hx] at hx'
  injection hx' with hx'
  subst hx'
  cases hb:(C3 s (w - s.n.toNat)).2 with
  |false=>exact ⟨fun e=>absurd e (h1 hb),fun _=>by show -p<=0;grind⟩
  |true=>exact ⟨fun _=>by show 0<=-(-p);grind,fun e=>absurd e (h2 hb)⟩
 ·rw [if_neg h];exact ⟨fun _=>by grind,fun _=>by grind⟩
theorem aP4 {s:g4} {f:Nat->Nat->Rat}:∀n:Nat,(∀ j,j<n->aO8 s (f j))->aO8 s (fun i=>f7 (fun j=>f j i) n)
 |0,_=>fun i w hw=>⟨fun _=>by simp only [f7,X0];grind,fun _=>by simp only [f7,X0];grind⟩
 |n+1,h=>fun i w hw=>by
  have h1:=aP4 n (fun j hj=>h j (by omega)) i w hw
  have h2:=h n (by omega) i w hw
  simp only [f7]
  exact ⟨fun e=>by have:=h1.1 e;have:=h2.1 e;grind,fun e=>by have:=h1.2 e;have:=h2.2 e;grind⟩
def R6 (s:g4) (E:Fd) (i:Nat):Rat:=f7 (fun j=>chg s (E.F j) (-(E.G j)) i) s.n.toNat
theorem a7L {s:g4} {f:Nat->Nat->Rat} {c:Nat->Rat} {n R:Nat}:f7 (fun i=>f7 (fun j=>f j i) n*c i) R=f7 (fun j=>f7 (fun i=>f j i*c i) R) n:=by
 rw [← aS3]
 refine e7 fun i hi=>?_
 rw [e7 (f:=fun j=>f j i*c i) (g:=fun j=>c i*f j i) fun j hj=>by grind,C5];grind
structure b7y (s:g4) (g:Nat->Rat) (y:Nat->Rat) (v:Rat):Prop where
 sign:aO8 s y
 mix:∀l,l<s.n.toNat->R9 s y l<=g l
 val:a38 s y=v
theorem b5T {s:g4} {g:List (Int × Rat)} (hr:j8 s=true) (hg:f9 (-1) ((s.n.toNat:Nat):Int) g=true) (h:a1d s g=.best):b7y s (x8 g) (R6 s (y3 s g)) (p4 g (A6 s g)):=by
 obtain ⟨hv,hgj⟩:=ax7 h
 have hi:=S1 (s:=s) (g:=g)
 obtain ⟨z,hz⟩:=hi.g
 have hF:∀j,j<s.n.toNat->(y3 s g).F j<s.n.toNat+(f5 s).length:=fun j hj=>hi.p.fb j hj
 refine ⟨aP4 _ fun j hj=>b4I (hF j hj) (by have:=hgj j hj;grind),fun l hl=>?_,?_⟩
 ·have h1:=hz _ _ ((hi.i _ 0).1 (b4A (s:=s) (g:=g) 0 (fun j=>if l=j then 1 else 0)))
  rw [e7 (g:=fun j=>(if l=j then (1:Rat) else 0)*-(x8 g j)) fun j hj=>by unfold yv;rw [if_pos hj];grind,a57 hl] at h1
  unfold R9 R6
  rw [a7L (s:=s),e7 (g:=fun j=>(y3 s g).G j*slA s l ((y3 s g).F j)) fun j hj=>by rw [b7M (hF j hj)];grind]
  rw [e7 (g:=fun j=>(y3 s g).G j*(if l=(y3 s g).F j then 1 else 0)+(-1:Rat)*((y3 s g).G j*slA s l ((y3 s g).F j))) fun j hj=>by rw [b94 hl];grind,a0Q,C5] at h1
  have h2:f7 (fun j=>(y3 s g).G j*(if l=(y3 s g).F j then (1:Rat) else 0)) s.n.toNat<=0:=a6S fun j hj=>by
   have:=hgj j hj
   split<;>grind
  grind
 ·have h1:=hz _ _ ((hi.i _ 1).1 (b4A (s:=s) (g:=g) 1 (fun _=>0)))
  rw [u0 fun j hj=>by unfold yv;rw [if_pos hj];grind] at h1
  unfold a38 R6
  rw [a7L (s:=s),e7 (g:=fun j=>(y3 s g).G j*slV s ((y3 s g).F j)) fun j hj=>by rw [b6A (hF j hj)];grind]
  rw [e7 (g:=fun j=>(y3 s g).G j*slV s ((y3 s g).F j)) fun j hj=>by rw [b4t]] at h1
  obtain ⟨⟨y,k1,k2,k3,k4⟩,_⟩:=aM7 hi.p hz hv hgj
  have k1':=(hi.i y 1).2 k1
  have e:A6 s g=zOf s.n.toNat y:=by unfold A6;rw [k4]
  have h6:f7 (fun j=>-(x8 g j)*y j) s.n.toNat=-(p4 g (zOf s.n.toNat y)):=by
   rw [← aj6 hg]
   exact e7 fun j hj=>by rw [aZ7 k1' j (by omega)]
  rw [e];rw [h6] at k3
  grind
theorem b2x {s:g4} {g:List (Int × Rat)} {c y:Nat->Rat} {v:Rat} (h:b7y s c y v) {z:List Rat} (hz:o7 s z=true):v<=f7 (fun l=>c l*z.getD l 0) s.n.toNat:=by
 obtain ⟨hr,hl,hp,hw⟩:=a0u.1 hz
 have hn:=a0V hr
 have h0:∀l,l<s.n.toNat->0<=z.getD l 0:=fun l hl'=>by
  rw [lbl,lbf (by omega)]
  exact hp _ (lbE _)
 have h1:f7 (fun l=>R9 s y l*z.getD l 0) s.n.toNat<=f7 (fun l=>c l*z.getD l 0) s.n.toNat:=by
  have:=a1Q (f:=fun l=>(c l - R9 s y l)*z.getD l 0) (n:=s.n.toNat) fun l hl'=>lb1 (by have:=h.mix l hl';grind) (h0 l hl')
  rw [e7 (g:=fun l=>c l*z.getD l 0+(-1:Rat)*(R9 s y l*z.getD l 0)) fun l hl'=>by grind,a0Q,C5] at this
  grind
 have h2:f7 (fun l=>R9 s y l*z.getD l 0) s.n.toNat=f7 (fun i=>y i*p4 (y6 s i).terms z) s.rows.length:=by
  unfold R9
  rw [a7L (s:=s) (f:=fun i l=>y i*x8 (y6 s i).terms l)]
  refine e7 fun i hi=>?_
  have hx:s.rows[i]? =some (y6 s i):=by unfold y6;rw [lbl,lbf hi];rfl
  rw [O5 (a0l hr hx).1 z,←C5]
  exact e7 fun l hl=>by grind
 have h3:0<=f7 (fun i=>y i*(p4 (y6 s i).terms z - (y6 s i).value)) s.rows.length:=a1Q fun i hi=>by
  have hx:s.rows[i]? =some (y6 s i):=by unfold y6;rw [lbl,lbf hi];rfl
  obtain ⟨_,k1,k2⟩:=a0l hr hx
  obtain ⟨s1,s2⟩:=h.sign i _ hx
  obtain ⟨b1,b2⟩:=hw _ (lbm hx)
  by_cases e0:(y6 s i).kind=0
  ·have:=b1 (by omega)
   exact lb1 (s1 e0) (by grind)
  ·by_cases e1:(y6 s i).kind=1
   ·have:=b2 e0
    have:=lb1 (show 0<=-(y i) by have:=s2 e1;grind) (show 0<=-(p4 (y6 s i).terms z - (y6 s i).value) by grind)
    grind
   ·have a1:=b1 e1
    have a2:=b2 e0
    have:p4 (y6 s i).terms z - (y6 s i).value=0:=by grind
    rw [this];grind
 rw [e7 (g:=fun i=>y i*p4 (y6 s i).terms z+(-1:Rat)*(y i*(y6 s i).value)) fun i hi=>by grind,a0Q,C5] at h3
 have h4:=h.val
 unfold a38 at h4
 grind
end
section
set_option maxRecDepth 100000
def t7 (e:Ev):Nat->List Nat
 |0=>[]
 |k+1=>match e.moves[k]? with
  |some m=>if j9 e m.src=0 then t7 e k++[k] else t7 e k
  |none=>t7 e k
def i9 (e:Ev):List Nat:=t7 e e.moves.length
def a6y (e:Ev) (i:Nat):Prop:=∃m,e.moves[i]? =some m∧j9 e m.src=0
theorem a5j {e:Ev} {i:Nat}:∀{k:Nat},i ∈ t7 e k↔i<k∧a6y e i
 |0=>by simp [t7]
 |k+1=>by
  have ih:=a5j (e:=e) (i:=i) (k:=k)
  unfold t7
  cases hm:e.moves[k]? with
  |none=>
   simp only
   rw [ih]
   constructor
   ·rintro ⟨h1,h2⟩;exact ⟨by omega,h2⟩
   ·rintro ⟨h1,h2⟩
    refine ⟨?_,h2⟩
    obtain ⟨m,h3,_⟩:=h2
    by_cases h:i=k
    ·subst h;rw [hm] at h3;cases h3
    ·omega
  |some m=>
   simp only
   by_cases hk:j9 e m.src=0
   ·rw [if_pos hk,lbz,ih,List.mem_singleton]
    constructor
    ·rintro (⟨h1,h2⟩|h)
     ·exact ⟨by omega,h2⟩
     ·subst h;exact ⟨by omega,m,hm,hk⟩
    ·rintro ⟨h1,h2⟩
     by_cases h:i=k
     ·exact .inr h
     ·exact .inl ⟨by omega,h2⟩
   ·rw [if_neg hk,ih]
    constructor
    ·rintro ⟨h1,h2⟩;exact ⟨by omega,h2⟩
    ·rintro ⟨h1,h2⟩
     refine ⟨?_,h2⟩
     obtain ⟨m',h3,h4⟩:=h2
     by_cases h:i=k
     ·subst h;rw [hm] at h3;injection h3 with h3;subst h3;exact absurd h4 hk
     ·omega
theorem I4 {e:Ev} {i:Nat}:i ∈ i9 e↔a6y e i:=by
 unfold i9
 rw [a5j]
 constructor
 ·exact fun h=>h.2
 ·intro h
  have h':=h
  obtain ⟨m,h1,_⟩:=h'
  exact ⟨(lbe.1 h1).1,h⟩
theorem A7 {e:Ev}:∀k,(t7 e k).length<=k
 |0=>by simp [t7]
 |k+1=>by
  have ih:=A7 (e:=e) k
  unfold t7
  split
  ·split
   ·simp;omega
   ·omega
  ·omega
def M8 (l:List Nat) (i:Nat):List D3:=(l.filter fun j=>decide (j≠i)).map fun j=>p9 j 2 ((0:Int):Rat)
def t9 (t:d9) (kind:Int) (i:Nat):g4:=⟨t.ev.moves.length,(R5 (v8 t) kind).rows++M8 (i9 t.ev) i⟩
theorem a2y (l:List Nat) (i:Nat):(M8 l i).length<=l.length:=by unfold M8;rw [lbr];exact lbt _ _
structure a9u (t:d9) (kind:Int) (i:Nat) (z:List Rat):Prop where
 p:a9D (v8 t) kind z
 o:∀j,a6y t.ev j->j≠i->z.getD j 0=0
theorem a93 {t:d9} {kind:Int} {i:Nat} (hm:t.ev.moves.length<=14) (hc:t.cleans.length<=50):j8 (t9 t kind i)=true:=by
 have h:=a83 (t:=v8 t) (kind:=kind) hm (by simp [v8]) hc
 unfold j8 at h ⊢
 simp only [lbN,lbI] at h ⊢
 obtain ⟨⟨⟨h1,h2⟩,h3⟩,h4⟩:=h
 have hl:=S7 (t:=v8 t) (kind:=kind) t.ev.moves.length
 have hl2:t.ev.moves.length*(2+(v8 t).finds.length+(v8 t).cleans.length)<=14*52:=lbT hm (by show 2+0+t.cleans.length<=52;omega)
 have hl3:=a2y (i9 t.ev) i
 have hl4:=A7 (e:=t.ev) t.ev.moves.length
 refine ⟨⟨⟨h1,h2⟩,?_⟩,?_⟩
 ·show ((s6 (v8 t) kind t.ev.moves.length++M8 (i9 t.ev) i).length)<=6000
  rw [lbq]
  have:(i9 t.ev).length<=t.ev.moves.length:=hl4
  omega
 ·show ((R5 (v8 t) kind).rows++M8 (i9 t.ev) i).all (v7 (t.ev.moves.length:Nat))=true
  rw [List.all_append]
  have h5:(R5 (v8 t) kind).rows.all (v7 (t.ev.moves.length:Nat))=true:=h4
  rw [h5,Bool.true_and,lbv]
  intro w hw
  obtain ⟨j,hj,rfl⟩:=lbx.1 hw
  have hj:=(a5j.1 (lby.1 hj).1).1
  unfold v7 p9
  simp only [lbN,lbI]
  exact ⟨⟨a6w (by omega) (by omega) a6D,by decide⟩,by decide⟩
theorem alone_holds {t:d9} {kind:Int} {i:Nat} {z:List Rat} (ht:v3 t=0) (k0:0<=kind) (k1:kind<8) (hm:t.ev.moves.length<=14):o7 (t9 t kind i) z=true↔a9u t kind i z:=by
 have hc:=(o4 ht).2.2.1
 have hb:=sys_holds (t:=v8 t) (kind:=kind) (z:=z) (a1z ht) k0 k1 hm
 have hr1:=a93 (t:=t) (kind:=kind) (i:=i) hm hc
 have hr2:=a83 (t:=v8 t) (kind:=kind) hm (by simp [v8]) hc
 have e:o7 (t9 t kind i) z=(o7 (R5 (v8 t) kind) z && (M8 (i9 t.ev) i).all fun w=>U5 w z):=by
  unfold o7
  rw [hr1,hr2]
  show (true && decide ((z.length:Int)=(t.ev.moves.length:Nat)) && _ && ((R5 (v8 t) kind).rows++M8 (i9 t.ev) i).all _)=_
  rw [List.all_append]
  simp only [Bool.true_and,Bool.and_assoc]
  rfl
 rw [e,lbN,hb]
 constructor
 ·rintro ⟨h1,h2⟩
  refine ⟨h1,fun j hj hji=>?_⟩
  exact a5R.1 (lbv.1 h2 (p9 j 2 ((0:Int):Rat)) (lbx.2 ⟨j,lby.2 ⟨I4.2 hj,lbH hji⟩,rfl⟩))
 ·rintro ⟨h1,h2⟩
  refine ⟨h1,lbv.2 fun w hw=>?_⟩
  obtain ⟨j,hj,rfl⟩:=lbx.1 hw
  have hj:=lby.1 hj
  exact a5R.2 (h2 j (I4.1 hj.1) (lbL hj.2))
theorem al9 (n i:Nat):(List.replicate n (0:Rat)).getD i 0=0:=by
 rw [lbl]
 by_cases h:i<n
 ·simp [h]
 ·rw [lbd (by simp;omega)];rfl
theorem b2A {e:Ev} {z:List Rat} (hz:∀i,z.getD i 0=0) (k p:Nat):Q8 e z k p=0:=by
 have h:=al3 (e:=e) (w:=z) (z:=z) (y:=z) (a:=0) (b:=0) (fun i _=>by rw [hz i];grind) k p
 rw [h];grind
end
section
open Go.RowKit
inductive SK where
 |any|full|nil|nul|non
inductive T where
 |atm (v:Value)
 |sl (size:Nat) (k:SK) (rows:List (List T))
 |ptr (cells:List T)
 |fn (f:Fn) (caps:List T)
inductive C where
 |t (x:T)
 |ptr (id row off:Nat)
 |own (id lo len:Nat) (app:Bool)
 |fn (f:Fn) (caps:List C)
inductive S where
 |junk
 |c (x:C)
 |agg (cs:List C)
 |tup (ss:List S)
abbrev J:S:=.junk
inductive BM where
 |live|froz|old|dead
def BM.gone:BM->Prop
 |.dead=>True
 |.old=>True
 |_=>False
structure Blk where
 mode:BM
 elem:TypeId
 size:Nat
 rows:List (List C)
 box:Bool
 app:Bool:=false
inductive Loc where
 |nil
 |blk (b cap size:Nat)
abbrev Hp:=List Blk
abbrev Io:=Nat->Option Loc
abbrev Ms:=Nat->Prop
def at2 {α:Type} (rows:List (List α)) (i j:Nat):Option α:=(rows[i]?).bind (·[j]?)
inductive RT (w:World) (M:Ms):T->Value->Prop
 |atm {v:Value} (h:v.oneCell'=true):RT w M (.atm v) v
 |sl {size:Nat} {k:SK} {rows:List (List T)} {b off cap:Nat} {A:Option Addr} (f:Nat->Nat->Value)
   (hrow:∀r ∈ rows,r.length=size) (hcap:rows.length<=cap) (hmax:cap<=maxLen) (hk:k=.full->cap=rows.length)
   (hn:k=.nil->rows=[]∧A=none∧cap=0) (hA:rows≠[]->A=some ⟨b,off,none⟩)
   (hc:∀i j c,at2 rows i j=some c->w.cell? ⟨b,off+(i*size+j),none⟩=some (f i j)∧¬M b)
   (hr:∀i j c,at2 rows i j=some c->RT w M c (f i j)) (hx:(k=.nul->rows=[]∧A=none)∧(k=.non->A≠none):=by exact ⟨(fun h=>nomatch h),(fun h=>nomatch h)⟩):RT w M (.sl size k rows) (.slice A rows.length cap)
 |ptr {cells:List T} {b off:Nat} (f:Nat->Value)
   (hc:∀j c,cells[j]? =some c->w.cell? ⟨b,off+j,none⟩=some (f j)∧¬M b)
   (hr:∀j c,cells[j]? =some c->RT w M c (f j)):RT w M (.ptr cells) (.pointer (some ⟨b,off,none⟩))
 |fn {f:Fn} {caps:List T} (vs:List Value) (hl:vs.length=caps.length)
   (hr:∀j c,caps[j]? =some c->RT w M c (vs.getD j undef)):RT w M (.fn f caps) (.func f #[] vs.toArray)
inductive RC (w:World) (ι:Io) (M:Ms):C->Value->Prop
 |t {x:T} {v:Value} (h:RT w M x v):RC w ι M (.t x) v
 |ptr {id r o b cap size:Nat} (h:ι id=some (.blk b cap size)):RC w ι M (.ptr id r o) (.pointer (some ⟨b,r*size+o,none⟩))
 |own {id lo len:Nat} {app:Bool} {b cap size:Nat} {A:Option Addr} {cap':Nat} (h:ι id=some (.blk b cap size)) (h1:lo+len<=cap)
   (h2:0<len->A=some ⟨b,lo*size,none⟩) (h3:len<=cap') (h4:cap'<=maxLen)
   (h5:app=true->lo=0∧A=some ⟨b,0,none⟩∧cap'=cap):RC w ι M (.own id lo len app) (.slice A len cap')
 |nil {id:Nat} {app:Bool} {A:Option Addr} (h:ι id=some .nil):RC w ι M (.own id 0 0 app) (.slice A 0 0)
 |fn {f:Fn} {caps:List C} (vs:List Value) (hl:vs.length=caps.length)
   (hr:∀j c,caps[j]? =some c->RC w ι M c (vs.getD j undef)):RC w ι M (.fn f caps) (.func f #[] vs.toArray)
inductive RS (w:World) (ι:Io) (M:Ms):S->Value->Prop
 |junk {v:Value}:RS w ι M .junk v
 |c {x:C} {v:Value} (h:RC w ι M x v):RS w ι M (.c x) v
 |agg {cs:List C} (vs:List Value) (hl:vs.length=cs.length)
   (hr:∀j c,cs[j]? =some c->RC w ι M c (vs.getD j undef)):RS w ι M (.agg cs) (.agg vs.toArray)
 |tup {ss:List S} (vs:List Value) (hl:vs.length=ss.length)
   (hr:∀j s,ss[j]? =some s->RS w ι M s (vs.getD j undef)):RS w ι M (.tup ss) (.tuple vs.toArray)
theorem RT.one {w:World} {M:Ms} {x:T} {v:Value} (h:RT w M x v):v.oneCell'=true:=by
 cases h<;>first|assumption|rfl
theorem RC.one {w:World} {ι:Io} {M:Ms} {x:C} {v:Value} (h:RC w ι M x v):v.oneCell'=true:=by
 cases h<;>first|exact RT.one ‹_›|rfl
def L3 (w:World) (ι:Io) (M:Ms) (k:Blk):Loc->Prop
 |.nil=>k.rows=[]
 |.blk b cap size=>k.size=size∧0<size∧k.rows.length<=cap∧cap<=maxLen∧(∀ r ∈ k.rows,r.length=size)∧
   ∃cur:Array Value,w.heap[b]? =some (.cells cur k.elem (0,0))∧cur.size=cap*size∧
    ∀i j c,at2 k.rows i j=some c->∃u,cur[i*size+j]? =some u∧RC w ι M c u
structure p5 (w:World) (ι:Io) (M:Ms) (H:Hp):Prop where
 blk:∀(id:Nat) (k:Blk),H[id]? =some k->k.mode≠.dead->∀l,ι id=some l->L3 w ι M k l
 liv:∀(id:Nat) (k:Blk),H[id]? =some k->k.mode=.live->∀b cap size,ι id=some (.blk b cap size)->M b
 fro:∀(id:Nat) (k:Blk),H[id]? =some k->k.mode=.froz->∀b cap size,ι id=some (.blk b cap size)->¬M b
 inj:∀(id id':Nat) (k k':Blk),H[id]? =some k->H[id']? =some k'->k.mode=.live->k'.mode=.live->
  ∀b cap size cap' size',ι id=some (.blk b cap size)->ι id'=some (.blk b cap' size')->id=id'
 old:∀(id id':Nat) (k k':Blk),H[id]? =some k->H[id']? =some k'->k.mode=.old->k'.mode=.live->
  ∀b cap size cap' size',ι id=some (.blk b cap size)->ι id'=some (.blk b cap' size')->k'.app=true∧size=size'∧k.rows.length<=k'.rows.length
def a48 (ι:Io) (H:Hp) (b:Nat):Prop:=∃id k cap size,H[id]? =some k∧k.mode=.live∧ι id=some (.blk b cap size)
def MB (w:World) (M:Ms):Prop:=∀b,M b->b<w.heap.size
def a2E (ι:Io) (n:Nat):Prop:=∀id,n<=id->ι id=none
structure a4t (w:World) (ι:Io) (M:Ms) (H:Hp) (w':World) (ι':Io) (M':Ms) (H':Hp):Prop where
 os:w'.os=w.os
 tape:w'.tape=w.tape
 output:w'.output=w.output
 size:w.heap.size<=w'.heap.size
 keep:∀b,b<w.heap.size->¬a48 ι H b->w'.heap[b]? =w.heap[b]?
 same:∀id,id<H.length->ι' id=ι id
 mnew:∀b,M' b->M b∨w.heap.size<=b
 mold:∀b,M b->M' b∨a48 ι H b
 live:∀b,a48 ι' H' b->a48 ι H b∨w.heap.size<=b
 len:H.length<=H'.length
theorem D9 {w:World} {b:Nat} {o:Obj} (h:w.heap[b]? =some o):b<w.heap.size:=(lb6.1 h).1
theorem b1E {w:World} {a:Addr} {u:Value} (h:w.cell? a=some u):a.block<w.heap.size:=World.block_lt_of_cell? w a h
theorem RT.keep {w w':World} {M M':Ms} (hk:∀b,b<w.heap.size->¬M b->w'.heap[b]? =w.heap[b]?) (hm:∀b,M' b->M b∨w.heap.size<=b)
 {x:T} {v:Value} (h:RT w M x v):RT w' M' x v:=by
 induction h with
 |atm h=>exact .atm h
 |sl f hrow hcap hmax hk1 hn hA hc hr hx ih=>
  refine .sl f hrow hcap hmax hk1 hn hA (fun i j c hc'=>?_) ih hx
  obtain ⟨h1,h2⟩:=hc i j c hc'
  have hlt:=b1E h1
  refine ⟨(World.cell?_of_block (hk _ hlt h2)).trans h1,fun hM=>?_⟩
  rcases hm _ hM with h3|h3
  ·exact h2 h3
  ·exact absurd h3 (by simpa using hlt)
 |ptr f hc hr ih=>
  refine .ptr f (fun j c hc'=>?_) ih
  obtain ⟨h1,h2⟩:=hc j c hc'
  have hlt:=b1E h1
  refine ⟨(World.cell?_of_block (hk _ hlt h2)).trans h1,fun hM=>?_⟩
  rcases hm _ hM with h3|h3
  ·exact h2 h3
  ·exact absurd h3 (by simpa using hlt)
 |fn vs hl hr ih=>exact .fn vs hl ih
theorem RC.keep {w w':World} {ι ι':Io} {M M':Ms} (hk:∀b,b<w.heap.size->¬M b->w'.heap[b]? =w.heap[b]?) (hm:∀b,M' b->M b∨w.heap.size<=b)
 (hi:∀id l,ι id=some l->ι' id=some l) {x:C} {v:Value} (h:RC w ι M x v):RC w' ι' M' x v:=by
 induction h with
 |t h=>exact .t (h.keep hk hm)
 |ptr h=>exact .ptr (hi _ _ h)
 |own h h1 h2 h3 h4 h5=>exact .own (hi _ _ h) h1 h2 h3 h4 h5
 |nil h=>exact .nil (hi _ _ h)
 |fn vs hl hr ih=>exact .fn vs hl ih
theorem RS.keep {w w':World} {ι ι':Io} {M M':Ms} (hk:∀b,b<w.heap.size->¬M b->w'.heap[b]? =w.heap[b]?) (hm:∀b,M' b->M b∨w.heap.size<=b)
 (hi:∀id l,ι id=some l->ι' id=some l) {x:S} {v:Value} (h:RS w ι M x v):RS w' ι' M' x v:=by
 induction h with
 |junk=>exact .junk
 |c h=>exact .c (h.keep hk hm hi)
 |agg vs hl hr=>exact .agg vs hl fun j c hc=>(hr j c hc).keep hk hm hi
 |tup vs hl hr ih=>exact .tup vs hl ih
theorem a48.inM {w:World} {ι:Io} {M:Ms} {H:Hp} (h:p5 w ι M H) {b:Nat} (hl:a48 ι H b):M b:=by
 obtain ⟨id,k,cap,size,h1,h2,h3⟩:=hl
 exact h.liv id k h1 h2 b cap size h3
theorem a4t.refl (w:World) (ι:Io) (M:Ms) (H:Hp):a4t w ι M H w ι M H:=
 ⟨rfl,rfl,rfl,lbR _,fun _ _ _=>rfl,fun _ _=>rfl,fun _ h=>.inl h,fun _ h=>.inl h,fun _ h=>.inl h,lbR _⟩
theorem a4t.trans {w w1 w2:World} {ι ι1 ι2:Io} {M M1 M2:Ms} {H H1 H2:Hp} (hb:MB w M) (a:a4t w ι M H w1 ι1 M1 H1) (c:a4t w1 ι1 M1 H1 w2 ι2 M2 H2):
 a4t w ι M H w2 ι2 M2 H2 where
 os:=c.os.trans a.os
 tape:=c.tape.trans a.tape
 output:=c.output.trans a.output
 size:=lbS a.size c.size
 keep:=fun k hk hl=>(c.keep k (Nat.lt_of_lt_of_le hk a.size) fun h=>by rcases a.live k h with h|h;exact hl h;omega).trans (a.keep k hk hl)
 same:=fun id hid=>(c.same id (Nat.lt_of_lt_of_le hid a.len)).trans (a.same id hid)
 mnew:=fun k h=>by
  rcases c.mnew k h with h|h
  ·exact a.mnew k h
  ·exact .inr (lbS a.size h)
 mold:=fun k h=>by
  rcases a.mold k h with h1|h1
  ·rcases c.mold k h1 with h2|h2
   ·exact .inl h2
   ·rcases a.live k h2 with h3|h3
    ·exact .inr h3
    ·have:=hb k h;omega
  ·exact .inr h1
 live:=fun k h=>by
  rcases c.live k h with h|h
  ·exact a.live k h
  ·exact .inr (lbS a.size h)
 len:=lbS a.len c.len
structure Ext (w w':World):Prop where
 os:w'.os=w.os
 tape:w'.tape=w.tape
 output:w'.output=w.output
 size:w.heap.size<=w'.heap.size
 keep:∀b,b<w.heap.size->w'.heap[b]? =w.heap[b]?
theorem Ext.refl (w:World):Ext w w:=⟨rfl,rfl,rfl,lbR _,fun _ _=>rfl⟩
def y7 (ι:Io) (n m:Nat) (new:Nat->Loc):Io:=fun id=>if n<=id∧id<n+m then some (new (id - n)) else ι id
def a4G (M:Ms) (m:Nat) (new:Nat->Loc):Ms:=fun b=>M b∨∃k,k<m∧∃cap size,new k=.blk b cap size
def H6 (w:World) (ι:Io) (M:Ms) (n:Nat) (s:S) (B:List Blk) (v:Value) (w':World):Prop:=
 ∃new:Nat->Loc,RS w' (y7 ι n B.length new) (a4G M B.length new) s v∧Ext w w'∧
  (∀ k blk,B[k]? =some blk->blk.mode=.live∧L3 w' (y7 ι n B.length new) (a4G M B.length new) blk (new k))∧
  (∀ k b cap size,k<B.length->new k=.blk b cap size->w.heap.size<=b∧b<w'.heap.size)∧
  (∀ k k' b cap size cap' size',k<B.length->k'<B.length->new k=.blk b cap size->new k'=.blk b cap' size'->k=k')
def E5 (w:World) (ι:Io) (M:Ms) (H:Hp) (s:S) (H':Hp) (v:Value) (w':World):Prop:=
 ∃(ι':Io) (M':Ms),RS w' ι' M' s v∧p5 w' ι' M' H'∧MB w' M'∧a2E ι' H'.length∧a4t w ι M H w' ι' M' H'
theorem a8D {ι:Io} {n m:Nat} {new:Nat->Loc} (hf:∀k,k<m->ι (n+k)=none) {id:Nat} {l:Loc} (h:ι id=some l):y7 ι n m new id=some l:=by
 unfold y7
 split
 ·rename_i hc
  have:=hf (id - n) (by omega)
  rw [show n+(id - n)=id by omega,h] at this
  cases this
 ·exact h
theorem H6.gpost {w:World} {ι:Io} {M:Ms} {H:Hp} {s:S} {B:List Blk} {v:Value} {w':World} (hH:p5 w ι M H) (hM:MB w M) (hF:a2E ι H.length)
 (h:H6 w ι M H.length s B v w'):E5 w ι M H s (H++B) v w':=by
 obtain ⟨new,h1,h2,h3,h4,h5⟩:=h
 have hnone:∀k,k<B.length->ι (H.length+k)=none:=fun k _=>hF _ (by omega)
 have hold:∀id,id<H.length->y7 ι H.length B.length new id=ι id:=fun id hid=>by
  unfold y7;rw [if_neg (by omega)]
 have hnew:∀k,k<B.length->y7 ι H.length B.length new (H.length+k)=some (new k):=fun k hk=>by
  unfold y7;rw [if_pos (by omega)];congr 2;omega
 have hdist:∀id b cap size,ι id=some (.blk b cap size)->∀k,H[id]? =some k->k.mode≠.dead->b<w.heap.size:=fun id b cap size hi k hk hd=>by
  have:=hH.blk id k hk hd _ hi
  obtain ⟨_,_,_,_,_,cur,hc,_⟩:=this
  exact D9 hc
 refine ⟨_,_,h1,⟨?_,?_,?_,?_,?_⟩,?_,?_,?_⟩
 ·intro id k hk hd l hl
  by_cases hid:id<H.length
  ·rw [lbb hid] at hk
   rw [hold id hid] at hl
   have hb:=hH.blk id k hk hd l hl
   cases l with
   |nil=>exact hb
   |blk b cap size=>
    obtain ⟨q1,q2,q3,q4,q5,cur,q6,q7,q8⟩:=hb
    refine ⟨q1,q2,q3,q4,q5,cur,(h2.keep b (D9 q6)).trans q6,q7,fun i j c hc=>?_⟩
    obtain ⟨u,hu,hr⟩:=q8 i j c hc
    refine ⟨u,hu,hr.keep (fun b hb _=>h2.keep b hb) (fun b hb=>?_) (fun id l=>a8D hnone)⟩
    rcases hb with hb|⟨k,hk,cap,size,he⟩
    ·exact .inl hb
    ·exact .inr (h4 k b cap size hk he).1
  ·rw [lbc (by omega)] at hk
   have hlt:=(lbe.1 hk).1
   have e:y7 ι H.length B.length new id=some (new (id - H.length)):=by
    unfold y7;rw [if_pos (by omega)]
   rw [e] at hl
   injection hl with hl
   subst hl
   exact (h3 _ _ hk).2
 ·intro id k hk hl b cap size hi
  by_cases hid:id<H.length
  ·rw [lbb hid] at hk
   rw [hold id hid] at hi
   exact .inl (hH.liv id k hk hl b cap size hi)
  ·rw [lbc (by omega)] at hk
   have hlt:=(lbe.1 hk).1
   have e:y7 ι H.length B.length new id=some (new (id - H.length)):=by
    unfold y7;rw [if_pos (by omega)]
   rw [e] at hi
   injection hi with hi
   exact .inr ⟨_,hlt,cap,size,hi⟩
 ·intro id k hk hl b cap size hi
  by_cases hid:id<H.length
  ·rw [lbb hid] at hk
   rw [hold id hid] at hi
   have hb:=hdist _ _ _ _ hi k hk (by rw [hl];intro h;cases h)
   rintro (hM'|⟨k',hk',cap',size',he⟩)
   ·exact hH.fro id k hk hl b cap size hi hM'
   ·have:=(h4 _ _ _ _ hk' he).1
    omega
  ·rw [lbc (by omega)] at hk
   have:=(h3 _ _ hk).1
   rw [hl] at this
   cases this
 ·intro id id' k k' hk hk' hl hl' b cap size cap' size' hi hi'
  by_cases hid:id<H.length<;>by_cases hid':id'<H.length
  ·rw [lbb hid] at hk
   rw [lbb hid'] at hk'
   rw [hold _ hid] at hi
   rw [hold _ hid'] at hi'
   exact hH.inj id id' k k' hk hk' hl hl' b cap size cap' size' hi hi'
  ·rw [lbb hid] at hk
   rw [hold _ hid] at hi
   have:=hdist _ _ _ _ hi k hk (by rw [hl];intro h;cases h)
   rw [lbc (by omega)] at hk'
   have hlt:=(lbe.1 hk').1
   have e:y7 ι H.length B.length new id'=some (new (id' - H.length)):=by
    unfold y7;rw [if_pos (by omega)]
   rw [e] at hi'
   injection hi' with hi'
   have:=(h4 _ _ _ _ hlt hi').1
   omega
  ·rw [lbb hid'] at hk'
   rw [hold _ hid'] at hi'
   have:=hdist _ _ _ _ hi' k' hk' (by rw [hl'];intro h;cases h)
   rw [lbc (by omega)] at hk
   have hlt:=(lbe.1 hk).1
   have e:y7 ι H.length B.length new id=some (new (id - H.length)):=by
    unfold y7;rw [if_pos (by omega)]
   rw [e] at hi
   injection hi with hi
   have:=(h4 _ _ _ _ hlt hi).1
   omega
  ·rw [lbc (by omega)] at hk hk'
   have hlt:=(lbe.1 hk).1
   have hlt':=(lbe.1 hk').1
   have e:y7 ι H.length B.length new id=some (new (id - H.length)):=by
    unfold y7;rw [if_pos (by omega)]
   have e':y7 ι H.length B.length new id'=some (new (id' - H.length)):=by
    unfold y7;rw [if_pos (by omega)]
   rw [e] at hi
   rw [e'] at hi'
   injection hi with hi
   injection hi' with hi'
   have:=h5 _ _ _ _ _ _ _ hlt hlt' hi hi'
   omega
 ·intro id id' k k' hk hk' hl hl' b cap size cap' size' hi hi'
  by_cases hid:id<H.length
  ·rw [lbb hid] at hk
   rw [hold _ hid] at hi
   by_cases hid':id'<H.length
   ·rw [lbb hid'] at hk'
    rw [hold _ hid'] at hi'
    exact hH.old id id' k k' hk hk' hl hl' b cap size cap' size' hi hi'
   ·have:=hdist _ _ _ _ hi k hk (by rw [hl];intro h;cases h)
    rw [lbc (by omega)] at hk'
    have hlt:=(lbe.1 hk').1
    have e:y7 ι H.length B.length new id'=some (new (id' - H.length)):=by
     unfold y7;rw [if_pos (by omega)]
    rw [e] at hi'
    injection hi' with hi'
    have:=(h4 _ _ _ _ hlt hi').1
    omega
  ·rw [lbc (by omega)] at hk
   have:=(h3 _ _ hk).1
   rw [hl] at this
   cases this
 ·intro b hb
  rcases hb with hb|⟨k,hk,cap,size,he⟩
  ·exact Nat.lt_of_lt_of_le (hM b hb) h2.size
  ·exact (h4 k b cap size hk he).2
 ·intro id hid
  rw [lbq] at hid
  unfold y7
  rw [if_neg (by omega)]
  exact hF id (by omega)
 ·refine ⟨h2.os,h2.tape,h2.output,h2.size,fun b hb _=>h2.keep b hb,fun id hid=>hold id hid,?_,fun b hb=>.inl (.inl hb),?_,by simp⟩
  ·intro b hb
   rcases hb with hb|⟨k,hk,cap,size,he⟩
   ·exact .inl hb
   ·exact .inr (h4 k b cap size hk he).1
  ·rintro b ⟨id,k,cap,size,hk,hl,hi⟩
   by_cases hid:id<H.length
   ·rw [lbb hid] at hk
    rw [hold _ hid] at hi
    exact .inl ⟨id,k,cap,size,hk,hl,hi⟩
   ·rw [lbc (by omega)] at hk
    have hlt:=(lbe.1 hk).1
    have e:y7 ι H.length B.length new id=some (new (id - H.length)):=by
     unfold y7;rw [if_pos (by omega)]
    rw [e] at hi
    injection hi with hi
    exact .inr (h4 _ _ _ _ hlt hi).1
def b0m (P : Program) (g : FuncId) : Prop := ∃ fn, P.funcs[g]? = some fn ∧ fn.body.isSome = true ∧ fn.name ≠ "runtime.NumGoroutine"
def Z5 (P:Program) (g:FuncId) (args:List S) (H:Hp) (s:S) (B:List Blk):Prop:=
 b0m P g∧∀(w:World) (ι:Io) (M:Ms) (vals:List Value),vals.length=args.length->(∀ j s,args[j]? =some s->RS w ι M s (vals.getD j undef))->p5 w ι M H->MB w M->
  (∀ k,k<B.length->ι (H.length+k)=none)->Calls P g vals.toArray w fun e w'=>∃v,e=.returned v∧H6 w ι M H.length s B v w'
def a9 (P:Program) (g:FuncId) (args:List S) (H:Hp) (s:S) (H':Hp):Prop:=
 b0m P g∧∀(w:World) (ι:Io) (M:Ms) (vals:List Value),vals.length=args.length->(∀ j s,args[j]? =some s->RS w ι M s (vals.getD j undef))->p5 w ι M H->MB w M->
  a2E ι H.length->Calls P g vals.toArray w fun e w'=>∃v,e=.returned v∧E5 w ι M H s H' v w'
end
section
open Go.RowKit
inductive TK where
 |bas
 |bool
 |int (k:IntKind)
 |slice (e:TypeId)
 |arr (n:Nat) (e:TypeId)
 |struct (fs:List (Nat × Nat × Bool))
structure TD where
 k:TK
 agg:Bool
 size:Nat
 bytes:Nat
 zero:List Value
abbrev Tab:=Nat->Option TD
abbrev Env:=List S
def B3 (v:Value):C:=
 match v with
 |.slice none 0 0=>.t (.sl 0 .nil [])
 |v=>.t (.atm v)
def b0S (v:Value):S:=
 match v with
 |.agg cs=>cond (cs.toList.all (·.oneCell')) (.agg (cs.toList.map B3)) .junk
 |.tuple _=>.junk
 |.slice none 0 0=>.c (.t (.sl 0 .nil []))
 |v=>.c (.t (.atm v))
def F5 (env:Env):Operand->S
 |.tmp t=>env.getD t .junk
 |.const v=>b0S v
 |.global _=>.junk
 |.func f=>.c (.t (.fn (.func f) []))
section
variable {α β:Type}
def aR3:Nat->List α->(List α->Prop)->Prop
 |0,_,k=>k []
 |_+1,[],_=>False
 |n+1,x::l,k=>aR3 n l fun r=>k (x::r)
def as1:Nat->List α->(List α->Prop)->Prop
 |0,l,k=>k l
 |_+1,[],_=>False
 |n+1,_::l,k=>as1 n l k
def a3d (n:Nat) (l:List α) (k:α->Prop):Prop:=
 List.rec (motive:=fun _=>Nat->Prop) (fun _=>False) (fun x _ ih n=>Nat.rec (motive:=fun _=>Prop) (k x) (fun n _=>ih n) n) l n
def a63 (n:Nat) (v:α) (l:List α) (k:List α->Prop):Prop:=
 List.rec (motive:=fun _=>Nat->(List α->Prop)->Prop) (fun _ k=>k []) (fun x r ih n k=>Nat.rec (motive:=fun _=>Prop) (k (v::r)) (fun n _=>ih n fun q=>k (x::q)) n) l n k
def a5g:Nat->List α->List α->(List α->Prop)->Prop
 |_,[],l,k=>k l
 |_,_::_,[],_=>False
 |0,x::xs,_::l,k=>a5g 0 xs l fun r=>k (x::r)
 |n+1,x::xs,y::l,k=>a5g n (x::xs) l fun r=>k (y::r)
def a9E (f:α->β):List α->(List β->Prop)->Prop
 |[],k=>k []
 |x::l,k=>a9E f l fun r=>k (f x::r)
def ad1 (l r:List α) (k:List α->Prop):Prop:=
 List.rec (motive:=fun _=>(List α->Prop)->Prop) (fun k=>k r) (fun x _ ih k=>ih fun q=>k (x::q)) l k
def a9x (l:List α) (n:Nat) (k:Nat->Prop):Prop:=
 List.rec (motive:=fun _=>Nat->Prop) (fun n=>k n) (fun _ _ ih n=>ih (n+1)) l n
end
def aX2:List C->Option (List T)
 |[]=>some []
 |.t x::r=>match aX2 r with
  |some xs=>some (x::xs)
  |none=>none
 |_::_=>none
def aR2:List (List C)->Option (List (List T))
 |[]=>some []
 |x::r=>match aX2 x,aR2 r with
  |some a,some b=>some (a::b)
  |_,_=>none
def a7 (k:IntKind) (n:Int):S:=.c (.t (.atm (.int k n)))
def e8 (b:Bool):S:=.c (.t (.atm (.bool b)))
def ah7 (s:S) (k:S->Prop):Prop:=
 match s with
 |.junk=>k .junk
 |.c x=>k (.c x)
 |.agg cs=>k (.agg cs)
 |.tup ss=>k (.tup ss)
structure a2p (b:Bool) (k:S->Prop):Prop where
 yes:b=true->k (e8 true)
 no:b=false->k (e8 false)
structure ao6 (p:Prop) [Decidable p] (k:S->Prop):Prop where
 yes:p->k (e8 true)
 no:¬p->k (e8 false)
def aK5 (s:S) (k:S->Prop):Prop:=
 match s with
 |.junk=>k .junk
 |.c x=>match x with
  |.t y=>match y with
   |.atm v=>match v with
    |.bool b=>a2p b k
    |v=>k (.c (.t (.atm v)))
   |y=>k (.c (.t y))
  |x=>k (.c x)
 |.agg cs=>k (.agg cs)
 |.tup ss=>k (.tup ss)
def a2L (s:S) (k:List C->Prop):Prop:=
 match s with
 |.c x=>k [x]
 |.agg cs=>k cs
 |_=>False
def F8 (k:IntKind) (x n:Int):Prop:=n=k.wrap x
def b2c (d:TD) (row:List C) (o:Nat) (K:S->Prop):Prop:=
 as1 o row fun r=>cond d.agg (aR3 d.size r fun cs=>K (.agg cs)) (a3d 0 r fun c=>K (.c c))
def aH7 (d:TD) (row:List T) (K:S->Prop):Prop:=
 cond d.agg (aR3 d.size row fun cs=>a9E C.t cs fun cs=>K (.agg cs)) (a3d 0 row fun c=>K (.c (.t c)))
def b7q (b:Blk) (r:Nat) (k:List C->Prop):Prop:=
 match b.box with
 |true=>match b.rows,r with
  |[row],0=>k row
  |_,_=>False
 |false=>∃row,b.rows[r]? =some row∧k row
def a2m (b:Blk) (k:Prop):Prop:=match b.mode with|.dead=>False|_=>k
def a4D (b:Blk) (k:Prop):Prop:=match b.mode,b.app with|.live,false=>k|_,_=>False
def ah6 (b:Blk) (k k':Prop):Prop:=match b.mode with|.live=>cond b.app k k'|_=>False
structure a2n (a b c:Prop):Prop where
 out:a∨b∨c
theorem a2n.data {a b c:Prop} (h:a):a2n a b c:=⟨.inl h⟩
theorem a2n.own {a b c:Prop} (h:b):a2n a b c:=⟨.inr (.inl h)⟩
theorem a2n.weak {a b c:Prop} (h:c):a2n a b c:=⟨.inr (.inr h)⟩
structure af9 (a b:Prop):Prop where
 out:a∨b
theorem af9.data {a b:Prop} (h:a):af9 a b:=⟨.inl h⟩
theorem af9.own {a b:Prop} (h:b):af9 a b:=⟨.inr h⟩
def at4 (τ:Tab) (ev:Operand->S) (H:Hp) (t:TypeId) (x:Operand) (K:S->Prop):Prop:=
 match τ t with
 |none=>False
 |some d=>match ev x with
  |.c (.ptr id r o)=>a3d id H fun b=>a2m b (b7q b r fun row=>b2c d row o K)
  |.c (.t (.ptr cells))=>aH7 d cells K
  |_=>False
def t8 (b:Blk) (rows:List (List C)):Blk:=⟨b.mode,b.elem,b.size,rows,b.box,b.app⟩
def aE1 (τ:Tab) (ev:Operand->S) (H:Hp) (t:TypeId) (x v:Operand) (K:Hp->Prop):Prop:=
 match τ t with
 |none=>False
 |some d=>match ev x with
  |.c (.ptr id r o)=>a3d id H fun b=>a4D b <| a2L (ev v) fun cs=>cond (Nat.beq cs.length d.size)
    (b7q b r fun row=>a5g o cs row fun row'=>
      match b.box with
      |true=>a63 id (t8 b [row']) H K
      |false=>a63 id (t8 b (b.rows.set r row')) H K) False
  |_=>False
def ac2 (τ:Tab) (s:TypeId) (f:Nat) (k:Nat->Prop):Prop:=
 match τ s with
 |some ⟨.struct fs,_,_,_,_⟩=>match fs[f]? with
  |some (off,size,_)=>cond (Nat.beq size 0) False (k off)
  |none=>False
 |_=>False
def a6A (τ:Tab) (ev:Operand->S) (s:TypeId) (x:Operand) (f:Nat) (K:S->Prop):Prop:=
 ac2 τ s f fun off=>match ev x with
  |.c (.ptr id r o)=>K (.c (.ptr id r (o+off)))
  |.c (.t (.ptr cells))=>as1 off cells fun cs=>K (.c (.t (.ptr cs)))
  |_=>False
def a5m (τ:Tab) (e:TypeId) (k:Nat->Prop):Prop:=match τ e with|some d=>k d.size|none=>False
def a3H (τ:Tab) (ev:Operand->S) (H:Hp) (t:TypeId) (x i:Operand) (K:S->Prop):Prop:=
 match ev i with
 |.c (.t (.atm (.int _ n)))=>match τ t with
  |some ⟨.slice e,_,_,_,_⟩=>match ev x with
   |.c (.t (.sl size k rows))=>a5m τ e fun s=>cond (Nat.beq s size) (∃ row,0<=n∧rows[n.toNat]? =some row∧K (.c (.t (.ptr row)))) False
   |.c (.own id lo len app)=>a5m τ e fun s=>a3d id H fun b=>a2m b (cond (Nat.beq s b.size) ((0<=n∧n<(len:Int))∧K (.c (.ptr id (lo+n.toNat) 0))) False)
   |_=>False
  |some ⟨.arr m e,_,_,_,_⟩=>a5m τ e fun s=>match ev x with
   |.c (.ptr id r o)=>(0<=n∧n<(m:Int))∧K (.c (.ptr id r (o+n.toNat*s)))
   |.c (.t (.ptr cells))=>(0<=n∧n<(m:Int))∧as1 (n.toNat*s) cells fun cs=>K (.c (.t (.ptr cs)))
   |_=>False
  |_=>False
 |_=>False
def P3 (ev:Operand->S) (x:Option Operand) (dflt:Int) (k:Int->Prop):Prop:=
 match x with
 |none=>k dflt
 |some x=>match ev x with
  |.c (.t (.atm (.int _ n)))=>k n
  |_=>False
def a0s (k:SK) (hi max:Option Operand):SK:=
 match k,hi,max with
 |.full,none,none=>.full
 |_,_,_=>.any
def a5d (τ:Tab) (ev:Operand->S) (H:Hp) (t:TypeId) (x:Operand) (lo hi max:Option Operand) (K:S->Prop):Prop:=
 match τ t with
 |some ⟨.slice e,_,_,_,_⟩=>match max with
  |none=>match ev x with
   |.c (.t (.sl 0 .nil _))=>P3 ev lo 0 fun l=>P3 ev hi 0 fun h=>a5m τ e fun s=>(0<=l∧l<=h∧h<=0)∧K (.c (.t (.sl 0 .nil [])))
   |.c (.t (.sl size k rows))=>P3 ev lo 0 fun l=>P3 ev hi rows.length fun h=>a5m τ e fun s=>
     cond (Nat.beq s size) ((0<=l∧l<=h∧h<=rows.length)∧K (.c (.t (.sl size (a0s k hi max) ((rows.take h.toNat).drop l.toNat))))) False
   |.c (.own id l0 len app)=>P3 ev lo 0 fun l=>P3 ev hi len fun h=>
     a5m τ e fun s=>a3d id H fun b=>a2m b <| cond (Nat.beq s b.size) (((0<=l∧l<=h∧h<=(len:Int))∧K (.c (.own id (l0+l.toNat) (h - l).toNat (app && lo.isNone))))) False
   |_=>False
  |some y=>match ev y with
   |.c (.t (.atm (.int _ m)))=>match ev x with
    |.c (.t (.sl size k rows))=>P3 ev lo 0 fun l=>P3 ev hi 0 fun h=>a5m τ e fun s=>cond hi.isSome
      (cond (Nat.beq s size) ((0<=l∧l<=h∧m=h∧h<=rows.length)∧K (.c (.t (.sl size .full ((rows.take h.toNat).drop l.toNat))))) False) False
    |.c (.own id l0 len app)=>P3 ev lo 0 fun l=>P3 ev hi 0 fun h=>cond hi.isSome
      (a5m τ e fun s=>a3d id H fun b=>a2m b <| cond (Nat.beq s b.size) (((0<=l∧l<=h∧m=h∧h<=(len:Int))∧K (.c (.own id (l0+l.toNat) (h - l).toNat false)))) False) False
    |_=>False
   |_=>False
 |_=>False
def aK2 (k:IntKind) (a b n:Int):Prop:=n=a.fdiv (2 ^ min b.toNat k.bits)
def V3 (op:BinOp) (k:IntKind) (a b n:Int):Prop:=
 match op with
 |.and=>n=k.wrap (BitVec.ofInt k.bits a &&& BitVec.ofInt k.bits b).toNat
 |.or=>n=k.wrap (BitVec.ofInt k.bits a ||| BitVec.ofInt k.bits b).toNat
 |.xor=>n=k.wrap (BitVec.ofInt k.bits a ^^^ BitVec.ofInt k.bits b).toNat
 |.andNot=>n=k.wrap (BitVec.ofInt k.bits a &&& ~~~ BitVec.ofInt k.bits b).toNat
 |_=>False
def b9n (op:BinOp) (k k':IntKind) (a b:Int) (K:S->Prop):Prop:=
 match op with
 |.shl=>0<=b∧∃n,F8 k (a*2 ^ min b.toNat k.bits) n∧K (a7 k n)
 |.shr=>0<=b∧∃n,aK2 k a b n∧K (a7 k n)
 |op=>cond (decide (k=k')) (match op with
  |.add=>∃n,F8 k (a+b) n∧K (a7 k n)
  |.sub=>∃n,F8 k (a - b) n∧K (a7 k n)
  |.mul=>∃n,F8 k (a*b) n∧K (a7 k n)
  |.quo=>b≠0∧∃n,F8 k (a.tdiv b) n∧K (a7 k n)
  |.rem=>b≠0∧K (a7 k (a.tmod b))
  |.eql=>ao6 (a=b) K
  |.neq=>ao6 (a≠b) K
  |.lss=>ao6 (a<b) K
  |.leq=>ao6 (a<=b) K
  |.gtr=>ao6 (a > b) K
  |.geq=>ao6 (a≥b) K
  |op=>∃n,V3 op k a b n∧K (a7 k n)) False
def aC6 (x:C) (k:Bool->Prop):Prop:=
 match x with
 |.t (.sl _ .nil _)=>k true
 |.t (.sl _ .nul _)=>k true
 |.t (.sl _ .non _)=>k false
 |.t (.sl _ _ rows)=>0<rows.length∧k false
 |.own _ _ len _=>0<len∧k false
 |_=>False
def EqS (P:Program) (t:TypeId) (n:Nat):Prop:=P.eqGuardType P.depth t=false∧∀(ul bs:List Int) (w:World),ul.length=n->bs.length=n->
 (Op.equalIn 10000 t (.agg (ul.map (Value.int .i64)).toArray) (.agg (bs.map (Value.int .i64)).toArray)).run P w=.ok (ul == bs) w
def aP8:List C->(List Int->Prop)->Prop
 |[],k=>k []
 |.t (.atm (.int .i64 a))::cs,k=>aP8 cs fun l=>k (a::l)
 |_,_=>False
def bg0 (P:Program) (op:BinOp) (t:TypeId) (cs ds:List C) (K:S->Prop):Prop:=
 aP8 cs fun ul=>aP8 ds fun bs=>(EqS P t ul.length∧bs.length=ul.length)∧match op with
  |.eql=>a2p (ul == bs) K
  |.neq=>a2p (!(ul == bs)) K
  |_=>False
def bb7 (P:Program) (τ:Tab) (op:BinOp) (t:TypeId) (x y:S) (K:S->Prop):Prop:=
 match x,y with
 |.c (.t (.atm (.int k a))),.c (.t (.atm (.int k' b)))=>b9n op k k' a b K
 |.c (.t (.atm (.bool a))),.c (.t (.atm (.bool b)))=>match τ t with
  |some ⟨.bool,_,_,_,_⟩=>match op with
   |.eql=>a2p (a == b) K
   |.neq=>a2p (!(a == b)) K
   |_=>False
  |_=>False
 |.c x,.c (.t (.sl _ .nil []))=>match τ t with
  |some ⟨.slice _,_,_,_,_⟩=>match op with
   |.eql=>aC6 x fun b=>K (e8 b)
   |.neq=>aC6 x fun b=>K (e8 (!b))
   |_=>False
  |_=>False
 |.agg cs,.agg ds=>bg0 P op t cs ds K
 |_,_=>False
def aun (op:UnOp) (x:S) (K:S->Prop):Prop:=
 match op,x with
 |.neg,.c (.t (.atm (.int k a)))=>∃n,F8 k (0 - a) n∧K (a7 k n)
 |.not,.c (.t (.atm (.bool b)))=>K (e8 (!b))
 |_,_=>False
def b5Z (τ:Tab) (src dst:TypeId) (x:S) (K:S->Prop):Prop:=
 match x,τ src,τ dst with
 |.c (.t (.atm (.int _ a))),some _,some ⟨.int k,_,_,_,_⟩=>∃n,F8 k a n∧K (a7 k n)
 |_,_,_=>False
def y5 (e:TypeId) (size:Nat) (rows:List (List C)) (box:Bool):Blk:=⟨.live,e,size,rows,box,false⟩
def b5n (e:TypeId) (size:Nat) (rows:List (List C)):Blk:=⟨.live,e,size,rows,false,true⟩
def a3x (b:Blk):Blk:=⟨.old,b.elem,b.size,b.rows,b.box,true⟩
def b1T (τ:Tab) (ev:Operand->S) (n:Nat) (t:TypeId) (l c:Operand) (K:S->List Blk->Prop):Prop:=
 match ev l,ev c,τ t with
 |.c (.t (.atm (.int _ a))),.c (.t (.atm (.int _ b))),some ⟨.slice e,_,_,_,_⟩=>match τ e with
  |some d=>cond (Nat.beq d.size 0) False ((0<=a∧a<=b∧b*(d.bytes+1)<=140737488355328)∧
    a9E B3 d.zero fun z=>K (.c (.own n 0 a.toNat true)) [y5 e d.size (List.replicate a.toNat z) false])
  |none=>False
 |_,_,_=>False
def a9H (fs:List (Nat × Nat × Bool)) (i:Nat) (cs:List C) (k:Nat->Prop):Prop:=
 match fs[i]? with
 |some (off,size,_)=>cond (Nat.beq cs.length size && Nat.blt 0 size) (k off) False
 |none=>False
def aI2 (fs:List (Nat × Nat × Bool)) (cells:List C):List (Nat × S)->(List C->Prop)->Prop
 |[],k=>k cells
 |(i,s)::rest,k=>a2L s fun cs=>a9H fs i cs fun off=>a5g off cs cells fun cells'=>aI2 fs cells' rest k
def aK3 (size:Nat) (cells:List C):List (Nat × S)->(List C->Prop)->Prop
 |[],k=>k cells
 |(i,s)::rest,k=>a2L s fun cs=>cond (Nat.beq cs.length size && Nat.blt 0 size) (a5g (i*size) cs cells fun cells'=>aK3 size cells' rest k) False
def aD0 (τ:Tab) (ev:Operand->S) (t:TypeId) (parts:List (Nat × Operand)) (K:S->Prop):Prop:=
 match τ t with
 |some ⟨.struct fs,_,_,_,z⟩=>a9E B3 z fun z=>aI2 fs z (parts.map fun p=>(p.1,ev p.2)) fun cs=>K (.agg cs)
 |some ⟨.arr _ e,_,_,_,z⟩=>a5m τ e fun s=>a9E B3 z fun z=>aK3 s z (parts.map fun p=>(p.1,ev p.2)) fun cs=>K (.agg cs)
 |_=>False
def aQ2 (size:Nat) (rows:List (List C)):List (Nat × S)->(List (List C)->Prop)->Prop
 |[],k=>k rows
 |(i,s)::rest,k=>a2L s fun cs=>cond (Nat.beq cs.length size && Nat.blt i rows.length) (a63 i cs rows fun rows'=>aQ2 size rows' rest k) False
def a2u (τ:Tab) (ev:Operand->S) (n:Nat) (t:TypeId) (len:Nat) (parts:List (Nat × Operand)) (K:S->List Blk->Prop):Prop:=
 match τ t with
 |some ⟨.slice e,_,_,_,_⟩=>match τ e with
  |some d=>cond (Nat.beq d.size 0 || Nat.ble 16777216 (len*d.size)) False (a9E B3 d.zero fun z=>aQ2 d.size (List.replicate len z) (parts.map fun p=>(p.1,ev p.2)) fun rows=>
    match aR2 rows with
    |some rs=>a2n (K (.c (.t (.sl d.size .full rs))) []) (K (.c (.own n 0 len true)) [y5 e d.size rows false]) (K (.c (.t (.sl d.size .any rs))) [])
    |none=>K (.c (.own n 0 len true)) [y5 e d.size rows false])
  |none=>False
 |_=>False
def b7x (ev:Operand->S) (n:Nat) (t:TypeId) (x:Operand) (K:S->List Blk->Prop):Prop:=
 a2L (ev x) fun cs=>match cs with
  |[]=>False
  |c::r=>match aX2 (c::r) with
   |some ts=>af9 (K (.c (.t (.ptr ts))) []) (K (.c (.ptr n 0 0)) [y5 t (c::r).length [c::r] true])
   |none=>K (.c (.ptr n 0 0)) [y5 t (c::r).length [c::r] true]
def b0K (τ:Tab) (n:Nat) (t:TypeId) (K:S->List Blk->Prop):Prop:=
 match τ t with
 |some d=>a9E B3 d.zero fun z=>cond (Nat.beq z.length 0) False (K (.c (.ptr n 0 0)) [y5 t z.length [z] true])
 |none=>False
def b9a (τ:Tab) (t:TypeId) (x:S) (K:S->Prop):Prop:=
 match τ t with
 |some ⟨.slice _,_,_,_,_⟩=>match x with
  |.c (.t (.sl _ _ rows))=>K (a7 .i64 rows.length)
  |.c (.own _ _ len _)=>K (a7 .i64 len)
  |_=>False
 |some ⟨.arr n _,_,_,_,_⟩=>K (a7 .i64 n)
 |_=>False
def toC (rows:List (List T)):List (List C):=rows.map (·.map C.t)
def b7H (size:Nat) (H:Hp) (x:S) (k:List (List C)->Prop):Prop:=
 match x with
 |.c (.t (.sl s _ rows))=>(rows.length=0∨s=size)∧k (toC rows)
 |.c (.own id lo len _)=>a3d id H fun b=>a2m b (cond (Nat.beq b.size size) (lo+len<=b.rows.length∧k ((b.rows.drop lo).take len)) False)
 |_=>False
def a9R (τ:Tab) (ev:Operand->S) (H:Hp) (n:Nat) (t:TypeId) (s x:Operand) (Kq:S->List Blk->Prop) (Kg:S->Hp->Prop):Prop:=
 match τ t with
 |some ⟨.slice e,_,_,_,_⟩=>match τ e with
  |some d=>cond (Nat.beq d.size 0) False (b7H d.size H (ev x) fun xr=>
    match ev s with
    |.c (.t (.sl _ .nil _))=>xr.length*(d.bytes+1)<=140737488355328∧Kq (.c (.own n 0 xr.length true)) [y5 e d.size xr false]
    |.c (.t (.sl sz .full rows))=>((rows.length=0∨(0<xr.length∧sz=d.size))∧(rows.length+xr.length)*(d.bytes+1)<=140737488355328)∧
      Kq (.c (.own n 0 (rows.length+xr.length) true)) [y5 e d.size (toC rows++xr) false]
    |.c (.own id _ len true)=>a3d id H fun b=>cond (Nat.beq b.size d.size && Nat.beq b.elem e) (ah6 b
      ((len=b.rows.length∧(len+xr.length)*(d.bytes+1)<=140737488355328)∧
        a63 id (a3x b) H fun H1=>ad1 H1 [b5n e d.size (b.rows++xr)] fun H'=>Kg (.c (.own n 0 (len+xr.length) true)) H')
      ((len<=b.rows.length∧(len+xr.length)*(d.bytes+1)<=140737488355328)∧
        a63 id ⟨.dead,e,d.size,[],false,false⟩ H fun H1=>ad1 H1 [y5 e d.size (b.rows.take len++xr) false] fun H'=>Kg (.c (.own n 0 (len+xr.length) true)) H')) False
    |_=>False)
  |none=>False
 |_=>False
def b1Y (τ:Tab) (ev:Operand->S) (n:Nat) (t t':TypeId) (s x:Operand) (Kq:S->List Blk->Prop):Prop:=
 match τ t,τ t' with
 |some ⟨.slice e,_,_,_,_⟩,some ⟨.int _,_,_,_,_⟩=>match τ e with
  |some d=>cond (Nat.beq d.size 0) False (match ev s,ev x with
    |.c (.t (.sl _ .nil _)),.c (.t (.atm (.int .i64 m)))=>(1<=m∧m.toNat*(d.bytes+1)<=140737488355328)∧
      a9E B3 d.zero fun z=>Kq (.c (.own n 0 m.toNat true)) [y5 e d.size (List.replicate m.toNat z) false]
    |_,_=>False)
  |none=>False
 |_,_=>False
def ba4 (τ:Tab) (t:TypeId) (x:S) (K:S->Prop):Prop:=
 match τ t with
 |some ⟨.slice _,_,_,_,_⟩=>match x with
  |.c (.t (.sl _ .nil _))=>K (a7 .i64 0)
  |_=>False
 |_=>False
def x6 (lo len:Nat) (rows xr:List (List C)):List (List C):=rows.take lo++(xr.take len++rows.drop (lo+(xr.take len).length))
def b1p (τ:Tab) (ev:Operand->S) (H:Hp) (t:TypeId) (x s:Operand) (Kg:S->Hp->Prop):Prop:=
 match τ t with
 |some ⟨.slice e,_,_,_,_⟩=>match τ e with
  |some d=>cond (Nat.beq d.size 0) False (b7H d.size H (ev s) fun xr=>
    match ev x with
    |.c (.own id lo len _)=>a3d id H fun b=>a4D b (cond (Nat.beq b.size d.size && Nat.beq b.elem e) (lo+len<=b.rows.length∧
      a63 id (t8 b (x6 lo len b.rows xr)) H fun H'=>Kg (a7 .i64 (xr.take len).length) H') False)
    |_=>False)
  |none=>False
 |_=>False
def aE7 (τ:Tab) (ev:Operand->S) (H:Hp) (t:TypeId) (x:Operand) (Kg:S->Hp->Prop):Prop:=
 match τ t with
 |some ⟨.slice e,_,_,_,_⟩=>match τ e with
  |some d=>cond (Nat.beq d.size 0) False (a9E B3 d.zero fun z=>
    match ev x with
    |.c (.own id lo len _)=>a3d id H fun b=>a4D b (cond (Nat.beq b.size d.size && Nat.beq b.elem e) (lo+len<=b.rows.length∧
      a63 id (t8 b (x6 lo len b.rows (List.replicate len z))) H fun H'=>Kg .junk H') False)
    |_=>False)
  |none=>False
 |_=>False
def b4Y:List S->Option (List C)
 |[]=>some []
 |.c x::r=>match b4Y r with
  |some xs=>some (x::xs)
  |none=>none
 |_::_=>none
def b6Z (max:Bool):List S->(S->Prop)->Prop
 |[.c (.t (.atm (.int k a))),.c (.t (.atm (.int _ b)))],K=>K (a7 k (cond max (if b > a then b else a) (if b<a then b else a)))
 |_,_=>False
def b5S (P:Program) (g:FuncId) (args:List S) (H:Hp) (Kq:S->List Blk->Prop) (Kg:S->Hp->Prop):Prop:=
 (∃ r B,Z5 P g args H r B∧aK5 r fun r=>Kq r B)∨(∃ r H',a9 P g args H r H'∧aK5 r fun r=>Kg r H')
def b0F (s:S) (k:S->Prop):Prop:=match s with
 |.c (.ptr id r o)=>k (.c (.ptr id r o))
 |.c (.t (.ptr cs))=>k (.c (.t (.ptr cs)))
 |_=>False
def aop (P:Program) (τ:Tab) (ev:Operand->S) (H:Hp) (op:Op) (Kq:S->List Blk->Prop) (Kg:S->Hp->Prop):Prop:=
 match op with
 |.move x|.assign x=>ah7 (ev x) fun s=>Kq s []
 |.pick c a b=>match ev c with
  |.c (.t (.atm (.bool t)))=>cond t (ah7 (ev a) fun s=>Kq s []) (ah7 (ev b) fun s=>Kq s [])
  |_=>False
 |.load t x=>at4 τ ev H t x fun s=>aK5 s fun s=>Kq s []
 |.store t x v=>aE1 τ ev H t x v fun H'=>Kg .junk H'
 |.fieldAddr s x f=>a6A τ ev s x f fun s=>Kq s []
 |.indexAddr t x i=>a3H τ ev H t x i fun s=>Kq s []
 |.slice t x lo hi max=>a5d τ ev H t x lo hi max fun s=>Kq s []
 |.binOp op t x y _=>bb7 P τ op t (ev x) (ev y) fun s=>Kq s []
 |.unOp op _ x=>aun op (ev x) fun s=>Kq s []
 |.convert src dst x=>b5Z τ src dst (ev x) fun s=>Kq s []
 |.makeSlice t l c=>a9x H 0 fun n=>b1T τ ev n t l c Kq
 |.build t parts=>aD0 τ ev t parts.toList fun s=>Kq s []
 |.buildSlice t n parts=>a9x H 0 fun m=>a2u τ ev m t n parts.toList Kq
 |.box t x=>a9x H 0 fun n=>b7x ev n t x Kq
 |.alloc t=>a9x H 0 fun n=>b0K τ n t Kq
 |.extract x i=>match ev x with
  |.tup ss=>a3d i ss fun s=>aK5 s fun s=>Kq s []
  |_=>False
 |.makeFunc fn first caps=>match first.toList,b4Y (caps.toList.map ev) with
  |[],some cs=>match aX2 cs with
   |some ts=>Kq (.c (.t (.fn fn ts))) []
   |none=>Kq (.c (.fn fn cs)) []
  |_,_=>False
 |.call c=>match c.callee with
  |.builtin .len=>match c.argTypes.toList,c.args.toList with
   |t::_,x::_=>b9a τ t (ev x) fun s=>Kq s []
   |_,_=>False
  |.builtin .append=>match c.argTypes.toList,c.args.toList with
   |[t,t'],[s,x]=>cond (Nat.beq t t') (a9x H 0 fun n=>a9R τ ev H n t s x Kq Kg) (a9x H 0 fun n=>b1Y τ ev n t t' s x Kq)
   |_,_=>False
  |.builtin .cap=>match c.argTypes.toList,c.args.toList with
   |[t],[x]=>ba4 τ t (ev x) fun s=>Kq s []
   |_,_=>False
  |.builtin .copy=>match c.argTypes.toList,c.args.toList with
   |[t,t'],[x,s]=>cond (Nat.beq t t') (b1p τ ev H t x s Kg) False
   |_,_=>False
  |.builtin .clear=>match c.argTypes.toList,c.args.toList with
   |[t],[x]=>aE7 τ ev H t x Kg
   |_,_=>False
  |.builtin .min=>b6Z false (c.args.toList.map ev) fun s=>Kq s []
  |.builtin .max=>b6Z true (c.args.toList.map ev) fun s=>Kq s []
  |.value f=>match ev f with
   |.c (.t (.fn (.func g) caps))=>b5S P g (c.args.toList.map ev++caps.map fun x=>.c (.t x)) H Kq Kg
   |.c (.fn (.func g) caps)=>b5S P g (c.args.toList.map ev++caps.map .c) H Kq Kg
   |_=>False
  |_=>False
 |.nilCheck x=>b0F (ev x) fun s=>Kq s []
 |_=>False
end
end Go.Proofs.YtdbogogfeffjlaaGreat
