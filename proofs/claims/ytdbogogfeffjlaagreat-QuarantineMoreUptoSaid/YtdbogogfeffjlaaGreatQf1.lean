/- Part 1. -/
import Derived.WalkKit
import Derived.WalkSpells
import Derived.WalkLawsBesides
import Derived.Lib.Hide
import Derived.Laws.OwnMore
import Derived.Deep.AppendLies
import Derived.Deep.Draws
import Derived.Laws.Small
import Derived.Laws.StructEq
import Derived.Great.BuildSlice
import Derived.Laws.MakeOwn
import Derived.Laws.Tables
import Derived.Deep.Upon
import Derived.Orders
import Derived.Deep.DeepMust
import Derived.BigQuiet
import Derived.Deep.Light
import Derived.ProofKit
import Derived.OpenShut
import Derived.Deep.Slices
import Derived.Deep.Fields
import Derived.JoinedCond
import Derived.Test.YtdbogogfeffjlaaGreatChecked
import Derived.Test.YtdbogogfeffjlaaGreatRows
namespace Go.Proofs.YtdbogogfeffjlaaGreat
set_option linter.unusedVariables false
set_option linter.unusedSimpArgs false
section
open Go.RowKit
structure J1 where
 kind:Int
 hh:Int
 mat:Int
structure x4 where
 day:Int
 src:Int
 dst:Int
 scale:Int
 reading:Int
 all:Bool
structure K0 where
 scale:Int
 since:Int
 till:Int
 grams:Int
 permille:Int
 drift:Int
structure y0 where
 scale:Int
 since:Int
structure a0Z where
 move:Int
 mat:Int
 least:Int
 most:Int
structure Ev where
 mats:Int
 hhs:Int
 scs:Int
 places:List J1
 moves:List x4
 certs:List K0
 recalls:List y0
 purities:List a0Z
section
variable {α:Type} {k:Nat} {f:α->List Value} {w w':World} {A:Option Addr} {n:Nat} {xs:List α}
end
section
variable {w w':World} {m h s:Int} {A1 A2 A3 A4 A5:Option Addr} {n1 n2 n3 n4 n5:Nat} {e:Ev}
end
end
section
def idx (a b:Int):Bool:=decide (0<=a) && decide (a<b)
def btw (n lo hi:Int):Bool:=decide (lo<=n) && decide (n<=hi)
theorem b0k (a b:Int):btw a 0 (b - 1)=idx a b:=by
 unfold btw idx
 have:decide (a<=b - 1)=decide (a<b):=by simp;omega
 rw [this]
theorem aA3 {a b:Int}:idx a b=true↔0<=a∧a<b:=by simp [idx]
theorem V5 {a b c:Int}:btw a b c=true↔b<=a∧a<=c:=by simp [btw]
def a1F (e:Ev):Bool:=
 decide (6<e.mats) || decide (100<e.hhs) || decide (30<e.scs) || decide (100<e.places.length) || decide (200<e.moves.length) ||
  decide (100<e.certs.length) || decide (30<e.recalls.length) || decide (200<e.purities.length)
def W3 (e:Ev) (p:J1):Bool:=
 idx p.kind 7 && (if p.kind=0 then idx p.hh e.hhs && idx p.mat e.mats else decide (p.hh=-1) && decide (p.mat=-1))
def o4 (e:Ev) (i:Int):Int:=((e.places[i.toNat]?).map (·.kind)).getD (-1)
def G2 (e:Ev) (m:x4):Bool:=
 idx m.src e.places.length && idx m.dst e.places.length && decide (m.src≠m.dst) && decide (o4 e m.src≠5) && decide (o4 e m.src≠6) &&
  !(decide (o4 e m.src=0) && m.all) && decide (o4 e m.dst≠0) && (if m.scale=-1 then decide (m.reading=0) else idx m.scale e.scs && btw m.reading 0 1099511627776)
def a3w (e:Ev) (c:K0):Bool:=
 decide (0<=c.since) && decide (c.since<=c.till) && decide (c.till<=100000) && idx c.scale e.scs && btw c.grams 0 1099511627776 && btw c.permille 0 1000 && btw c.drift 0 10000000
def Z2 (e:Ev) (r:y0):Bool:=idx r.scale e.scs && btw r.since 0 100000
def a07 (e:Ev) (p:a0Z):Bool:=
 idx p.move e.moves.length && idx p.mat e.mats && decide (0<=p.least) && decide (p.least<=p.most) && decide (p.most<=1000)
def X4 (e:Ev):Bool:=e.certs.all (a3w e) && e.recalls.all (Z2 e) && e.purities.all (a07 e)
def y3 (e:Ev):Int->List x4->Int
 |_,[]=>0
 |last,m::r=>if m.day<last∨100000<m.day then 17 else if G2 e m then y3 e m.day r else 1
def C6 (e:Ev):Int:=
 if a1F e then 6 else if e.mats<1∨e.hhs<0∨e.scs<0∨e.places.all (W3 e)=false then 1
 else if y3 e 0 e.moves≠0 then y3 e 0 e.moves else if X4 e then 0 else 1
theorem aq9 {e:Ev} {i:Nat} {p:J1} (h:e.places[i]? =some p):o4 e (i:Int)=p.kind:=by
 simp [o4,h]
theorem ai9 {e:Ev} {l:List x4}:∀{last:Int},y3 e last l=0->∀m ∈ l,G2 e m=true:=by
 induction l with
 |nil=>intro last _ m hm;cases hm
 |cons m r ih=>
  intro last h x hx
  unfold y3 at h
  split at h
  ·simp at h
  ·split at h
   ·rename_i hmk
    rcases List.mem_cons.1 hx with rfl|hx
    ·exact hmk
    ·exact ih h x hx
   ·simp at h
theorem aa0 {e:Ev} (h:C6 e=0):a1F e=false∧1<=e.mats∧0<=e.hhs∧0<=e.scs∧e.places.all (W3 e)=true∧y3 e 0 e.moves=0∧X4 e=true:=by
 unfold C6 at h
 by_cases h1:a1F e=true
 ·rw [if_pos h1] at h;simp at h
 rw [if_neg h1] at h
 by_cases h2:e.mats<1∨e.hhs<0∨e.scs<0∨e.places.all (W3 e)=false
 ·rw [if_pos h2] at h;simp at h
 rw [if_neg h2] at h
 by_cases h3:y3 e 0 e.moves≠0
 ·rw [if_pos h3] at h;exact absurd h h3
 rw [if_neg h3] at h
 by_cases h4:X4 e=true
 ·refine ⟨by simpa using h1,by omega,by omega,by omega,?_,by simpa using h3,h4⟩
  rw [← Bool.not_eq_false]
  exact fun hq=>h2 (.inr (.inr (.inr hq)))
 ·rw [if_neg h4] at h;simp at h
theorem E1 {e:Ev} (h:C6 e=0) {m:x4} (hm:m ∈ e.moves):G2 e m=true:=ai9 (aa0 h).2.2.2.2.2.1 m hm
theorem S5 {e:Ev} {m:x4} (h:G2 e m=true):0<=m.src∧m.src<e.places.length:=by
 simp [G2] at h
 exact aA3.1 h.1.1.1.1.1.1.1
theorem a1q {e:Ev} {m:x4} (h:G2 e m=true):0<=m.dst∧m.dst<e.places.length:=by
 simp [G2] at h
 exact aA3.1 h.1.1.1.1.1.1.2
def a1j {α:Type} (p:Nat->α->Bool):Nat->List α->List Int
 |_,[]=>[]
 |k,m::r=>if p k m then (k:Int)::a1j p (k+1) r else a1j p (k+1) r
end
section
def val:List Int->Int
 |[]=>0
 |d::r=>d+1048576*val r
def Okd (l:List Int):Prop:=∀d ∈ l,0<=d∧d<1048576
def dgF:Nat->Nat->List Int
 |0,_=>[]
 |f+1,n=>if n=0 then [] else ((n % 1048576:Nat):Int)::dgF f (n / 1048576)
def dg (n:Nat):List Int:=dgF n n
def pw (i:Nat):Int:=1048576 ^ i
theorem b5w:pw 0=1:=rfl
theorem H4 (i:Nat):pw (i+1)=pw i*1048576:=Int.pow_succ ..
theorem Q6 (i:Nat):0<pw i:=Int.pow_pos (by decide)
theorem a7x (i j:Nat):pw (i+j)=pw i*pw j:=Int.pow_add ..
theorem a16 {i j:Nat} (h:i<=j):pw i<=pw j:=by
 obtain ⟨k,rfl⟩:=Nat.exists_eq_add_of_le h
 rw [a7x]
 have h1:=Q6 i
 have h2:=Q6 k
 have:=Int.mul_le_mul_of_nonneg_left (a:=1) (b:=pw k) (c:=pw i) (by omega) (by omega)
 omega
theorem Okd.nil:Okd []:=fun _ h=>nomatch h
theorem Okd.cons {d:Int} {l:List Int} (h1:0<=d∧d<1048576) (h2:Okd l):Okd (d::l):=by
 intro x hx
 rcases List.mem_cons.1 hx with rfl|hx
 ·exact h1
 ·exact h2 x hx
theorem Okd.head {d:Int} {l:List Int} (h:Okd (d::l)):0<=d∧d<1048576:=h d (by simp)
theorem Okd.tail {d:Int} {l:List Int} (h:Okd (d::l)):Okd l:=fun x hx=>h x (by simp [hx])
theorem Okd.take {l:List Int} (h:Okd l) (n:Nat):Okd (l.take n):=fun x hx=>h x (List.mem_of_mem_take hx)
theorem Okd.drop {l:List Int} (h:Okd l) (n:Nat):Okd (l.drop n):=fun x hx=>h x (List.mem_of_mem_drop hx)
theorem Okd.append {a b:List Int} (h:Okd a) (h2:Okd b):Okd (a++b):=fun x hx=>by
 rcases List.mem_append.1 hx with hx|hx
 ·exact h x hx
 ·exact h2 x hx
theorem Okd.set {l:List Int} (h:Okd l) {i:Nat} {x:Int} (hx:0<=x∧x<1048576):Okd (l.set i x):=fun y hy=>by
 rcases List.mem_or_eq_of_mem_set hy with hy|rfl
 ·exact h y hy
 ·exact hx
theorem Okd.zeros (n:Nat):Okd (List.replicate n 0):=fun x hx=>by rw [List.eq_of_mem_replicate hx];decide
theorem w9 {l:List Int} (h:Okd l):0<=val l:=by
 induction l with
 |nil=>simp [val]
 |cons d l ih=>have:=ih h.tail;have:=h.head;simp only [val];omega
theorem W8 {l:List Int} (h:Okd l):val l<pw l.length:=by
 induction l with
 |nil=>simp [val,pw]
 |cons d l ih=>
  have:=ih h.tail;have:=h.head
  simp only [val,List.length_cons,H4];omega
theorem M5 (a b:List Int):val (a++b)=val a+pw a.length*val b:=by
 induction a with
 |nil=>simp [val,pw]
 |cons d a ih=>simp only [List.cons_append,val,ih,List.length_cons,H4];grind
theorem a7J (n:Nat):val (List.replicate n 0)=0:=by
 induction n with
 |zero=>rfl
 |succ n ih=>simp [List.replicate_succ,val,ih]
theorem a4Q (l:List Int) (i:Nat) (h:i<=l.length):val l=val (l.take i)+pw i*val (l.drop i):=by
 have:=M5 (l.take i) (l.drop i)
 rw [List.take_append_drop] at this
 rw [this]
 rw [List.length_take,Nat.min_eq_left h]
theorem a5z {l:List Int} {i:Nat} {x:Int} (h:l[i]? =some x):val (l.take (i+1))=val (l.take i)+pw i*x:=by
 have hi:i<l.length:=by
  rcases Nat.lt_or_ge i l.length with h1|h1
  ·exact h1
  ·rw [List.getElem?_eq_none h1] at h;cases h
 rw [List.take_add_one,h,M5,List.length_take,Nat.min_eq_left (by omega)]
 simp [val]
theorem a42 {l:List Int} {i:Nat} {x:Int} (h:l[i]? =some x):val (l.drop i)=x+1048576*val (l.drop (i+1)):=by
 have hi:i<l.length:=by
  rcases Nat.lt_or_ge i l.length with h1|h1
  ·exact h1
  ·rw [List.getElem?_eq_none h1] at h;cases h
 rw [List.drop_eq_getElem_cons hi]
 rw [List.getElem?_eq_getElem hi] at h
 injection h with h
 rw [h];rfl
theorem b6l {l:List Int} {i:Nat} {x y:Int} (h:l[i]? =some y):val (l.set i x)=val l+pw i*(x - y):=by
 induction l generalizing i with
 |nil=>simp at h
 |cons d l ih=>
  cases i with
  |zero=>
   simp only [List.getElem?_cons_zero,Option.some.injEq] at h
   subst h
   simp [val,pw];omega
  |succ i=>
   simp only [List.getElem?_cons_succ] at h
   simp only [List.set_cons_succ,val,ih h,H4];grind
theorem b3U (f n:Nat) (h:n<=f):dgF f n=dg n:=by
 unfold dg
 induction f using Nat.strongRecOn generalizing n with
 |ind f ih=>
  cases f with
  |zero=>cases Nat.le_zero.1 h;rfl
  |succ f=>
   cases n with
   |zero=>rfl
   |succ n=>
    simp only [dgF,Nat.succ_ne_zero,if_false]
    rw [ih f (by omega) _ (by omega),ih n (by omega) _ (by omega)]
theorem W1:dg 0=[]:=rfl
theorem a5H {n:Nat} (h:0<n):dg n=((n % 1048576:Nat):Int)::dg (n / 1048576):=by
 obtain ⟨m,rfl⟩:∃m,n=m+1:=⟨n - 1,by omega⟩
 show dgF (m+1) (m+1)=_
 simp only [dgF,Nat.succ_ne_zero,if_false]
 rw [b3U _ _ (by omega)]
theorem aU7 {P:Nat->Prop} (h0:P 0) (h:∀n,0<n->P (n / 1048576)->P n) (n:Nat):P n:=by
 induction n using Nat.strongRecOn with
 |ind n ih=>
  rcases Nat.eq_zero_or_pos n with rfl|hn
  ·exact h0
  ·exact h n hn (ih _ (by omega))
theorem n7 (n:Nat):val (dg n)=n:=by
 induction n using aU7 with
 |h0=>rfl
 |h n hn ih=>rw [a5H hn,val,ih];omega
theorem t9 (n:Nat):Okd (dg n):=by
 induction n using aU7 with
 |h0=>exact .nil
 |h n hn ih=>rw [a5H hn];exact .cons (by omega) ih
theorem Q5 {n:Nat}:dg n=[]↔n=0:=by
 constructor
 ·intro h
  have:=n7 n
  rw [h] at this
  simp only [val] at this;omega
 ·rintro rfl;rfl
def I0:List Int->List Int
 |[]=>[]
 |d::r=>if I0 r=[]∧d=0 then [] else d::I0 r
theorem K8 {l:List Int} (h:Okd l):I0 l=dg (val l).toNat:=by
 induction l with
 |nil=>rfl
 |cons d l ih=>
  have h0:=w9 h.tail
  have h1:=h.head
  have hv:(val (d::l)).toNat=d.toNat+1048576*(val l).toNat:=by simp only [val];omega
  rw [I0,ih h.tail,hv]
  split
  ·rename_i hc
   have:=Q5.1 hc.1
   rw [this,hc.2];rfl
  ·rename_i hc
   rw [a5H (n:=d.toNat+1048576*(val l).toNat)]
   ·congr 1
    ·omega
    ·congr 1;omega
   ·rcases Nat.eq_zero_or_pos (val l).toNat with h2|h2
    ·have:d≠0:=fun h3=>hc ⟨by rw [h2];rfl,h3⟩
     omega
    ·omega
theorem a37 {l:List Int} {n:Nat} (h1:∀j x,n<=j->l[j]? =some x->x=0) (h2:∀x,0<n->l[n-1]? =some x->x≠0) (hn:n<=l.length):l.take n=I0 l:=by
 induction l generalizing n with
 |nil=>simp [I0]
 |cons d l ih=>
  cases n with
  |zero=>
   have ht:I0 l=[]:=by
    rw [← ih (n:=0) (fun j x _ hx=>h1 (j+1) x (by omega) (by simpa using hx)) (fun x h=>absurd h (by omega)) (by omega)];rfl
   have hd:d=0:=h1 0 d (by omega) (by simp)
   simp [I0,ht,hd]
  |succ n=>
   have ht:I0 l=l.take n:=by
    refine (ih (n:=n) (fun j x hj hx=>h1 (j+1) x (by omega) (by simpa using hx)) (fun x h hx=>h2 x (by omega) ?_) (by simpa using hn)).symm
    obtain ⟨m,rfl⟩:∃m,n=m+1:=⟨n - 1,by omega⟩
    simpa using hx
   rw [I0,ht,List.take_succ_cons,if_neg]
   rintro ⟨h3,h4⟩
   have hn0:n=0:=by
    rcases Nat.eq_zero_or_pos n with h5|h5
    ·exact h5
    ·have:=congrArg List.length h3
     simp only [List.length_take,List.length_nil,List.length_cons] at this hn
     omega
   subst hn0
   exact h2 d (by omega) (by simp) h4
theorem O3 {n k:Nat} (h:(n:Int)<pw k):(dg n).length<=k:=by
 induction k generalizing n with
 |zero=>have:n=0:=by simp [pw] at h;omega
        subst this;simp [W1]
 |succ k ih=>
  rcases Nat.eq_zero_or_pos n with rfl|hn
  ·simp [W1]
  ·rw [a5H hn]
   rw [H4] at h
   have:=ih (n:=n / 1048576) (by omega)
   simp;omega
theorem az3 {n:Nat} (h:0<n):pw ((dg n).length - 1)<=n:=by
 induction n using aU7 with
 |h0=>omega
 |h n hn ih=>
  rw [a5H hn]
  rcases Nat.eq_zero_or_pos (n / 1048576) with h1|h1
  ·rw [h1,W1]
   simp [pw];omega
  ·have h2:=ih h1
   have:(dg (n / 1048576)).length≠0:=by rw [Ne,List.length_eq_zero_iff,Q5];omega
   obtain ⟨m,hm⟩:∃m,(dg (n / 1048576)).length=m+1:=⟨(dg (n / 1048576)).length - 1,by omega⟩
   rw [hm] at h2
   rw [List.length_cons,hm]
   simp only [Nat.add_sub_cancel] at h2 ⊢
   rw [H4];omega
theorem O5 (n:Nat):(n:Int)<pw (dg n).length:=by
 have:=W8 (t9 n);rw [n7] at this;exact this
theorem p4 {m n:Nat} (h:m<=n):(dg m).length<=(dg n).length:=O3 (by have:=O5 n;omega)
theorem ay1 {m n:Nat} (h:(dg m).length<(dg n).length):m<n:=by
 rcases Nat.lt_or_ge m n with h1|h1
 ·exact h1
 ·have:=p4 h1;omega
def Can (l:List Int):Prop:=Okd l∧∀x,l[l.length - 1]? =some x->x≠0
theorem aX5 {l:List Int} (h:Can l):l=dg (val l).toNat:=by
 rw [← K8 h.1]
 have:=a37 (l:=l) (n:=l.length) (fun j x hj hx=>by rw [List.getElem?_eq_none hj] at hx;cases hx) (fun x _ hx=>h.2 x hx) (Nat.le_refl _)
 rw [List.take_length] at this
 exact this
theorem a1S (n:Nat):Can (dg n):=by
 refine ⟨t9 n,fun x hx h0=>?_⟩
 subst h0
 have hl:0<(dg n).length:=by
  rcases Nat.eq_zero_or_pos (dg n).length with h|h
  ·rw [List.length_eq_zero_iff.1 h] at hx;simp at hx
  ·exact h
 have hp:0<n:=by
  rcases Nat.eq_zero_or_pos n with rfl|h
  ·simp [W1] at hl
  ·exact h
 have h1:=az3 hp
 have h2:=a5z hx
 rw [show (dg n).length - 1+1=(dg n).length by omega,List.take_length,n7] at h2
 have h3:=W8 ((t9 n).take ((dg n).length - 1))
 rw [List.length_take,Nat.min_eq_left (by omega)] at h3
 omega
theorem a8H {a b:List Int} (ha:Okd a) (hb:Okd b) (hl:a.length=b.length) {i:Nat} {x y:Int} (hx:a[i]? =some x) (hy:b[i]? =some y)
 (hd:a.drop (i+1)=b.drop (i+1)) (h:x<y):val a<val b:=by
 have hi:i<a.length:=by
  rcases Nat.lt_or_ge i a.length with h1|h1
  ·exact h1
  ·rw [List.getElem?_eq_none h1] at hx;cases hx
 have e1:=a4Q a i (by omega)
 have e2:=a4Q b i (by omega)
 rw [a42 hx] at e1
 rw [a42 hy] at e2
 rw [hd] at e1
 have h1:=W8 (ha.take i)
 rw [List.length_take,Nat.min_eq_left (by omega)] at h1
 have h2:=w9 (hb.take i)
 have h3:=Q6 i
 have h4:pw i*(x+1048576*val (b.drop (i+1)))+pw i<=pw i*(y+1048576*val (b.drop (i+1))):=by
  have:=Int.mul_le_mul_of_nonneg_left (a:=x+1048576*val (b.drop (i+1))+1) (b:=y+1048576*val (b.drop (i+1))) (c:=pw i) (by omega) (by omega)
  rw [Int.mul_add (pw i) _ 1] at this
  omega
 omega
def dat (l:List Int) (i:Nat):Int:=l.getD i 0
theorem a2S {l:List Int} {i:Nat} {x:Int} (h:l[i]? =some x):dat l i=x:=by unfold dat;rw [List.getD_eq_getElem?_getD,h];rfl
theorem P6 {l:List Int} {i:Nat} (h:l.length<=i):dat l i=0:=by unfold dat;rw [List.getD_eq_getElem?_getD,List.getElem?_eq_none h];rfl
theorem Okd.dat {l:List Int} (h:Okd l) (i:Nat):0<=dat l i∧dat l i<1048576:=by
 rcases Nat.lt_or_ge i l.length with h1|h1
 ·rw [a2S (List.getElem?_eq_getElem h1)]
  exact h _ (List.getElem_mem h1)
 ·rw [P6 h1];decide
theorem t5 (l:List Int) (i:Nat):val (l.take (i+1))=val (l.take i)+pw i*dat l i:=by
 rcases Nat.lt_or_ge i l.length with h1|h1
 ·rw [a2S (List.getElem?_eq_getElem h1)]
  exact a5z (List.getElem?_eq_getElem h1)
 ·rw [P6 h1,List.take_of_length_le (by omega),List.take_of_length_le (by omega)];simp
theorem a5d (n:Int):0<=n % 1048576∧n % 1048576<1048576:=by omega
structure a83 (a b:List Int) (i:Nat) (out:List Int) (c:Int):Prop where
 len:out.length=a.length+1
 ok:Okd out
 le:i<=a.length
 zero:∀j,i<=j->dat out j=0
 c0:0<=c
 c1:c<=1
 eq:val out+pw i*c=val (a.take i)+val (b.take i)
theorem a83.init (a b:List Int):a83 a b 0 (List.replicate (a.length+1) 0) 0:=
 ⟨by simp,.zeros _,Nat.zero_le _,fun j _=>by unfold dat;rw [List.getD_eq_getElem?_getD,List.getElem?_replicate];split<;>rfl,by decide,by decide,by rw [a7J];simp [val]⟩
theorem a4R {l:List Int} {i j:Nat} {x:Int} (h:i≠j):dat (l.set i x) j=dat l j:=by
 unfold dat;rw [List.getD_eq_getElem?_getD,List.getD_eq_getElem?_getD,List.getElem?_set_ne h]
theorem a1E {l:List Int} {i:Nat} {x:Int} (hi:i<l.length):val (l.set i x)=val l+pw i*(x - dat l i):=by
 rw [a2S (List.getElem?_eq_getElem hi)];exact b6l (List.getElem?_eq_getElem hi)
theorem a83.step {a b out:List Int} {i:Nat} {c:Int} (h:a83 a b i out c) (ha:Okd a) (hb:Okd b) (hi:i<a.length):
 a83 a b (i+1) (out.set i ((c+dat a i+dat b i) % 1048576)) ((c+dat a i+dat b i) / 1048576):=by
 have h1:=ha.dat i
 have h2:=hb.dat i
 have h3:=h.c0
 have h4:=h.c1
 have hl:=h.len
 refine ⟨by simp [hl],h.ok.set (a5d _),hi,fun j hj=>?_,by omega,by omega,?_⟩
 ·rw [a4R (by omega)];exact h.zero j (by omega)
 ·rw [a1E (by omega),h.zero i (Nat.le_refl _),t5,t5,H4]
  have h5:=h.eq
  have h6:(c+dat a i+dat b i) % 1048576=c+dat a i+dat b i - 1048576*((c+dat a i+dat b i) / 1048576):=by omega
  rw [h6]
  grind
theorem a83.fin {a b out:List Int} {c:Int} (h:a83 a b a.length out c) (hl:b.length<=a.length):I0 (out.set a.length c)=dg (val a+val b).toNat:=by
 have h1:=h.c0
 have h2:=h.c1
 have h3:=h.eq
 have hl:=h.len
 rw [K8 (h.ok.set (by omega)),a1E (by omega),h.zero _ (Nat.le_refl _)]
 rw [List.take_length,List.take_of_length_le (by omega)] at h3
 congr 2
 grind
structure ai3 (a b:List Int) (i:Nat) (out:List Int) (c:Int):Prop where
 len:out.length=a.length
 ok:Okd out
 le:i<=a.length
 rest:∀j,i<=j->dat out j=dat a j
 c0:0<=c
 c1:c<=1
 eq:val out - pw i*c=val a - val (b.take i)
theorem ai3.init {a b:List Int} (ha:Okd a):ai3 a b 0 a 0:=⟨rfl,ha,Nat.zero_le _,fun _ _=>rfl,by decide,by decide,by simp [val]⟩
theorem ai3.step {a b out:List Int} {i:Nat} {c:Int} (h:ai3 a b i out c) (ha:Okd a) (hb:Okd b) (hi:i<a.length):
 ai3 a b (i+1) (out.set i ((dat out i - c - dat b i) % 1048576)) ((dat out i - c - dat b i) / 1048576 % 2):=by
 have h1:=h.ok.dat i
 have h2:=hb.dat i
 have h3:=h.c0
 have h4:=h.c1
 have hl:=h.len
 refine ⟨by simp [hl],h.ok.set (a5d _),hi,fun j hj=>?_,by omega,by omega,?_⟩
 ·rw [a4R (by omega)];exact h.rest j (by omega)
 ·rw [a1E (by omega),t5,H4]
  have h5:=h.eq
  have h6:(dat out i - c - dat b i) % 1048576=dat out i - c - dat b i+1048576*((dat out i - c - dat b i) / 1048576 % 2):=by omega
  rw [h6]
  grind
theorem ai3.fin {a b out:List Int} {c:Int} (h:ai3 a b a.length out c) (hl:b.length<=a.length) (hv:val b<=val a):I0 out=dg (val a - val b).toNat:=by
 have h1:=h.c0
 have h2:=h.c1
 have h3:=h.eq
 have hlen:=h.len
 rw [List.take_of_length_le (by omega)] at h3
 have h4:=W8 h.ok
 rw [hlen] at h4
 rw [K8 h.ok]
 rcases Int.lt_or_le 0 c with h5|h5
 ·have:c=1:=by omega
  subst this;omega
 ·have:c=0:=by omega
  subst this
  congr 2;omega
structure a9S (a b:List Int) (i k:Nat) (out:List Int) (c:Int):Prop where
 len:out.length=a.length+b.length
 ok:Okd out
 le:k<=b.length
 zero:∀j,i+b.length<=j->dat out j=0
 c0:0<=c
 c1:c<1048576
 eq:val out+pw (i+k)*c=val (a.take i)*val b+pw i*dat a i*val (b.take k)
structure a3V (a b:List Int) (i:Nat) (out:List Int):Prop where
 len:out.length=a.length+b.length
 ok:Okd out
 le:i<=a.length
 zero:∀j,i+b.length<=j->dat out j=0
 eq:val out=val (a.take i)*val b
theorem a3V.init (a b:List Int):a3V a b 0 (List.replicate (a.length+b.length) 0):=
 ⟨by simp,.zeros _,Nat.zero_le _,fun j _=>by unfold dat;rw [List.getD_eq_getElem?_getD,List.getElem?_replicate];split<;>rfl,by rw [a7J];simp [val]⟩
theorem a3V.start {a b out:List Int} {i:Nat} (h:a3V a b i out):a9S a b i 0 out 0:=
 ⟨h.len,h.ok,Nat.zero_le _,h.zero,by decide,by decide,by rw [h.eq];simp [val]⟩
theorem a32 {x y:Int} (hx:0<=x∧x<1048576) (hy:0<=y∧y<1048576):0<=x*y∧x*y<=1048575*1048575:=
 ⟨Int.mul_nonneg hx.1 hy.1,Int.mul_le_mul (by omega) (by omega) hy.1 (by decide)⟩
theorem a9S.step {a b out:List Int} {i k:Nat} {c:Int} (h:a9S a b i k out c) (ha:Okd a) (hb:Okd b) (hi:i<a.length) (hk:k<b.length):
 a9S a b i (k+1) (out.set (i+k) ((dat out (i+k)+dat a i*dat b k+c) % 1048576)) ((dat out (i+k)+dat a i*dat b k+c) / 1048576):=by
 have h1:=h.ok.dat (i+k)
 have h2:=a32 (ha.dat i) (hb.dat k)
 have h3:=h.c0
 have h4:=h.c1
 have hl:=h.len
 refine ⟨by simp [hl],h.ok.set (a5d _),hk,fun j hj=>?_,by omega,by omega,?_⟩
 ·rw [a4R (by omega)];exact h.zero j (by omega)
 ·rw [a1E (by omega),t5,show i+(k+1)=i+k+1 by omega,H4]
  have h5:=h.eq
  have h6:(dat out (i+k)+dat a i*dat b k+c) % 1048576=dat out (i+k)+dat a i*dat b k+c - 1048576*((dat out (i+k)+dat a i*dat b k+c) / 1048576):=by omega
  rw [h6]
  have h7:=a7x i k
  grind
theorem a9S.done {a b out:List Int} {i:Nat} {c:Int} (h:a9S a b i b.length out c) (ha:Okd a) (hb:Okd b) (hi:i<a.length):
 a3V a b (i+1) (out.set (i+b.length) (dat out (i+b.length)+c)):=by
 have h3:=h.c0
 have h4:=h.c1
 have hl:=h.len
 have h8:=h.zero _ (Nat.le_refl _)
 refine ⟨by simp [hl],h.ok.set (by omega),hi,fun j hj=>?_,?_⟩
 ·rw [a4R (by omega)];exact h.zero j (by omega)
 ·rw [a1E (by omega),t5]
  have h5:=h.eq
  rw [List.take_length] at h5
  grind
theorem a3V.fin {a b out:List Int} (h:a3V a b a.length out):I0 out=dg (val a*val b).toNat:=by
 rw [K8 h.ok,h.eq,List.take_length]
structure a0h (a:List Int) (d:Int) (j:Nat) (out:List Int) (r:Int):Prop where
 len:out.length=a.length
 ok:Okd out
 le:j<=a.length
 r0:0<=r
 r1:r<d
 eq:val (a.drop j)=d*val (out.drop j)+r
theorem a0h.init (a:List Int) {d:Int} (hd:0<d):a0h a d a.length (List.replicate a.length 0) 0:=
 ⟨by simp,.zeros _,Nat.le_refl _,by decide,hd,by simp [val]⟩
theorem a7k {l:List Int} {i:Nat} (h:i<l.length):val (l.drop i)=dat l i+1048576*val (l.drop (i+1)):=by
 rw [a2S (List.getElem?_eq_getElem h)];exact a42 (List.getElem?_eq_getElem h)
theorem a6U {l:List Int} {i:Nat} {x:Int} (h:i<l.length):dat (l.set i x) i=x:=by
 unfold dat;rw [List.getD_eq_getElem?_getD,List.getElem?_set_self h];rfl
theorem a0h.step {a out:List Int} {d r:Int} {j:Nat} (h:a0h a d (j+1) out r) (ha:Okd a) (hd:0<d):
 a0h a d j (out.set j ((r*1048576+dat a j) / d)) ((r*1048576+dat a j) % d):=by
 have h1:=ha.dat j
 have h3:=h.r0
 have h4:=h.r1
 have hl:=h.len
 have hle:=h.le
 have h6:0<=(r*1048576+dat a j) / d:=Int.ediv_nonneg (by omega) (by omega)
 have h7:(r*1048576+dat a j) / d<1048576:=by
  apply Int.ediv_lt_of_lt_mul hd
  have:=Int.mul_le_mul_of_nonneg_left (a:=r+1) (b:=d) (c:=1048576) (by omega) (by omega)
  omega
 refine ⟨by simp [hl],h.ok.set ⟨h6,h7⟩,by omega,Int.emod_nonneg _ (by omega),Int.emod_lt_of_pos _ hd,?_⟩
 rw [a7k (by omega),a7k (l:=out.set j _) (by simp;omega),a6U (by omega),List.drop_set_of_lt (by omega),h.eq]
 have h8:=Int.emod_add_mul_ediv (r*1048576+dat a j) d
 grind
theorem a0h.fin {a out:List Int} {d r:Int} (h:a0h a d 0 out r) (ha:Okd a) (hd:0<d):I0 out=dg (val a / d).toNat∧r=val a % d:=by
 have h3:=h.r0
 have h4:=h.r1
 have h5:=h.eq
 simp only [List.drop_zero] at h5
 rw [K8 h.ok]
 have e1:val a / d=val out:=by rw [h5];rw [Int.add_comm,Int.add_mul_ediv_left _ _ (by omega),Int.ediv_eq_zero_of_lt h3 h4];omega
 have e2:val a % d=r:=by rw [h5,Int.add_comm,Int.add_mul_emod_self_left,Int.emod_eq_of_lt h3 h4]
 exact ⟨by rw [e1],e2.symm⟩
structure a8Q (w v:List Int) (g:Int) (i:Nat) (out:List Int) (c:Int):Prop where
 len:out.length=w.length
 ok:Okd out
 le:i<=w.length
 rest:∀j,i<=j->dat out j=dat w j
 c0:0<=c
 c1:c<1048576
 eq:val out - pw i*c=val w - g*val (v.take i)
theorem a8Q.init {w v:List Int} (g:Int) (hw:Okd w):a8Q w v g 0 w 0:=⟨rfl,hw,Nat.zero_le _,fun _ _=>rfl,by decide,by decide,by simp [val]⟩
theorem a8Q.step {w v out:List Int} {g:Int} {i:Nat} {c:Int} (h:a8Q w v g i out c) (hv:Okd v) (hg:0<=g∧g<1048576) (hi:i<w.length):
 a8Q w v g (i+1) (out.set i ((dat out i - c - g*dat v i) % 1048576)) (-((dat out i - c - g*dat v i) / 1048576)):=by
 have h1:=h.ok.dat i
 have h2:=a32 hg (hv.dat i)
 have h3:=h.c0
 have h4:=h.c1
 have hl:=h.len
 refine ⟨by simp [hl],h.ok.set (a5d _),hi,fun j hj=>?_,by omega,by omega,?_⟩
 ·rw [a4R (by omega)];exact h.rest j (by omega)
 ·rw [a1E (by omega),t5,H4]
  have h5:=h.eq
  have h6:(dat out i - c - g*dat v i) % 1048576=dat out i - c - g*dat v i - 1048576*((dat out i - c - g*dat v i) / 1048576):=by omega
  rw [h6]
  grind
structure a77 (w v:List Int) (i:Nat) (out:List Int) (c:Int):Prop where
 len:out.length=w.length
 ok:Okd out
 le:i<=w.length
 rest:∀j,i<=j->dat out j=dat w j
 c0:0<=c
 c1:c<=1
 eq:val out+pw i*c=val w+val (v.take i)
theorem a77.init {w v:List Int} (hw:Okd w):a77 w v 0 w 0:=⟨rfl,hw,Nat.zero_le _,fun _ _=>rfl,by decide,by decide,by simp [val]⟩
theorem a77.step {w v out:List Int} {i:Nat} {c:Int} (h:a77 w v i out c) (hv:Okd v) (hi:i<w.length):
 a77 w v (i+1) (out.set i ((c+dat out i+dat v i) % 1048576)) ((c+dat out i+dat v i) / 1048576):=by
 have h1:=h.ok.dat i
 have h2:=hv.dat i
 have h3:=h.c0
 have h4:=h.c1
 have hl:=h.len
 refine ⟨by simp [hl],h.ok.set (a5d _),hi,fun j hj=>?_,by omega,by omega,?_⟩
 ·rw [a4R (by omega)];exact h.rest j (by omega)
 ·rw [a1E (by omega),t5,H4]
  have h5:=h.eq
  have h6:(c+dat out i+dat v i) % 1048576=c+dat out i+dat v i - 1048576*((c+dat out i+dat v i) / 1048576):=by omega
  rw [h6]
  grind
theorem a8Q.zero {w v out:List Int} {g c:Int} (h:a8Q w v g w.length out c) (hl:v.length<=w.length) (hw:Okd w) (hv:Okd v) (hg:0<=g):
 (c=0↔g*val v<=val w)∧(c=0->val out=val w - g*val v):=by
 have h3:=h.c0
 have h5:=h.eq
 rw [List.take_of_length_le (by omega)] at h5
 have h6:=W8 h.ok
 have h7:=w9 h.ok
 rw [h.len] at h6
 have h8:=Q6 w.length
 have h9:0<c->pw w.length<=pw w.length*c:=fun hc=>by
  have:=Int.mul_le_mul_of_nonneg_left (a:=1) (b:=c) (c:=pw w.length) (by omega) (by omega)
  omega
 constructor
 ·constructor
  ·rintro rfl;omega
  ·intro h10
   rcases Int.lt_or_le 0 c with h11|h11
   ·have:=h9 h11;omega
   ·omega
 ·rintro rfl;omega
theorem a8Q.back {w v out out':List Int} {g c c':Int} (h:a8Q w v g w.length out c) (h':a77 out v w.length out' c') (hl:v.length<=w.length)
 (h1:0<=val w - g*val v+val v) (h2:val w - g*val v+val v<pw w.length):val out'=val w - g*val v+val v:=by
 have h5:=h.eq
 have h6:=h'.eq
 rw [List.take_of_length_le (by omega)] at h5 h6
 have h7:=W8 h'.ok
 have h8:=w9 h'.ok
 rw [h'.len,h.len] at h7
 have h9:=Q6 w.length
 have e:val out'+pw w.length*(c' - c)=val w - g*val v+val v:=by grind
 rcases Int.lt_trichotomy (c' - c) 0 with hc|hc|hc
 ·have:=Int.mul_le_mul_of_nonneg_left (a:=c' - c) (b:=-1) (c:=pw w.length) (by omega) (by omega)
  omega
 ·rw [hc] at e;omega
 ·have:=Int.mul_le_mul_of_nonneg_left (a:=1) (b:=c' - c) (c:=pw w.length) (by omega) (by omega)
  omega
structure Win (P V W v1 v2 top u2:Int):Prop where
 P0:0<P
 v1l:524288<=v1
 v1u:v1<1048576
 v20:0<=v2
 v2u:v2<1048576
 u20:0<=u2
 u2u:u2<1048576
 t0:0<=top
 tu:top<1048576*1048576
 Vl:P*(v1*1048576+v2)<=V
 Vu:V<P*(v1*1048576+v2)+P
 Wl:P*(top*1048576+u2)<=W
 Wu:W<P*(top*1048576+u2)+P
 lt:W<V*1048576
theorem Win.V0 {P V W v1 v2 top u2:Int} (h:Win P V W v1 v2 top u2):0<V:=by
 have h1:=h.Vl
 have h2:=h.P0
 have h3:=h.v1l
 have h4:=h.v20
 have:=Int.mul_pos h2 (b:=v1*1048576+v2) (by omega)
 omega
structure Y3 (V W v1 top g r:Int):Prop where
 g0:0<=g
 gu:g<=2097152
 r0:0<=r
 ru:r<2097152
 eq:g*v1+r=top
 hi:W<(g+1)*V
theorem Y3.init {P V W v1 v2 top u2:Int} (h:Win P V W v1 v2 top u2):Y3 V W v1 top (top / v1) (top % v1):=by
 have h1:=h.v1l
 have h2:=h.v1u
 have h3:=h.t0
 have h4:=h.tu
 have h5:=Int.emod_nonneg top (b:=v1) (by omega)
 have h6:=Int.emod_lt_of_pos top (b:=v1) (by omega)
 have h7:=Int.mul_ediv_add_emod top v1
 have h8:0<=top / v1:=Int.ediv_nonneg h3 (by omega)
 have hq:top / v1*v1+top % v1=top:=by rw [Int.mul_comm];exact h7
 refine ⟨h8,?_,h5,by omega,hq,?_⟩
 ·have h9:=Int.mul_le_mul_of_nonneg_left (a:=524288) (b:=v1) (c:=top / v1) h1 h8
  omega
 ·have hW:=h.Wu
  have hV:=h.Vl
  have hP:=h.P0
  have h20:=h.v20
  have hu:=h.u2u
  have e1:(top / v1+1)*(P*(v1*1048576+v2))<=(top / v1+1)*V:=Int.mul_le_mul_of_nonneg_left hV (by omega)
  have e2:top*1048576+u2+1<=(top / v1+1)*(v1*1048576+v2):=by
   have:0<=(top / v1+1)*v2:=Int.mul_nonneg (by omega) h20
   have e3:(top / v1+1)*v1≥top+1:=by grind
   grind
  have e4:=Int.mul_le_mul_of_nonneg_left (c:=P) e2 (by omega)
  grind
theorem Y3.dec {P V W v1 v2 top u2 g r:Int} (h:Win P V W v1 v2 top u2) (hg:Y3 V W v1 top g r) (hc:1048576<=g∨(r<1048576∧r*1048576+u2<g*v2)):
 W<g*V:=by
 have hV0:=h.V0
 rcases hc with hc|⟨hr,hc⟩
 ·have:=Int.mul_le_mul_of_nonneg_right (a:=1048576) (b:=g) (c:=V) hc (by omega)
  have:=h.lt
  omega
 ·have hW:=h.Wu
  have e1:g*(P*(v1*1048576+v2))<=g*V:=Int.mul_le_mul_of_nonneg_left h.Vl hg.g0
  have e2:top*1048576+u2+1<=g*(v1*1048576+v2):=by
   have:=hg.eq
   grind
  have e4:=Int.mul_le_mul_of_nonneg_left (c:=P) e2 (Int.le_of_lt h.P0)
  grind
theorem Y3.small {P V W v1 v2 top u2 g r:Int} (h:Win P V W v1 v2 top u2) (hg:Y3 V W v1 top g r) (hc:1048576<=g):r<1048576:=by
 have h1:=h.Wl
 have h2:=h.lt
 have h3:=h.Vu
 have hP:=h.P0
 have e1:P*(top*1048576+u2)<P*((v1*1048576+v2+1)*1048576):=by grind
 have e2:top*1048576+u2<(v1*1048576+v2+1)*1048576:=Int.lt_of_mul_lt_mul_left e1 (Int.le_of_lt hP)
 have h4:=h.u20
 have h5:=hg.eq
 have h6:=Int.mul_le_mul_of_nonneg_right (a:=1048576) (b:=g) (c:=v1) hc (by have:=h.v1l;omega)
 have h7:=h.v2u
 omega
theorem Y3.step {P V W v1 v2 top u2 g r:Int} (h:Win P V W v1 v2 top u2) (hg:Y3 V W v1 top g r) (hc:1048576<=g∨(r<1048576∧r*1048576+u2<g*v2))
 (hW0:0<=W):Y3 V W v1 top (g - 1) (r+v1):=by
 have h1:=Y3.dec h hg hc
 have hV0:=h.V0
 have hg0:0<g:=by
  rcases Int.lt_or_le 0 g with h2|h2
  ·exact h2
  ·have:=hg.g0
   have:g=0:=by omega
   subst this;omega
 have h2:=hg.gu
 have h3:=hg.r0
 have h4:=h.v1l
 have h5:=h.v1u
 have h6:=hg.eq
 have h7:r<1048576:=by
  rcases hc with hc|hc
  ·exact Y3.small h hg hc
  ·exact hc.1
 exact ⟨by omega,by omega,by omega,by omega,by grind,by grind⟩
theorem Y3.fin {P V W v1 v2 top u2 g r:Int} (h:Win P V W v1 v2 top u2) (hg:Y3 V W v1 top g r) (hc:¬(1048576<=g∨(r<1048576∧r*1048576+u2<g*v2)))
 (hP:P*1048576<=V):g<1048576∧g*V<=W+V:=by
 have hg1:g<1048576:=by omega
 refine ⟨hg1,?_⟩
 have h0:=hg.g0
 have h20:=h.v20
 have h2u:=h.v2u
 have hu0:=h.u20
 have e1:g*v2<=r*1048576+u2:=by
  rcases Int.lt_or_le r 1048576 with hr|hr
  ·omega
  ·have:=a32 ⟨h0,hg1⟩ ⟨h20,h2u⟩
   omega
 have e2:g*(v1*1048576+v2)<=top*1048576+u2:=by
  have:=hg.eq
  grind
 have e3:=Int.mul_le_mul_of_nonneg_left (c:=P) e2 (Int.le_of_lt h.P0)
 have e4:g*V<=g*(P*(v1*1048576+v2)+P):=Int.mul_le_mul_of_nonneg_left (Int.le_of_lt h.Vu) h0
 have e5:g*P<=1048576*P:=Int.mul_le_mul_of_nonneg_right (Int.le_of_lt hg1) (Int.le_of_lt h.P0)
 have hW:=h.Wl
 grind
structure Bg where
 sg:Int
 dl:List Int
def bz (z:Int):Bg:=⟨z.sign,dg z.natAbs⟩
def inD (d:Int):Bool:=decide (0<=d) && decide (d<=1048575)
def J2 (b:Bg):Bool:=b.dl.all inD && (if b.dl.length=0 then b.sg == 0 else (b.sg == 1 || b.sg == -1) && !(dat b.dl (b.dl.length - 1) == 0))
def bv (b:Bg):Int:=b.sg*val b.dl
theorem aZ7 {l:List Int}:l.all inD=true↔Okd l:=by
 simp only [List.all_eq_true,inD,Bool.and_eq_true,decide_eq_true_eq]
 exact ⟨fun h d hd=>by have:=h d hd;omega,fun h d hd=>by have:=h d hd;omega⟩
theorem a3M (z:Int):bv (bz z)=z:=by
 unfold bv bz
 rw [n7]
 exact Int.sign_mul_natAbs z
theorem b4d {b:Bg} (h:J2 b=true):b=bz (bv b):=by
 unfold J2 at h
 rw [Bool.and_eq_true,aZ7] at h
 obtain ⟨h1,h2⟩:=h
 obtain ⟨sg,dl⟩:=b
 simp only at h1 h2
 have hv:=w9 h1
 by_cases hl:dl.length=0
 ·rw [if_pos hl] at h2
  have:dl=[]:=List.eq_nil_of_length_eq_zero hl
  subst this
  have:sg=0:=by simpa using h2
  subst this
  rfl
 ·rw [if_neg hl,Bool.and_eq_true] at h2
  have hc:Can dl:=⟨h1,fun x hx=>by rw [a2S hx] at h2;simpa using h2.2⟩
  have h3:=aX5 hc
  have hp:0<val dl:=by
   rcases Int.lt_or_le 0 (val dl) with h4|h4
   ·exact h4
   ·have:val dl=0:=by omega
    rw [this] at h3
    rw [h3] at hl
    exact absurd rfl hl
  have hs:sg=1∨sg=-1:=by simpa using h2.1
  have ha:(sg*val dl).natAbs=(val dl).toNat:=by
   rcases hs with rfl|rfl<;>omega
  have hg:(sg*val dl).sign=sg:=by
   rcases hs with rfl|rfl
   ·rw [Int.one_mul];exact Int.sign_eq_one_of_pos hp
   ·exact Int.sign_eq_neg_one_of_neg (by omega)
  unfold bz bv
  simp only
  rw [ha,hg,←h3]
theorem a04 (z:Int):J2 (bz z)=true:=by
 unfold J2
 rw [Bool.and_eq_true,aZ7]
 refine ⟨t9 _,?_⟩
 by_cases hl:(bz z).dl.length=0
 ·rw [if_pos hl]
  have h0:dg z.natAbs=[]:=List.eq_nil_of_length_eq_zero hl
  have:z=0:=by have:=Q5.1 h0;omega
  subst this;rfl
 ·rw [if_neg hl]
  have hz:z≠0:=by rintro rfl;exact hl rfl
  have hl0:(dg z.natAbs).length - 1<(dg z.natAbs).length:=by have:(dg z.natAbs).length≠0:=hl;omega
  have h1:=(a1S z.natAbs).2 _ (List.getElem?_eq_getElem hl0)
  have h2:dat (bz z).dl ((bz z).dl.length - 1)≠0:=by
   show dat (dg z.natAbs) ((dg z.natAbs).length - 1)≠0
   rw [a2S (List.getElem?_eq_getElem hl0)];exact h1
  rw [Bool.and_eq_true]
  refine ⟨?_,by simpa using h2⟩
  show ((z.sign == 1) || (z.sign == -1))=true
  rcases Int.lt_trichotomy z 0 with h|h|h
  ·rw [Int.sign_eq_neg_one_of_neg h];rfl
  ·exact absurd h hz
  ·rw [Int.sign_eq_one_of_pos h];rfl
theorem ab4 {z:Int}:(bz z).sg=z.sign:=rfl
structure Fr where
 p:Bg
 q:Bg
def fz (x:Rat):Fr:=⟨bz x.num,bz x.den⟩
def D7 (f:Fr):Bool:=J2 f.p && J2 f.q && (f.q.sg == 1) && (Int.gcd (bv f.p) (bv f.q) == 1)
def fv (f:Fr):Rat:=mkRat (bv f.p) (bv f.q).toNat
theorem a9w (x:Rat):D7 (fz x)=true:=by
 unfold D7 fz
 simp only [a04,a3M,Bool.true_and,Bool.and_eq_true]
 have hd:=x.den_pos
 refine ⟨?_,?_⟩
 ·rw [ab4,Int.sign_eq_one_of_pos (by omega)];rfl
 ·have:=x.reduced
  simp only [Int.gcd,Int.natAbs_natCast]
  rw [this];rfl
theorem b96 {f:Fr} (h:D7 f=true):f=fz (fv f):=by
 unfold D7 at h
 simp only [Bool.and_eq_true,beq_iff_eq] at h
 obtain ⟨⟨⟨h1,h2⟩,h3⟩,h4⟩:=h
 have e1:=b4d h1
 have e2:=b4d h2
 rw [e2,ab4] at h3
 have hq:0<bv f.q:=Int.sign_eq_one_iff_pos.1 h3
 have hr:Nat.Coprime (bv f.p).natAbs (bv f.q).toNat:=by
  have:(bv f.q).natAbs=(bv f.q).toNat:=by omega
  rw [← this];exact h4
 have e3:fv f=⟨bv f.p,(bv f.q).toNat,by omega,hr⟩:=(Rat.mk_eq_mkRat _ _ _ _).symm
 rw [e3]
 unfold fz
 simp only
 rw [← e1,show (((bv f.q).toNat:Nat):Int)=bv f.q by omega,←e2]
theorem b9V (x:Rat):fv (fz x)=x:=by
 unfold fv fz
 simp only [a3M,Int.toNat_natCast]
 exact Rat.mkRat_self x
theorem a7q {p q g:Int} (hq:0<q) (hg:g=Int.gcd p q):fz (Rat.divInt p q)=⟨bz (p / g),bz (q / g)⟩:=by
 unfold fz
 rw [Rat.num_divInt,Rat.den_divInt,if_neg (by omega),Int.sign_eq_one_of_pos hq,Int.one_mul,Int.gcd_comm q p,←hg]
 congr 2
 rw [hg]
 have:((q.natAbs / Int.gcd p q:Nat):Int)=(q.natAbs:Int) / (Int.gcd p q:Int):=by simp
 rw [this,show (q.natAbs:Int)=q by omega]
structure a8T (U V N L:Nat) (j:Nat) (u q:List Int):Prop where
 lu:u.length=N
 oku:Okd u
 lq:q.length=N - L
 okq:Okd q
 le:j<=N - L
 eq:val (q.drop j)*pw j*V+val u=U
 lt:val u<V*pw j
theorem a8T.init {U V:Nat} (hV:0<V) (hl:(dg V).length<=(dg U).length+1):a8T U V ((dg U).length+1) (dg V).length ((dg U).length+1 - (dg V).length) (dg U++[0]) (List.replicate ((dg U).length+1 - (dg V).length) 0):=by
 have h1:=az3 hV
 have h2:=O5 U
 have hv:val (dg U++[0])=U:=by rw [M5,n7];simp [val]
 have hL:(dg V).length≠0:=by rw [Ne,List.length_eq_zero_iff,Q5];omega
 refine ⟨by simp,(t9 U).append (by intro x hx;simp at hx;omega),by simp,.zeros _,Nat.le_refl _,?_,?_⟩
 ·rw [List.drop_of_length_le (by simp),hv];simp [val]
 ·rw [hv]
  have h3:=Int.mul_le_mul_of_nonneg_right (a:=pw ((dg V).length - 1)) (b:=V) (c:=pw ((dg U).length+1 - (dg V).length)) h1 (Int.le_of_lt (Q6 _))
  rw [← a7x,show (dg V).length - 1+((dg U).length+1 - (dg V).length)=(dg U).length by omega] at h3
  omega
theorem a8T.window {U V N L j:Nat} {u q:List Int} (h:a8T U V N L (j+1) u q) (hL:(dg V).length=L):
 u=u.take j++(u.drop j).take (L+1)++u.drop (j+(L+1))∧((u.drop j).take (L+1)).length=L+1∧(u.take j).length=j∧
 val u=val (u.take j)+pw j*val ((u.drop j).take (L+1))∧val (u.drop (j+(L+1)))=0∧val ((u.drop j).take (L+1))<V*1048576:=by
 have h1:=h.lu
 have h2:=h.le
 have h3:=h.lt
 have hp:=Q6 j
 have e0:(u.take j).length=j:=by simp;omega
 have e1:u.drop j=(u.drop j).take (L+1)++u.drop (j+(L+1)):=by rw [← List.drop_drop,List.take_append_drop]
 have e2:((u.drop j).take (L+1)).length=L+1:=by simp;omega
 have e3:u=u.take j++(u.drop j).take (L+1)++u.drop (j+(L+1)):=by rw [List.append_assoc,←e1,List.take_append_drop]
 have hv:=a4Q u j (by omega)
 have hw:=M5 ((u.drop j).take (L+1)) (u.drop (j+(L+1)))
 rw [← e1,e2] at hw
 have h4:=w9 (h.oku.take j)
 have h5:=w9 ((h.oku.drop j).take (L+1))
 have h6:=w9 (h.oku.drop (j+(L+1)))
 have hVp:=O5 V
 rw [hL] at hVp
 have hz:val (u.drop (j+(L+1)))=0:=by
  rcases Int.lt_or_le 0 (val (u.drop (j+(L+1)))) with h7|h7
  ·exfalso
   have a1:=Int.mul_le_mul_of_nonneg_left (a:=1) (b:=val (u.drop (j+(L+1)))) (c:=pw (L+1)) (by omega) (Int.le_of_lt (Q6 _))
   have a2:=Int.mul_le_mul_of_nonneg_left (a:=pw (L+1)) (b:=val (u.drop j)) (c:=pw j) (by omega) (Int.le_of_lt hp)
   have a3:=Int.mul_le_mul_of_nonneg_right (a:=(V:Int)) (b:=pw L) (c:=pw (j+1)) (Int.le_of_lt hVp) (Int.le_of_lt (Q6 _))
   have a4:pw j*pw (L+1)=pw L*pw (j+1):=by rw [← a7x,←a7x];congr 1;omega
   omega
  ·omega
 rw [hz,Int.mul_zero,Int.add_zero] at hw
 rw [hw] at hv
 refine ⟨e3,e2,e0,hv,hz,?_⟩
 have a5:pw j*val ((u.drop j).take (L+1))<pw j*(V*1048576):=by
  rw [H4] at h3
  have:(V:Int)*(pw j*1048576)=pw j*(V*1048576):=by grind
  omega
 exact Int.lt_of_mul_lt_mul_left a5 (Int.le_of_lt hp)
theorem as4 (l:List Int):I0 l++List.replicate (l.length - (I0 l).length) 0=l:=by
 induction l with
 |nil=>rfl
 |cons d r ih=>
  rw [I0]
  split
  ·rename_i h
   rw [h.1] at ih
   rw [h.2]
   simp only [List.nil_append,List.length_nil,Nat.sub_zero,List.length_cons,List.replicate_succ] at ih ⊢
   rw [ih]
  ·simp only [List.cons_append,List.length_cons,Nat.add_sub_add_right]
   rw [ih]
def a0g (n:Nat) (l:List Int):List Int:=l++List.replicate (n - l.length) 0
theorem b0Z {l:List Int} (h:Okd l) {n:Nat} (hn:l.length=n):l=a0g n (dg (val l).toNat):=by
 subst hn
 have:=as4 l
 rw [K8 h] at this
 exact this.symm
theorem b66 (n:Nat) (l:List Int):val (a0g n l)=val l:=by unfold a0g;rw [M5,a7J];simp
theorem as6 {n:Nat} {l:List Int} (h:l.length<=n):(a0g n l).length=n:=by unfold a0g;simp;omega
theorem b3i {n:Nat} {l:List Int} (h:Okd l):Okd (a0g n l):=h.append (.zeros _)
theorem Win.of {v w:List Int} {L:Nat} (hv:Okd v) (hw:Okd w) (lv:v.length=L+2) (lw:w.length=L+3) (ht:524288<=dat v (L+1)) (hlt:val w<val v*1048576):
 Win (pw L) (val v) (val w) (dat v (L+1)) (dat v L) (dat w (L+2)*1048576+dat w (L+1)) (dat w L):=by
 have v1:=t5 v (L+1)
 have v2:=t5 v L
 have w1:=t5 w (L+2)
 have w2:=t5 w (L+1)
 have w3:=t5 w L
 rw [List.take_of_length_le (by omega)] at v1 w1
 have a1:=w9 (hv.take L)
 have a2:=W8 (hv.take L)
 have a3:=w9 (hw.take L)
 have a4:=W8 (hw.take L)
 rw [List.length_take,Nat.min_eq_left (by omega)] at a2 a4
 have d1:=hv.dat (L+1)
 have d2:=hv.dat L
 have d3:=hw.dat (L+2)
 have d4:=hw.dat (L+1)
 have d5:=hw.dat L
 have p1:=H4 L
 have p2:=H4 (L+1)
 have e1:val v=pw L*(dat v (L+1)*1048576+dat v L)+val (v.take L):=by grind
 have e2:val w=pw L*((dat w (L+2)*1048576+dat w (L+1))*1048576+dat w L)+val (w.take L):=by grind
 exact ⟨Q6 L,ht,by omega,by omega,by omega,by omega,by omega,by omega,by omega,by omega,by omega,by omega,by omega,hlt⟩
theorem a8T.step {U V N L j:Nat} {u q:List Int} (h:a8T U V N L (j+1) u q) (hL:(dg V).length=L) (hV:0<V) {Q:Int} (hQ:0<=Q∧Q<1048576)
 (hr0:0<=val ((u.drop j).take (L+1)) - Q*V) (hr1:val ((u.drop j).take (L+1)) - Q*V<V):
 a8T U V N L j (u.take j++a0g (L+1) (dg (val ((u.drop j).take (L+1)) - Q*V).toNat)++u.drop (j+(L+1))) (q.set j Q):=by
 obtain ⟨e3,e2,e0,hv,hz,hW⟩:=h.window hL
 have h1:=h.lu
 have h2:=h.le
 have h3:=h.lq
 have hVp:=O5 V
 rw [hL] at hVp
 have hmono:=a16 (Nat.le_succ L)
 have lp:(dg (val ((u.drop j).take (L+1)) - Q*V).toNat).length<=L+1:=O3 (by have:pw L<=pw (L+1):=hmono;omega)
 have hpl:=as6 lp
 have hvp:val (a0g (L+1) (dg (val ((u.drop j).take (L+1)) - Q*V).toNat))=val ((u.drop j).take (L+1)) - Q*V:=by
  rw [b66,n7,Int.toNat_of_nonneg hr0]
 have hu':val (u.take j++a0g (L+1) (dg (val ((u.drop j).take (L+1)) - Q*V).toNat)++u.drop (j+(L+1)))=val (u.take j)+pw j*(val ((u.drop j).take (L+1)) - Q*V):=by
  rw [M5,hz,M5,hvp,e0];simp
 have hp:=Q6 j
 have hlt:=W8 (h.oku.take j)
 rw [e0] at hlt
 refine ⟨?_,((h.oku.take j).append (b3i (t9 _))).append (h.oku.drop _),by simp [h3],h.okq.set hQ,by omega,?_,?_⟩
 ·simp only [List.length_append,hpl,e0,List.length_drop];omega
 ·rw [hu',a7k (by simp;omega),a6U (by omega),List.drop_set_of_lt (by omega)]
  have h4:=h.eq
  rw [hv,H4] at h4
  grind
 ·rw [hu']
  have h5:=Int.mul_le_mul_of_nonneg_left (a:=val ((u.drop j).take (L+1)) - Q*V) (b:=(V:Int) - 1) (c:=pw j) (by omega) (by omega)
  have h6:pw j*((V:Int) - 1)=V*pw j - pw j:=by grind
  omega
theorem a8T.fin {U V N L:Nat} {u q:List Int} (h:a8T U V N L 0 u q) (hV:0<V):val q=(U / V:Nat)∧val u=(U % V:Nat):=by
 have h1:=h.eq
 have h2:=h.lt
 simp only [List.drop_zero,b5w,Int.mul_one] at h1 h2
 have h3:=w9 h.oku
 have h4:=w9 h.okq
 obtain ⟨Q,hQ⟩:=Int.eq_ofNat_of_zero_le h4
 obtain ⟨R,hR⟩:=Int.eq_ofNat_of_zero_le h3
 rw [hQ,hR] at h1
 rw [hR] at h2
 have e:U=R+Q*V:=by
  have:((R+Q*V:Nat):Int)=(U:Int):=by rw [← h1];simp [Int.add_comm]
  omega
 have hlt:R<V:=by omega
 rw [hQ,hR,e,Nat.add_mul_div_right _ _ hV,Nat.div_eq_of_lt hlt,Nat.add_mul_mod_self_right,Nat.mod_eq_of_lt hlt]
 simp
end
section
def bl (z:Int):Nat:=(dg z.natAbs).length
theorem a3D (m n:Nat):(dg (m+n)).length<=max (dg m).length (dg n).length+1:=by
 refine O3 ?_
 have h1:=O5 m
 have h2:=O5 n
 have h3:=a16 (Nat.le_max_left (dg m).length (dg n).length)
 have h4:=a16 (Nat.le_max_right (dg m).length (dg n).length)
 rw [H4]
 omega
theorem a3h (m n:Nat):(dg (m*n)).length<=(dg m).length+(dg n).length:=by
 refine O3 ?_
 have h1:=O5 m
 have h2:=O5 n
 rw [a7x]
 have h3:(m:Int)*n<=m*(pw (dg n).length):=Int.mul_le_mul_of_nonneg_left (by omega) (by omega)
 have h4:(m:Int)*pw (dg n).length<pw (dg m).length*pw (dg n).length:=Int.mul_lt_mul_of_pos_right h1 (Q6 _)
 have h5:((m*n:Nat):Int)=m*n:=by simp
 omega
theorem a1N (x:Int):bl (-x)=bl x:=by unfold bl;rw [Int.natAbs_neg]
theorem a7r (x y:Int):bl (x+y)<=max (bl x) (bl y)+1:=Nat.le_trans (p4 (Int.natAbs_add_le x y)) (a3D _ _)
theorem G5 (x y:Int):bl (x*y)<=bl x+bl y:=by unfold bl;rw [Int.natAbs_mul];exact a3h _ _
theorem b0g {x y:Int} (h:x.natAbs<=y.natAbs):bl x<=bl y:=p4 h
theorem U2 {x:Int} (h0:-9223372036854775808<=x) (h1:x<=9223372036854775807):bl x<=4:=O3 (by simp only [pw];omega)
theorem t4 {x:Int} (h0:-1048575<=x) (h1:x<=1048575):bl x<=1:=O3 (by simp only [pw];omega)
theorem a9I (x y:Int) {n:Nat} (lx:bl x<=n) (ly:bl y<=n):bl (Int.gcd x y)<=n:=by
 by_cases h:x=0
 ·subst h;unfold bl at *;rw [Int.gcd_zero_left];simpa using ly
 ·refine Nat.le_trans (p4 ?_) lx
  simp only [Int.natAbs_natCast]
  exact Int.gcd_le_natAbs_left y h
def rl (x:Rat):Nat:=max (bl x.num) (bl x.den)
theorem G4 (x:Rat):bl x.num<=rl x:=Nat.le_max_left _ _
theorem H5 (x:Rat):bl x.den<=rl x:=Nat.le_max_right _ _
theorem Q1 {p q:Int} (hq:q≠0):rl (Rat.divInt p q)<=max (bl p) (bl q):=by
 unfold rl
 rw [Rat.num_divInt,Rat.den_divInt,if_neg hq]
 have h1:bl (q.sign*p / (q.gcd p:Nat))<=bl p:=b0g (by
  refine Nat.le_trans (Int.natAbs_ediv_le_natAbs _ _) ?_
  rw [Int.natAbs_mul]
  have:q.sign.natAbs=1:=by
   rcases Int.lt_trichotomy q 0 with h|h|h
   ·rw [Int.sign_eq_neg_one_of_neg h];rfl
   ·exact absurd h hq
   ·rw [Int.sign_eq_one_of_pos h];rfl
  rw [this,Nat.one_mul];exact Nat.le_refl _)
 have h2:bl ((q.natAbs / q.gcd p:Nat):Int)<=bl q:=b0g (by simp only [Int.natAbs_natCast];exact Nat.div_le_self _ _)
 omega
theorem a9d (x y:Rat):x+y=Rat.divInt (x.num*y.den+y.num*x.den) (x.den*y.den):=by rw [Rat.add_def',←Rat.divInt_ofNat,Int.natCast_mul]
theorem av0 (x y:Rat):x*y=Rat.divInt (x.num*y.num) (x.den*y.den):=by rw [Rat.mul_def',←Rat.divInt_ofNat,Int.natCast_mul]
theorem b5P (x y:Rat):x / y=Rat.divInt (x.num*y.den) (x.den*y.num):=by
 rw [Rat.div_def,Rat.inv_def]
 conv=>lhs;rw [← Rat.num_divInt_den x]
 rw [Rat.divInt_mul_divInt]
theorem aY3 (x:Rat):(x.den:Int)≠0:=by have:=x.den_pos;omega
theorem a93 (x y:Rat):(x.den:Int)*y.den≠0:=Int.mul_ne_zero (aY3 x) (aY3 y)
theorem a4e (x y:Rat):rl (x+y)<=rl x+rl y+1:=by
 rw [a9d]
 have h1:=a7r (x.num*y.den) (y.num*x.den)
 have h2:=G5 x.num y.den
 have h3:=G5 y.num x.den
 have h4:=G5 x.den y.den
 have:=Q1 (p:=x.num*y.den+y.num*x.den) (a93 x y)
 unfold rl at *
 omega
theorem S7 (x:Rat):rl (-x)=rl x:=by unfold rl;rw [Rat.neg_num,Rat.neg_den,a1N]
theorem aQ7 (x y:Rat):rl (x - y)<=rl x+rl y+1:=by rw [Rat.sub_eq_add_neg];have:=a4e x (-y);rw [S7] at this;exact this
theorem a3c (x y:Rat):rl (x*y)<=rl x+rl y:=by
 rw [av0]
 have h2:=G5 x.num y.num
 have h4:=G5 x.den y.den
 have:=Q1 (p:=x.num*y.num) (a93 x y)
 unfold rl at *
 omega
theorem a2k (n:Int):rl (n:Rat)=max (bl n) 1:=by unfold rl;rw [Rat.num_intCast,Rat.den_intCast];rfl
def a2K (x y:Rat):Int:=if x<y then -1 else if y<x then 1 else 0
theorem b2N {x:Rat}:x.num<0↔x<0:=by rw [Rat.lt_iff];simp
theorem b48 {x:Rat}:0<x.num↔0<x:=by rw [Rat.lt_iff];simp
def sgR (x:Rat):Int:=if x<0 then -1 else if 0<x then 1 else 0
theorem a6l (x:Rat):x.num.sign=sgR x:=by
 unfold sgR
 by_cases h:x<0
 ·rw [if_pos h,Int.sign_eq_neg_one_of_neg (b2N.2 h)]
 ·rw [if_neg h]
  by_cases h2:0<x
  ·rw [if_pos h2,Int.sign_eq_one_of_pos (b48.2 h2)]
  ·rw [if_neg h2]
   have h3:¬x.num<0:=fun e=>h (b2N.1 e)
   have h4:¬0<x.num:=fun e=>h2 (b48.1 e)
   rw [show x.num=0 by omega];rfl
end
section
def O6 (c:K0):Bool:=
 decide (0<=c.since) && decide (c.since<=c.till) && decide (c.till<=100000) && idx c.scale 30 && btw c.grams 0 1099511627776 && btw c.permille 0 1000 && btw c.drift 0 10000000
def J5 (c:K0) (day:Int):Bool:=O6 c && btw day c.since c.till
def aB1 (cs:List K0) (i:Nat):Int:=((cs[i]?).map (·.since)).getD 0
def a3G (cs:List K0) (o:Option Nat) (c:K0):Bool:=match o with
 |none=>true
 |some b=>decide (aB1 cs b<=c.since)
def B6 (cs:List K0) (scale day:Int):Nat->Option Nat
 |0=>none
 |k+1=>match cs[k]? with
  |none=>B6 cs scale day k
  |some c=>if decide (c.scale=scale) && J5 c day && a3G cs (B6 cs scale day k) c then some k else B6 cs scale day k
theorem L4 {cs:List K0} {scale day:Int}:∀{k b:Nat},B6 cs scale day k=some b->b<k∧∃c,cs[b]? =some c∧c.scale=scale∧J5 c day=true
 |0,b,h=>by simp [B6] at h
 |k+1,b,h=>by
  unfold B6 at h
  split at h
  ·obtain ⟨h1,h2⟩:=L4 h;exact ⟨by omega,h2⟩
  ·rename_i c hc
   split at h
   ·rename_i hcc
    injection h with h
    subst h
    simp only [Bool.and_eq_true,decide_eq_true_eq] at hcc
    exact ⟨by omega,c,hc,hcc.1.1,hcc.1.2⟩
   ·obtain ⟨h1,h2⟩:=L4 h;exact ⟨by omega,h2⟩
def R5 (rs:List y0) (scale day:Int):Bool:=rs.any fun r=>decide (r.scale=scale) && decide (r.since<=day)
def a2p (c:K0) (reading day:Int):Rat:=Rat.divInt (c.permille*reading) 1000+((c.grams+c.drift*(day - c.since):Int):Rat)
def ax6 (x y:Rat):Rat:=if x<y then y else x
def b2R:K0:=⟨0,0,0,0,0,0⟩
def a0X (cs:List K0) (i:Nat):K0:=(cs[i]?).getD b2R
def C3 (cs:List K0) (rs:List y0) (scale reading day:Int):Option (Rat × Rat):=
 match B6 cs scale day cs.length with
 |none=>none
 |some i=>if R5 rs scale day then none else if btw reading 0 1099511627776 then
   some (ax6 ((reading:Rat) - a2p (a0X cs i) reading day) ((0:Int):Rat),(reading:Rat)+a2p (a0X cs i) reading day) else none
def bc1 (l:List Rat):Rat:=l.foldl (·+·) ((0:Int):Rat)
def hz (H:List (List Rat)):List (List Fr):=H.map (·.map fz)
theorem a5K {l:List Fr} (h:l.all D7=true):∃L:List Rat,l=L.map fz:=by
 induction l with
 |nil=>exact ⟨[],rfl⟩
 |cons f r ih=>
  simp only [List.all_cons,Bool.and_eq_true] at h
  obtain ⟨L,rfl⟩:=ih h.2
  exact ⟨fv f::L,by simp [← b96 h.1]⟩
def hAt (H:List (List Rat)) (k m:Nat):Rat:=(H.getD k []).getD m 0
def a9z (x:x4) (v:Nat->Rat) (f:Nat->Nat->Rat):Nat->Nat->Rat:=fun p m=>if x.src=(p:Int) then f p m - v m else if x.dst=(p:Int) then f p m+v m else f p m
def stk (e:Ev) (H:List (List Rat)):Nat->Nat->Nat->Rat
 |0=>fun _ _=>((0:Int):Rat)
 |k+1=>match e.moves[k]? with
  |none=>stk e H k
  |some x=>a9z x (hAt H k) (stk e H k)
theorem b0t:rl ((0:Int):Rat)=1:=by rw [a2k];rfl
end
section
theorem a8e {e e':Ev} {G G':List (List Rat)}:∀k,(∀ j,j<k->(e'.moves[j]?).map (fun x=>(x.src,x.dst))=(e.moves[j]?).map (fun x=>(x.src,x.dst)))->(∀ j,j<k->hAt G' j=hAt G j)->stk e' G' k=stk e G k
 |0,_,_=>rfl
 |k+1,h,hG=>by
  have ih:=a8e k (fun j hj=>h j (by omega)) (fun j hj=>hG j (by omega))
  have hk:=h k (by omega)
  have hg:=hG k (by omega)
  unfold stk
  cases h1:e'.moves[k]? with
  |none=>cases h2:e.moves[k]? with
   |none=>exact ih
   |some x=>rw [h1,h2] at hk;cases hk
  |some x'=>cases h2:e.moves[k]? with
   |none=>rw [h1,h2] at hk;cases hk
   |some x=>
    rw [h1,h2] at hk
    simp at hk
    simp only [ih,hg]
    funext p m
    unfold a9z
    rw [hk.1,hk.2]
theorem aj5 {cs:List K0} {rs:List y0} {r:y0} {scale reading day:Int}:C3 cs (rs++[r]) scale reading day=none∨C3 cs (rs++[r]) scale reading day=C3 cs rs scale reading day:=by
 unfold C3
 cases B6 cs scale day cs.length with
 |none=>exact .inl rfl
 |some i=>
  simp only
  have:R5 (rs++[r]) scale day=(R5 rs scale day || (decide (r.scale=scale) && decide (r.since<=day))):=by simp [R5]
  rw [this]
  cases R5 rs scale day<;>cases (decide (r.scale=scale) && decide (r.since<=day))<;>simp
def a5q (e:Ev) (r:y0):Ev:={ e with recalls:=e.recalls++[r] }
end
section
def g7 (f:Nat->Rat):Nat->Rat
 |0=>((0:Int):Rat)
 |n+1=>g7 f n+f n
theorem V9:((0:Int):Rat)=0:=rfl
theorem f7 {f g:Nat->Rat}:∀{n:Nat},(∀ m,m<n->f m=g m)->g7 f n=g7 g n
 |0,_=>rfl
 |n+1,h=>by simp only [g7];rw [f7 fun m hm=>h m (by omega),h n (by omega)]
theorem a6i (f:Nat->Rat) (v:Rat) (d:Nat):∀n,g7 (fun p=>if p=d then f p+v else f p) n=g7 f n+(if d<n then v else 0)
 |0=>by simp only [g7,V9];rw [if_neg (by omega)];grind
 |n+1=>by
  simp only [g7]
  rw [a6i f v d n]
  rcases Nat.lt_trichotomy d n with h|h|h
  ·rw [if_pos h,if_neg (by omega),if_pos (by omega)];grind
  ·subst h;rw [if_neg (by omega),if_pos rfl,if_pos (by omega)];grind
  ·rw [if_neg (by omega),if_neg (by omega),if_neg (by omega)];grind
theorem b25 (f:Nat->Rat) (v:Rat) {s d n:Nat} (hs:s<n) (hd:d<n) (hsd:s≠d):g7 (fun p=>if p=s then f p - v else if p=d then f p+v else f p) n=g7 f n:=by
 have e:∀m,m<n->(if m=s then f m - v else if m=d then f m+v else f m)=(if m=s then (if m=d then f m+v else f m)+-v else (if m=d then f m+v else f m)):=fun m _=>by
  by_cases h:m=s
  ·subst h;rw [if_pos rfl,if_pos rfl,if_neg hsd];grind
  ·rw [if_neg h,if_neg h]
 rw [f7 e,a6i (fun p=>if p=d then f p+v else f p) (-v) s n,a6i f v d n,if_pos hs,if_pos hd]
 grind
end
section
theorem getD_some {l:List Rat} {m:Nat} (h:m<l.length):l[m]? =some (l.getD m 0):=by rw [List.getD_eq_getElem?_getD,List.getElem?_eq_getElem h];rfl
end
section
structure Ev.Sized (e:Ev):Prop where
 s1:e.places.length<=1000000
 s2:e.moves.length<=1000000
 s3:e.certs.length<=1000000
 s4:e.recalls.length<=1000000
 s5:e.purities.length<=1000000
end
section
def b9Z (xs ys:List Int) (k:Nat):Prop:=xs.take k=ys.take k
end
section
theorem a2Z {α:Type} {p:Nat->α->Bool} {l:List α}:∀{k:Nat} {x:Int},x ∈ a1j p k l↔∃i m,l[i]? =some m∧p (k+i) m=true∧x=((k+i:Nat):Int):=by
 induction l with
 |nil=>intro k x;simp [a1j]
 |cons a r ih=>
  intro k x
  have step:x ∈ a1j p (k+1) r↔∃i m,(a::r)[i+1]? =some m∧p (k+(i+1)) m=true∧x=((k+(i+1):Nat):Int):=by
   rw [ih]
   constructor
   ·rintro ⟨i,m,h1,h2,h3⟩
    exact ⟨i,m,by simpa using h1,by rw [show k+(i+1)=k+1+i from by omega];exact h2,by rw [h3];omega⟩
   ·rintro ⟨i,m,h1,h2,h3⟩
    exact ⟨i,m,by simpa using h1,by rw [show k+1+i=k+(i+1) from by omega];exact h2,by rw [h3];omega⟩
  unfold a1j
  by_cases hp:p k a=true
  ·rw [if_pos hp,List.mem_cons,step]
   constructor
   ·rintro (rfl|⟨i,m,h⟩)
    ·exact ⟨0,a,rfl,hp,rfl⟩
    ·exact ⟨i+1,m,h⟩
   ·rintro ⟨i,m,h1,h2,h3⟩
    cases i with
    |zero=>left;simpa using h3
    |succ i=>right;exact ⟨i,m,h1,h2,h3⟩
  ·rw [if_neg hp,step]
   constructor
   ·rintro ⟨i,m,h⟩
    exact ⟨i+1,m,h⟩
   ·rintro ⟨i,m,h1,h2,h3⟩
    cases i with
    |zero=>simp at h1;subst h1;exact absurd h2 hp
    |succ i=>exact ⟨i,m,h1,h2,h3⟩
end
section
theorem ah3 {e:Ev} {m:x4} (h:G2 e m=true):o4 e m.dst≠0:=by
 simp [G2] at h;exact h.1.2
end
section
theorem a6E {e:Ev} {G:List (List Rat)} {k:Nat} {x:x4} (hx:e.moves[k]? =some x):stk e G (k+1)=a9z x (hAt G k) (stk e G k):=by
 conv=>lhs;unfold stk
 rw [hx]
theorem a96 {e:Ev} {G:List (List Rat)} {k:Nat} (hx:e.moves[k]? =none):stk e G (k+1)=stk e G k:=by
 conv=>lhs;unfold stk
 rw [hx]
end
section
theorem aX4 {e:Ev} {x:x4} (h:G2 e x=true) (ha:x.all=true):o4 e x.src≠0:=by
 unfold G2 at h
 simp only [Bool.and_eq_true,decide_eq_true_eq] at h
 have:=h.1.1.2
 rw [ha] at this
 simpa using this
end
section
def G0 (e:Ev) (x:x4):Option (Rat × Rat):=if x.scale=-1 then none else C3 e.certs e.recalls x.scale x.reading x.day
end
section
structure J9 where
 mv:Int
 kind:Int
 grams:Int
structure J3 where
 mv:Int
 kind:Int
structure e8 where
 ev:Ev
 finds:List J9
 cleans:List J3
def a13 (e:Ev) (mv kind:Int):Int:=if mv<0∨(e.moves.length:Int)<=mv then 4 else if kind<0∨8<=kind then 1 else 0
def I4 (e:Ev):List J9->Int
 |[]=>0
 |f::r=>if a13 e f.mv f.kind≠0 then a13 e f.mv f.kind else if f.grams<1∨1099511627776<f.grams then 3 else I4 e r
def H3 (e:Ev):List J3->Int
 |[]=>0
 |c::r=>if a13 e c.mv c.kind≠0 then a13 e c.mv c.kind else H3 e r
def v8 (t:e8):Int:=
 if C6 t.ev≠0 then C6 t.ev else if 20<t.finds.length∨50<t.cleans.length then 6
 else if I4 t.ev t.finds≠0 then I4 t.ev t.finds else H3 t.ev t.cleans
def j5 (l:List J9) (kind:Int) (i:Nat):List Int:=(l.filter fun f=>decide (f.kind=kind) && decide (f.mv=(i:Int))).map (·.grams)
def n9 (l:List J3) (kind:Int) (i:Nat):Nat:=(l.filter fun c=>decide (c.kind=kind) && decide (c.mv=(i:Int))).length
def col (z:List Rat):List (List Rat):=z.map fun v=>[v]
theorem a9g (z:List Rat) (k:Nat):hAt (col z) k 0=z.getD k 0:=by
 unfold hAt col
 cases h:z[k]?<;>simp [List.getD_eq_getElem?_getD,h]
def a06 (e:Ev) (z:List Rat) (k p:Nat):Rat:=stk e (col z) k p 0
def aF6 (iv:Option (Rat × Rat)) (v:Rat):Bool:=match iv with
 |none=>true
 |some (_,hi)=>decide (v<=hi)
structure b9N (e:Ev) (x:x4) (v f:Rat):Prop where
 pos:0<=v
 most:o4 e x.src≠0->v<=f
 all:x.all=true->v=f
structure b4z (t:e8) (kind:Int) (i:Nat) (x:x4) (v:Rat):Prop where
 cap:aF6 (G0 t.ev x) v=true
 fin:∀g ∈ j5 t.finds kind i,(g:Rat)<=v
 cln:0<n9 t.cleans kind i->v=0
structure a9K (t:e8) (kind:Int) (z:List Rat):Prop where
 tr:v8 t=0
 k0:0<=kind
 k1:kind<8
 len:z.length=t.ev.moves.length
 step:∀i x,t.ev.moves[i]? =some x->b9N t.ev x (z.getD i 0) (a06 t.ev z i x.src.toNat)∧b4z t kind i x (z.getD i 0)
theorem a6b (z:List Rat):(z.map fz).map fv=z:=by
 rw [List.map_map]
 conv=>rhs;rw [← List.map_id z]
 exact List.map_congr_left fun x _=>b9V x
theorem n8 {t:e8} (h:v8 t=0):C6 t.ev=0∧t.finds.length<=20∧t.cleans.length<=50∧I4 t.ev t.finds=0∧H3 t.ev t.cleans=0:=by
 unfold v8 at h
 by_cases h1:C6 t.ev≠0
 ·rw [if_pos h1] at h;exact absurd h h1
 rw [if_neg h1] at h
 by_cases h2:20<t.finds.length∨50<t.cleans.length
 ·rw [if_pos h2] at h;cases h
 rw [if_neg h2] at h
 by_cases h3:I4 t.ev t.finds≠0
 ·rw [if_pos h3] at h;exact absurd h h3
 rw [if_neg h3] at h
 exact ⟨by simpa using h1,by omega,by omega,by simpa using h3,h⟩
theorem al4 {t:e8} (h1:C6 t.ev=0) (h2:t.finds.length<=20) (h3:t.cleans.length<=50) (h4:I4 t.ev t.finds=0) (h5:H3 t.ev t.cleans=0):v8 t=0:=by
 unfold v8
 rw [if_neg (by simp [h1]),if_neg (by omega),if_neg (by simp [h4]),h5]
theorem E6 {e:Ev}:∀{l:List J9},I4 e l=0->∀f ∈ l,0<=f.mv∧f.mv<e.moves.length∧0<=f.kind∧f.kind<8∧1<=f.grams∧f.grams<=1099511627776
 |[],_,f,hf=>by cases hf
 |g::r,h,f,hf=>by
  unfold I4 at h
  by_cases h1:a13 e g.mv g.kind≠0
  ·rw [if_pos h1] at h;exact absurd h h1
  rw [if_neg h1] at h
  by_cases h2:g.grams<1∨1099511627776<g.grams
  ·rw [if_pos h2] at h;cases h
  rw [if_neg h2] at h
  rcases List.mem_cons.1 hf with rfl|hf
  ·unfold a13 at h1
   by_cases h3:f.mv<0∨(e.moves.length:Int)<=f.mv
   ·rw [if_pos h3] at h1;exact absurd (by decide) h1
   rw [if_neg h3] at h1
   by_cases h4:f.kind<0∨8<=f.kind
   ·rw [if_pos h4] at h1;exact absurd (by decide) h1
   omega
  ·exact E6 h f hf
def T9 (t:e8) (c:J3):e8:={ t with cleans:=t.cleans++[c] }
def N4 (t:e8) (r:y0):e8:={ t with ev:=a5q t.ev r }
theorem a6h (l:List J9) (f:J9) (kind:Int) (i:Nat):j5 (l++[f]) kind i=j5 l kind i++(if f.kind=kind∧f.mv=(i:Int) then [f.grams] else []):=by
 unfold j5
 rw [List.filter_append,List.map_append]
 by_cases h:f.kind=kind∧f.mv=(i:Int)
 ·rw [if_pos h];simp [h.1,h.2]
 ·rw [if_neg h]
  have:(decide (f.kind=kind) && decide (f.mv=(i:Int)))=false:=by
   rw [← Bool.not_eq_true];simp only [Bool.and_eq_true,decide_eq_true_eq];exact h
  simp [this]
theorem V3 (l:List J3) (c:J3) (kind:Int) (i:Nat):n9 (l++[c]) kind i=n9 l kind i+(if c.kind=kind∧c.mv=(i:Int) then 1 else 0):=by
 unfold n9
 rw [List.filter_append,List.length_append]
 by_cases h:c.kind=kind∧c.mv=(i:Int)
 ·rw [if_pos h];simp [h.1,h.2]
 ·rw [if_neg h]
  have:(decide (c.kind=kind) && decide (c.mv=(i:Int)))=false:=by
   rw [← Bool.not_eq_true];simp only [Bool.and_eq_true,decide_eq_true_eq];exact h
  simp [this]
theorem aQ6 {t:e8} {c:J3} {kind:Int} {z:List Rat} (h0:v8 t=0) (h:a9K (T9 t c) kind z):a9K t kind z:=by
 refine ⟨h0,h.k0,h.k1,h.len,fun i x hx=>?_⟩
 obtain ⟨h1,h2⟩:=h.step i x hx
 refine ⟨h1,h2.cap,h2.fin,fun hg=>h2.cln ?_⟩
 show 0<n9 (t.cleans++[c]) kind i
 rw [V3];omega
theorem aX1 {t:e8} {r:y0} {kind:Int} {z:List Rat} (hc:C6 (a5q t.ev r)=0) (h:a9K t kind z):a9K (N4 t r) kind z:=by
 obtain ⟨q1,q2,q3,q4,q5⟩:=n8 h.tr
 have hs:∀k,stk (a5q t.ev r) (col z) k=stk t.ev (col z) k:=fun k=>a8e k (fun _ _=>rfl) fun _ _=>rfl
 have hfe:∀l:List J9,I4 (a5q t.ev r) l=I4 t.ev l:=fun l=>by
  induction l with
  |nil=>rfl
  |cons f l ih=>unfold I4;rw [ih];rfl
 have hce:∀l:List J3,H3 (a5q t.ev r) l=H3 t.ev l:=fun l=>by
  induction l with
  |nil=>rfl
  |cons f l ih=>unfold H3;rw [ih];rfl
 refine ⟨al4 hc q2 q3 ?_ ?_,h.k0,h.k1,h.len,fun i x hx=>?_⟩
 ·show I4 (a5q t.ev r) t.finds=0
  rw [hfe];exact q4
 ·show H3 (a5q t.ev r) t.cleans=0
  rw [hce];exact q5
 ·obtain ⟨h1,h2⟩:=h.step i x hx
  refine ⟨⟨h1.pos,fun hk=>?_,fun ha=>?_⟩,?_,h2.fin,h2.cln⟩
  ·show _<=stk (a5q t.ev r) (col z) i _ 0
   rw [hs];exact h1.most hk
  ·show _=stk (a5q t.ev r) (col z) i _ 0
   rw [hs];exact h1.all ha
  ·have hcap:=h2.cap
   show aF6 (G0 (a5q t.ev r) x) _=true
   unfold G0 at hcap ⊢
   by_cases hsc:x.scale=-1
   ·rw [if_pos hsc];rfl
   ·rw [if_neg hsc] at hcap ⊢
    rcases aj5 (cs:=t.ev.certs) (rs:=t.ev.recalls) (r:=r) (scale:=x.scale) (reading:=x.reading) (day:=x.day) with hi|hi
    ·show aF6 (C3 t.ev.certs (t.ev.recalls++[r]) _ _ _) _=true
     rw [hi];rfl
    ·show aF6 (C3 t.ev.certs (t.ev.recalls++[r]) _ _ _) _=true
     rw [hi];exact hcap
end
section
theorem b0c {e:Ev} {W A B:List (List Rat)} {a b:Rat} {m ma mb:Nat} (h:∀i,i<e.moves.length->hAt W i m=a*hAt A i ma+b*hAt B i mb):∀k p,stk e W k p m=a*stk e A k p ma+b*stk e B k p mb
 |0,p=>by simp only [stk,V9];grind
 |k+1,p=>by
  have ih:=b0c h k p
  cases hx:e.moves[k]? with
  |none=>rw [a96 hx,a96 hx,a96 hx];exact ih
  |some x=>
   have hk:k<e.moves.length:=(List.getElem?_eq_some_iff.1 hx).1
   rw [a6E hx,a6E hx,a6E hx]
   unfold a9z
   have hv:=h k hk
   split
   ·rw [ih,hv];grind
   ·split
    ·rw [ih,hv];grind
    ·exact ih
theorem b3Q {e:Ev} {w y z:List Rat} {a b:Rat} (h:∀i,i<e.moves.length->w.getD i 0=a*z.getD i 0+b*y.getD i 0) (k p:Nat):a06 e w k p=a*a06 e z k p+b*a06 e y k p:=
 b0c (fun i hi=>by rw [a9g,a9g,a9g];exact h i hi) k p
theorem a8m {a b c:Rat} (h:a<=b) (hc:0<=c):c*a<=c*b:=by
 have:=Rat.mul_nonneg hc (show 0<=b - a by grind)
 grind
def y8 (t:e8):e8:={ t with finds:=[] }
theorem a1c {t:e8} (h:v8 t=0):v8 (y8 t)=0:=by
 obtain ⟨q1,q2,q3,q4,q5⟩:=n8 h
 exact al4 q1 (by simp [y8]) q3 rfl q5
def a1U (e:Ev) (z:List Rat) (j:Nat):Rat:=match e.moves[j]? with
 |none=>0
 |some x=>if o4 e x.src=0 then z.getD j 0 else 0
theorem a4W {e:Ev} {z:List Rat} {k:Nat} {x:x4} (hx:e.moves[k]? =some x) (p:Nat):a06 e z (k+1) p=if x.src=(p:Int) then a06 e z k p - z.getD k 0 else if x.dst=(p:Int) then a06 e z k p+z.getD k 0 else a06 e z k p:=by
 unfold a06
 rw [a6E hx]
 unfold a9z
 rw [a9g]
theorem ad5 {e:Ev} {z:List Rat} {k:Nat} (hx:e.moves[k]? =none) (p:Nat):a06 e z (k+1) p=a06 e z k p:=by
 unfold a06
 rw [a96 hx]
def a0d (e:Ev) (z:List Rat) (k p:Nat):Rat:=if o4 e p=0 then 0 else a06 e z k p
theorem a9n {t:e8} {kind:Int} {z:List Rat} (h:a9K t kind z):∀k p:Nat,o4 t.ev p≠0->0<=a06 t.ev z k p
 |0,p,_=>Rat.le_refl
 |k+1,p,hp=>by
  have ih:=a9n h k p hp
  cases hx:t.ev.moves[k]? with
  |none=>rw [ad5 hx];exact ih
  |some x=>
   obtain ⟨h1,_⟩:=h.step k x hx
   have hz:=h1.pos
   rw [a4W hx]
   split
   ·rename_i hs
    have:=h1.most (by rw [hs];exact hp)
    rw [hs,show ((p:Int)).toNat=p by omega] at this
    grind
   ·split
    ·grind
    ·exact ih
theorem aB9 {t:e8} {kind:Int} {z:List Rat} (h:a9K t kind z):∀k,g7 (a0d t.ev z k) t.ev.places.length=g7 (a1U t.ev z) k
 |0=>by
  have:∀n,g7 (a0d t.ev z 0) n=0:=fun n=>by
   induction n with
   |zero=>rfl
   |succ n ih=>
    simp only [g7];rw [ih]
    have:a0d t.ev z 0 n=0:=by unfold a0d;split<;>rfl
    rw [this];grind
  exact this _
 |k+1=>by
  have ih:=aB9 h k
  have h0:=(n8 h.tr).1
  simp only [g7]
  rw [← ih]
  cases hx:t.ev.moves[k]? with
  |none=>
   have e1:a1U t.ev z k=0:=by unfold a1U;rw [hx]
   rw [e1]
   have:a0d t.ev z (k+1)=a0d t.ev z k:=by funext p;unfold a0d;rw [ad5 hx]
   rw [this];grind
  |some x=>
   have hm:=E1 h0 (List.mem_of_getElem? hx)
   have ms:=S5 hm
   have md:=a1q hm
   have hd:=ah3 hm
   have hne:x.src≠x.dst:=by unfold G2 at hm;simp only [Bool.and_eq_true,decide_eq_true_eq] at hm;exact hm.1.1.1.1.1.2
   by_cases hb:o4 t.ev x.src=0
   ·have e1:a1U t.ev z k=z.getD k 0:=by unfold a1U;rw [hx];simp [hb]
    rw [e1]
    have:=a6i (a0d t.ev z k) (z.getD k 0) x.dst.toNat t.ev.places.length
    rw [if_pos (by omega)] at this
    rw [← this]
    refine f7 fun p _=>?_
    unfold a0d
    rw [a4W hx]
    by_cases c2:p=x.dst.toNat
    ·have:x.dst=(p:Int):=by omega
     have hk:o4 t.ev (p:Int)≠0:=by rw [← this];exact hd
     rw [if_pos c2]
     simp only [if_neg hk]
     rw [if_neg (show ¬x.src=(p:Int) by omega),if_pos this]
    ·rw [if_neg c2]
     by_cases c1:x.src=(p:Int)
     ·simp only [← c1,if_pos hb]
     ·rw [if_neg c1,if_neg (show ¬x.dst=(p:Int) by omega)]
   ·have e1:a1U t.ev z k=0:=by unfold a1U;rw [hx];simp [hb]
    rw [e1]
    have:=b25 (a0d t.ev z k) (z.getD k 0) (s:=x.src.toNat) (d:=x.dst.toNat) (n:=t.ev.places.length) (by omega) (by omega) (by omega)
    rw [show g7 (a0d t.ev z k) t.ev.places.length+0=g7 (a0d t.ev z k) t.ev.places.length by grind,←this]
    refine f7 fun p _=>?_
    unfold a0d
    rw [a4W hx]
    by_cases c1:p=x.src.toNat
    ·have:x.src=(p:Int):=by omega
     have hk:o4 t.ev (p:Int)≠0:=by rw [← this];exact hb
     rw [if_pos c1,if_pos this]
     simp only [if_neg hk]
    ·rw [if_neg c1,if_neg (c:=x.src=(p:Int)) (by omega)]
     by_cases c2:p=x.dst.toNat
     ·have:x.dst=(p:Int):=by omega
      have hk:o4 t.ev (p:Int)≠0:=by rw [← this];exact hd
      rw [if_pos c2,if_pos this]
      simp only [if_neg hk]
     ·rw [if_neg c2,if_neg (c:=x.dst=(p:Int)) (by omega)]
theorem a1u {f:Nat->Rat}:∀{n:Nat},(∀ p,p<n->0<=f p)->0<=g7 f n
 |0,_=>Rat.le_refl
 |n+1,h=>by
  have h1:=a1u (n:=n) fun p hp=>h p (by omega)
  have h2:=h n (by omega)
  simp only [g7];grind
theorem a9P {f:Nat->Rat}:∀{n p:Nat},(∀ p,p<n->0<=f p)->p<n->f p<=g7 f n
 |n+1,p,h,hp=>by
  simp only [g7]
  rcases Nat.lt_or_ge p n with hpn|hpn
  ·have h1:=a9P (f:=f) (n:=n) (p:=p) (fun q hq=>h q (by omega)) hpn
   have h2:=h n (by omega)
   grind
  ·obtain rfl:p=n:=by omega
   have h1:=a1u (f:=f) (n:=p) fun q hq=>h q (by omega)
   grind
theorem aN2 {t:e8} {kind:Int} {z:List Rat} (h:a9K t kind z) (j:Nat):0<=a1U t.ev z j:=by
 unfold a1U
 cases hx:t.ev.moves[j]? with
 |none=>exact Rat.le_refl
 |some x=>
  simp only
  split
  ·exact (h.step j x hx).1.pos
  ·exact Rat.le_refl
theorem b5t {t:e8} {kind:Int} {z:List Rat} (h:a9K t kind z) {i:Nat} {x:x4} (hx:t.ev.moves[i]? =some x):z.getD i 0<=g7 (a1U t.ev z) (i+1):=by
 have h0:=(n8 h.tr).1
 have hm:=E1 h0 (List.mem_of_getElem? hx)
 have ms:=S5 hm
 by_cases hb:o4 t.ev x.src=0
 ·have e1:a1U t.ev z i=z.getD i 0:=by unfold a1U;rw [hx];simp [hb]
  rw [← e1]
  exact a9P (fun q _=>aN2 h q) (by omega)
 ·have h1:=(h.step i x hx).1.most hb
  have hk:o4 t.ev ((x.src.toNat:Nat):Int)≠0:=by rw [show ((x.src.toNat:Nat):Int)=x.src by omega];exact hb
  have h2:a0d t.ev z i x.src.toNat=a06 t.ev z i x.src.toNat:=by unfold a0d;rw [if_neg hk]
  have h3:a0d t.ev z i x.src.toNat<=g7 (a0d t.ev z i) t.ev.places.length:=by
   refine a9P (fun q _=>?_) (by omega)
   unfold a0d
   split
   ·exact Rat.le_refl
   ·exact a9n h i q ‹_›
  rw [aB9 h] at h3
  have h4:=aN2 h i
  simp only [g7]
  grind
end
section
structure D9 where
 terms:List (Int × Rat)
 kind:Int
 value:Rat
structure g8 where
 n:Int
 rows:List D9
def k9 (l:List (Int × Rat)) (z:List Rat):Rat:=l.foldl (fun a t=>a+t.2*z.getD t.1.toNat 0) ((0:Int):Rat)
theorem T2 (l:List (Int × Rat)) (t:Int × Rat) (z:List Rat):k9 (l++[t]) z=k9 l z+t.2*z.getD t.1.toNat 0:=by unfold k9;rw [List.foldl_append];rfl
def g9:Int->Int->List (Int × Rat)->Bool
 |_,_,[]=>true
 |last,n,t::r=>decide (last<t.1) && decide (t.1<n) && decide (t.2≠0) && g9 t.1 n r
def w7 (n:Int) (w:D9):Bool:=g9 (-1) n w.terms && decide (0<=w.kind) && decide (w.kind<3)
def j0 (s:g8):Bool:=decide (0<=s.n) && decide (s.n<=1500) && decide (s.rows.length<=6000) && s.rows.all (w7 s.n)
def Q0 (w:D9) (z:List Rat):Bool:=!((decide (k9 w.terms z<w.value) && decide (w.kind≠1)) || (decide (w.value<k9 w.terms z) && decide (w.kind≠0)))
def j7 (s:g8) (z:List Rat):Bool:=j0 s && decide ((z.length:Int)=s.n) && z.all (fun v=>decide (0<=v)) && s.rows.all (fun w=>Q0 w z)
def j6 (e:Ev) (p:Int):Nat->List (Int × Rat)
 |0=>[]
 |k+1=>match e.moves[k]? with
  |none=>j6 e p k
  |some y=>if y.dst=p then j6 e p k++[((k:Int),((1:Int):Rat))] else if y.src=p then j6 e p k++[((k:Int),((-1:Int):Rat))] else j6 e p k
def w8 (e:Ev) (i:Nat) (x:x4):D9:=⟨j6 e x.src i++[((i:Int),((-1:Int):Rat))],if x.all then 2 else 0,((0:Int):Rat)⟩
def p7 (i:Nat) (kind:Int) (v:Rat):D9:=⟨[((i:Int),((1:Int):Rat))],kind,v⟩
def P4 (iv:Option (Rat × Rat)) (i:Nat):List D9:=match iv with
 |none=>[]
 |some (_,hi)=>[p7 i 1 hi]
def N6 (t:e8) (kind:Int) (i:Nat) (x:x4):List D9:=
 (if o4 t.ev x.src=0 then [] else [w8 t.ev i x])++P4 (G0 t.ev x) i++(j5 t.finds kind i).map (fun g:Int=>p7 i 0 (g:Rat))++List.replicate (n9 t.cleans kind i) (p7 i 2 ((0:Int):Rat))
def p9 (t:e8) (kind:Int):Nat->List D9
 |0=>[]
 |k+1=>match t.ev.moves[k]? with
  |none=>p9 t kind k
  |some x=>p9 t kind k++N6 t kind k x
def R0 (t:e8) (kind:Int):g8:=⟨t.ev.moves.length,p9 t kind t.ev.moves.length⟩
theorem a6g {e:Ev} (h0:C6 e=0) (z:List Rat) (p:Nat):∀k,k9 (j6 e p k) z=a06 e z k p
 |0=>rfl
 |k+1=>by
  have ih:=a6g h0 z p k
  unfold j6
  cases hx:e.moves[k]? with
  |none=>rw [ad5 hx];exact ih
  |some y=>
   have hm:=E1 h0 (List.mem_of_getElem? hx)
   have hne:y.src≠y.dst:=by unfold G2 at hm;simp only [Bool.and_eq_true,decide_eq_true_eq] at hm;exact hm.1.1.1.1.1.2
   rw [a4W hx]
   simp only
   by_cases c1:y.dst=(p:Int)
   ·rw [if_pos c1,if_neg (by omega),if_pos c1,T2,ih]
    simp only [Int.toNat_natCast]
    have:((1:Int):Rat)=1:=rfl
    rw [this];grind
   ·rw [if_neg c1]
    by_cases c2:y.src=(p:Int)
    ·rw [if_pos c2,if_pos c2,T2,ih]
     simp only [Int.toNat_natCast]
     have:((-1:Int):Rat)=-1:=rfl
     rw [this];grind
    ·rw [if_neg c2,if_neg c2,if_neg c1];exact ih
theorem a1f {w:D9} {z:List Rat}:Q0 w z=true↔(k9 w.terms z<w.value->w.kind=1)∧(w.value<k9 w.terms z->w.kind=0):=by
 unfold Q0
 simp only [Bool.not_eq_true',Bool.or_eq_false_iff,Bool.and_eq_false_iff,decide_eq_false_iff_not,Classical.not_not]
 constructor
 ·rintro ⟨h1,h2⟩
  exact ⟨fun h=>h1.resolve_left (fun h'=>h' h),fun h=>h2.resolve_left (fun h'=>h' h)⟩
 ·rintro ⟨h1,h2⟩
  refine ⟨?_,?_⟩
  ·by_cases h:k9 w.terms z<w.value
   ·exact .inr (h1 h)
   ·exact .inl h
  ·by_cases h:w.value<k9 w.terms z
   ·exact .inr (h2 h)
   ·exact .inl h
theorem az5 (i:Nat) (kind:Int) (v:Rat) (z:List Rat):k9 (p7 i kind v).terms z=z.getD i 0:=by
 show ((0:Int):Rat)+((1:Int):Rat)*z.getD ((i:Int)).toNat 0=_
 rw [Int.toNat_natCast]
 have h0:((0:Int):Rat)=0:=rfl
 have h1:((1:Int):Rat)=1:=rfl
 rw [h0,h1];grind
theorem b4M {i:Nat} {v:Rat} {z:List Rat}:Q0 (p7 i 1 v) z=true↔z.getD i 0<=v:=by
 rw [a1f,az5]
 show (_->(1:Int)=1)∧(v<z.getD i 0->(1:Int)=0)↔_
 constructor
 ·rintro ⟨_,h⟩;exact Rat.not_lt.1 fun h'=>absurd (h h') (by decide)
 ·intro h;exact ⟨fun _=>rfl,fun h'=>absurd h' (Rat.not_lt.2 h)⟩
theorem am8 {i:Nat} {v:Rat} {z:List Rat}:Q0 (p7 i 0 v) z=true↔v<=z.getD i 0:=by
 rw [a1f,az5]
 show (z.getD i 0<v->(0:Int)=1)∧(_->(0:Int)=0)↔_
 constructor
 ·rintro ⟨h,_⟩;exact Rat.not_lt.1 fun h'=>absurd (h h') (by decide)
 ·intro h;exact ⟨fun h'=>absurd h' (Rat.not_lt.2 h),fun _=>rfl⟩
theorem a4T {i:Nat} {v:Rat} {z:List Rat}:Q0 (p7 i 2 v) z=true↔z.getD i 0=v:=by
 rw [a1f,az5]
 show (z.getD i 0<v->(2:Int)=1)∧(v<z.getD i 0->(2:Int)=0)↔_
 constructor
 ·rintro ⟨h,h2⟩
  have q1:¬z.getD i 0<v:=fun h'=>absurd (h h') (by decide)
  have q2:¬v<z.getD i 0:=fun h'=>absurd (h2 h') (by decide)
  grind
 ·intro h;exact ⟨fun h'=>by grind,fun h'=>by grind⟩
theorem stock_holds {e:Ev} (h0:C6 e=0) {i:Nat} {x:x4} (hx:e.moves[i]? =some x) {z:List Rat}:Q0 (w8 e i x) z=true↔z.getD i 0<=a06 e z i x.src.toNat∧(x.all=true->z.getD i 0=a06 e z i x.src.toNat):=by
 have hm:=E1 h0 (List.mem_of_getElem? hx)
 have ms:=S5 hm
 have hv:k9 (w8 e i x).terms z=a06 e z i x.src.toNat - z.getD i 0:=by
  unfold w8
  simp only
  rw [T2,show j6 e x.src i=j6 e ((x.src.toNat:Nat):Int) i by rw [show ((x.src.toNat:Nat):Int)=x.src by omega],a6g h0]
  simp only [Int.toNat_natCast]
  have:((-1:Int):Rat)=-1:=rfl
  rw [this];grind
 have hz:(w8 e i x).value=0:=rfl
 have hk:(w8 e i x).kind=if x.all then 2 else 0:=rfl
 rw [a1f,hv,hz,hk]
 cases hal:x.all with
 |true=>
  simp only [if_true]
  constructor
  ·rintro ⟨h,h2⟩
   have q1:¬a06 e z i x.src.toNat - z.getD i 0<0:=fun h'=>absurd (h h') (by decide)
   have q2:¬0<a06 e z i x.src.toNat - z.getD i 0:=fun h'=>absurd (h2 h') (by decide)
   exact ⟨by grind,fun _=>by grind⟩
  ·rintro ⟨h,h2⟩
   have h2:=h2 trivial
   exact ⟨fun h'=>by grind,fun h'=>by grind⟩
 |false=>
  simp only [Bool.false_eq_true,if_false]
  constructor
  ·rintro ⟨h,h2⟩
   have q1:¬a06 e z i x.src.toNat - z.getD i 0<0:=fun h'=>absurd (h h') (by decide)
   exact ⟨by grind,fun h=>(by cases h)⟩
  ·rintro ⟨h,_⟩
   exact ⟨fun h'=>by grind,fun _=>trivial⟩
theorem move_holds {t:e8} {kind:Int} (h0:C6 t.ev=0) {i:Nat} {x:x4} (hx:t.ev.moves[i]? =some x) {z:List Rat} (hz:0<=z.getD i 0):
 (N6 t kind i x).all (fun w=>Q0 w z)=true↔b9N t.ev x (z.getD i 0) (a06 t.ev z i x.src.toNat)∧b4z t kind i x (z.getD i 0):=by
 have hmo:=E1 h0 (List.mem_of_getElem? hx)
 unfold N6
 simp only [List.all_append,Bool.and_eq_true,List.all_map]
 have e1:(if o4 t.ev x.src=0 then ([]:List D9) else [w8 t.ev i x]).all (fun w=>Q0 w z)=true↔(o4 t.ev x.src≠0->z.getD i 0<=a06 t.ev z i x.src.toNat∧(x.all=true->z.getD i 0=a06 t.ev z i x.src.toNat)):=by
  by_cases hb:o4 t.ev x.src=0
  ·rw [if_pos hb];exact ⟨fun _ h=>absurd hb h,fun _=>rfl⟩
  ·rw [if_neg hb]
   simp only [List.all_cons,List.all_nil,Bool.and_true]
   rw [stock_holds h0 hx]
   exact ⟨fun h _=>h,fun h=>h hb⟩
 have e2:(P4 (G0 t.ev x) i).all (fun w=>Q0 w z)=true↔aF6 (G0 t.ev x) (z.getD i 0)=true:=by
  cases hiv:G0 t.ev x with
  |none=>exact ⟨fun _=>rfl,fun _=>rfl⟩
  |some p=>
   obtain ⟨lo,hi⟩:=p
   simp only [P4,aF6,List.all_cons,List.all_nil,Bool.and_true,decide_eq_true_eq]
   exact b4M
 have e3:(j5 t.finds kind i).all ((fun w=>Q0 w z) ∘ fun g:Int=>p7 i 0 (g:Rat))=true↔∀g ∈ j5 t.finds kind i,(g:Rat)<=z.getD i 0:=by
  rw [List.all_eq_true]
  exact ⟨fun h g hg=>am8.1 (h g hg),fun h g hg=>am8.2 (h g hg)⟩
 have e4:(List.replicate (n9 t.cleans kind i) (p7 i 2 ((0:Int):Rat))).all (fun w=>Q0 w z)=true↔(0<n9 t.cleans kind i->z.getD i 0=0):=by
  rw [List.all_eq_true]
  constructor
  ·intro h hc;exact a4T.1 (h _ (List.mem_replicate.2 ⟨by omega,rfl⟩))
  ·intro h w hw
   obtain ⟨h1,rfl⟩:=List.mem_replicate.1 hw
   exact a4T.2 (h (by omega))
 rw [e1,e2,e3,e4]
 constructor
 ·rintro ⟨⟨⟨q1,q2⟩,q3⟩,q4⟩
  exact ⟨⟨hz,fun h=>(q1 h).1,fun h=>(q1 (aX4 hmo h)).2 h⟩,⟨q2,q3,q4⟩⟩
 ·rintro ⟨p1,p2⟩
  exact ⟨⟨⟨fun h=>⟨p1.most h,p1.all⟩,p2.cap⟩,p2.fin⟩,p2.cln⟩
theorem a0G {t:e8} {kind:Int} {q:D9->Bool}:∀n,n<=t.ev.moves.length->((p9 t kind n).all q=true↔∀i x,i<n->t.ev.moves[i]? =some x->(N6 t kind i x).all q=true)
 |0,_=>⟨fun _ i x h=>by omega,fun _=>rfl⟩
 |n+1,h=>by
  obtain ⟨y,hy⟩:∃y,t.ev.moves[n]? =some y:=⟨_,List.getElem?_eq_getElem (by omega)⟩
  unfold p9
  rw [hy]
  simp only [List.all_append,Bool.and_eq_true]
  rw [a0G n (by omega)]
  constructor
  ·rintro ⟨h1,h2⟩ i x hi hx
   rcases Nat.lt_or_ge i n with h3|h3
   ·exact h1 i x h3 hx
   ·obtain rfl:i=n:=by omega
    rw [hy] at hx;injection hx with hx;subst hx;exact h2
  ·intro h1
   exact ⟨fun i x hi hx=>h1 i x (by omega) hx,h1 n y (by omega) hy⟩
theorem a6a {last n i:Int} {c:Rat} (h1:last<i) (h2:i<n) (h3:c≠0):g9 last n [(i,c)]=true:=by
 unfold g9
 simp [h1,h2,h3,g9]
theorem a43 {n:Int} {c:Rat} {i:Int} (h2:i<n) (h3:c≠0):∀{l:List (Int × Rat)} {last:Int},g9 last n l=true->last<i->(∀ t ∈ l,t.1<i)->g9 last n (l++[(i,c)])=true
 |[],last,_,h,_=>a6a h h2 h3
 |t::r,last,h,h1,ht=>by
  unfold g9 at h
  simp only [Bool.and_eq_true,decide_eq_true_eq] at h
  show g9 last n (t::(r++[(i,c)]))=true
  unfold g9
  simp only [Bool.and_eq_true,decide_eq_true_eq]
  exact ⟨h.1,a43 h2 h3 h.2 (ht t (by simp)) fun u hu=>ht u (by simp [hu])⟩
theorem a5M:((1:Int):Rat)≠0:=by decide
theorem a8B:((-1:Int):Rat)≠0:=by decide
theorem a2h {e:Ev} {p:Int} {n:Int}:∀k:Nat,(k:Int)<=n->g9 (-1) n (j6 e p k)=true∧∀t ∈ j6 e p k,t.1<(k:Int)
 |0,_=>⟨rfl,fun t ht=>by cases ht⟩
 |k+1,h=>by
  obtain ⟨h1,h2⟩:=a2h (e:=e) (p:=p) (n:=n) k (by omega)
  have h3:∀c:Rat,c≠0->g9 (-1) n (j6 e p k++[((k:Int),c)])=true∧∀t ∈ j6 e p k++[((k:Int),c)],t.1<((k+1:Nat):Int):=fun c hc=>
   ⟨a43 (by omega) hc h1 (by omega) h2,fun t ht=>by
     rcases List.mem_append.1 ht with ht|ht
     ·have:=h2 t ht;omega
     ·simp at ht;subst ht;simp;omega⟩
  unfold j6
  cases hx:e.moves[k]? with
  |none=>exact ⟨h1,fun t ht=>by have:=h2 t ht;omega⟩
  |some y=>
   simp only
   split
   ·exact h3 _ a5M
   ·split
    ·exact h3 _ a8B
    ·exact ⟨h1,fun t ht=>by have:=h2 t ht;omega⟩
theorem aO8 {t:e8} {kind:Int} {i:Nat} {x:x4} {n:Int} (hi:(i:Int)<n):(N6 t kind i x).all (w7 n)=true:=by
 have ho:∀(k:Int) (v:Rat),0<=k->k<3->w7 n (p7 i k v)=true:=fun k v h1 h2=>by
  unfold w7 p7
  simp only [Bool.and_eq_true,decide_eq_true_eq]
  exact ⟨⟨a6a (by omega) hi a5M,h1⟩,h2⟩
 unfold N6
 simp only [List.all_append,Bool.and_eq_true,List.all_eq_true]
 refine ⟨⟨⟨fun w hw=>?_,fun w hw=>?_⟩,fun w hw=>?_⟩,fun w hw=>?_⟩
 ·by_cases hb:o4 t.ev x.src=0
  ·rw [if_pos hb] at hw;cases hw
  ·rw [if_neg hb] at hw
   simp at hw
   subst hw
   obtain ⟨h1,h2⟩:=a2h (e:=t.ev) (p:=x.src) (n:=n) i (by omega)
   unfold w7 w8
   simp only [Bool.and_eq_true,decide_eq_true_eq]
   refine ⟨⟨a43 hi a8B h1 (by omega) h2,?_⟩,?_⟩<;>split<;>decide
 ·cases hiv:G0 t.ev x with
  |none=>rw [hiv] at hw;cases hw
  |some p=>
   obtain ⟨lo,hi⟩:=p
   rw [hiv] at hw
   simp [P4] at hw
   subst hw
   exact ho 1 hi (by decide) (by decide)
 ·obtain ⟨g,_,rfl⟩:=List.mem_map.1 hw
  exact ho 0 _ (by decide) (by decide)
 ·obtain ⟨_,rfl⟩:=List.mem_replicate.1 hw
  exact ho 2 _ (by decide) (by decide)
theorem au5 {t:e8} {kind:Int} {i:Nat} {x:x4}:(N6 t kind i x).length<=2+t.finds.length+t.cleans.length:=by
 unfold N6
 have h1:(P4 (G0 t.ev x) i).length<=1:=by unfold P4;split<;>simp
 have h2:(j5 t.finds kind i).length<=t.finds.length:=by unfold j5;rw [List.length_map];exact List.length_filter_le _ _
 have h3:n9 t.cleans kind i<=t.cleans.length:=List.length_filter_le _ _
 have h4:(if o4 t.ev x.src=0 then ([]:List D9) else [w8 t.ev i x]).length<=1:=by split<;>simp
 simp only [List.length_append,List.length_map,List.length_replicate]
 omega
theorem S3 {t:e8} {kind:Int}:∀n,(p9 t kind n).length<=n*(2+t.finds.length+t.cleans.length)
 |0=>by simp [p9]
 |n+1=>by
  have ih:=S3 (t:=t) (kind:=kind) n
  unfold p9
  rw [Nat.succ_mul]
  cases hx:t.ev.moves[n]? with
  |none=>simp only;omega
  |some x=>
   have:=au5 (t:=t) (kind:=kind) (i:=n) (x:=x)
   simp only [List.length_append]
   omega
theorem a8i {t:e8} {kind:Int} (hm:t.ev.moves.length<=14) (hf:t.finds.length<=20) (hc:t.cleans.length<=50):j0 (R0 t kind)=true:=by
 unfold j0 R0
 have h1:=S3 (t:=t) (kind:=kind) t.ev.moves.length
 have h2:t.ev.moves.length*(2+t.finds.length+t.cleans.length)<=14*72:=Nat.mul_le_mul hm (by omega)
 simp only [Bool.and_eq_true,decide_eq_true_eq]
 refine ⟨⟨⟨by omega,by omega⟩,by omega⟩,?_⟩
 rw [a0G _ (Nat.le_refl _)]
 intro i x hi hx
 exact aO8 (by omega)
theorem sys_holds {t:e8} {kind:Int} {z:List Rat} (ht:v8 t=0) (k0:0<=kind) (k1:kind<8) (hm:t.ev.moves.length<=14):j7 (R0 t kind) z=true↔a9K t kind z:=by
 obtain ⟨q1,q2,q3,q4,q5⟩:=n8 ht
 unfold j7
 rw [a8i hm q2 q3]
 simp only [Bool.true_and,Bool.and_eq_true,decide_eq_true_eq]
 constructor
 ·rintro ⟨⟨h1,h2⟩,h3⟩
  have hl:z.length=t.ev.moves.length:=by have:(z.length:Int)=t.ev.moves.length:=h1;omega
  refine ⟨ht,k0,k1,hl,fun i x hx=>?_⟩
  have hi:i<t.ev.moves.length:=(List.getElem?_eq_some_iff.1 hx).1
  have hz:0<=z.getD i 0:=of_decide_eq_true (List.all_eq_true.1 h2 _ (List.mem_of_getElem? (getD_some (by omega))))
  exact (move_holds q1 hx hz).1 ((a0G _ (Nat.le_refl _)).1 h3 i x hi hx)
 ·intro h
  refine ⟨⟨?_,?_⟩,?_⟩
  ·show (z.length:Int)=t.ev.moves.length
   rw [h.len]
  ·rw [List.all_eq_true]
   intro v hv
   obtain ⟨i,hi,rfl⟩:=List.getElem_of_mem hv
   obtain ⟨x,hx⟩:∃x,t.ev.moves[i]? =some x:=⟨_,List.getElem?_eq_getElem (by rw [← h.len];exact hi)⟩
   have:=(h.step i x hx).1.pos
   rw [List.getD_eq_getElem?_getD,List.getElem?_eq_getElem hi] at this
   exact decide_eq_true this
  ·show (p9 t kind t.ev.moves.length).all _=true
   rw [a0G _ (Nat.le_refl _)]
   intro i x hi hx
   obtain ⟨a,b⟩:=h.step i x hx
   exact (move_holds q1 hx a.pos).2 ⟨a,b⟩
end
section
structure Fd where
 V:Nat->Rat
 A:Nat->Nat->Rat
 G:Nat->Rat
 O:Nat->Nat
 F:Nat->Nat
namespace Fd
def pRow (D:Fd) (r s j:Nat):Rat:=if j=s then 1 / D.A r s else D.A r j / D.A r s
def exch (D:Fd) (r s:Nat):Fd where
 V:=fun i=>if i=r then D.V r / D.A r s else D.V i - D.A i s*(D.V r / D.A r s)
 A:=fun i j=>if i=r then D.pRow r s j else if j=s then 0 - D.A i s*D.pRow r s s else D.A i j - D.A i s*D.pRow r s j
 G:=fun j=>if j=s then 0 - D.G s*D.pRow r s s else D.G j - D.G s*D.pRow r s j
 O:=fun i=>if i=r then D.F s else D.O i
 F:=fun j=>if j=s then D.O r else D.F j
end Fd
theorem C0 {f:Nat->Rat} {s:Nat}:∀{n:Nat},s<n->g7 f n=g7 (fun j=>if j=s then 0 else f j) n+f s
 |0,h=>by omega
 |n+1,h=>by
  simp only [g7]
  by_cases hs:s=n
  ·subst hs
   rw [if_pos rfl,f7 (n:=s) (f:=fun j=>if j=s then 0 else f j) (g:=f) fun m hm=>by rw [if_neg (by omega)]]
   grind
  ·rw [if_neg (show ¬n=s by omega),C0 (f:=f) (s:=s) (n:=n) (by omega)];grind
theorem E4 {f:Nat->Rat} (k:Rat):∀n:Nat,g7 (fun j=>k*f j) n=k*g7 f n
 |0=>by simp only [g7,V9];grind
 |n+1=>by simp only [g7];rw [E4 k n];grind
theorem a0z {f g:Nat->Rat}:∀n:Nat,g7 (fun j=>f j+g j) n=g7 f n+g7 g n
 |0=>by simp only [g7,V9];grind
 |n+1=>by simp only [g7];rw [a0z n];grind
theorem v7 {f:Nat->Rat}:∀{n:Nat},(∀ j,j<n->f j=0)->g7 f n=0
 |0,_=>by simp only [g7,V9]
 |n+1,h=>by simp only [g7];rw [v7 fun j hj=>h j (by omega),h n (by omega)];grind
theorem a6J {f:Nat->Rat}:∀{n:Nat},(∀ j,j<n->f j<=0)->g7 f n<=0
 |0,_=>by simp only [g7,V9];grind
 |n+1,h=>by
  simp only [g7]
  have h1:=a6J (f:=f) (n:=n) fun j hj=>h j (by omega)
  have h2:=h n (by omega)
  grind
theorem b6h {f:Nat->Rat} {n s:Nat} (h:∀j,j<n->f j<=0) (hs:s<n) (h0:f s<0):g7 f n<0:=by
 rw [C0 hs]
 have:=a6J (f:=fun j=>if j=s then 0 else f j) (n:=n) fun j hj=>by split;grind;exact h j hj
 grind
theorem b0l {f:Nat->Rat} {n s:Nat} (h:∀j,j<n->0<=f j) (hs:s<n) (h0:0<f s):0<g7 f n:=by
 rw [C0 hs]
 have:=a1u (f:=fun j=>if j=s then 0 else f j) (n:=n) fun j hj=>by
  by_cases hj2:j=s
  ·simp only [hj2,if_true];grind
  ·simp only [if_neg hj2];exact h j hj
 grind
def Ids (m n:Nat) (D:Fd) (y:Nat->Rat) (c:Rat):Prop:=∀i,i<m->y (D.O i)=c*D.V i - g7 (fun j=>D.A i j*y (D.F j)) n
theorem ah1 {D:Fd} {r s n:Nat} {y:Nat->Rat} (hs:s<n) (f:Nat->Rat) (f':Nat->Rat) (k:Rat) (hf:∀j,j≠s->f' j=f j - k*D.pRow r s j):
 g7 (fun j=>f' j*y ((D.exch r s).F j)) n=g7 (fun j=>if j=s then 0 else f j*y (D.F j)) n - k*g7 (fun j=>if j=s then 0 else D.pRow r s j*y (D.F j)) n+f' s*y (D.O r):=by
 rw [C0 hs]
 have h1:(D.exch r s).F s=D.O r:=by show (if s=s then D.O r else D.F s)=_;rw [if_pos rfl]
 rw [h1]
 have h2:g7 (fun j=>if j=s then 0 else f' j*y ((D.exch r s).F j)) n=g7 (fun j=>(if j=s then 0 else f j*y (D.F j))+(-k)*(if j=s then 0 else D.pRow r s j*y (D.F j))) n:=f7 fun j hj=>by
  by_cases h:j=s
  ·rw [if_pos h,if_pos h,if_pos h];grind
  ·rw [if_neg h,if_neg h,if_neg h,hf j h]
   have:(D.exch r s).F j=D.F j:=by show (if j=s then D.O r else D.F j)=_;rw [if_neg h]
   rw [this];grind
 rw [h2,a0z,E4];grind
theorem ae2 {D:Fd} {r s n:Nat} {y:Nat->Rat} {c:Rat} (hs:s<n) (hp:D.A r s≠0):
 y (D.O r)=c*D.V r - g7 (fun j=>D.A r j*y (D.F j)) n↔y (D.F s)=c*(D.V r / D.A r s) - g7 (fun j=>if j=s then 0 else D.pRow r s j*y (D.F j)) n - 1 / D.A r s*y (D.O r):=by
 have e1:g7 (fun j=>D.A r j*y (D.F j)) n=D.A r s*g7 (fun j=>if j=s then 0 else D.pRow r s j*y (D.F j)) n+D.A r s*y (D.F s):=by
  rw [C0 hs,←E4]
  congr 1
  refine f7 fun j hj=>?_
  by_cases h:j=s
  ·simp only [if_pos h];grind
  ·simp only [if_neg h]
   unfold Fd.pRow
   rw [if_neg h];grind
 rw [e1]
 generalize g7 (fun j=>if j=s then 0 else D.pRow r s j*y (D.F j)) n=R
 generalize y (D.F s)=a
 generalize y (D.O r)=b
 generalize D.V r=v
 generalize D.A r s=p at *
 constructor
 ·intro h;rw [h];grind
 ·intro h;rw [h];grind
theorem ac4 {m n:Nat} {D:Fd} {r s:Nat} {y:Nat->Rat} {c:Rat} (hr:r<m) (hs:s<n) (hp:D.A r s≠0):Ids m n D y c↔Ids m n (D.exch r s) y c:=by
 have hO:(D.exch r s).O r=D.F s:=by show (if r=r then D.F s else D.O r)=_;rw [if_pos rfl]
 have hV:(D.exch r s).V r=D.V r / D.A r s:=by show (if r=r then _ else _)=_;rw [if_pos rfl]
 have hA:∀j,(D.exch r s).A r j=D.pRow r s j:=fun j=>by show (if r=r then _ else _)=_;rw [if_pos rfl]
 have hps:D.pRow r s s=1 / D.A r s:=by unfold Fd.pRow;rw [if_pos rfl]
 have rowr:(y ((D.exch r s).O r)=c*(D.exch r s).V r - g7 (fun j=>(D.exch r s).A r j*y ((D.exch r s).F j)) n)↔y (D.O r)=c*D.V r - g7 (fun j=>D.A r j*y (D.F j)) n:=by
  rw [ae2 hs hp,hO,hV]
  have h:=ah1 (D:=D) (r:=r) (y:=y) hs (fun _=>0) ((D.exch r s).A r) (-1) (fun j hj=>by rw [hA];grind)
  rw [h,hA,hps,v7 (f:=fun j=>if j=s then 0 else 0*y (D.F j)) (fun j _=>by split<;>grind)]
  constructor
  ·intro h;rw [h];grind
  ·intro h;rw [h];grind
 have rowi:∀i,i≠r->y (D.O r)=c*D.V r - g7 (fun j=>D.A r j*y (D.F j)) n->
  ((y ((D.exch r s).O i)=c*(D.exch r s).V i - g7 (fun j=>(D.exch r s).A i j*y ((D.exch r s).F j)) n)↔y (D.O i)=c*D.V i - g7 (fun j=>D.A i j*y (D.F j)) n):=fun i hi h0=>by
  rw [ae2 hs hp] at h0
  have h1:(D.exch r s).O i=D.O i:=by show (if i=r then _ else _)=_;rw [if_neg hi]
  have h2:(D.exch r s).V i=D.V i - D.A i s*(D.V r / D.A r s):=by show (if i=r then _ else _)=_;rw [if_neg hi]
  have h3:∀j,j≠s->(D.exch r s).A i j=D.A i j - D.A i s*D.pRow r s j:=fun j hj=>by show (if i=r then _ else _)=_;rw [if_neg hi,if_neg hj]
  have h4:(D.exch r s).A i s=0 - D.A i s*D.pRow r s s:=by show (if i=r then _ else _)=_;rw [if_neg hi,if_pos rfl]
  rw [h1,h2,ah1 hs (D.A i) ((D.exch r s).A i) (D.A i s) h3,h4,hps,C0 (f:=fun j=>D.A i j*y (D.F j)) hs,h0]
  constructor
  ·intro h;rw [h];grind
  ·intro h;rw [h];grind
 constructor
 ·intro h i hi
  by_cases hir:i=r
  ·subst hir;exact rowr.2 (h i hi)
  ·exact (rowi i hir (h r hr)).2 (h i hi)
 ·intro h i hi
  have h0:=rowr.1 (h r hr)
  by_cases hir:i=r
  ·subst hir;exact h0
  ·exact (rowi i hir h0).1 (h i hi)
def X3 (n:Nat) (D:Fd) (g0:Nat->Rat) (m:Nat) (z:Rat):Prop:=∀y c,Ids m n D y c->g7 (fun j=>g0 j*y j) n=c*z+g7 (fun j=>D.G j*y (D.F j)) n
theorem ap5 {m n:Nat} {D:Fd} {r s:Nat} {g0:Nat->Rat} {z:Rat} (hr:r<m) (hs:s<n) (hp:D.A r s≠0) (h:X3 n D g0 m z):X3 n (D.exch r s) g0 m (z+D.G s*(D.V r / D.A r s)):=by
 intro y c hy
 have hy:=(ac4 hr hs hp).2 hy
 rw [h y c hy]
 have h0:=(ae2 hs hp).1 (hy r hr)
 have hps:D.pRow r s s=1 / D.A r s:=by unfold Fd.pRow;rw [if_pos rfl]
 have h3:∀j,j≠s->(D.exch r s).G j=D.G j - D.G s*D.pRow r s j:=fun j hj=>by show (if j=s then _ else _)=_;rw [if_neg hj]
 have h4:(D.exch r s).G s=0 - D.G s*D.pRow r s s:=by show (if s=s then _ else _)=_;rw [if_pos rfl]
 rw [ah1 hs D.G (D.exch r s).G (D.G s) h3,h4,hps,C0 (f:=fun j=>D.G j*y (D.F j)) hs,h0]
 grind
end
section
def aj0 (f:Nat->Nat) (w:Nat):Nat->Option Nat
 |0=>none
 |k+1=>match aj0 f w k with
  |some i=>some i
  |none=>if f k=w then some k else none
theorem a50 {f:Nat->Nat} {w:Nat}:∀{k i:Nat},aj0 f w k=some i->i<k∧f i=w
 |0,i,h=>by cases h
 |k+1,i,h=>by
  unfold aj0 at h
  split at h
  ·rename_i i' hi;injection h with h;subst h;have:=a50 hi;exact ⟨by omega,this.2⟩
  ·split at h
   ·injection h with h;subst h;exact ⟨by omega,by assumption⟩
   ·cases h
theorem a8k {f:Nat->Nat} {w:Nat}:∀{k:Nat},aj0 f w k=none->∀i,i<k->f i≠w
 |0,_,i,hi=>by omega
 |k+1,h,i,hi=>by
  unfold aj0 at h
  split at h
  ·cases h
  ·rename_i hn
   split at h
   ·cases h
   ·by_cases hik:i=k
    ·subst hik;assumption
    ·exact a8k hn i (by omega)
structure a0a (m n:Nat) (D:Fd):Prop where
 oi:∀i i',i<m->i'<m->D.O i=D.O i'->i=i'
 fi:∀j j',j<n->j'<n->D.F j=D.F j'->j=j'
 of:∀i j,i<m->j<n->D.O i≠D.F j
 all:∀w,w<n+m->(∃ i,i<m∧D.O i=w)∨(∃ j,j<n∧D.F j=w)
 ob:∀i,i<m->D.O i<n+m
 fb:∀j,j<n->D.F j<n+m
theorem a88 {D:Fd} {r s i:Nat}:(D.exch r s).O i=if i=r then D.F s else D.O i:=rfl
theorem a1W {D:Fd} {r s j:Nat}:(D.exch r s).F j=if j=s then D.O r else D.F j:=rfl
theorem an7 {m n:Nat} {D:Fd} {r s:Nat} (hr:r<m) (hs:s<n) (h:a0a m n D):a0a m n (D.exch r s) where
 oi:=fun i i' hi hi' he=>by
  rw [a88,a88] at he
  by_cases h1:i=r<;>by_cases h2:i'=r
  ·omega
  ·rw [if_pos h1,if_neg h2] at he;exact absurd he.symm (h.of i' s hi' hs)
  ·rw [if_neg h1,if_pos h2] at he;exact absurd he (h.of i s hi hs)
  ·rw [if_neg h1,if_neg h2] at he;exact h.oi i i' hi hi' he
 fi:=fun j j' hj hj' he=>by
  rw [a1W,a1W] at he
  by_cases h1:j=s<;>by_cases h2:j'=s
  ·omega
  ·rw [if_pos h1,if_neg h2] at he;exact absurd he (h.of r j' hr hj')
  ·rw [if_neg h1,if_pos h2] at he;exact absurd he.symm (h.of r j hr hj)
  ·rw [if_neg h1,if_neg h2] at he;exact h.fi j j' hj hj' he
 of:=fun i j hi hj he=>by
  rw [a88,a1W] at he
  by_cases h1:i=r<;>by_cases h2:j=s
  ·rw [if_pos h1,if_pos h2] at he;exact h.of r s hr hs he.symm
  ·rw [if_pos h1,if_neg h2] at he;exact h2 (h.fi s j hs hj he).symm
  ·rw [if_neg h1,if_pos h2] at he;exact h1 (h.oi i r hi hr he)
  ·rw [if_neg h1,if_neg h2] at he;exact h.of i j hi hj he
 all:=fun w hw=>by
  rcases h.all w hw with ⟨i,hi,he⟩|⟨j,hj,he⟩
  ·by_cases h1:i=r
   ·exact .inr ⟨s,hs,by rw [a1W,if_pos rfl,←h1];exact he⟩
   ·exact .inl ⟨i,hi,by rw [a88,if_neg h1];exact he⟩
  ·by_cases h1:j=s
   ·exact .inl ⟨r,hr,by rw [a88,if_pos rfl,←h1];exact he⟩
   ·exact .inr ⟨j,hj,by rw [a1W,if_neg h1];exact he⟩
 ob:=fun i hi=>by rw [a88];split;exact h.fb s hs;exact h.ob i hi
 fb:=fun j hj=>by rw [a1W];split;exact h.ob r hr;exact h.fb j hj
def a0b (m n:Nat) (D:Fd) (c:Rat) (t:Nat->Rat) (w:Nat):Rat:=match aj0 D.F w n with
 |some j=>t j
 |none=>match aj0 D.O w m with
  |some i=>c*D.V i - g7 (fun j=>D.A i j*t j) n
  |none=>0
theorem a0f {m n:Nat} {D:Fd} (h:a0a m n D) {c:Rat} {t:Nat->Rat} {j:Nat} (hj:j<n):a0b m n D c t (D.F j)=t j:=by
 unfold a0b
 cases hi:aj0 D.F (D.F j) n with
 |none=>exact absurd rfl (a8k hi j hj)
 |some i=>obtain ⟨h1,h2⟩:=a50 hi;rw [h.fi i j h1 hj h2]
theorem a5s {m n:Nat} {D:Fd} (h:a0a m n D) {c:Rat} {t:Nat->Rat} {i:Nat} (hi:i<m):a0b m n D c t (D.O i)=c*D.V i - g7 (fun j=>D.A i j*t j) n:=by
 unfold a0b
 cases hj:aj0 D.F (D.O i) n with
 |some j=>obtain ⟨h1,h2⟩:=a50 hj;exact absurd h2.symm (h.of i j hi h1)
 |none=>
  cases hk:aj0 D.O (D.O i) m with
  |none=>exact absurd rfl (a8k hk i hi)
  |some k=>obtain ⟨h1,h2⟩:=a50 hk;rw [h.oi k i h1 hi h2]
theorem V7 {m n:Nat} {D:Fd} (h:a0a m n D) (c:Rat) (t:Nat->Rat):Ids m n D (a0b m n D c t) c:=fun i hi=>by
 rw [a5s h hi]
 congr 1
 exact f7 fun j hj=>by rw [a0f h hj]
def U8 (f:Nat->Nat) (p:Nat->Bool):Nat->Option Nat
 |0=>none
 |k+1=>match U8 f p k with
  |none=>if p k then some k else none
  |some a=>if p k && decide (f k<f a) then some k else some a
theorem a0M {f:Nat->Nat} {p:Nat->Bool}:∀{k:Nat},U8 f p k=none->∀i,i<k->p i=false
 |0,_,i,hi=>by omega
 |k+1,h,i,hi=>by
  unfold U8 at h
  split at h
  ·rename_i hn
   split at h
   ·cases h
   ·rename_i hp
    by_cases hik:i=k
    ·subst hik;simpa using hp
    ·exact a0M hn i (by omega)
  ·split at h<;>cases h
theorem H7 {f:Nat->Nat} {p:Nat->Bool}:∀{k a:Nat},U8 f p k=some a->a<k∧p a=true∧∀i,i<k->p i=true->f a<=f i
 |0,a,h=>by cases h
 |k+1,a,h=>by
  unfold U8 at h
  split at h
  ·rename_i hn
   split at h
   ·rename_i hp
    injection h with h;subst h
    refine ⟨by omega,hp,fun i hi hpi=>?_⟩
    by_cases hik:i=k
    ·subst hik;omega
    ·rw [a0M hn i (by omega)] at hpi;cases hpi
   ·cases h
  ·rename_i b hb
   obtain ⟨h1,h2,h3⟩:=H7 hb
   split at h
   ·rename_i hc
    injection h with h;subst h
    simp only [Bool.and_eq_true,decide_eq_true_eq] at hc
    refine ⟨by omega,hc.1,fun i hi hpi=>?_⟩
    by_cases hik:i=k
    ·subst hik;omega
    ·have:=h3 i (by omega) hpi;omega
   ·rename_i hc
    injection h with h;subst h
    refine ⟨by omega,h2,fun i hi hpi=>?_⟩
    by_cases hik:i=k
    ·subst hik
     have:¬(f i<f b):=fun h=>hc (by simp [hpi,h])
     omega
    ·exact h3 i (by omega) hpi
inductive b2B where
 |best
 |row (r:Nat)
 |col (s:Nat)
 |next (r s:Nat)
def a12 (n:Nat) (D:Fd) (r:Nat):b2B:=match U8 D.F (fun j=>decide (D.A r j<0)) n with
 |none=>.row r
 |some s=>.next r s
def a14 (m:Nat) (D:Fd) (s:Nat):b2B:=match U8 D.O (fun i=>decide (0<D.A i s)) m with
 |none=>.col s
 |some r=>.next r s
def C7 (m n:Nat) (D:Fd):b2B:=match U8 D.O (fun i=>decide (D.V i<0)) m,U8 D.F (fun j=>decide (0<D.G j)) n with
 |none,none=>.best
 |some r,none=>a12 n D r
 |none,some s=>a14 m D s
 |some r,some s=>if D.O r<D.F s then a12 n D r else a14 m D s
structure aq3 (m n:Nat) (D:Fd) (r s:Nat):Prop where
 v:D.V r<0
 a:D.A r s<0
 f:∀j,j<n->D.F j<D.F s->0<=D.A r j
 o:∀i,i<m->D.O i<D.O r->0<=D.V i
 g:∀j,j<n->D.F j<D.O r->D.G j<=0
structure ao6 (m n:Nat) (D:Fd) (r s:Nat):Prop where
 g:0<D.G s
 a:0<D.A r s
 o:∀i,i<m->D.O i<D.O r->D.A i s<=0
 f:∀j,j<n->D.F j<D.F s->D.G j<=0
 v:∀i,i<m->D.O i<D.F s->0<=D.V i
theorem aD3 {m n:Nat} {D:Fd} {r r' s:Nat} (hr:U8 D.O (fun i=>decide (D.V i<0)) m=some r) (hg:∀j,j<n->D.F j<D.O r->D.G j<=0) (h:a12 n D r=.next r' s):r'<m∧s<n∧aq3 m n D r' s:=by
 obtain ⟨a1,a2,a3⟩:=H7 hr
 unfold a12 at h
 split at h
 ·cases h
 ·rename_i s' hs'
  injection h with h1 h2;subst h1;subst h2
  obtain ⟨b1,b2,b3⟩:=H7 hs'
  refine ⟨a1,b1,of_decide_eq_true a2,of_decide_eq_true b2,fun j hj hlt=>?_,fun i hi hlt=>?_,hg⟩
  ·exact Rat.not_lt.1 fun h=>by have:=b3 j hj (decide_eq_true h);omega
  ·exact Rat.not_lt.1 fun h=>by have:=a3 i hi (decide_eq_true h);omega
theorem aB3 {m n:Nat} {D:Fd} {s s' r:Nat} (hs:U8 D.F (fun j=>decide (0<D.G j)) n=some s) (hv:∀i,i<m->D.O i<D.F s->0<=D.V i) (h:a14 m D s=.next r s'):r<m∧s'<n∧ao6 m n D r s':=by
 obtain ⟨a1,a2,a3⟩:=H7 hs
 unfold a14 at h
 split at h
 ·cases h
 ·rename_i r' hr'
  injection h with h1 h2;subst h1;subst h2
  obtain ⟨b1,b2,b3⟩:=H7 hr'
  refine ⟨b1,a1,of_decide_eq_true a2,of_decide_eq_true b2,fun i hi hlt=>?_,fun j hj hlt=>?_,hv⟩
  ·exact Rat.not_lt.1 fun h=>by have:=b3 i hi (decide_eq_true h);omega
  ·exact Rat.not_lt.1 fun h=>by have:=a3 j hj (decide_eq_true h);omega
theorem a5h {m n:Nat} {D:Fd} {r s:Nat} (h:C7 m n D=.next r s):r<m∧s<n∧(aq3 m n D r s∨ao6 m n D r s):=by
 unfold C7 at h
 cases hr:U8 D.O (fun i=>decide (D.V i<0)) m with
 |none=>
  have hv:∀i,i<m->0<=D.V i:=fun i hi=>Rat.not_lt.1 (of_decide_eq_false (a0M hr i hi))
  cases hs:U8 D.F (fun j=>decide (0<D.G j)) n with
  |none=>rw [hr,hs] at h;cases h
  |some s'=>
   rw [hr,hs] at h
   obtain ⟨q1,q2,q3⟩:=aB3 hs (fun i hi _=>hv i hi) h
   exact ⟨q1,q2,.inr q3⟩
 |some r'=>
  obtain ⟨a1,a2,a3⟩:=H7 hr
  cases hs:U8 D.F (fun j=>decide (0<D.G j)) n with
  |none=>
   rw [hr,hs] at h
   obtain ⟨q1,q2,q3⟩:=aD3 (n:=n) hr (fun j hj _=>Rat.not_lt.1 (of_decide_eq_false (a0M hs j hj))) h
   exact ⟨q1,q2,.inl q3⟩
  |some s'=>
   rw [hr,hs] at h
   obtain ⟨b1,b2,b3⟩:=H7 hs
   simp only at h
   split at h
   ·rename_i hlt
    obtain ⟨q1,q2,q3⟩:=aD3 (n:=n) hr (fun j hj hj2=>Rat.not_lt.1 fun h=>by have:=b3 j hj (decide_eq_true h);omega) h
    exact ⟨q1,q2,.inl q3⟩
   ·rename_i hlt
    obtain ⟨q1,q2,q3⟩:=aB3 hs (fun i hi hi2=>Rat.not_lt.1 fun h=>by have:=a3 i hi (decide_eq_true h);omega) h
    exact ⟨q1,q2,.inr q3⟩
theorem a79 {m n:Nat} {D:Fd} {r s:Nat} (h:aq3 m n D r s∨ao6 m n D r s):D.A r s≠0:=by
 rcases h with h|h
 ·have:=h.a;intro h0;rw [h0] at this;exact absurd this (by grind)
 ·have:=h.a;intro h0;rw [h0] at this;exact absurd this (by grind)
theorem b2F {m n:Nat} {D D':Fd} {g0:Nat->Rat} {z z':Rat} (hP:a0a m n D) (hP':a0a m n D') (hI:∀y c,Ids m n D y c↔Ids m n D' y c) (hG:X3 n D g0 m z) (hG':X3 n D' g0 m z')
 {r s r' s' q:Nat} (hr:r<m) (hs:s<n) (hr':r'<m) (hs':s'<n) (h:aq3 m n D r s∨ao6 m n D r s) (h':aq3 m n D' r' s'∨ao6 m n D' r' s') (hq:D.F s=q) (hq':D'.O r'=q)
 (hrq:D.O r<q) (hsq:D'.F s'<q) (hst:∀w,q<w->((∃ j,j<n∧D.F j=w)↔∃j,j<n∧D'.F j=w)):False:=by
 have hfree:∀j,j<n->q<D.F j->∃k,k<n∧D'.F k=D.F j:=fun j hj hlt=>(hst _ hlt).1 ⟨j,hj,rfl⟩
 -- a vector of the second dictionary
 obtain ⟨c,y,hc,hy,ypos,yq,yfree,hobj⟩:∃(c:Rat) (y:Nat->Rat),(c=0∨c=1)∧Ids m n D' y c∧(∀ w,w<n+m->w<q->0<=y w)∧y q<0∧(∀ j,j<n->q<D.F j->y (D.F j)=0)∧
  ((c=0∧0<g7 (fun j=>g0 j*y j) n)∨(c=1∧g7 (fun j=>g0 j*y j) n=z'∧∀j,j<n->D'.F j<q->D'.G j<=0)):=by
  rcases h' with h'|h'
  ·refine ⟨1,a0b m n D' 1 (fun _=>0),.inr rfl,V7 hP' 1 _,fun w hw hwq=>?_,?_,fun j hj hlt=>?_,.inr ⟨rfl,?_,fun j hj hlt=>h'.g j hj (by rw [hq'];exact hlt)⟩⟩
   ·rcases hP'.all w hw with ⟨i,hi,rfl⟩|⟨j,hj,rfl⟩
    ·rw [a5s hP' hi,v7 fun j _=>by grind]
     have:=h'.o i hi (by rw [hq'];exact hwq)
     grind
    ·rw [a0f hP' hj];grind
   ·rw [← hq',a5s hP' hr',v7 fun j _=>by grind]
    have:=h'.v
    grind
   ·obtain ⟨k,hk,he⟩:=hfree j hj hlt
    rw [← he,a0f hP' hk]
   ·rw [hG' _ 1 (V7 hP' 1 _),v7 fun j hj=>by rw [a0f hP' hj];grind];grind
  ·refine ⟨0,a0b m n D' 0 (fun j=>if j=s' then 1 else 0),.inl rfl,V7 hP' 0 _,fun w hw hwq=>?_,?_,fun j hj hlt=>?_,.inl ⟨rfl,?_⟩⟩
   ·have hone:∀i,g7 (fun j=>D'.A i j*(if j=s' then 1 else 0)) n=D'.A i s':=fun i=>by
     rw [C0 hs',v7 fun j _=>by by_cases hj:j=s'<;>simp [hj]]
     simp;grind
    rcases hP'.all w hw with ⟨i,hi,rfl⟩|⟨j,hj,rfl⟩
    ·rw [a5s hP' hi,hone]
     have:=h'.o i hi (by rw [hq'];exact hwq)
     grind
    ·rw [a0f hP' hj];split<;>grind
   ·have hone:g7 (fun j=>D'.A r' j*(if j=s' then 1 else 0)) n=D'.A r' s':=by
     rw [C0 hs',v7 fun j _=>by by_cases hj:j=s'<;>simp [hj]]
     simp;grind
    rw [← hq',a5s hP' hr',hone]
    have:=h'.a
    grind
   ·obtain ⟨k,hk,he⟩:=hfree j hj hlt
    rw [← he,a0f hP' hk,if_neg]
    intro hks
    rw [hks] at he;omega
   ·rw [hG' _ 0 (V7 hP' 0 _)]
    have:g7 (fun j=>D'.G j*a0b m n D' 0 (fun j=>if j=s' then 1 else 0) (D'.F j)) n=D'.G s':=by
     rw [f7 (g:=fun j=>D'.G j*(if j=s' then 1 else 0)) fun j hj=>by rw [a0f hP' hj],C0 hs',v7 fun j _=>by by_cases hj:j=s'<;>simp [hj]]
     simp;grind
    rw [this]
    have:=h'.g
    grind
 have hy2:=(hI y c).2 hy
 -- the terms of the first dictionary
 have hF:∀j,j<n->(D.F j<q∧0<=y (D.F j))∨(j=s∧y (D.F j)<0)∨y (D.F j)=0:=fun j hj=>by
  rcases Nat.lt_trichotomy (D.F j) q with hlt|heq|hgt
  ·exact .inl ⟨hlt,ypos _ (hP.fb j hj) hlt⟩
  ·refine .inr (.inl ⟨hP.fi j s hj hs (by omega),by rw [heq];exact yq⟩)
  ·exact .inr (.inr (yfree j hj hgt))
 rcases h with h|h
 · -- by its row
   have hid:=hy2 r hr
   have h1:0<g7 (fun j=>D.A r j*y (D.F j)) n:=b0l (s:=s) (fun j hj=>by
    rcases hF j hj with ⟨a,b⟩|⟨rfl,b⟩|b
    ·exact Rat.mul_nonneg (h.f j hj (by rw [hq];exact a)) b
    ·have:=h.a;exact Rat.le_of_lt (by have:=Rat.mul_pos (a:=-D.A r j) (b:=-y (D.F j)) (by grind) (by grind);grind)
    ·rw [b];grind) hs (by
    have:=h.a
    have hyq:y (D.F s)<0:=by rw [hq];exact yq
    have:=Rat.mul_pos (a:=-D.A r s) (b:=-y (D.F s)) (by grind) (by grind);grind)
   have h2:0<=y (D.O r):=ypos _ (hP.ob r hr) hrq
   have h3:=h.v
   rcases hc with rfl|rfl
   ·grind
   ·grind
 · -- by its goal
   have h1:g7 (fun j=>D.G j*y (D.F j)) n<0:=b6h (s:=s) (fun j hj=>by
    rcases hF j hj with ⟨a,b⟩|⟨rfl,b⟩|b
    ·have:=h.f j hj (by rw [hq];exact a)
     have:=Rat.mul_nonneg (a:=-D.G j) (b:=y (D.F j)) (by grind) b
     grind
    ·have:=h.g
     have:=Rat.mul_pos (a:=D.G j) (b:=-y (D.F j)) (by grind) (by grind)
     grind
    ·rw [b];grind) hs (by
    have:=h.g
    have hyq:y (D.F s)<0:=by rw [hq];exact yq
    have:=Rat.mul_pos (a:=D.G s) (b:=-y (D.F s)) (by grind) (by grind)
    grind)
   have hg:=hG y c hy2
   rcases hobj with ⟨rfl,ho⟩|⟨rfl,ho,hneg⟩
   ·grind
   · -- the basic point of the first dictionary
     have k1:=hG (a0b m n D 1 (fun _=>0)) 1 (V7 hP 1 _)
     rw [v7 (f:=fun j=>D.G j*a0b m n D 1 (fun _=>0) (D.F j)) fun j hj=>by rw [a0f hP hj];grind] at k1
     have k2:=hG' (a0b m n D 1 (fun _=>0)) 1 ((hI _ 1).1 (V7 hP 1 _))
     have k3:g7 (fun j=>D'.G j*a0b m n D 1 (fun _=>0) (D'.F j)) n<=0:=a6J fun j hj=>by
      have hv:∀w,w<n+m->w<q->0<=a0b m n D 1 (fun _=>0) w:=fun w hw hwq=>by
       rcases hP.all w hw with ⟨i,hi,rfl⟩|⟨k,hk,rfl⟩
       ·rw [a5s hP hi,v7 fun j _=>by grind]
        have:=h.v i hi (by rw [hq];exact hwq)
        grind
       ·rw [a0f hP hk];grind
      rcases Nat.lt_trichotomy (D'.F j) q with hlt|heq|hgt
      ·have a1:=hneg j hj hlt
       have a2:=hv _ (hP'.fb j hj) hlt
       have:=Rat.mul_nonneg (a:=-D'.G j) (by grind) a2
       grind
      ·exact absurd (hq'.trans heq.symm) (hP'.of r' j hr' hj)
      ·obtain ⟨k,hk,he⟩:=(hst _ hgt).2 ⟨j,hj,rfl⟩
       rw [← he,a0f hP hk];grind
     grind
end
section
def G1 (m n:Nat) (D:Fd):Option Fd:=match C7 m n D with
 |.next r s=>some (D.exch r s)
 |_=>none
theorem a5E {m n:Nat} {D D':Fd} (h:G1 m n D=some D'):∃r s,C7 m n D=.next r s∧D'=D.exch r s:=by
 unfold G1 at h
 split at h
 ·rename_i r s hs;injection h with h;exact ⟨r,s,hs,h.symm⟩
 ·cases h
theorem a9q {P:Nat->Nat->Prop}:∀N:Nat,(∀ w,w<N->∃T,∀k,T<=k->¬P k w)->∃T,∀w,w<N->∀k,T<=k->¬P k w
 |0,_=>⟨0,fun w hw=>by omega⟩
 |N+1,h=>by
  obtain ⟨T,hT⟩:=a9q (P:=P) N fun w hw=>h w (by omega)
  obtain ⟨T',hT'⟩:=h N (by omega)
  refine ⟨max T T',fun w hw k hk=>?_⟩
  by_cases hwn:w=N
  ·subst hwn;exact hT' k (by omega)
  ·exact hT w (by omega) k (by omega)
theorem ah0 {p:Nat->Prop}:∀N:Nat,(∃ w,w<N∧p w)->∃q,q<N∧p q∧∀w,q<w->w<N->¬p w
 |0,⟨w,hw,_⟩=>by omega
 |N+1,⟨w,hw,hp⟩=>by
  by_cases h:p N
  ·exact ⟨N,by omega,h,fun w h1 h2=>by omega⟩
  ·have hwN:w≠N:=fun e=>h (e ▸ hp)
   obtain ⟨q,h1,h2,h3⟩:=ah0 N ⟨w,by omega,hp⟩
   refine ⟨q,by omega,h2,fun w h4 h5=>?_⟩
   by_cases hw2:w=N
   ·subst hw2;exact h
   ·exact h3 w h4 (by omega)
theorem a1s (p:Nat->Prop) (h:∃n,p n):∃n,p n∧∀m,p m->n<=m:=by
 obtain ⟨n,hn⟩:=h
 induction n using Nat.strongRecOn with
 |_ n ih=>
  by_cases hex:∃m,m<n∧p m
  ·obtain ⟨m,hm,hp⟩:=hex
   exact ih m hm hp
  ·exact ⟨n,hn,fun m hm=>Nat.le_of_not_lt fun h=>hex ⟨m,h,hm⟩⟩
theorem b8k {m n:Nat} {f:Nat->Fd} {g0:Nat->Rat} (hP0:a0a m n (f 0)) (hG0:∃z,X3 n (f 0) g0 m z) (hf:∀k,G1 m n (f k)=some (f (k+1))):False:=by
 have hstep:∀k,∃rs:Nat × Nat,rs.1<m∧rs.2<n∧(aq3 m n (f k) rs.1 rs.2∨ao6 m n (f k) rs.1 rs.2)∧f (k+1)=(f k).exch rs.1 rs.2:=fun k=>by
  obtain ⟨r,s,h1,h2⟩:=a5E (hf k)
  obtain ⟨a,b,c⟩:=a5h h1
  exact ⟨(r,s),a,b,c,h2⟩
 obtain ⟨W,hW⟩:=Classical.axiomOfChoice hstep
 have hP:∀k,a0a m n (f k):=fun k=>by
  induction k with
  |zero=>exact hP0
  |succ k ih=>obtain ⟨a,b,_,d⟩:=hW k;rw [d];exact an7 a b ih
 have hI:∀k y c,Ids m n (f 0) y c↔Ids m n (f k) y c:=fun k=>by
  induction k with
  |zero=>exact fun _ _=>Iff.rfl
  |succ k ih=>obtain ⟨a,b,c',d⟩:=hW k;rw [d];exact fun y c=>(ih y c).trans (ac4 a b (a79 c'))
 have hG:∀k,∃z,X3 n (f k) g0 m z:=fun k=>by
  induction k with
  |zero=>exact hG0
  |succ k ih=>obtain ⟨a,b,c',d⟩:=hW k;obtain ⟨z,hz⟩:=ih;rw [d];exact ⟨_,ap5 a b (a79 c') hz⟩
 let E:Nat->Nat:=fun k=>(f k).F (W k).2
 let L:Nat->Nat:=fun k=>(f k).O (W k).1
 have hE:∀k,E k<n+m:=fun k=>(hP k).fb _ (hW k).2.1
 have hL:∀k,L k<n+m:=fun k=>(hP k).ob _ (hW k).1
 have hEL:∀k,L k≠E k:=fun k=>(hP k).of _ _ (hW k).1 (hW k).2.1
 let fre:Nat->Nat->Prop:=fun k w=>∃j,j<n∧(f k).F j=w
 have hfre:∀k w,w≠E k->w≠L k->(fre (k+1) w↔fre k w):=fun k w h1 h2=>by
  obtain ⟨a,b,_,d⟩:=hW k
  show (∃ j,j<n∧(f (k+1)).F j=w)↔∃j,j<n∧(f k).F j=w
  rw [d]
  constructor
  ·rintro ⟨j,hj,he⟩
   rw [a1W] at he
   by_cases hjs:j=(W k).2
   ·rw [if_pos hjs] at he;exact absurd he.symm h2
   ·rw [if_neg hjs] at he;exact ⟨j,hj,he⟩
  ·rintro ⟨j,hj,he⟩
   have hjs:j≠(W k).2:=fun h=>h1 (by rw [← he,h])
   exact ⟨j,hj,by rw [a1W,if_neg hjs];exact he⟩
 have hin:∀k,fre k (E k):=fun k=>⟨_,(hW k).2.1,rfl⟩
 have hout:∀k,¬fre k (L k):=fun k=>by rintro ⟨j,hj,he⟩;exact (hP k).of _ _ (hW k).1 hj he.symm
 have hin2:∀k,fre (k+1) (L k):=fun k=>by
  obtain ⟨a,b,_,d⟩:=hW k
  show ∃j,j<n∧(f (k+1)).F j=L k
  rw [d];exact ⟨_,b,by rw [a1W,if_pos rfl]⟩
 have hout2:∀k,¬fre (k+1) (E k):=fun k=>by
  obtain ⟨a,b,_,d⟩:=hW k
  show ¬∃j,j<n∧(f (k+1)).F j=E k
  rw [d]
  rintro ⟨j,hj,he⟩
  rw [a1W] at he
  by_cases hjs:j=(W k).2
  ·rw [if_pos hjs] at he;exact hEL k he
  ·rw [if_neg hjs] at he;exact hjs ((hP k).fi _ _ hj b he)
 let mv:Nat->Nat->Prop:=fun k w=>E k=w∨L k=w
 obtain ⟨q,hqN,hio,hmax⟩:=ah0 (p:=fun w=>∀T,∃k,T<=k∧mv k w) (n+m) (Classical.byContradiction fun hno=>by
  have h1:∀w,w<n+m->∃T,∀k,T<=k->¬mv k w:=fun w hw=>Classical.byContradiction fun h=>hno ⟨w,hw,fun T=>Classical.byContradiction fun h'=>h ⟨T,fun k hk hm=>h' ⟨k,hk,hm⟩⟩⟩
  obtain ⟨T,hT⟩:=a9q (P:=mv) _ h1
  exact hT _ (hE T) T (Nat.le_refl _) (.inl rfl))
 obtain ⟨T,hT⟩:∃T,∀w,q<w->∀k,T<=k->¬mv k w:=by
  obtain ⟨T,hT⟩:=a9q (P:=fun k w=>q<w∧mv k w) (n+m) fun w hw=>by
   by_cases hqw:q<w
   ·have:=hmax w hqw hw
    obtain ⟨T,hT⟩:=Classical.not_forall.1 this
    exact ⟨T,fun k hk ⟨_,hm⟩=>hT ⟨k,hk,hm⟩⟩
   ·exact ⟨0,fun k _ ⟨h,_⟩=>hqw h⟩
  refine ⟨T,fun w hqw k hk hm=>?_⟩
  have hw:w<n+m:=by rcases hm with hm|hm<;>rw [← hm];exact hE k;exact hL k
  exact hT w hw k hk ⟨hqw,hm⟩
 have hEq:∀k,T<=k->E k<=q:=fun k hk=>Nat.le_of_not_lt fun h=>hT _ h k hk (.inl rfl)
 have hLq:∀k,T<=k->L k<=q:=fun k hk=>Nat.le_of_not_lt fun h=>hT _ h k hk (.inr rfl)
 have hconst:∀w,q<w->∀d,fre (T+d) w↔fre T w:=fun w hw d=>by
  induction d with
  |zero=>exact Iff.rfl
  |succ d ih=>
   have h1:=hEq (T+d) (by omega)
   have h2:=hLq (T+d) (by omega)
   exact (hfre (T+d) w (by omega) (by omega)).trans ih
 have hsame:∀w,q<w->∀t u,T<=t->T<=u->(fre t w↔fre u w):=fun w hw t u ht hu=>by
  have h1:=hconst w hw (t - T)
  have h2:=hconst w hw (u - T)
  rw [show T+(t - T)=t by omega] at h1
  rw [show T+(u - T)=u by omega] at h2
  exact h1.trans h2.symm
 -- q enters at some time, and leaves at some time
 have hnext:∀k1,T<=k1->mv k1 q->∃k2,T<=k2∧mv k2 q∧(fre k2 q↔fre (k1+1) q):=fun k1 h1 _=>by
  obtain ⟨k2,⟨h2,h3⟩,hleast⟩:=a1s (fun k=>k1+1<=k∧mv k q) (hio (k1+1))
  refine ⟨k2,by omega,h3,?_⟩
  have key:∀d,k1+1+d<=k2->(fre (k1+1+d) q↔fre (k1+1) q):=fun d=>by
   induction d with
   |zero=>exact fun _=>Iff.rfl
   |succ d ih=>
    intro hd
    have hnm:¬mv (k1+1+d) q:=fun h=>by have:=hleast (k1+1+d) ⟨by omega,h⟩;omega
    exact (hfre (k1+1+d) q (fun h=>hnm (.inl h.symm)) (fun h=>hnm (.inr h.symm))).trans (ih (by omega))
  have:=key (k2 - (k1+1)) (by omega)
  rwa [show k1+1+(k2 - (k1+1))=k2 by omega] at this
 have hboth:∃t u,T<=t∧T<=u∧E t=q∧L u=q:=by
  obtain ⟨k1,h1,hm1⟩:=hio T
  obtain ⟨k2,h2,hm2,hs⟩:=hnext k1 h1 hm1
  rcases hm1 with hm1|hm1
  ·rcases hm2 with hm2|hm2
   ·have a:=hin k2
    rw [hm2] at a
    have b:=hout2 k1
    rw [hm1] at b
    exact absurd (hs.1 a) b
   ·exact ⟨k1,k2,h1,h2,hm1,hm2⟩
  ·rcases hm2 with hm2|hm2
   ·exact ⟨k2,k1,h2,h1,hm2,hm1⟩
   ·have a:=hout k2
    rw [hm2] at a
    have b:=hin2 k1
    rw [hm1] at b
    exact absurd (hs.2 b) a
 obtain ⟨t,u,ht,hu,het,hlu⟩:=hboth
 obtain ⟨z,hz⟩:=hG t
 obtain ⟨z',hz'⟩:=hG u
 obtain ⟨a1,a2,a3,_⟩:=hW t
 obtain ⟨b1,b2,b3,_⟩:=hW u
 have hl:L t<q:=by have:=hLq t ht;have:=hEL t;omega
 have he:E u<q:=by have:=hEq u hu;have:=hEL u;omega
 exact b2F (hP t) (hP u) (fun y c=>(hI t y c).symm.trans (hI u y c)) hz hz' a1 a2 b1 b2 a3 b3 het hlu hl he (fun w hw=>hsame w hw t u ht hu)
def itS (m n:Nat):Nat->Fd->Option Fd
 |0,D=>some D
 |k+1,D=>match G1 m n D with
  |none=>none
  |some D'=>itS m n k D'
theorem a02 {m n:Nat}:∀(k:Nat) (D:Fd),itS m n (k+1) D=(itS m n k D).bind (G1 m n)
 |0,D=>by
  show (match G1 m n D with|none=>none|some D'=>some D')=G1 m n D
  cases G1 m n D<;>rfl
 |k+1,D=>by
  show (match G1 m n D with|none=>none|some D'=>itS m n (k+1) D')=(match G1 m n D with|none=>none|some D'=>itS m n k D').bind (G1 m n)
  cases G1 m n D with
  |none=>rfl
  |some D'=>exact a02 k D'
theorem b7j {m n:Nat} {D:Fd} {g0:Nat->Rat} (hP:a0a m n D) (hG:∃z,X3 n D g0 m z):∃k,itS m n k D=none:=Classical.byContradiction fun h=>by
 have h1:∀k,∃D',itS m n k D=some D':=fun k=>by
  cases hk:itS m n k D with
  |none=>exact absurd ⟨k,hk⟩ h
  |some D'=>exact ⟨D',rfl⟩
 obtain ⟨f,hf⟩:=Classical.axiomOfChoice h1
 have hf:∀k,itS m n k D=some (f k):=hf
 have h0:f 0=D:=by have:=hf 0;injection this with this;exact this.symm
 refine b8k (f:=f) (g0:=g0) (by rw [h0];exact hP) (by rw [h0];exact hG) fun k=>?_
 have h2:=a02 (m:=m) (n:=n) k D
 rw [hf k,hf (k+1)] at h2
 exact h2.symm
noncomputable def a8E (m n:Nat) (D:Fd):Nat:=Classical.epsilon fun k=>itS m n k D=none∧∀j,itS m n j D=none->k<=j
theorem aP3 {m n:Nat} {D D':Fd} (h:∃k,itS m n k D=none) (hn:G1 m n D=some D'):a8E m n D'<a8E m n D:=by
 have hD:=Classical.epsilon_spec (a1s _ h)
 have h':∃k,itS m n k D'=none:=by
  obtain ⟨k,hk⟩:=h
  cases k with
  |zero=>cases hk
  |succ k=>
   have hk:(match G1 m n D with|none=>none|some D'=>itS m n k D')=none:=hk
   rw [hn] at hk;exact ⟨k,hk⟩
 have hD':=Classical.epsilon_spec (a1s _ h')
 have e:a8E m n D=Classical.epsilon fun k=>itS m n k D=none∧∀j,itS m n j D=none->k<=j:=rfl
 have e':a8E m n D'=Classical.epsilon fun k=>itS m n k D'=none∧∀j,itS m n j D'=none->k<=j:=rfl
 rw [← e] at hD
 rw [← e'] at hD'
 obtain ⟨a1,a2⟩:=hD
 obtain ⟨b1,b2⟩:=hD'
 generalize a8E m n D=k at a1 a2
 cases k with
 |zero=>cases a1
 |succ k=>
  have a1:(match G1 m n D with|none=>none|some D'=>itS m n k D')=none:=a1
  rw [hn] at a1
  have:=b2 k a1
  omega
end
section
structure EqI where
 co:Nat->Int
 rhs:Int
def a7W (k:Nat) (e:EqI) (u:Nat->Rat):Prop:=g7 (fun l=>((e.co l:Int):Rat)*u l) (k+1)=((e.rhs:Int):Rat)
theorem b69 {f g:Nat->Rat} (a b:Rat) (n:Nat):g7 (fun j=>a*f j - b*g j) n=a*g7 f n - b*g7 g n:=by
 rw [← E4 a,←E4 b]
 have:g7 (fun j=>a*f j - b*g j) n=g7 (fun j=>a*f j+(-1)*(b*g j)) n:=f7 fun j _=>by grind
 rw [this,a0z,E4 (-1)];grind
def aa8 (k:Nat) (e0 e:EqI):EqI:=⟨fun l=>e0.co (k+1)*e.co l - e.co (k+1)*e0.co l,e0.co (k+1)*e.rhs - e.co (k+1)*e0.rhs⟩
theorem aK8 {k:Nat} {e0 e:EqI} {u:Nat->Rat}:g7 (fun l=>(((aa8 k e0 e).co l:Int):Rat)*u l) (k+1)=
 ((e0.co (k+1):Int):Rat)*g7 (fun l=>((e.co l:Int):Rat)*u l) (k+1) - ((e.co (k+1):Int):Rat)*g7 (fun l=>((e0.co l:Int):Rat)*u l) (k+1):=by
 rw [← b69]
 refine f7 fun l _=>?_
 unfold aa8
 simp only
 rw [Rat.intCast_sub,Rat.intCast_mul,Rat.intCast_mul];grind
theorem aD4 {k:Nat} {e0 e:EqI}:(((aa8 k e0 e).rhs:Int):Rat)=((e0.co (k+1):Int):Rat)*((e.rhs:Int):Rat) - ((e.co (k+1):Int):Rat)*((e0.rhs:Int):Rat):=by
 unfold aa8
 simp only
 rw [Rat.intCast_sub,Rat.intCast_mul,Rat.intCast_mul]
theorem b6n {k:Nat} {e0 e:EqI} {s:Nat} (h0:(∀ l,l<=k+1->bl (e0.co l)<=s)∧bl e0.rhs<=s) (h:(∀ l,l<=k+1->bl (e.co l)<=s)∧bl e.rhs<=s):(∀ l,l<=k->bl ((aa8 k e0 e).co l)<=2*s+1)∧bl (aa8 k e0 e).rhs<=2*s+1:=by
 have key:∀a b c d:Int,bl a<=s->bl b<=s->bl c<=s->bl d<=s->bl (a*b - c*d)<=2*s+1:=fun a b c d ha hb hc hd=>by
  have h1:=G5 a b
  have h2:=G5 c d
  have h3:=a7r (a*b) (-(c*d))
  rw [a1N,←Int.sub_eq_add_neg] at h3
  omega
 exact ⟨fun l hl=>key _ _ _ _ (h0.1 _ (by omega)) (h.1 _ (by omega)) (h.1 _ (by omega)) (h0.1 _ (by omega)),key _ _ _ _ (h0.1 _ (by omega)) h.2 (h.1 _ (by omega)) h0.2⟩
theorem a60:∀(k s:Nat) (E:List EqI) (u:Nat->Rat),(∀ e ∈ E,(∀ l,l<=k->bl (e.co l)<=s)∧bl e.rhs<=s)->(∀ e ∈ E,a7W k e u)->(∀ u',(∀ e ∈ E,a7W k e u')->u' 0=u 0)->rl (u 0)<=2 ^ k*(s+1)
 |0,s,E,u,hb,hu,hq=>by
  by_cases hex:∃e ∈ E,e.co 0≠0
  ·obtain ⟨e,he,hc⟩:=hex
   have h1:((0:Int):Rat)+((e.co 0:Int):Rat)*u 0=((e.rhs:Int):Rat):=hu e he
   have hne:((e.co 0:Int):Rat)≠0:=fun h=>hc (by exact_mod_cast h)
   have h2:u 0=Rat.divInt e.rhs (e.co 0):=by
    rw [Rat.divInt_eq_div,←h1]
    have:((0:Int):Rat)=0:=rfl
    rw [this];grind
   rw [h2]
   have h3:=(hb e he).1 0 (Nat.le_refl _)
   have h4:=(hb e he).2
   have:=Q1 (p:=e.rhs) (q:=e.co 0) hc
   omega
  ·have hz:∀e ∈ E,e.co 0=0:=fun e he=>Classical.byContradiction fun h=>hex ⟨e,he,h⟩
   have:=hq (fun _=>u 0+1) fun e he=>by
    have h1:((0:Int):Rat)+((e.co 0:Int):Rat)*u 0=((e.rhs:Int):Rat):=hu e he
    show ((0:Int):Rat)+((e.co 0:Int):Rat)*(u 0+1)=((e.rhs:Int):Rat)
    rw [← h1,hz e he]
    have:((0:Int):Rat)=0:=rfl
    rw [this];grind
   grind
 |k+1,s,E,u,hb,hu,hq=>by
  have hlast:∀(e:EqI) (v:Nat->Rat),g7 (fun l=>((e.co l:Int):Rat)*v l) (k+1+1)=g7 (fun l=>((e.co l:Int):Rat)*v l) (k+1)+((e.co (k+1):Int):Rat)*v (k+1):=fun e v=>rfl
  by_cases hex:∃e ∈ E,e.co (k+1)≠0
  ·obtain ⟨e0,he0,hc⟩:=hex
   have hne:((e0.co (k+1):Int):Rat)≠0:=fun h=>hc (by exact_mod_cast h)
   have ih:=a60 k (2*s+1) (E.map (aa8 k e0)) u (fun e he=>by
    obtain ⟨e1,he1,rfl⟩:=List.mem_map.1 he
    exact b6n (hb e0 he0) (hb e1 he1)) (fun e he=>by
    obtain ⟨e1,he1,rfl⟩:=List.mem_map.1 he
    have a1:g7 _ (k+1+1)=_:=hu e0 he0
    have a2:g7 _ (k+1+1)=_:=hu e1 he1
    rw [hlast] at a1 a2
    unfold a7W
    rw [aK8,aD4,←a1,←a2];grind) (fun u' hu'=>by
    have hnew:=hq (fun l=>if l=k+1 then (((e0.rhs:Int):Rat) - g7 (fun l=>((e0.co l:Int):Rat)*u' l) (k+1)) / ((e0.co (k+1):Int):Rat) else u' l) fun e he=>by
     have b1:=hu' _ (List.mem_map.2 ⟨e,he,rfl⟩)
     unfold a7W at b1 ⊢
     rw [aK8,aD4] at b1
     rw [hlast,f7 (g:=fun l=>((e.co l:Int):Rat)*u' l) fun l hl=>by rw [if_neg (by omega)],if_pos rfl]
     generalize g7 (fun l=>((e.co l:Int):Rat)*u' l) (k+1)=X at *
     generalize g7 (fun l=>((e0.co l:Int):Rat)*u' l) (k+1)=Y at *
     generalize ((e0.co (k+1):Int):Rat)=c at *
     generalize ((e.co (k+1):Int):Rat)=d at *
     generalize ((e.rhs:Int):Rat)=r at *
     generalize ((e0.rhs:Int):Rat)=r0 at *
     have h1:c*(X+d*((r0 - Y) / c))=c*r:=by
      have:c*((r0 - Y) / c)=r0 - Y:=by grind
      have h2:c*(X+d*((r0 - Y) / c))=c*X+d*(c*((r0 - Y) / c)):=by grind
      rw [h2,this];grind
     grind
    rw [if_neg (by omega)] at hnew
    exact hnew)
   have e1:2 ^ (k+1)*(s+1)=2 ^ k*(2*s+1+1):=by rw [Nat.pow_succ,Nat.mul_assoc,show 2*(s+1)=2*s+1+1 by omega]
   rw [e1];exact ih
  ·have hz:∀e ∈ E,e.co (k+1)=0:=fun e he=>Classical.byContradiction fun h=>hex ⟨e,he,h⟩
   have hiff:∀e ∈ E,∀v,a7W (k+1) e v↔a7W k e v:=fun e he v=>by
    unfold a7W
    rw [hlast,hz e he]
    have:((0:Int):Rat)=0:=rfl
    rw [this]
    constructor
    ·intro h;rw [← h];grind
    ·intro h;rw [← h];grind
   have ih:=a60 k s E u (fun e he=>⟨fun l hl=>(hb e he).1 l (by omega),(hb e he).2⟩) (fun e he=>(hiff e he u).1 (hu e he)) fun u' hu'=>hq u' fun e he=>(hiff e he u').2 (hu' e he)
   have:2 ^ k<=2 ^ (k+1):=Nat.pow_le_pow_right (by decide) (by omega)
   exact Nat.le_trans ih (Nat.mul_le_mul_right _ this)
end
section
structure aV4 (m n s:Nat) (D:Fd):Prop where
 o:∀i,i<m->D.O i=n+i
 f:∀j,j<n->D.F j=j
 w:∀i,i<m->∃(q v:Int) (a:Nat->Int),q≠0∧bl q<=s∧bl v<=s∧(∀ j,j<n->bl (a j)<=s)∧((q:Int):Rat)*D.V i=((v:Int):Rat)∧∀j,j<n->((q:Int):Rat)*D.A i j=((a j:Int):Rat)
theorem a8Z (x:Int):bl (-x)=bl x:=by unfold bl;rw [Int.natAbs_neg]
theorem b35 (x y:Int):bl (x - y)<=max (bl x) (bl y)+1:=by
 have:=a7r x (-y)
 rw [a8Z] at this
 rw [Int.sub_eq_add_neg];exact this
theorem ak9 {f:Nat->Rat}:∀n:Nat,g7 f (n+1)=f 0+g7 (fun l=>f (l+1)) n
 |0=>by simp only [g7];grind
 |n+1=>by
  have ih:=ak9 (f:=f) n
  have e:g7 f (n+1+1)=g7 f (n+1)+f (n+1):=rfl
  rw [e,ih]
  simp only [g7];grind
def b1t (q0:Int) (b:Nat->Int) (r:Int):EqI:=⟨fun l=>match l with|0=>q0|l+1=>b l,r⟩
theorem a9l {n:Nat} {q0 r:Int} {b:Nat->Int} {u:Nat->Rat}:a7W n (b1t q0 b r) u↔((q0:Int):Rat)*u 0+g7 (fun l=>((b l:Int):Rat)*u (l+1)) n=((r:Int):Rat):=by
 unfold a7W b1t
 simp only
 rw [ak9]
theorem ab9 {n v:Nat} {u:Nat->Rat} (hv:v<n):g7 (fun l=>(((if l=v then (1:Int) else 0):Int):Rat)*u l) n=u v:=by
 rw [C0 hv,v7 fun j hj=>?_]
 ·simp only [if_true]
  have:((1:Int):Rat)=1:=rfl
  rw [this];grind
 ·by_cases h:j=v
  ·simp only [h,if_true]
  ·simp only [if_neg h]
   have:((0:Int):Rat)=0:=rfl
   rw [this];grind
theorem b9B {s:Nat} (hs:1<=s) (b:Prop) [Decidable b]:bl (if b then (1:Int) else 0)<=s:=by
 split
 ·exact Nat.le_trans (t4 (by decide) (by decide)) hs
 ·exact Nat.le_trans (t4 (by decide) (by decide)) hs
theorem aF1 {m n s:Nat} {D0 D:Fd} (h0:aV4 m n s D0) (hs:1<=s) (hP:a0a m n D) (hI:∀y c,Ids m n D0 y c↔Ids m n D y c) {c:Int} {t:Nat->Int} (hc:c=0∨c=1) (ht:∀j,t j=0∨t j=1)
 {q r:Int} {b:Nat->Int} {φ:Rat} (hq:q≠0) (hqs:bl q<=s) (hr:bl r<=s) (hb:∀l,l<n->bl (b l)<=s)
 (hφ:((q:Int):Rat)*φ=((r:Int):Rat)*((c:Int):Rat)+g7 (fun l=>((b l:Int):Rat)*a0b m n D ((c:Int):Rat) (fun j=>((t j:Int):Rat)) l) n):rl φ<=2 ^ n*(s+2):=by
 obtain ⟨y,hy⟩:∃y,y=a0b m n D ((c:Int):Rat) (fun j=>((t j:Int):Rat)):=⟨_,rfl⟩
 rw [← hy] at hφ
 have hyD:Ids m n D y ((c:Int):Rat):=by rw [hy];exact V7 hP _ _
 have hy0:=(hI y _).2 hyD
 have hyF:∀j,j<n->y (D.F j)=((t j:Int):Rat):=fun j hj=>by rw [hy];exact a0f hP hj
 -- the equations of the columns
 have eqs:∀j,j<n->∃e:EqI,(∀ l,l<=n->bl (e.co l)<=s+1)∧bl e.rhs<=s+1∧
  ∀(y' u':Nat->Rat),(∀ l,l<n->u' (l+1)=y' l)->Ids m n D0 y' ((c:Int):Rat)->(a7W n e u'↔y' (D.F j)=((t j:Int):Rat)):=by
  intro j hj
  have htb:bl (t j)<=1:=by rcases ht j with h|h<;>rw [h]<;>exact t4 (by decide) (by decide)
  by_cases hv:D.F j<n
  ·refine ⟨b1t 0 (fun l=>if l=D.F j then 1 else 0) (t j),fun l hl=>?_,Nat.le_trans htb (by omega),fun y' u' hu hy'=>?_⟩
   ·cases l with
    |zero=>exact Nat.le_trans (t4 (x:=0) (by decide) (by decide)) (by omega)
    |succ l=>exact b9B (by omega) _
   ·rw [a9l]
    rw [f7 (g:=fun l=>(((if l=D.F j then (1:Int) else 0):Int):Rat)*y' l) fun l hl=>by rw [hu l hl],ab9 hv]
    have:((0:Int):Rat)=0:=rfl
    rw [this]
    constructor<;>intro h<;>grind
  ·have hb1:=hP.fb j hj
   obtain ⟨i,hi⟩:∃i,D.F j=n+i:=⟨D.F j - n,by omega⟩
   have him:i<m:=by omega
   obtain ⟨qi,vi,ai,q1,q2,q3,q4,q5,q6⟩:=h0.w i him
   have hrhs:bl (vi*c - qi*t j)<=s+1:=by
    have h1:bl (vi*c)<=s:=by rcases hc with h|h<;>rw [h]<;>simp<;>first|exact q3|exact Nat.le_trans (t4 (x:=0) (by decide) (by decide)) hs
    have h2:bl (qi*t j)<=s:=by rcases ht j with h|h<;>rw [h]<;>simp<;>first|exact q2|exact Nat.le_trans (t4 (x:=0) (by decide) (by decide)) hs
    have:=b35 (vi*c) (qi*t j)
    omega
   refine ⟨b1t 0 ai (vi*c - qi*t j),fun l hl=>?_,hrhs,fun y' u' hu hy'=>?_⟩
   ·cases l with
    |zero=>exact Nat.le_trans (t4 (x:=0) (by decide) (by decide)) (by omega)
    |succ l=>exact Nat.le_trans (q4 l (by omega)) (by omega)
   ·rw [a9l,hi]
    have hid:=hy' i him
    rw [h0.o i him] at hid
    have hsum:g7 (fun l=>((ai l:Int):Rat)*u' (l+1)) n=((qi:Int):Rat)*g7 (fun j=>D0.A i j*y' (D0.F j)) n:=by
     rw [← E4]
     refine f7 fun l hl=>?_
     rw [hu l hl,h0.f l hl,←q6 l hl];grind
    rw [hsum]
    have e0:((0:Int):Rat)=0:=rfl
    have e1:((vi*c - qi*t j:Int):Rat)=((vi:Int):Rat)*((c:Int):Rat) - ((qi:Int):Rat)*((t j:Int):Rat):=by push_cast;rfl
    rw [e0,e1,←q5]
    have hqn:((qi:Int):Rat)≠0:=by intro h;exact q1 (by exact_mod_cast h)
    constructor
    ·intro h
     have:((qi:Int):Rat)*(y' (n+i) - ((t j:Int):Rat))=0:=by rw [hid];grind
     have:=(Rat.mul_eq_zero.1 this).resolve_left hqn
     grind
    ·intro h
     rw [← h,hid];grind
 -- the equation of the value
 obtain ⟨E,hE⟩:∃E:Nat->EqI,∀j,(hj:j<n)->E j=Classical.choose (eqs j hj):=⟨fun j=>if hj:j<n then Classical.choose (eqs j hj) else ⟨fun _=>0,0⟩,fun j hj=>by simp [hj]⟩
 have hEs:∀j,j<n->(∀ l,l<=n->bl ((E j).co l)<=s+1)∧bl (E j).rhs<=s+1∧
  ∀(y' u':Nat->Rat),(∀ l,l<n->u' (l+1)=y' l)->Ids m n D0 y' ((c:Int):Rat)->(a7W n (E j) u'↔y' (D.F j)=((t j:Int):Rat)):=fun j hj=>by
  rw [hE j hj];exact Classical.choose_spec (eqs j hj)
 let e0:EqI:=b1t q (fun l=>0 - b l) (r*c)
 have he0:∀(y' u':Nat->Rat),(∀ l,l<n->u' (l+1)=y' l)->(a7W n e0 u'↔((q:Int):Rat)*u' 0=((r:Int):Rat)*((c:Int):Rat)+g7 (fun l=>((b l:Int):Rat)*y' l) n):=by
  intro y' u' hu
  show a7W n (b1t q (fun l=>0 - b l) (r*c)) u'↔_
  rw [a9l]
  have e1:g7 (fun l=>(((0 - b l:Int)):Rat)*u' (l+1)) n=0 - g7 (fun l=>((b l:Int):Rat)*y' l) n:=by
   have:g7 (fun l=>(((0 - b l:Int)):Rat)*u' (l+1)) n=g7 (fun l=>(-1:Rat)*(((b l:Int):Rat)*y' l)) n:=f7 fun l hl=>by
    rw [hu l hl];push_cast;grind
   rw [this,E4];grind
  rw [e1]
  have e2:((r*c:Int):Rat)=((r:Int):Rat)*((c:Int):Rat):=by push_cast;rfl
  rw [e2]
  constructor<;>intro h<;>grind
 let u:Nat->Rat:=fun l=>match l with|0=>φ|l+1=>y l
 have hu:∀l,l<n->u (l+1)=y l:=fun l _=>rfl
 have key:=a60 n (s+1) (e0::(List.range n).map E) u (fun e he=>?_) (fun e he=>?_) (fun u' hu'=>?_)
 ·exact key
 ·rcases List.mem_cons.1 he with rfl|he
  ·refine ⟨fun l hl=>?_,?_⟩
   ·cases l with
    |zero=>exact Nat.le_trans hqs (by omega)
    |succ l=>
     show bl (0 - b l)<=s+1
     have:=hb l (by omega)
     have h1:=b35 0 (b l)
     have h2:=t4 (x:=0) (by decide) (by decide)
     omega
   ·show bl (r*c)<=s+1
    rcases hc with h|h<;>rw [h]<;>simp
    ·exact Nat.le_trans (t4 (x:=0) (by decide) (by decide)) (by omega)
    ·omega
  ·obtain ⟨j,hj,rfl⟩:=List.mem_map.1 he
   have:=hEs j (List.mem_range.1 hj)
   exact ⟨this.1,this.2.1⟩
 ·rcases List.mem_cons.1 he with rfl|he
  ·exact (he0 y u hu).2 hφ
  ·obtain ⟨j,hj,rfl⟩:=List.mem_map.1 he
   have hj:=List.mem_range.1 hj
   exact ((hEs j hj).2.2 y u hu hy0).2 (hyF j hj)
 ·let y':Nat->Rat:=fun w=>if w<n then u' (w+1) else ((c:Int):Rat)*D0.V (w - n) - g7 (fun j=>D0.A (w - n) j*u' (j+1)) n
  have huy:∀l,l<n->u' (l+1)=y' l:=fun l hl=>by show _=if l<n then _ else _;rw [if_pos hl]
  have hy':Ids m n D0 y' ((c:Int):Rat):=by
   intro i hi
   rw [h0.o i hi]
   show (if n+i<n then _ else _)=_
   rw [if_neg (by omega),show n+i - n=i by omega]
   congr 1
   refine f7 fun j hj=>?_
   rw [h0.f j hj,huy j hj]
  have hyD':=(hI y' _).1 hy'
  have hF':∀j,j<n->y' (D.F j)=((t j:Int):Rat):=fun j hj=>((hEs j hj).2.2 y' u' huy hy').1 (hu' _ (List.mem_cons_of_mem _ (List.mem_map.2 ⟨j,List.mem_range.2 hj,rfl⟩)))
  have same:∀w,w<n+m->y' w=y w:=by
   intro w hw
   rcases hP.all w hw with ⟨i,hi,rfl⟩|⟨j,hj,rfl⟩
   ·rw [hyD' i hi,hyD i hi]
    congr 1
    exact f7 fun j hj=>by rw [hF' j hj,hyF j hj]
   ·rw [hF' j hj,hyF j hj]
  have h1:=(he0 y' u' huy).1 (hu' e0 (List.mem_cons_self))
  have h2:g7 (fun l=>((b l:Int):Rat)*y' l) n=g7 (fun l=>((b l:Int):Rat)*y l) n:=f7 fun l hl=>by rw [same l (by omega)]
  rw [h2,←hφ] at h1
  have hqn:((q:Int):Rat)≠0:=by intro h;exact hq (by exact_mod_cast h)
  show u' 0=φ
  have h3:((q:Int):Rat)*(u' 0 - φ)=0:=by grind
  have:=(Rat.mul_eq_zero.1 h3).resolve_left hqn
  grind
end
section
theorem b6H {m n s:Nat} {D0 D:Fd} (h0:aV4 m n s D0) (hs:1<=s) (hP:a0a m n D) (hI:∀y c,Ids m n D0 y c↔Ids m n D y c) {g0:Nat->Rat} {z:Rat} (hG:X3 n D g0 m z) {q:Int} {b:Nat->Int} (hq:q≠0) (hqs:bl q<=s) (hb:∀l,l<n->bl (b l)<=s) (hg:∀l,l<n->((q:Int):Rat)*g0 l=((b l:Int):Rat)) {j:Nat} (hj:j<n):rl (D.G j)<=2 ^ n*(s+2):=by
 have h1:=hG _ _ (V7 hP ((0:Int):Rat) (fun l=>(((if l=j then (1:Int) else 0):Int):Rat)))
 have e:g7 (fun l=>D.G l*a0b m n D ((0:Int):Rat) (fun l=>(((if l=j then (1:Int) else 0):Int):Rat)) (D.F l)) n=D.G j:=by
  rw [f7 (g:=fun l=>(((if l=j then (1:Int) else 0):Int):Rat)*D.G l) fun l hl=>by rw [a0f hP hl];grind,ab9 (u:=fun l=>D.G l) hj]
 rw [e] at h1
 refine aF1 h0 hs hP hI (c:=0) (t:=fun l=>if l=j then 1 else 0) (.inl rfl) (fun l=>by by_cases h:l=j;exact .inr (if_pos h);exact .inl (if_neg h)) (q:=q) (r:=0) (b:=b) hq hqs (Nat.le_trans (t4 (by decide) (by decide)) hs) hb ?_
 have e0:((0:Int):Rat)=0:=rfl
 have h2:D.G j=g7 (fun l=>g0 l*a0b m n D ((0:Int):Rat) (fun l=>(((if l=j then (1:Int) else 0):Int):Rat)) l) n:=by
  rw [h1];simp only [e0];grind
 rw [h2,←E4]
 have h3:g7 (fun l=>((b l:Int):Rat)*a0b m n D ((0:Int):Rat) (fun l=>(((if l=j then (1:Int) else 0):Int):Rat)) l) n=g7 (fun l=>((q:Int):Rat)*(g0 l*a0b m n D ((0:Int):Rat) (fun l=>(((if l=j then (1:Int) else 0):Int):Rat)) l)) n:=f7 fun l hl=>by rw [← hg l hl];grind
 rw [h3];grind
def b20 (m n:Nat) (y:Nat->Rat):Prop:=∀w,w<n+m->0<=y w
theorem aG3 {m n:Nat} {D:Fd} {g0:Nat->Rat} {z:Rat} (hP:a0a m n D) (hG:X3 n D g0 m z) (hv:∀i,i<m->0<=D.V i) (hg:∀j,j<n->D.G j<=0):
 (∃ y,Ids m n D y 1∧b20 m n y∧g7 (fun j=>g0 j*y j) n=z∧y=a0b m n D 1 (fun _=>0))∧∀y,Ids m n D y 1->b20 m n y->g7 (fun j=>g0 j*y j) n<=z:=by
 refine ⟨⟨_,V7 hP 1 (fun _=>0),fun w hw=>?_,?_,rfl⟩,fun y hy hp=>?_⟩
 ·rcases hP.all w hw with ⟨i,hi,rfl⟩|⟨j,hj,rfl⟩
  ·rw [a5s hP hi,v7 fun j hj=>by grind]
   have:=hv i hi;grind
  ·rw [a0f hP hj];grind
 ·rw [hG _ _ (V7 hP 1 (fun _=>0)),v7 fun j hj=>by rw [a0f hP hj];grind];grind
 ·rw [hG _ _ hy]
  have:g7 (fun j=>D.G j*y (D.F j)) n<=0:=a6J fun j hj=>by
   have h1:=hg j hj
   have h2:=hp (D.F j) (hP.fb j hj)
   have:=Rat.mul_nonneg (show 0<=-(D.G j) by grind) h2
   grind
  grind
theorem b5E {m n:Nat} {D:Fd} (hP:a0a m n D) {r:Nat} (hr:r<m) (hv:D.V r<0) (ha:∀j,j<n->0<=D.A r j):∀y,Ids m n D y 1->¬b20 m n y:=by
 intro y hy hp
 have h1:=hy r hr
 have h2:=hp (D.O r) (hP.ob r hr)
 have h3:0<=g7 (fun j=>D.A r j*y (D.F j)) n:=a1u fun j hj=>Rat.mul_nonneg (ha j hj) (hp _ (hP.fb j hj))
 grind
theorem b5N {m n:Nat} {D:Fd} {g0:Nat->Rat} {z:Rat} (hP:a0a m n D) (hG:X3 n D g0 m z) {s:Nat} (hs:s<n) (hg:0<D.G s) (ha:∀i,i<m->D.A i s<=0):
 ∃y,Ids m n D y 0∧b20 m n y∧0<g7 (fun j=>g0 j*y j) n∧y=a0b m n D 0 (fun j=>if j=s then 1 else 0):=by
 have hsum:∀f:Nat->Rat,g7 (fun j=>f j*(if j=s then (1:Rat) else 0)) n=f s:=fun f=>by
  rw [C0 hs,v7 fun j hj=>by by_cases h:j=s;simp only [h,if_true];simp only [if_neg h];grind]
  simp only [if_true];grind
 refine ⟨_,V7 hP 0 _,fun w hw=>?_,?_,rfl⟩
 ·rcases hP.all w hw with ⟨i,hi,rfl⟩|⟨j,hj,rfl⟩
  ·rw [a5s hP hi,hsum]
   have:=ha i hi;grind
  ·rw [a0f hP hj];split<;>grind
 ·rw [hG _ _ (V7 hP 0 _),f7 (g:=fun j=>D.G j*(if j=s then (1:Rat) else 0)) fun j hj=>by rw [a0f hP hj],hsum]
  grind
end
section
def M4 (l:List (Int × Rat)):Nat->Nat->Rat
 |0=>fun _=>0
 |k+1=>match l[k]? with
  |none=>M4 l k
  |some t=>fun j=>if j=t.1.toNat then t.2 else M4 l k j
def z7 (l:List (Int × Rat)):Nat->Rat:=M4 l l.length
theorem K7 {l:List (Int × Rat)} {k:Nat} {t:Int × Rat} (h:l[k]? =some t):M4 l (k+1)=fun j=>if j=t.1.toNat then t.2 else M4 l k j:=by rw [M4,h]
theorem a2H {l:List (Int × Rat)} {v:Nat}:∀k,(∀ i t,i<k->l[i]? =some t->t.1.toNat≠v)->M4 l k v=0
 |0,_=>rfl
 |k+1,h=>by
  have ih:=a2H (l:=l) (v:=v) k fun i t hi ht=>h i t (by omega) ht
  cases hk:l[k]? with
  |none=>rw [M4,hk];exact ih
  |some t=>
   rw [K7 hk]
   simp only
   rw [if_neg (fun e=>h k t (by omega) hk e.symm),ih]
theorem F6:∀{last n:Int} {l:List (Int × Rat)},g9 last n l=true->∀t ∈ l,last<t.1∧t.1<n∧t.2≠0
 |_,_,[],_,t,ht=>by cases ht
 |last,n,a::r,h,t,ht=>by
  unfold g9 at h
  simp only [Bool.and_eq_true,decide_eq_true_eq] at h
  rcases List.mem_cons.1 ht with rfl|ht
  ·exact ⟨h.1.1.1,h.1.1.2,h.1.2⟩
  ·have:=F6 h.2 t ht
   exact ⟨by omega,this.2⟩
theorem a3z:∀{last n:Int} {l:List (Int × Rat)},g9 last n l=true->∀(i j:Nat) (t u:Int × Rat),i<j->l[i]? =some t->l[j]? =some u->t.1<u.1
 |_,_,[],_,i,j,t,u,_,ht,_=>by simp at ht
 |last,n,a::r,h,i,j,t,u,hij,ht,hu=>by
  unfold g9 at h
  simp only [Bool.and_eq_true,decide_eq_true_eq] at h
  cases j with
  |zero=>omega
  |succ j=>
   simp only [List.getElem?_cons_succ] at hu
   cases i with
   |zero=>
    simp only [List.getElem?_cons_zero] at ht
    injection ht with ht;subst ht
    exact (F6 h.2 u (List.mem_of_getElem? hu)).1
   |succ i=>
    simp only [List.getElem?_cons_succ] at ht
    exact a3z h.2 i j t u (by omega) ht hu
theorem a5V {α:Type} {l:List α} {k:Nat} {x:α} (h:l[k]? =some x):l.take (k+1)=l.take k++[x]:=by rw [List.take_add_one,h];rfl
theorem aE5 {n:Nat} {l:List (Int × Rat)} (h:g9 (-1) (n:Int) l=true) (z:List Rat):∀k,k<=l.length->k9 (l.take k) z=g7 (fun j=>M4 l k j*z.getD j 0) n
 |0,_=>by
  rw [List.take_zero,v7 fun j hj=>by show (0:Rat)*_=0;grind]
  rfl
 |k+1,hk=>by
  have ih:=aE5 h z k (by omega)
  obtain ⟨t,ht⟩:∃t,l[k]? =some t:=⟨_,List.getElem?_eq_getElem (by omega)⟩
  have hm:=F6 h t (List.mem_of_getElem? ht)
  have hv:t.1.toNat<n:=by omega
  have h0:M4 l k t.1.toNat=0:=a2H k fun i u hi hu=>by
   have:=a3z h i k u t hi hu ht
   have h2:=F6 h u (List.mem_of_getElem? hu)
   omega
  rw [a5V ht,T2,ih,K7 ht]
  rw [C0 (f:=fun j=>(if j=t.1.toNat then t.2 else M4 l k j)*z.getD j 0) hv,C0 (f:=fun j=>M4 l k j*z.getD j 0) hv]
  simp only [if_true,h0]
  rw [f7 (f:=fun j=>if j=t.1.toNat then 0 else (if j=t.1.toNat then t.2 else M4 l k j)*z.getD j 0) (g:=fun j=>if j=t.1.toNat then 0 else M4 l k j*z.getD j 0) fun j hj=>by
   by_cases hj:j=t.1.toNat
   ·rw [if_pos hj,if_pos hj]
   ·rw [if_neg hj,if_neg hj,if_neg hj]]
  grind
theorem O2 {n:Nat} {l:List (Int × Rat)} (h:g9 (-1) (n:Int) l=true) (z:List Rat):k9 l z=g7 (fun j=>z7 l j*z.getD j 0) n:=by
 have:=aE5 h z l.length (Nat.le_refl _)
 rw [List.take_length] at this
 exact this
def L7 (s:g8):Nat->List (Nat × Bool)
 |0=>[]
 |k+1=>match s.rows[k]? with
  |none=>L7 s k
  |some w=>L7 s k++(if w.kind≠0 then [(k,false)] else [])++(if w.kind≠1 then [(k,true)] else [])
def g4 (s:g8):List (Nat × Bool):=L7 s s.rows.length
def U4 (b:Bool) (x:Rat):Rat:=if b then -x else x
def a3N (s:g8) (f:Nat × Bool):Rat:=match s.rows[f.1]? with
 |none=>0
 |some w=>U4 f.2 w.value
def a29 (s:g8) (f:Nat × Bool) (j:Nat):Rat:=match s.rows[f.1]? with
 |none=>0
 |some w=>U4 f.2 (z7 w.terms j)
def i5 (s:g8) (g:List (Int × Rat)):Fd where
 V:=fun i=>a3N s ((g4 s).getD i (0,false))
 A:=fun i j=>a29 s ((g4 s).getD i (0,false)) j
 G:=fun j=>-(z7 g j)
 O:=fun i=>s.n.toNat+i
 F:=fun j=>j
theorem an4 {s:g8} {f:Nat × Bool}:∀k,f ∈ L7 s k↔f.1<k∧∃w,s.rows[f.1]? =some w∧(f.2=false->w.kind≠0)∧(f.2=true->w.kind≠1)
 |0=>by simp [L7]
 |k+1=>by
  have ih:=an4 (s:=s) (f:=f) k
  unfold L7
  cases hw:s.rows[k]? with
  |none=>
   simp only
   rw [ih]
   constructor
   ·rintro ⟨h1,h2⟩;exact ⟨by omega,h2⟩
   ·rintro ⟨h1,w,h2,h3⟩
    refine ⟨?_,w,h2,h3⟩
    by_cases he:f.1=k
    ·rw [he,hw] at h2;cases h2
    ·omega
  |some w=>
   simp only
   rw [List.mem_append,List.mem_append,ih]
   obtain ⟨a,b⟩:=f
   simp only
   constructor
   ·rintro ((⟨h1,h2⟩|h)|h)
    ·exact ⟨by omega,h2⟩
    ·split at h
     ·rename_i hk
      simp at h
      obtain ⟨rfl,rfl⟩:=h
      exact ⟨by omega,w,hw,fun _=>hk,fun h=>by cases h⟩
     ·simp at h
    ·split at h
     ·rename_i hk
      simp at h
      obtain ⟨rfl,rfl⟩:=h
      exact ⟨by omega,w,hw,fun h=>(by cases h),fun _=>hk⟩
     ·simp at h
   ·rintro ⟨h1,w',h2,h3,h4⟩
    by_cases he:a=k
    ·subst he
     rw [hw] at h2;injection h2 with h2;subst h2
     cases b with
     |false=>rw [if_pos (h3 rfl)];simp
     |true=>rw [if_pos (h4 rfl)];simp
    ·exact .inl (.inl ⟨by omega,w',h2,h3,h4⟩)
theorem Y6 {s:g8} {f:Nat × Bool}:f ∈ g4 s↔∃w,s.rows[f.1]? =some w∧(f.2=false->w.kind≠0)∧(f.2=true->w.kind≠1):=by
 unfold g4
 rw [an4]
 constructor
 ·rintro ⟨_,h⟩;exact h
 ·rintro ⟨w,h⟩;exact ⟨(List.getElem?_eq_some_iff.1 h.1).1,w,h⟩
theorem aS9 {s:g8} {g:List (Int × Rat)}:a0a (g4 s).length s.n.toNat (i5 s g) where
 oi:=fun i i' _ _ h=>by have:s.n.toNat+i=s.n.toNat+i':=h;omega
 fi:=fun j j' _ _ h=>h
 of:=fun i j _ hj h=>by have:s.n.toNat+i=j:=h;omega
 all:=fun w hw=>by
  by_cases h:w<s.n.toNat
  ·exact .inr ⟨w,h,rfl⟩
  ·exact .inl ⟨w - s.n.toNat,by omega,by show s.n.toNat+(w - s.n.toNat)=w;omega⟩
 ob:=fun i hi=>by show s.n.toNat+i<_;omega
 fb:=fun j hj=>by show j<_;omega
theorem aR4 {s:g8} {g:List (Int × Rat)}:X3 s.n.toNat (i5 s g) (fun j=>-(z7 g j)) (g4 s).length 0:=by
 intro y c _
 have:c*(0:Rat)=0:=by grind
 rw [this]
 have e:g7 (fun j=>(i5 s g).G j*y ((i5 s g).F j)) s.n.toNat=g7 (fun j=>-(z7 g j)*y j) s.n.toNat:=rfl
 rw [e];grind
def a5P (s:g8) (g:List (Int × Rat)) (z:List Rat) (w:Nat):Rat:=if w<s.n.toNat then z.getD w 0 else (i5 s g).V (w - s.n.toNat) - g7 (fun j=>(i5 s g).A (w - s.n.toNat) j*z.getD j 0) s.n.toNat
theorem b01 {s:g8} {g:List (Int × Rat)} (z:List Rat):Ids (g4 s).length s.n.toNat (i5 s g) (a5P s g z) 1:=by
 intro i hi
 show a5P s g z (s.n.toNat+i)=_
 unfold a5P
 rw [if_neg (by omega),show s.n.toNat+i - s.n.toNat=i by omega]
 have:(1:Rat)*(i5 s g).V i=(i5 s g).V i:=by grind
 rw [this]
 congr 1
 refine f7 fun j hj=>?_
 show _=(i5 s g).A i j*(if j<s.n.toNat then z.getD j 0 else _)
 rw [if_pos hj]
theorem al6 {s:g8} {g:List (Int × Rat)} (hr:j0 s=true) {z:List Rat} {i:Nat} {f:Nat × Bool} {w:D9} (hf:(g4 s)[i]? =some f) (hw:s.rows[f.1]? =some w):a5P s g z (s.n.toNat+i)=U4 f.2 (w.value - k9 w.terms z):=by
 unfold a5P
 rw [if_neg (by omega),show s.n.toNat+i - s.n.toNat=i by omega]
 have hfd:(g4 s).getD i (0,false)=f:=by rw [List.getD_eq_getElem?_getD,hf];rfl
 show a3N s ((g4 s).getD i (0,false)) - g7 (fun j=>a29 s ((g4 s).getD i (0,false)) j*z.getD j 0) s.n.toNat=_
 rw [hfd]
 have hrow:w7 s.n w=true:=by
  unfold j0 at hr
  simp only [Bool.and_eq_true,decide_eq_true_eq,List.all_eq_true] at hr
  exact hr.2 w (List.mem_of_getElem? hw)
 have hn:(s.n.toNat:Int)=s.n:=by
  unfold j0 at hr
  simp only [Bool.and_eq_true,decide_eq_true_eq] at hr
  omega
 unfold w7 at hrow
 simp only [Bool.and_eq_true,decide_eq_true_eq] at hrow
 have hrt:=hrow.1.1
 rw [← hn] at hrt
 have e1:a3N s f=U4 f.2 w.value:=by unfold a3N;rw [hw]
 have e2:∀j,a29 s f j=U4 f.2 (z7 w.terms j):=fun j=>by unfold a29;rw [hw]
 rw [e1,O2 hrt z]
 cases hb:f.2 with
 |false=>
  rw [f7 (g:=fun j=>z7 w.terms j*z.getD j 0) fun j hj=>by rw [e2 j,hb];rfl]
  rfl
 |true=>
  rw [f7 (g:=fun j=>(-1:Rat)*(z7 w.terms j*z.getD j 0)) fun j hj=>by rw [e2 j,hb];show -(z7 w.terms j)*_=_;grind,E4]
  show -w.value - _=-(w.value - _)
  grind
theorem first_holds {s:g8} {g:List (Int × Rat)} (hr:j0 s=true) {z:List Rat} (hl:(z.length:Int)=s.n):j7 s z=true↔b20 (g4 s).length s.n.toNat (a5P s g z):=by
 have hn:z.length=s.n.toNat:=by omega
 unfold j7
 rw [hr,decide_eq_true hl]
 simp only [Bool.true_and,Bool.and_eq_true,List.all_eq_true,decide_eq_true_eq]
 constructor
 ·rintro ⟨h1,h2⟩ w hw
  by_cases hv:w<s.n.toNat
  ·unfold a5P
   rw [if_pos hv,List.getD_eq_getElem?_getD,List.getElem?_eq_getElem (by omega)]
   exact h1 _ (List.getElem_mem _)
  ·obtain ⟨i,rfl⟩:∃i,w=s.n.toNat+i:=⟨w - s.n.toNat,by omega⟩
   have hi:i<(g4 s).length:=by omega
   obtain ⟨f,hf⟩:∃f,(g4 s)[i]? =some f:=⟨_,List.getElem?_eq_getElem hi⟩
   obtain ⟨x,hx,hk1,hk2⟩:=Y6.1 (List.mem_of_getElem? hf)
   rw [al6 hr hf hx]
   have hb:=h2 x (List.mem_of_getElem? hx)
   unfold Q0 at hb
   simp only [Bool.not_eq_true',Bool.or_eq_false_iff,Bool.and_eq_false_iff,decide_eq_false_iff_not] at hb
   cases hfb:f.2 with
   |false=>
    have:=hk1 hfb
    show 0<=x.value - k9 x.terms z
    rcases hb.2 with h|h
    ·grind
    ·exact absurd this h
   |true=>
    have:=hk2 hfb
    show 0<=-(x.value - k9 x.terms z)
    rcases hb.1 with h|h
    ·grind
    ·exact absurd this h
 ·intro hp
  refine ⟨fun v hv=>?_,fun x hx=>?_⟩
  ·obtain ⟨j,hj,rfl⟩:=List.getElem_of_mem hv
   have:=hp j (by omega)
   unfold a5P at this
   rw [if_pos (by omega),List.getD_eq_getElem?_getD,List.getElem?_eq_getElem hj] at this
   exact this
  ·obtain ⟨k,hk,hkx⟩:=List.getElem_of_mem hx
   have hxk:s.rows[k]? =some x:=by rw [List.getElem?_eq_getElem hk,hkx]
   have side:∀b:Bool,(b=false->x.kind≠0)->(b=true->x.kind≠1)->0<=U4 b (x.value - k9 x.terms z):=by
    intro b h1 h2
    have hm:((k,b):Nat × Bool) ∈ g4 s:=Y6.2 ⟨x,hxk,h1,h2⟩
    obtain ⟨i,hi,hif⟩:=List.getElem_of_mem hm
    have hf:(g4 s)[i]? =some (k,b):=by rw [List.getElem?_eq_getElem hi,hif]
    have:=hp (s.n.toNat+i) (by omega)
    rw [al6 hr hf hxk] at this
    exact this
   unfold Q0
   simp only [Bool.not_eq_true',Bool.or_eq_false_iff,Bool.and_eq_false_iff,decide_eq_false_iff_not]
   constructor
   ·by_cases h:x.kind≠1
    ·left
     have:=side true (fun h=>by cases h) (fun _=>h)
     have h2:0<=-(x.value - k9 x.terms z):=this
     grind
    ·right;exact h
   ·by_cases h:x.kind≠0
    ·left
     have:=side false (fun _=>h) (fun h=>by cases h)
     have h2:0<=x.value - k9 x.terms z:=this
     grind
    ·right;exact h
end
section
def a9x (B:Nat) (w:D9):Prop:=(∀ t ∈ w.terms,∃c:Int,t.2=((c:Int):Rat)∧bl c<=1)∧rl w.value<=B
theorem a1h {l:List (Int × Rat)} (h:∀t ∈ l,∃c:Int,t.2=((c:Int):Rat)∧bl c<=1):∀(k j:Nat),∃c:Int,M4 l k j=((c:Int):Rat)∧bl c<=1
 |0,j=>⟨0,rfl,t4 (by decide) (by decide)⟩
 |k+1,j=>by
  cases hk:l[k]? with
  |none=>rw [M4,hk];exact a1h h k j
  |some t=>
   rw [K7 hk]
   simp only
   split
   ·exact h t (List.mem_of_getElem? hk)
   ·exact a1h h k j
theorem b6Z {b:Bool} {x:Rat} {c:Int} (h:x=((c:Int):Rat)):∃c':Int,U4 b x=((c':Int):Rat)∧bl c'=bl c:=by
 cases b with
 |false=>exact ⟨c,h,rfl⟩
 |true=>exact ⟨-c,by show -x=_;rw [h];push_cast;rfl,a8Z c⟩
end
section
instance:Inhabited Fd:=⟨⟨fun _=>0,fun _ _=>0,fun _=>0,fun _=>0,fun _=>0⟩⟩
structure a5Q (m n:Nat) (D0:Fd) (g0:Nat->Rat) (D:Fd):Prop where
 p:a0a m n D
 i:∀y c,Ids m n D0 y c↔Ids m n D y c
 g:∃z,X3 n D g0 m z
theorem b3b {m n r s:Nat} {D0 D:Fd} {g0:Nat->Rat} (h:a5Q m n D0 g0 D) (hs:C7 m n D=.next r s):a5Q m n D0 g0 (D.exch r s):=by
 obtain ⟨hr,hsn,hb⟩:=a5h hs
 have hp:=a79 hb
 obtain ⟨z,hz⟩:=h.g
 exact ⟨an7 hr hsn h.p,fun y c=>(h.i y c).trans (ac4 hr hsn hp),_,ap5 hr hsn hp hz⟩
def W5 (m n:Nat) (D0 D:Fd):Prop:=∃k,itS m n k D0=some D
theorem aQ2 {m n:Nat} {D0:Fd}:W5 m n D0 D0:=⟨0,rfl⟩
theorem ah7 {m n:Nat} {D0 D D':Fd} (h:W5 m n D0 D) (hn:G1 m n D=some D'):W5 m n D0 D':=by
 obtain ⟨k,hk⟩:=h
 exact ⟨k+1,by rw [a02,hk];exact hn⟩
theorem a2N {m n:Nat} {D0:Fd} {g0:Nat->Rat} (h0:a5Q m n D0 g0 D0):∀{k:Nat} {D:Fd},itS m n k D0=some D->a5Q m n D0 g0 D
 |0,D,h=>by injection h with h;subst h;exact h0
 |k+1,D,h=>by
  rw [a02] at h
  cases hk:itS m n k D0 with
  |none=>rw [hk] at h;cases h
  |some D1=>
   rw [hk] at h
   have h:G1 m n D1=some D:=h
   obtain ⟨r,s,hs,rfl⟩:=a5E h
   exact b3b (a2N h0 hk) hs
theorem aa6 {m n:Nat} {D0:Fd} {k:Nat} (h:itS m n k D0=none):∀j,itS m n (k+j) D0=none
 |0=>h
 |j+1=>by rw [show k+(j+1)=(k+j)+1 by omega,a02,aa6 h j];rfl
theorem aX0 {m n:Nat} {D0 D D':Fd} (h:W5 m n D0 D) (hn:G1 m n D=none) (h':W5 m n D0 D') (hn':G1 m n D'=none):D=D':=by
 obtain ⟨k,hk⟩:=h
 obtain ⟨l,hl⟩:=h'
 have a1:itS m n (k+1) D0=none:=by rw [a02,hk];exact hn
 have a2:itS m n (l+1) D0=none:=by rw [a02,hl];exact hn'
 have hkl:k=l:=by
  rcases Nat.lt_trichotomy k l with h|h|h
  ·have:=aa6 a1 (l - (k+1))
   rw [show k+1+(l - (k+1))=l by omega,hl] at this;cases this
  ·exact h
  ·have:=aa6 a2 (k - (l+1))
   rw [show l+1+(k - (l+1))=k by omega,hk] at this;cases this
 subst hkl
 rw [hk] at hl;injection hl
theorem b8b {m n:Nat} {D0:Fd} {g0:Nat->Rat} (h0:a5Q m n D0 g0 D0):∃D,W5 m n D0 D∧G1 m n D=none:=by
 obtain ⟨k,hk,hmin⟩:=a1s (fun k=>itS m n k D0=none) (b7j h0.p h0.g)
 cases k with
 |zero=>cases hk
 |succ k=>
  cases hk':itS m n k D0 with
  |none=>have:=hmin k hk';omega
  |some D=>
   rw [a02,hk'] at hk
   exact ⟨D,⟨k,hk'⟩,hk⟩
noncomputable def a9j (m n:Nat) (D0:Fd):Fd:=Classical.epsilon fun D=>W5 m n D0 D∧G1 m n D=none
theorem a4h {m n:Nat} {D0:Fd} {g0:Nat->Rat} (h0:a5Q m n D0 g0 D0):W5 m n D0 (a9j m n D0)∧G1 m n (a9j m n D0)=none:=Classical.epsilon_spec (b8b h0)
theorem b8f {m n:Nat} {D0 D:Fd} {g0:Nat->Rat} (h0:a5Q m n D0 g0 D0) (h:W5 m n D0 D) (hn:G1 m n D=none):D=a9j m n D0:=aX0 h hn (a4h h0).1 (a4h h0).2
theorem b6E {m n:Nat} {D0:Fd} {g0:Nat->Rat} (h0:a5Q m n D0 g0 D0):a5Q m n D0 g0 (a9j m n D0):=by
 obtain ⟨k,hk⟩:=(a4h h0).1
 exact a2N h0 hk
theorem am2 {m n:Nat} {D:Fd} (h:C7 m n D=.best):(∀ i,i<m->0<=D.V i)∧∀j,j<n->D.G j<=0:=by
 unfold C7 at h
 split at h
 ·rename_i h1 h2
  refine ⟨fun i hi=>?_,fun j hj=>?_⟩
  ·have:=a0M h1 i hi;simp at this;grind
  ·have:=a0M h2 j hj;simp at this;grind
 ·unfold a12 at h;split at h<;>cases h
 ·unfold a14 at h;split at h<;>cases h
 ·split at h
  ·unfold a12 at h;split at h<;>cases h
  ·unfold a14 at h;split at h<;>cases h
theorem ao8 {n r r':Nat} {D:Fd} (h:a12 n D r=.row r'):r'=r∧∀j,j<n->0<=D.A r j:=by
 unfold a12 at h
 split at h
 ·rename_i h1
  injection h with h
  exact ⟨h.symm,fun j hj=>by have:=a0M h1 j hj;simp at this;grind⟩
 ·cases h
theorem al7 {m s s':Nat} {D:Fd} (h:a14 m D s=.col s'):s'=s∧∀i,i<m->D.A i s<=0:=by
 unfold a14 at h
 split at h
 ·rename_i h1
  injection h with h
  exact ⟨h.symm,fun i hi=>by have:=a0M h1 i hi;simp at this;grind⟩
 ·cases h
theorem b3e {m n r:Nat} {D:Fd} (h:C7 m n D=.row r):r<m∧D.V r<0∧∀j,j<n->0<=D.A r j:=by
 unfold C7 at h
 split at h
 ·cases h
 ·rename_i r0 h1 h2
  obtain ⟨rfl,h4⟩:=ao8 h
  have h3:=H7 h1
  exact ⟨h3.1,by simpa using h3.2.1,h4⟩
 ·unfold a14 at h;split at h<;>cases h
 ·rename_i r0 s0 h1 h2
  split at h
  ·obtain ⟨rfl,h4⟩:=ao8 h
   have h3:=H7 h1
   exact ⟨h3.1,by simpa using h3.2.1,h4⟩
  ·unfold a14 at h;split at h<;>cases h
theorem a6Q {m n s:Nat} {D:Fd} (h:C7 m n D=.col s):s<n∧0<D.G s∧∀i,i<m->D.A i s<=0:=by
 unfold C7 at h
 split at h
 ·cases h
 ·unfold a12 at h;split at h<;>cases h
 ·rename_i s0 h1 h2
  obtain ⟨rfl,h4⟩:=al7 h
  have h3:=H7 h2
  exact ⟨h3.1,by simpa using h3.2.1,h4⟩
 ·rename_i r0 s0 h1 h2
  split at h
  ·unfold a12 at h;split at h<;>cases h
  ·obtain ⟨rfl,h4⟩:=al7 h
   have h3:=H7 h2
   exact ⟨h3.1,by simpa using h3.2.1,h4⟩
theorem b3B {m n:Nat} {D:Fd} (h:G1 m n D=none):C7 m n D=.best∨(∃ r,C7 m n D=.row r)∨∃s,C7 m n D=.col s:=by
 unfold G1 at h
 cases hs:C7 m n D with
 |best=>exact .inl rfl
 |row r=>exact .inr (.inl ⟨r,rfl⟩)
 |col s=>exact .inr (.inr ⟨s,rfl⟩)
 |next r s=>rw [hs] at h;cases h
end
section
def zOf (n:Nat) (y:Nat->Rat):List Rat:=(List.range n).map y
theorem T3 {n:Nat} {y:Nat->Rat}:(zOf n y).length=n:=by simp [zOf]
theorem a7d {n:Nat} {y:Nat->Rat} {j:Nat} (h:j<n):(zOf n y).getD j 0=y j:=by simp [zOf,List.getD_eq_getElem?_getD,h]
theorem a4S {n:Nat} {y:Nat->Rat} {v:Rat} (h:v ∈ zOf n y):∃j,j<n∧v=y j:=by
 obtain ⟨j,hj,rfl⟩:=List.mem_map.1 h
 exact ⟨j,List.mem_range.1 hj,rfl⟩
theorem aI2 {n:Nat} {l:List (Int × Rat)} (h:g9 (-1) (n:Int) l=true) (y:Nat->Rat):k9 l (zOf n y)=g7 (fun j=>z7 l j*y j) n:=by
 rw [O2 h];exact f7 fun j hj=>by rw [a7d hj]
theorem a0P {s:g8} (hr:j0 s=true):((s.n.toNat:Nat):Int)=s.n:=by
 unfold j0 at hr
 simp only [Bool.and_eq_true,decide_eq_true_eq] at hr
 omega
theorem Z8 {s:g8} (hr:j0 s=true) {i:Nat} {w:D9} (hw:s.rows[i]? =some w):g9 (-1) ((s.n.toNat:Nat):Int) w.terms=true∧0<=w.kind∧w.kind<3:=by
 rw [a0P hr]
 unfold j0 at hr
 simp only [Bool.and_eq_true,List.all_eq_true] at hr
 have:=hr.2 w (List.mem_of_getElem? hw)
 unfold w7 at this
 simp only [Bool.and_eq_true,decide_eq_true_eq] at this
 exact ⟨this.1.1,this.1.2,this.2⟩
theorem b5n {s:g8} {g:List (Int × Rat)} (hr:j0 s=true) {y:Nat->Rat} {c:Rat} (hy:Ids (g4 s).length s.n.toNat (i5 s g) y c) {i k:Nat} {b:Bool} {w:D9}
 (hf:(g4 s)[i]? =some (k,b)) (hw:s.rows[k]? =some w):y (s.n.toNat+i)=U4 b (c*w.value - k9 w.terms (zOf s.n.toNat y)):=by
 have hi:i<(g4 s).length:=(List.getElem?_eq_some_iff.1 hf).1
 have h1:y (s.n.toNat+i)=c*(i5 s g).V i - g7 (fun j=>(i5 s g).A i j*y j) s.n.toNat:=hy i hi
 have hd:(g4 s).getD i (0,false)=(k,b):=by rw [List.getD_eq_getElem?_getD,hf];rfl
 have hV:(i5 s g).V i=U4 b w.value:=by show a3N s ((g4 s).getD i (0,false))=_;rw [hd];unfold a3N;simp only [hw]
 have hA:∀j,(i5 s g).A i j=U4 b (z7 w.terms j):=fun j=>by show a29 s ((g4 s).getD i (0,false)) j=_;rw [hd];unfold a29;simp only [hw]
 rw [h1,hV,aI2 (Z8 hr hw).1]
 cases b with
 |false=>rw [f7 (g:=fun j=>z7 w.terms j*y j) fun j hj=>by rw [hA j];rfl];rfl
 |true=>
  rw [f7 (g:=fun j=>(-1:Rat)*(z7 w.terms j*y j)) fun j hj=>by rw [hA j];show -(z7 w.terms j)*_=_;grind,E4]
  show c*-w.value - _=-(c*w.value - _)
  grind
noncomputable def z9 (s:g8) (g:List (Int × Rat)):Fd:=a9j (g4 s).length s.n.toNat (i5 s g)
noncomputable def a0W (s:g8) (g:List (Int × Rat)):b2B:=C7 (g4 s).length s.n.toNat (z9 s g)
theorem a2E {s:g8} {g:List (Int × Rat)}:a5Q (g4 s).length s.n.toNat (i5 s g) (fun j=>-(z7 g j)) (i5 s g):=⟨aS9,fun _ _=>Iff.rfl,0,aR4⟩
theorem S4 {s:g8} {g:List (Int × Rat)}:a5Q (g4 s).length s.n.toNat (i5 s g) (fun j=>-(z7 g j)) (z9 s g):=b6E a2E
theorem ar0 (s:g8) (g:List (Int × Rat)):a0W s g=.best∨(∃ r,a0W s g=.row r)∨∃c,a0W s g=.col c:=b3B (a4h a2E).2
noncomputable def B8 (s:g8) (g:List (Int × Rat)):List Rat:=zOf s.n.toNat (a0b (g4 s).length s.n.toNat (z9 s g) 1 (fun _=>0))
noncomputable def a5p (s:g8) (g:List (Int × Rat)) (c:Nat):List Rat:=zOf s.n.toNat (a0b (g4 s).length s.n.toNat (z9 s g) 0 (fun j=>if j=c then 1 else 0))
theorem aZ1 {s:g8} {g:List (Int × Rat)} {y:Nat->Rat} (hy:Ids (g4 s).length s.n.toNat (i5 s g) y 1):∀w,w<s.n.toNat+(g4 s).length->a5P s g (zOf s.n.toNat y) w=y w:=by
 intro w hw
 unfold a5P
 split
 ·rename_i h;exact a7d h
 ·have h1:y (s.n.toNat+(w - s.n.toNat))=1*(i5 s g).V (w - s.n.toNat) - g7 (fun j=>(i5 s g).A (w - s.n.toNat) j*y j) s.n.toNat:=hy (w - s.n.toNat) (by omega)
  rw [show s.n.toNat+(w - s.n.toNat)=w by omega] at h1
  rw [h1,f7 (g:=fun j=>(i5 s g).A (w - s.n.toNat) j*y j) fun j hj=>by rw [a7d hj]]
  grind
theorem b1W {s:g8} {g:List (Int × Rat)} (hr:j0 s=true) {y:Nat->Rat} (hy:Ids (g4 s).length s.n.toNat (i5 s g) y 1) (hp:b20 (g4 s).length s.n.toNat y):j7 s (zOf s.n.toNat y)=true:=by
 refine (first_holds (g:=g) hr (by rw [T3];exact a0P hr)).2 fun w hw=>?_
 rw [aZ1 hy w hw];exact hp w hw
theorem O8 {s:g8} {z:List Rat} (h:j7 s z=true):j0 s=true∧(z.length:Int)=s.n:=by
 unfold j7 at h
 simp only [Bool.and_eq_true,decide_eq_true_eq] at h
 exact ⟨h.1.1.1,h.1.1.2⟩
theorem a9U {s:g8} {g:List (Int × Rat)} (hg:g9 (-1) ((s.n.toNat:Nat):Int) g=true) (z:List Rat):g7 (fun j=>-(z7 g j)*a5P s g z j) s.n.toNat=-(k9 g z):=by
 rw [O2 hg z,f7 (g:=fun j=>(-1:Rat)*(z7 g j*z.getD j 0)) fun j hj=>by
  have:a5P s g z j=z.getD j 0:=by unfold a5P;rw [if_pos hj]
  rw [this];grind,E4]
 grind
theorem a2J {s:g8} {g:List (Int × Rat)} (hr:j0 s=true) (hg:g9 (-1) ((s.n.toNat:Nat):Int) g=true) (h:a0W s g=.best):
 j7 s (B8 s g)=true∧∀z,j7 s z=true->k9 g (B8 s g)<=k9 g z:=by
 obtain ⟨hv,hgj⟩:=am2 h
 have hi:=S4 (s:=s) (g:=g)
 obtain ⟨v,hv'⟩:=hi.g
 obtain ⟨⟨y,h1,h2,h3,h4⟩,h5⟩:=aG3 hi.p hv' hv hgj
 have h1':=(hi.i y 1).2 h1
 have e:B8 s g=zOf s.n.toNat y:=by unfold B8;rw [h4]
 rw [e]
 refine ⟨b1W hr h1' h2,fun z hz=>?_⟩
 have hx:=h5 (a5P s g z) ((hi.i _ 1).1 (b01 z)) ((first_holds hr (O8 hz).2).1 hz)
 rw [a9U hg z] at hx
 have h6:g7 (fun j=>-(z7 g j)*y j) s.n.toNat=-(k9 g (zOf s.n.toNat y)):=by
  rw [← a9U hg]
  exact f7 fun j hj=>by rw [aZ1 h1' j (by omega)]
 rw [h6] at h3
 grind
theorem b19 {s:g8} {g:List (Int × Rat)} {r:Nat} (h:a0W s g=.row r):∀z,j7 s z=false:=by
 intro z
 cases hz:j7 s z with
 |false=>rfl
 |true=>
  obtain ⟨hr1,hv,ha⟩:=b3e h
  have hi:=S4 (s:=s) (g:=g)
  exact absurd ((first_holds (O8 hz).1 (O8 hz).2).1 hz) (b5E hi.p hr1 hv ha (a5P s g z) ((hi.i _ 1).1 (b01 z)))
structure b8Z (s:g8) (d:List Rat):Prop where
 len:d.length=s.n.toNat
 pos:∀v ∈ d,0<=v
 up:∀(k:Nat) (w:D9),s.rows[k]? =some w->w.kind≠0->k9 w.terms d<=0
 down:∀(k:Nat) (w:D9),s.rows[k]? =some w->w.kind≠1->0<=k9 w.terms d
theorem av3 {s:g8} {g:List (Int × Rat)} {c:Nat} (hr:j0 s=true) (hg:g9 (-1) ((s.n.toNat:Nat):Int) g=true) (h:a0W s g=.col c):b8Z s (a5p s g c)∧k9 g (a5p s g c)<0:=by
 obtain ⟨hc,hgc,ha⟩:=a6Q h
 have hi:=S4 (s:=s) (g:=g)
 obtain ⟨v,hv⟩:=hi.g
 obtain ⟨y,h1,h2,h3,h4⟩:=b5N hi.p hv hc hgc ha
 have h1':=(hi.i y 0).2 h1
 have e:a5p s g c=zOf s.n.toNat y:=by unfold a5p;rw [h4]
 rw [e]
 have side:∀(k:Nat) (w:D9) (b:Bool),s.rows[k]? =some w->(b=false->w.kind≠0)->(b=true->w.kind≠1)->0<=U4 b (-(k9 w.terms (zOf s.n.toNat y))):=by
  intro k w b hw hb1 hb2
  have hm:((k,b):Nat × Bool) ∈ g4 s:=Y6.2 ⟨w,hw,hb1,hb2⟩
  obtain ⟨i,hil,hif⟩:=List.getElem_of_mem hm
  have hf:(g4 s)[i]? =some (k,b):=by rw [List.getElem?_eq_getElem hil,hif]
  have:=b5n hr h1' hf hw
  have hp:=h2 (s.n.toNat+i) (by omega)
  rw [this] at hp
  have e2:(0:Rat)*w.value - k9 w.terms (zOf s.n.toNat y)=-(k9 w.terms (zOf s.n.toNat y)):=by grind
  rw [e2] at hp;exact hp
 refine ⟨⟨T3,fun v hv=>?_,fun k w hw hk=>?_,fun k w hw hk=>?_⟩,?_⟩
 ·obtain ⟨j,hj,rfl⟩:=a4S hv
  exact h2 j (by omega)
 ·have:0<=-(k9 w.terms (zOf s.n.toNat y)):=side k w false hw (fun _=>hk) (fun h=>by cases h)
  grind
 ·have:0<=-(-(k9 w.terms (zOf s.n.toNat y))):=side k w true hw (fun h=>by cases h) (fun _=>hk)
  grind
 ·rw [aI2 hg,f7 (g:=fun j=>(-1:Rat)*(-(z7 g j)*y j)) fun j hj=>by grind,E4]
  grind
def Y9 (x d:List Rat):List Rat:=List.zipWith (·+·) x d
theorem a1O {x d:List Rat} {n:Nat} (hx:x.length=n) (hd:d.length=n):(Y9 x d).length=n:=by simp [Y9,hx,hd]
theorem a5f {x d:List Rat} {n j:Nat} (hx:x.length=n) (hd:d.length=n) (hj:j<n):(Y9 x d).getD j 0=x.getD j 0+d.getD j 0:=by
 simp only [Y9,List.getD_eq_getElem?_getD,List.getElem?_zipWith]
 rw [List.getElem?_eq_getElem (show j<x.length by omega),List.getElem?_eq_getElem (show j<d.length by omega)]
 rfl
theorem a2B {x d:List Rat} {n:Nat} {l:List (Int × Rat)} (hx:x.length=n) (hd:d.length=n) (h:g9 (-1) (n:Int) l=true):k9 l (Y9 x d)=k9 l x+k9 l d:=by
 rw [O2 h,O2 h,O2 h,←a0z]
 exact f7 fun j hj=>by rw [a5f hx hd hj];grind
theorem b57 {w:D9} {z:List Rat}:Q0 w z=true↔(w.kind≠1->w.value<=k9 w.terms z)∧(w.kind≠0->k9 w.terms z<=w.value):=by
 unfold Q0
 simp only [Bool.not_eq_true',Bool.or_eq_false_iff,Bool.and_eq_false_iff,decide_eq_false_iff_not,Rat.not_lt]
 constructor
 ·rintro ⟨h1,h2⟩
  exact ⟨fun h=>h1.elim id fun h'=>absurd h h',fun h=>h2.elim id fun h'=>absurd h h'⟩
 ·rintro ⟨h1,h2⟩
  refine ⟨?_,?_⟩
  ·by_cases h:w.kind≠1
   ·exact .inl (h1 h)
   ·exact .inr h
  ·by_cases h:w.kind≠0
   ·exact .inl (h2 h)
   ·exact .inr h
theorem a0r {s:g8} {z:List Rat}:j7 s z=true↔j0 s=true∧(z.length:Int)=s.n∧(∀ v ∈ z,0<=v)∧∀w ∈ s.rows,(w.kind≠1->w.value<=k9 w.terms z)∧(w.kind≠0->k9 w.terms z<=w.value):=by
 unfold j7
 simp only [Bool.and_eq_true,decide_eq_true_eq,List.all_eq_true,b57]
 constructor
 ·rintro ⟨⟨⟨h1,h2⟩,h3⟩,h4⟩;exact ⟨h1,h2,h3,h4⟩
 ·rintro ⟨h1,h2,h3,h4⟩;exact ⟨⟨⟨h1,h2⟩,h3⟩,h4⟩
theorem b1s {s:g8} {x d:List Rat} (hx:j7 s x=true) (hd:b8Z s d):j7 s (Y9 x d)=true:=by
 obtain ⟨h1,h2,h3,h4⟩:=a0r.1 hx
 have hn:=a0P h1
 have hxl:x.length=s.n.toNat:=by omega
 refine a0r.2 ⟨h1,by rw [a1O hxl hd.len];exact hn,fun v hv=>?_,fun w hw=>?_⟩
 ·obtain ⟨j,hj,rfl⟩:=List.getElem_of_mem hv
  rw [a1O hxl hd.len] at hj
  have h5:0<=x[j]:=h3 _ (List.getElem_mem _)
  have h6:0<=d[j]'(by rw [hd.len];exact hj):=hd.pos _ (List.getElem_mem _)
  simp only [Y9,List.getElem_zipWith]
  grind
 ·obtain ⟨k,hk,hkw⟩:=List.getElem_of_mem hw
  have hkw':s.rows[k]? =some w:=by rw [List.getElem?_eq_getElem hk,hkw]
  have h7:=a2B hxl hd.len (Z8 h1 hkw').1
  obtain ⟨h8,h9⟩:=h4 w hw
  rw [h7]
  exact ⟨fun h=>by have:=h8 h;have:=hd.down k w hkw' h;grind,fun h=>by have:=h9 h;have:=hd.up k w hkw' h;grind⟩
theorem b6F {s:g8} (hr:j0 s=true) {c:Nat}:a0W s []≠.col c:=fun h=>by
 have:=(av3 hr rfl h).2
 have h2:k9 [] (a5p s [] c)=((0:Int):Rat):=rfl
 rw [h2] at this
 exact absurd this (by decide +kernel)
theorem ay4 {s:g8} (hr:j0 s=true):a0W s []=.best↔∃z,j7 s z=true:=by
 constructor
 ·intro h;exact ⟨_,(a2J hr rfl h).1⟩
 ·rintro ⟨z,hz⟩
  rcases ar0 s [] with h|⟨r,h⟩|⟨c,h⟩
  ·exact h
  ·rw [b19 h z] at hz;cases hz
  ·exact absurd h (b6F hr)
end
section
theorem aI3 {f:Nat->Nat->Rat} (m:Nat):∀n:Nat,g7 (fun i=>g7 (f i) m) n=g7 (fun j=>g7 (fun i=>f i j) n) m
 |0=>by
  show g7 _ 0=_
  rw [v7 (f:=fun j=>g7 (fun i=>f i j) 0) (n:=m) fun j hj=>by simp only [g7,V9]]
  simp only [g7,V9]
 |n+1=>by
  simp only [g7]
  rw [aI3 m n,←a0z]
theorem a4g {n a:Nat} (ha:a<n) (v:Rat) (c:Nat->Rat):g7 (fun i=>(if a=i then v else 0)*c i) n=v*c a:=by
 rw [C0 ha,v7 fun j hj=>by
  by_cases h:j=a
  ·rw [if_pos h]
  ·rw [if_neg h,if_neg (fun e=>h e.symm)];grind]
 rw [if_pos rfl];grind
def A0 (s:g8) (i:Nat):D9:=s.rows.getD i ⟨[],2,0⟩
theorem P1 {s:g8} {i:Nat} {w:D9} (h:s.rows[i]? =some w):A0 s i=w:=by unfold A0;rw [List.getD_eq_getElem?_getD,h];rfl
def D5 (s:g8) (k:Nat):Nat × Bool:=(g4 s).getD k (0,false)
def chg (s:g8) (w:Nat) (p:Rat) (i:Nat):Rat:=if s.n.toNat<=w∧(D5 s (w - s.n.toNat)).1=i then -(U4 (D5 s (w - s.n.toNat)).2 p) else 0
def slV (s:g8) (w:Nat):Rat:=if s.n.toNat<=w then (i5 s []).V (w - s.n.toNat) else 0
def slA (s:g8) (l w:Nat):Rat:=if s.n.toNat<=w then (i5 s []).A (w - s.n.toNat) l else 0
theorem a57 {s:g8} {k:Nat} (hk:k<(g4 s).length):∃w,s.rows[(D5 s k).1]? =some w∧((D5 s k).2=false->w.kind≠0)∧((D5 s k).2=true->w.kind≠1):=by
 have:D5 s k ∈ g4 s:=by
  unfold D5
  rw [List.getD_eq_getElem?_getD,List.getElem?_eq_getElem hk]
  exact List.getElem_mem _
 exact Y6.1 this
theorem aK3 {s:g8} {w:Nat} (hw:w<s.n.toNat+(g4 s).length) (p:Rat) (c:D9->Rat):
 g7 (fun i=>chg s w p i*c (A0 s i)) s.rows.length=if s.n.toNat<=w then -p*U4 (D5 s (w - s.n.toNat)).2 (c (A0 s (D5 s (w - s.n.toNat)).1)) else 0:=by
 by_cases h:s.n.toNat<=w
 ·rw [if_pos h]
  obtain ⟨x,hx,_⟩:=a57 (s:=s) (k:=w - s.n.toNat) (by omega)
  have hl:=(List.getElem?_eq_some_iff.1 hx).1
  rw [f7 (g:=fun i=>(if (D5 s (w - s.n.toNat)).1=i then -(U4 (D5 s (w - s.n.toNat)).2 p) else 0)*c (A0 s i)) fun i hi=>by
   unfold chg
   by_cases h2:(D5 s (w - s.n.toNat)).1=i
   ·rw [if_pos ⟨h,h2⟩,if_pos h2]
   ·rw [if_neg (fun e=>h2 e.2),if_neg h2]]
  rw [a4g hl]
  cases (D5 s (w - s.n.toNat)).2 with
  |false=>rfl
  |true=>show -(-p)*_=-p*-_;grind
 ·rw [if_neg h]
  exact v7 fun i hi=>by unfold chg;rw [if_neg (fun e=>h e.1)];grind
theorem b60 {s:g8} {w:Nat} (hw:w<s.n.toNat+(g4 s).length) (p:Rat):g7 (fun i=>chg s w p i*(A0 s i).value) s.rows.length=-p*slV s w:=by
 rw [aK3 hw p D9.value]
 unfold slV
 split
 ·rename_i h
  obtain ⟨x,hx,_⟩:=a57 (s:=s) (k:=w - s.n.toNat) (by omega)
  rw [P1 hx]
  have:(i5 s []).V (w - s.n.toNat)=U4 (D5 s (w - s.n.toNat)).2 x.value:=by show a3N s (D5 s (w - s.n.toNat))=_;unfold a3N;simp only [hx]
  rw [this]
 ·grind
theorem b6e {s:g8} {w:Nat} (hw:w<s.n.toNat+(g4 s).length) (p:Rat) (l:Nat):g7 (fun i=>chg s w p i*z7 (A0 s i).terms l) s.rows.length=-p*slA s l w:=by
 rw [aK3 hw p (fun r=>z7 r.terms l)]
 unfold slA
 split
 ·rename_i h
  obtain ⟨x,hx,_⟩:=a57 (s:=s) (k:=w - s.n.toNat) (by omega)
  rw [P1 hx]
  have:(i5 s []).A (w - s.n.toNat) l=U4 (D5 s (w - s.n.toNat)).2 (z7 x.terms l):=by show a29 s (D5 s (w - s.n.toNat)) l=_;unfold a29;simp only [hx]
  rw [this]
 ·grind
def yv (s:g8) (c:Rat) (t:Nat->Rat) (w:Nat):Rat:=if w<s.n.toNat then t w else c*(i5 s []).V (w - s.n.toNat) - g7 (fun l=>(i5 s []).A (w - s.n.toNat) l*t l) s.n.toNat
theorem b42 {s:g8} {g:List (Int × Rat)} (c:Rat) (t:Nat->Rat):Ids (g4 s).length s.n.toNat (i5 s g) (yv s c t) c:=by
 intro i hi
 show yv s c t (s.n.toNat+i)=_
 unfold yv
 rw [if_neg (by omega),show s.n.toNat+i - s.n.toNat=i by omega]
 show c*(i5 s g).V i - _=c*(i5 s g).V i - _
 congr 1
 refine f7 fun j hj=>?_
 show _=(i5 s g).A i j*(if j<s.n.toNat then t j else _)
 rw [if_pos hj];rfl
theorem b4p {s:g8} (w:Nat):yv s 1 (fun _=>0) w=slV s w:=by
 unfold yv slV
 by_cases h:w<s.n.toNat
 ·rw [if_pos h,if_neg (by omega)]
 ·rw [if_neg h,if_pos (by omega),v7 fun l hl=>by grind];grind
theorem b7x {s:g8} {l:Nat} (hl:l<s.n.toNat) (w:Nat):yv s 0 (fun j=>if l=j then 1 else 0) w=(if l=w then 1 else 0) - slA s l w:=by
 unfold yv slA
 by_cases h:w<s.n.toNat
 ·rw [if_pos h,if_neg (show ¬s.n.toNat<=w by omega)];grind
 ·rw [if_neg h,if_pos (show s.n.toNat<=w by omega),if_neg (show ¬l=w by omega),f7 (g:=fun j=>(if l=j then (1:Rat) else 0)*(i5 s []).A (w - s.n.toNat) j) fun j hj=>by grind,a4g hl]
  grind
def R3 (s:g8) (y:Nat->Rat) (l:Nat):Rat:=g7 (fun i=>y i*z7 (A0 s i).terms l) s.rows.length
def a2z (s:g8) (y:Nat->Rat):Rat:=g7 (fun i=>y i*(A0 s i).value) s.rows.length
def aI6 (s:g8) (y:Nat->Rat):Prop:=∀(i:Nat) (w:D9),s.rows[i]? =some w->(w.kind=0->0<=y i)∧(w.kind=1->y i<=0)
theorem b2W {s:g8} {w:Nat} (hw:w<s.n.toNat+(g4 s).length) {p:Rat} (hp:0<=p):aI6 s (chg s w p):=by
 intro i x hx
 unfold chg
 by_cases h:s.n.toNat<=w∧(D5 s (w - s.n.toNat)).1=i
 ·rw [if_pos h]
  obtain ⟨x',hx',h1,h2⟩:=a57 (s:=s) (k:=w - s.n.toNat) (by omega)
  rw [h.2,hx] at hx'
  injection hx' with hx'
  subst hx'
  cases hb:(D5 s (w - s.n.toNat)).2 with
  |false=>exact ⟨fun e=>absurd e (h1 hb),fun _=>by show -p<=0;grind⟩
  |true=>exact ⟨fun _=>by show 0<=-(-p);grind,fun e=>absurd e (h2 hb)⟩
 ·rw [if_neg h];exact ⟨fun _=>by grind,fun _=>by grind⟩
theorem aJ3 {s:g8} {f:Nat->Nat->Rat}:∀n:Nat,(∀ j,j<n->aI6 s (f j))->aI6 s (fun i=>g7 (fun j=>f j i) n)
 |0,_=>fun i w hw=>⟨fun _=>by simp only [g7,V9];grind,fun _=>by simp only [g7,V9];grind⟩
 |n+1,h=>fun i w hw=>by
  have h1:=aJ3 n (fun j hj=>h j (by omega)) i w hw
  have h2:=h n (by omega) i w hw
  simp only [g7]
  exact ⟨fun e=>by have:=h1.1 e;have:=h2.1 e;grind,fun e=>by have:=h1.2 e;have:=h2.2 e;grind⟩
def Q9 (s:g8) (E:Fd) (i:Nat):Rat:=g7 (fun j=>chg s (E.F j) (-(E.G j)) i) s.n.toNat
theorem a6A {s:g8} {f:Nat->Nat->Rat} {c:Nat->Rat} {n R:Nat}:g7 (fun i=>g7 (fun j=>f j i) n*c i) R=g7 (fun j=>g7 (fun i=>f j i*c i) R) n:=by
 rw [← aI3]
 refine f7 fun i hi=>?_
 rw [f7 (f:=fun j=>f j i*c i) (g:=fun j=>c i*f j i) fun j hj=>by grind,E4];grind
structure b6j (s:g8) (g:Nat->Rat) (y:Nat->Rat) (v:Rat):Prop where
 sign:aI6 s y
 mix:∀l,l<s.n.toNat->R3 s y l<=g l
 val:a2z s y=v
theorem b3r {s:g8} {g:List (Int × Rat)} (hr:j0 s=true) (hg:g9 (-1) ((s.n.toNat:Nat):Int) g=true) (h:a0W s g=.best):b6j s (z7 g) (Q9 s (z9 s g)) (k9 g (B8 s g)):=by
 obtain ⟨hv,hgj⟩:=am2 h
 have hi:=S4 (s:=s) (g:=g)
 obtain ⟨z,hz⟩:=hi.g
 have hF:∀j,j<s.n.toNat->(z9 s g).F j<s.n.toNat+(g4 s).length:=fun j hj=>hi.p.fb j hj
 refine ⟨aJ3 _ fun j hj=>b2W (hF j hj) (by have:=hgj j hj;grind),fun l hl=>?_,?_⟩
 ·have h1:=hz _ _ ((hi.i _ 0).1 (b42 (s:=s) (g:=g) 0 (fun j=>if l=j then 1 else 0)))
  rw [f7 (g:=fun j=>(if l=j then (1:Rat) else 0)*-(z7 g j)) fun j hj=>by unfold yv;rw [if_pos hj];grind,a4g hl] at h1
  unfold R3 Q9
  rw [a6A (s:=s),f7 (g:=fun j=>(z9 s g).G j*slA s l ((z9 s g).F j)) fun j hj=>by rw [b6e (hF j hj)];grind]
  rw [f7 (g:=fun j=>(z9 s g).G j*(if l=(z9 s g).F j then 1 else 0)+(-1:Rat)*((z9 s g).G j*slA s l ((z9 s g).F j))) fun j hj=>by rw [b7x hl];grind,a0z,E4] at h1
  have h2:g7 (fun j=>(z9 s g).G j*(if l=(z9 s g).F j then (1:Rat) else 0)) s.n.toNat<=0:=a6J fun j hj=>by
   have:=hgj j hj
   split<;>grind
  grind
 ·have h1:=hz _ _ ((hi.i _ 1).1 (b42 (s:=s) (g:=g) 1 (fun _=>0)))
  rw [v7 fun j hj=>by unfold yv;rw [if_pos hj];grind] at h1
  unfold a2z Q9
  rw [a6A (s:=s),f7 (g:=fun j=>(z9 s g).G j*slV s ((z9 s g).F j)) fun j hj=>by rw [b60 (hF j hj)];grind]
  rw [f7 (g:=fun j=>(z9 s g).G j*slV s ((z9 s g).F j)) fun j hj=>by rw [b4p]] at h1
  obtain ⟨⟨y,k1,k2,k3,k4⟩,_⟩:=aG3 hi.p hz hv hgj
  have k1':=(hi.i y 1).2 k1
  have e:B8 s g=zOf s.n.toNat y:=by unfold B8;rw [k4]
  have h6:g7 (fun j=>-(z7 g j)*y j) s.n.toNat=-(k9 g (zOf s.n.toNat y)):=by
   rw [← a9U hg]
   exact f7 fun j hj=>by rw [aZ1 k1' j (by omega)]
  rw [e];rw [h6] at k3
  grind
theorem b1X {s:g8} {g:List (Int × Rat)} {c y:Nat->Rat} {v:Rat} (h:b6j s c y v) {z:List Rat} (hz:j7 s z=true):v<=g7 (fun l=>c l*z.getD l 0) s.n.toNat:=by
 obtain ⟨hr,hl,hp,hw⟩:=a0r.1 hz
 have hn:=a0P hr
 have h0:∀l,l<s.n.toNat->0<=z.getD l 0:=fun l hl'=>by
  rw [List.getD_eq_getElem?_getD,List.getElem?_eq_getElem (by omega)]
  exact hp _ (List.getElem_mem _)
 have h1:g7 (fun l=>R3 s y l*z.getD l 0) s.n.toNat<=g7 (fun l=>c l*z.getD l 0) s.n.toNat:=by
  have:=a1u (f:=fun l=>(c l - R3 s y l)*z.getD l 0) (n:=s.n.toNat) fun l hl'=>Rat.mul_nonneg (by have:=h.mix l hl';grind) (h0 l hl')
  rw [f7 (g:=fun l=>c l*z.getD l 0+(-1:Rat)*(R3 s y l*z.getD l 0)) fun l hl'=>by grind,a0z,E4] at this
  grind
 have h2:g7 (fun l=>R3 s y l*z.getD l 0) s.n.toNat=g7 (fun i=>y i*k9 (A0 s i).terms z) s.rows.length:=by
  unfold R3
  rw [a6A (s:=s) (f:=fun i l=>y i*z7 (A0 s i).terms l)]
  refine f7 fun i hi=>?_
  have hx:s.rows[i]? =some (A0 s i):=by unfold A0;rw [List.getD_eq_getElem?_getD,List.getElem?_eq_getElem hi];rfl
  rw [O2 (Z8 hr hx).1 z,←E4]
  exact f7 fun l hl=>by grind
 have h3:0<=g7 (fun i=>y i*(k9 (A0 s i).terms z - (A0 s i).value)) s.rows.length:=a1u fun i hi=>by
  have hx:s.rows[i]? =some (A0 s i):=by unfold A0;rw [List.getD_eq_getElem?_getD,List.getElem?_eq_getElem hi];rfl
  obtain ⟨_,k1,k2⟩:=Z8 hr hx
  obtain ⟨s1,s2⟩:=h.sign i _ hx
  obtain ⟨b1,b2⟩:=hw _ (List.mem_of_getElem? hx)
  by_cases e0:(A0 s i).kind=0
  ·have:=b1 (by omega)
   exact Rat.mul_nonneg (s1 e0) (by grind)
  ·by_cases e1:(A0 s i).kind=1
   ·have:=b2 e0
    have:=Rat.mul_nonneg (show 0<=-(y i) by have:=s2 e1;grind) (show 0<=-(k9 (A0 s i).terms z - (A0 s i).value) by grind)
    grind
   ·have a1:=b1 e1
    have a2:=b2 e0
    have:k9 (A0 s i).terms z - (A0 s i).value=0:=by grind
    rw [this];grind
 rw [f7 (g:=fun i=>y i*k9 (A0 s i).terms z+(-1:Rat)*(y i*(A0 s i).value)) fun i hi=>by grind,a0z,E4] at h3
 have h4:=h.val
 unfold a2z at h4
 grind
end
section
set_option maxRecDepth 100000
def t7 (e:Ev):Nat->List Nat
 |0=>[]
 |k+1=>match e.moves[k]? with
  |some m=>if o4 e m.src=0 then t7 e k++[k] else t7 e k
  |none=>t7 e k
def i9 (e:Ev):List Nat:=t7 e e.moves.length
def a9T (e:Ev) (i:Nat):Prop:=∃m,e.moves[i]? =some m∧o4 e m.src=0
theorem a4H {e:Ev} {i:Nat}:∀{k:Nat},i ∈ t7 e k↔i<k∧a9T e i
 |0=>by simp [t7]
 |k+1=>by
  have ih:=a4H (e:=e) (i:=i) (k:=k)
  unfold t7
  cases hm:e.moves[k]? with
  |none=>
   simp only
   rw [ih]
   constructor
   ·rintro ⟨h1,h2⟩;exact ⟨by omega,h2⟩
   ·rintro ⟨h1,h2⟩
    refine ⟨?_,h2⟩
    obtain ⟨m,h3,_⟩:=h2
    by_cases h:i=k
    ·subst h;rw [hm] at h3;cases h3
    ·omega
  |some m=>
   simp only
   by_cases hk:o4 e m.src=0
   ·rw [if_pos hk,List.mem_append,ih,List.mem_singleton]
    constructor
    ·rintro (⟨h1,h2⟩|h)
     ·exact ⟨by omega,h2⟩
     ·subst h;exact ⟨by omega,m,hm,hk⟩
    ·rintro ⟨h1,h2⟩
     by_cases h:i=k
     ·exact .inr h
     ·exact .inl ⟨by omega,h2⟩
   ·rw [if_neg hk,ih]
    constructor
    ·rintro ⟨h1,h2⟩;exact ⟨by omega,h2⟩
    ·rintro ⟨h1,h2⟩
     refine ⟨?_,h2⟩
     obtain ⟨m',h3,h4⟩:=h2
     by_cases h:i=k
     ·subst h;rw [hm] at h3;injection h3 with h3;subst h3;exact absurd h4 hk
     ·omega
theorem M7 {e:Ev} {i:Nat}:i ∈ i9 e↔a9T e i:=by
 unfold i9
 rw [a4H]
 constructor
 ·exact fun h=>h.2
 ·intro h
  have h':=h
  obtain ⟨m,h1,_⟩:=h'
  exact ⟨(List.getElem?_eq_some_iff.1 h1).1,h⟩
theorem B5 {e:Ev}:∀k,(t7 e k).length<=k
 |0=>by simp [t7]
 |k+1=>by
  have ih:=B5 (e:=e) k
  unfold t7
  split
  ·split
   ·simp;omega
   ·omega
  ·omega
def N0 (l:List Nat) (i:Nat):List D9:=(l.filter fun j=>decide (j≠i)).map fun j=>p7 j 2 ((0:Int):Rat)
def o6 (t:e8) (kind:Int) (i:Nat):g8:=⟨t.ev.moves.length,(R0 (y8 t) kind).rows++N0 (i9 t.ev) i⟩
theorem a2d (l:List Nat) (i:Nat):(N0 l i).length<=l.length:=by unfold N0;rw [List.length_map];exact List.length_filter_le _ _
structure a6k (t:e8) (kind:Int) (i:Nat) (z:List Rat):Prop where
 p:a9K (y8 t) kind z
 o:∀j,a9T t.ev j->j≠i->z.getD j 0=0
theorem a8G {t:e8} {kind:Int} {i:Nat} (hm:t.ev.moves.length<=14) (hc:t.cleans.length<=50):j0 (o6 t kind i)=true:=by
 have h:=a8i (t:=y8 t) (kind:=kind) hm (by simp [y8]) hc
 unfold j0 at h ⊢
 simp only [Bool.and_eq_true,decide_eq_true_eq] at h ⊢
 obtain ⟨⟨⟨h1,h2⟩,h3⟩,h4⟩:=h
 have hl:=S3 (t:=y8 t) (kind:=kind) t.ev.moves.length
 have hl2:t.ev.moves.length*(2+(y8 t).finds.length+(y8 t).cleans.length)<=14*52:=Nat.mul_le_mul hm (by show 2+0+t.cleans.length<=52;omega)
 have hl3:=a2d (i9 t.ev) i
 have hl4:=B5 (e:=t.ev) t.ev.moves.length
 refine ⟨⟨⟨h1,h2⟩,?_⟩,?_⟩
 ·show ((p9 (y8 t) kind t.ev.moves.length++N0 (i9 t.ev) i).length)<=6000
  rw [List.length_append]
  have:(i9 t.ev).length<=t.ev.moves.length:=hl4
  omega
 ·show ((R0 (y8 t) kind).rows++N0 (i9 t.ev) i).all (w7 (t.ev.moves.length:Nat))=true
  rw [List.all_append]
  have h5:(R0 (y8 t) kind).rows.all (w7 (t.ev.moves.length:Nat))=true:=h4
  rw [h5,Bool.true_and,List.all_eq_true]
  intro w hw
  obtain ⟨j,hj,rfl⟩:=List.mem_map.1 hw
  have hj:=(a4H.1 (List.mem_filter.1 hj).1).1
  unfold w7 p7
  simp only [Bool.and_eq_true,decide_eq_true_eq]
  exact ⟨⟨a6a (by omega) (by omega) a5M,by decide⟩,by decide⟩
theorem alone_holds {t:e8} {kind:Int} {i:Nat} {z:List Rat} (ht:v8 t=0) (k0:0<=kind) (k1:kind<8) (hm:t.ev.moves.length<=14):j7 (o6 t kind i) z=true↔a6k t kind i z:=by
 have hc:=(n8 ht).2.2.1
 have hb:=sys_holds (t:=y8 t) (kind:=kind) (z:=z) (a1c ht) k0 k1 hm
 have hr1:=a8G (t:=t) (kind:=kind) (i:=i) hm hc
 have hr2:=a8i (t:=y8 t) (kind:=kind) hm (by simp [y8]) hc
 have e:j7 (o6 t kind i) z=(j7 (R0 (y8 t) kind) z && (N0 (i9 t.ev) i).all fun w=>Q0 w z):=by
  unfold j7
  rw [hr1,hr2]
  show (true && decide ((z.length:Int)=(t.ev.moves.length:Nat)) && _ && ((R0 (y8 t) kind).rows++N0 (i9 t.ev) i).all _)=_
  rw [List.all_append]
  simp only [Bool.true_and,Bool.and_assoc]
  rfl
 rw [e,Bool.and_eq_true,hb]
 constructor
 ·rintro ⟨h1,h2⟩
  refine ⟨h1,fun j hj hji=>?_⟩
  exact a4T.1 (List.all_eq_true.1 h2 (p7 j 2 ((0:Int):Rat)) (List.mem_map.2 ⟨j,List.mem_filter.2 ⟨M7.2 hj,decide_eq_true hji⟩,rfl⟩))
 ·rintro ⟨h1,h2⟩
  refine ⟨h1,List.all_eq_true.2 fun w hw=>?_⟩
  obtain ⟨j,hj,rfl⟩:=List.mem_map.1 hw
  have hj:=List.mem_filter.1 hj
  exact a4T.2 (h2 j (M7.1 hj.1) (of_decide_eq_true hj.2))
theorem ab3 (n i:Nat):(List.replicate n (0:Rat)).getD i 0=0:=by
 rw [List.getD_eq_getElem?_getD]
 by_cases h:i<n
 ·simp [h]
 ·rw [List.getElem?_eq_none (by simp;omega)];rfl
theorem b2i {e:Ev} {z:List Rat} (hz:∀i,z.getD i 0=0) (k p:Nat):a06 e z k p=0:=by
 have h:=b3Q (e:=e) (w:=z) (z:=z) (y:=z) (a:=0) (b:=0) (fun i _=>by rw [hz i];grind) k p
 rw [h];grind
end
section
open Go.RowKit
inductive SK where
 |any|full|nil|nul|non
inductive T where
 |atm (v:Value)
 |sl (size:Nat) (k:SK) (rows:List (List T))
 |ptr (cells:List T)
 |fn (f:Fn) (caps:List T)
inductive C where
 |t (x:T)
 |ptr (id row off:Nat)
 |own (id lo len:Nat) (app:Bool)
 |fn (f:Fn) (caps:List C)
inductive S where
 |junk
 |c (x:C)
 |agg (cs:List C)
 |tup (ss:List S)
abbrev J:S:=.junk
inductive BM where
 |live|froz|old|dead
def BM.gone:BM->Prop
 |.dead=>True
 |.old=>True
 |_=>False
structure Blk where
 mode:BM
 elem:TypeId
 size:Nat
 rows:List (List C)
 box:Bool
 app:Bool:=false
inductive Loc where
 |nil
 |blk (b cap size:Nat)
abbrev Hp:=List Blk
abbrev Io:=Nat->Option Loc
abbrev Ms:=Nat->Prop
def at2 {α:Type} (rows:List (List α)) (i j:Nat):Option α:=(rows[i]?).bind (·[j]?)
inductive RT (w:World) (M:Ms):T->Value->Prop
 |atm {v:Value} (h:v.oneCell'=true):RT w M (.atm v) v
 |sl {size:Nat} {k:SK} {rows:List (List T)} {b off cap:Nat} {A:Option Addr} (f:Nat->Nat->Value)
   (hrow:∀r ∈ rows,r.length=size) (hcap:rows.length<=cap) (hmax:cap<=maxLen) (hk:k=.full->cap=rows.length)
   (hn:k=.nil->rows=[]∧A=none∧cap=0) (hA:rows≠[]->A=some ⟨b,off,none⟩)
   (hc:∀i j c,at2 rows i j=some c->w.cell? ⟨b,off+(i*size+j),none⟩=some (f i j)∧¬M b)
   (hr:∀i j c,at2 rows i j=some c->RT w M c (f i j)) (hx:(k=.nul->rows=[]∧A=none)∧(k=.non->A≠none):=by exact ⟨(fun h=>nomatch h),(fun h=>nomatch h)⟩):RT w M (.sl size k rows) (.slice A rows.length cap)
 |ptr {cells:List T} {b off:Nat} (f:Nat->Value)
   (hc:∀j c,cells[j]? =some c->w.cell? ⟨b,off+j,none⟩=some (f j)∧¬M b)
   (hr:∀j c,cells[j]? =some c->RT w M c (f j)):RT w M (.ptr cells) (.pointer (some ⟨b,off,none⟩))
 |fn {f:Fn} {caps:List T} (vs:List Value) (hl:vs.length=caps.length)
   (hr:∀j c,caps[j]? =some c->RT w M c (vs.getD j undef)):RT w M (.fn f caps) (.func f #[] vs.toArray)
inductive RC (w:World) (ι:Io) (M:Ms):C->Value->Prop
 |t {x:T} {v:Value} (h:RT w M x v):RC w ι M (.t x) v
 |ptr {id r o b cap size:Nat} (h:ι id=some (.blk b cap size)):RC w ι M (.ptr id r o) (.pointer (some ⟨b,r*size+o,none⟩))
 |own {id lo len:Nat} {app:Bool} {b cap size:Nat} {A:Option Addr} {cap':Nat} (h:ι id=some (.blk b cap size)) (h1:lo+len<=cap)
   (h2:0<len->A=some ⟨b,lo*size,none⟩) (h3:len<=cap') (h4:cap'<=maxLen)
   (h5:app=true->lo=0∧A=some ⟨b,0,none⟩∧cap'=cap):RC w ι M (.own id lo len app) (.slice A len cap')
 |nil {id:Nat} {app:Bool} {A:Option Addr} (h:ι id=some .nil):RC w ι M (.own id 0 0 app) (.slice A 0 0)
 |fn {f:Fn} {caps:List C} (vs:List Value) (hl:vs.length=caps.length)
   (hr:∀j c,caps[j]? =some c->RC w ι M c (vs.getD j undef)):RC w ι M (.fn f caps) (.func f #[] vs.toArray)
inductive RS (w:World) (ι:Io) (M:Ms):S->Value->Prop
 |junk {v:Value}:RS w ι M .junk v
 |c {x:C} {v:Value} (h:RC w ι M x v):RS w ι M (.c x) v
 |agg {cs:List C} (vs:List Value) (hl:vs.length=cs.length)
   (hr:∀j c,cs[j]? =some c->RC w ι M c (vs.getD j undef)):RS w ι M (.agg cs) (.agg vs.toArray)
 |tup {ss:List S} (vs:List Value) (hl:vs.length=ss.length)
   (hr:∀j s,ss[j]? =some s->RS w ι M s (vs.getD j undef)):RS w ι M (.tup ss) (.tuple vs.toArray)
theorem RT.one {w:World} {M:Ms} {x:T} {v:Value} (h:RT w M x v):v.oneCell'=true:=by
 cases h<;>first|assumption|rfl
theorem RC.one {w:World} {ι:Io} {M:Ms} {x:C} {v:Value} (h:RC w ι M x v):v.oneCell'=true:=by
 cases h<;>first|exact RT.one ‹_›|rfl
def M8 (w:World) (ι:Io) (M:Ms) (k:Blk):Loc->Prop
 |.nil=>k.rows=[]
 |.blk b cap size=>k.size=size∧0<size∧k.rows.length<=cap∧cap<=maxLen∧(∀ r ∈ k.rows,r.length=size)∧
   ∃cur:Array Value,w.heap[b]? =some (.cells cur k.elem (0,0))∧cur.size=cap*size∧
    ∀i j c,at2 k.rows i j=some c->∃u,cur[i*size+j]? =some u∧RC w ι M c u
structure o9 (w:World) (ι:Io) (M:Ms) (H:Hp):Prop where
 blk:∀(id:Nat) (k:Blk),H[id]? =some k->k.mode≠.dead->∀l,ι id=some l->M8 w ι M k l
 liv:∀(id:Nat) (k:Blk),H[id]? =some k->k.mode=.live->∀b cap size,ι id=some (.blk b cap size)->M b
 fro:∀(id:Nat) (k:Blk),H[id]? =some k->k.mode=.froz->∀b cap size,ι id=some (.blk b cap size)->¬M b
 inj:∀(id id':Nat) (k k':Blk),H[id]? =some k->H[id']? =some k'->k.mode=.live->k'.mode=.live->
  ∀b cap size cap' size',ι id=some (.blk b cap size)->ι id'=some (.blk b cap' size')->id=id'
 old:∀(id id':Nat) (k k':Blk),H[id]? =some k->H[id']? =some k'->k.mode=.old->k'.mode=.live->
  ∀b cap size cap' size',ι id=some (.blk b cap size)->ι id'=some (.blk b cap' size')->k'.app=true∧size=size'∧k.rows.length<=k'.rows.length
def a3k (ι:Io) (H:Hp) (b:Nat):Prop:=∃id k cap size,H[id]? =some k∧k.mode=.live∧ι id=some (.blk b cap size)
def MB (w:World) (M:Ms):Prop:=∀b,M b->b<w.heap.size
def a22 (ι:Io) (n:Nat):Prop:=∀id,n<=id->ι id=none
structure a3Q (w:World) (ι:Io) (M:Ms) (H:Hp) (w':World) (ι':Io) (M':Ms) (H':Hp):Prop where
 os:w'.os=w.os
 tape:w'.tape=w.tape
 output:w'.output=w.output
 size:w.heap.size<=w'.heap.size
 keep:∀b,b<w.heap.size->¬a3k ι H b->w'.heap[b]? =w.heap[b]?
 same:∀id,id<H.length->ι' id=ι id
 mnew:∀b,M' b->M b∨w.heap.size<=b
 mold:∀b,M b->M' b∨a3k ι H b
 live:∀b,a3k ι' H' b->a3k ι H b∨w.heap.size<=b
 len:H.length<=H'.length
theorem F4 {w:World} {b:Nat} {o:Obj} (h:w.heap[b]? =some o):b<w.heap.size:=(Array.getElem?_eq_some_iff.1 h).1
theorem b0K {w:World} {a:Addr} {u:Value} (h:w.cell? a=some u):a.block<w.heap.size:=World.block_lt_of_cell? w a h
theorem RT.keep {w w':World} {M M':Ms} (hk:∀b,b<w.heap.size->¬M b->w'.heap[b]? =w.heap[b]?) (hm:∀b,M' b->M b∨w.heap.size<=b)
 {x:T} {v:Value} (h:RT w M x v):RT w' M' x v:=by
 induction h with
 |atm h=>exact .atm h
 |sl f hrow hcap hmax hk1 hn hA hc hr hx ih=>
  refine .sl f hrow hcap hmax hk1 hn hA (fun i j c hc'=>?_) ih hx
  obtain ⟨h1,h2⟩:=hc i j c hc'
  have hlt:=b0K h1
  refine ⟨(World.cell?_of_block (hk _ hlt h2)).trans h1,fun hM=>?_⟩
  rcases hm _ hM with h3|h3
  ·exact h2 h3
  ·exact absurd h3 (by simpa using hlt)
 |ptr f hc hr ih=>
  refine .ptr f (fun j c hc'=>?_) ih
  obtain ⟨h1,h2⟩:=hc j c hc'
  have hlt:=b0K h1
  refine ⟨(World.cell?_of_block (hk _ hlt h2)).trans h1,fun hM=>?_⟩
  rcases hm _ hM with h3|h3
  ·exact h2 h3
  ·exact absurd h3 (by simpa using hlt)
 |fn vs hl hr ih=>exact .fn vs hl ih
theorem RC.keep {w w':World} {ι ι':Io} {M M':Ms} (hk:∀b,b<w.heap.size->¬M b->w'.heap[b]? =w.heap[b]?) (hm:∀b,M' b->M b∨w.heap.size<=b)
 (hi:∀id l,ι id=some l->ι' id=some l) {x:C} {v:Value} (h:RC w ι M x v):RC w' ι' M' x v:=by
 induction h with
 |t h=>exact .t (h.keep hk hm)
 |ptr h=>exact .ptr (hi _ _ h)
 |own h h1 h2 h3 h4 h5=>exact .own (hi _ _ h) h1 h2 h3 h4 h5
 |nil h=>exact .nil (hi _ _ h)
 |fn vs hl hr ih=>exact .fn vs hl ih
theorem RS.keep {w w':World} {ι ι':Io} {M M':Ms} (hk:∀b,b<w.heap.size->¬M b->w'.heap[b]? =w.heap[b]?) (hm:∀b,M' b->M b∨w.heap.size<=b)
 (hi:∀id l,ι id=some l->ι' id=some l) {x:S} {v:Value} (h:RS w ι M x v):RS w' ι' M' x v:=by
 induction h with
 |junk=>exact .junk
 |c h=>exact .c (h.keep hk hm hi)
 |agg vs hl hr=>exact .agg vs hl fun j c hc=>(hr j c hc).keep hk hm hi
 |tup vs hl hr ih=>exact .tup vs hl ih
theorem a3k.inM {w:World} {ι:Io} {M:Ms} {H:Hp} (h:o9 w ι M H) {b:Nat} (hl:a3k ι H b):M b:=by
 obtain ⟨id,k,cap,size,h1,h2,h3⟩:=hl
 exact h.liv id k h1 h2 b cap size h3
theorem a3Q.refl (w:World) (ι:Io) (M:Ms) (H:Hp):a3Q w ι M H w ι M H:=
 ⟨rfl,rfl,rfl,Nat.le_refl _,fun _ _ _=>rfl,fun _ _=>rfl,fun _ h=>.inl h,fun _ h=>.inl h,fun _ h=>.inl h,Nat.le_refl _⟩
theorem a3Q.trans {w w1 w2:World} {ι ι1 ι2:Io} {M M1 M2:Ms} {H H1 H2:Hp} (hb:MB w M) (a:a3Q w ι M H w1 ι1 M1 H1) (c:a3Q w1 ι1 M1 H1 w2 ι2 M2 H2):
 a3Q w ι M H w2 ι2 M2 H2 where
 os:=c.os.trans a.os
 tape:=c.tape.trans a.tape
 output:=c.output.trans a.output
 size:=Nat.le_trans a.size c.size
 keep:=fun k hk hl=>(c.keep k (Nat.lt_of_lt_of_le hk a.size) fun h=>by rcases a.live k h with h|h;exact hl h;omega).trans (a.keep k hk hl)
 same:=fun id hid=>(c.same id (Nat.lt_of_lt_of_le hid a.len)).trans (a.same id hid)
 mnew:=fun k h=>by
  rcases c.mnew k h with h|h
  ·exact a.mnew k h
  ·exact .inr (Nat.le_trans a.size h)
 mold:=fun k h=>by
  rcases a.mold k h with h1|h1
  ·rcases c.mold k h1 with h2|h2
   ·exact .inl h2
   ·rcases a.live k h2 with h3|h3
    ·exact .inr h3
    ·have:=hb k h;omega
  ·exact .inr h1
 live:=fun k h=>by
  rcases c.live k h with h|h
  ·exact a.live k h
  ·exact .inr (Nat.le_trans a.size h)
 len:=Nat.le_trans a.len c.len
structure Ext (w w':World):Prop where
 os:w'.os=w.os
 tape:w'.tape=w.tape
 output:w'.output=w.output
 size:w.heap.size<=w'.heap.size
 keep:∀b,b<w.heap.size->w'.heap[b]? =w.heap[b]?
theorem Ext.refl (w:World):Ext w w:=⟨rfl,rfl,rfl,Nat.le_refl _,fun _ _=>rfl⟩
def B1 (ι:Io) (n m:Nat) (new:Nat->Loc):Io:=fun id=>if n<=id∧id<n+m then some (new (id - n)) else ι id
def a3Y (M:Ms) (m:Nat) (new:Nat->Loc):Ms:=fun b=>M b∨∃k,k<m∧∃cap size,new k=.blk b cap size
def I8 (w:World) (ι:Io) (M:Ms) (n:Nat) (s:S) (B:List Blk) (v:Value) (w':World):Prop:=
 ∃new:Nat->Loc,RS w' (B1 ι n B.length new) (a3Y M B.length new) s v∧Ext w w'∧
  (∀ k blk,B[k]? =some blk->blk.mode=.live∧M8 w' (B1 ι n B.length new) (a3Y M B.length new) blk (new k))∧
  (∀ k b cap size,k<B.length->new k=.blk b cap size->w.heap.size<=b∧b<w'.heap.size)∧
  (∀ k k' b cap size cap' size',k<B.length->k'<B.length->new k=.blk b cap size->new k'=.blk b cap' size'->k=k')
def F7 (w:World) (ι:Io) (M:Ms) (H:Hp) (s:S) (H':Hp) (v:Value) (w':World):Prop:=
 ∃(ι':Io) (M':Ms),RS w' ι' M' s v∧o9 w' ι' M' H'∧MB w' M'∧a22 ι' H'.length∧a3Q w ι M H w' ι' M' H'
theorem a8a {ι:Io} {n m:Nat} {new:Nat->Loc} (hf:∀k,k<m->ι (n+k)=none) {id:Nat} {l:Loc} (h:ι id=some l):B1 ι n m new id=some l:=by
 unfold B1
 split
 ·rename_i hc
  have:=hf (id - n) (by omega)
  rw [show n+(id - n)=id by omega,h] at this
  cases this
 ·exact h
theorem I8.gpost {w:World} {ι:Io} {M:Ms} {H:Hp} {s:S} {B:List Blk} {v:Value} {w':World} (hH:o9 w ι M H) (hM:MB w M) (hF:a22 ι H.length)
 (h:I8 w ι M H.length s B v w'):F7 w ι M H s (H++B) v w':=by
 obtain ⟨new,h1,h2,h3,h4,h5⟩:=h
 have hnone:∀k,k<B.length->ι (H.length+k)=none:=fun k _=>hF _ (by omega)
 have hold:∀id,id<H.length->B1 ι H.length B.length new id=ι id:=fun id hid=>by
  unfold B1;rw [if_neg (by omega)]
 have hnew:∀k,k<B.length->B1 ι H.length B.length new (H.length+k)=some (new k):=fun k hk=>by
  unfold B1;rw [if_pos (by omega)];congr 2;omega
 have hdist:∀id b cap size,ι id=some (.blk b cap size)->∀k,H[id]? =some k->k.mode≠.dead->b<w.heap.size:=fun id b cap size hi k hk hd=>by
  have:=hH.blk id k hk hd _ hi
  obtain ⟨_,_,_,_,_,cur,hc,_⟩:=this
  exact F4 hc
 refine ⟨_,_,h1,⟨?_,?_,?_,?_,?_⟩,?_,?_,?_⟩
 ·intro id k hk hd l hl
  by_cases hid:id<H.length
  ·rw [List.getElem?_append_left hid] at hk
   rw [hold id hid] at hl
   have hb:=hH.blk id k hk hd l hl
   cases l with
   |nil=>exact hb
   |blk b cap size=>
    obtain ⟨q1,q2,q3,q4,q5,cur,q6,q7,q8⟩:=hb
    refine ⟨q1,q2,q3,q4,q5,cur,(h2.keep b (F4 q6)).trans q6,q7,fun i j c hc=>?_⟩
    obtain ⟨u,hu,hr⟩:=q8 i j c hc
    refine ⟨u,hu,hr.keep (fun b hb _=>h2.keep b hb) (fun b hb=>?_) (fun id l=>a8a hnone)⟩
    rcases hb with hb|⟨k,hk,cap,size,he⟩
    ·exact .inl hb
    ·exact .inr (h4 k b cap size hk he).1
  ·rw [List.getElem?_append_right (by omega)] at hk
   have hlt:=(List.getElem?_eq_some_iff.1 hk).1
   have e:B1 ι H.length B.length new id=some (new (id - H.length)):=by
    unfold B1;rw [if_pos (by omega)]
   rw [e] at hl
   injection hl with hl
   subst hl
   exact (h3 _ _ hk).2
 ·intro id k hk hl b cap size hi
  by_cases hid:id<H.length
  ·rw [List.getElem?_append_left hid] at hk
   rw [hold id hid] at hi
   exact .inl (hH.liv id k hk hl b cap size hi)
  ·rw [List.getElem?_append_right (by omega)] at hk
   have hlt:=(List.getElem?_eq_some_iff.1 hk).1
   have e:B1 ι H.length B.length new id=some (new (id - H.length)):=by
    unfold B1;rw [if_pos (by omega)]
   rw [e] at hi
   injection hi with hi
   exact .inr ⟨_,hlt,cap,size,hi⟩
 ·intro id k hk hl b cap size hi
  by_cases hid:id<H.length
  ·rw [List.getElem?_append_left hid] at hk
   rw [hold id hid] at hi
   have hb:=hdist _ _ _ _ hi k hk (by rw [hl];intro h;cases h)
   rintro (hM'|⟨k',hk',cap',size',he⟩)
   ·exact hH.fro id k hk hl b cap size hi hM'
   ·have:=(h4 _ _ _ _ hk' he).1
    omega
  ·rw [List.getElem?_append_right (by omega)] at hk
   have:=(h3 _ _ hk).1
   rw [hl] at this
   cases this
 ·intro id id' k k' hk hk' hl hl' b cap size cap' size' hi hi'
  by_cases hid:id<H.length<;>by_cases hid':id'<H.length
  ·rw [List.getElem?_append_left hid] at hk
   rw [List.getElem?_append_left hid'] at hk'
   rw [hold _ hid] at hi
   rw [hold _ hid'] at hi'
   exact hH.inj id id' k k' hk hk' hl hl' b cap size cap' size' hi hi'
  ·rw [List.getElem?_append_left hid] at hk
   rw [hold _ hid] at hi
   have:=hdist _ _ _ _ hi k hk (by rw [hl];intro h;cases h)
   rw [List.getElem?_append_right (by omega)] at hk'
   have hlt:=(List.getElem?_eq_some_iff.1 hk').1
   have e:B1 ι H.length B.length new id'=some (new (id' - H.length)):=by
    unfold B1;rw [if_pos (by omega)]
   rw [e] at hi'
   injection hi' with hi'
   have:=(h4 _ _ _ _ hlt hi').1
   omega
  ·rw [List.getElem?_append_left hid'] at hk'
   rw [hold _ hid'] at hi'
   have:=hdist _ _ _ _ hi' k' hk' (by rw [hl'];intro h;cases h)
   rw [List.getElem?_append_right (by omega)] at hk
   have hlt:=(List.getElem?_eq_some_iff.1 hk).1
   have e:B1 ι H.length B.length new id=some (new (id - H.length)):=by
    unfold B1;rw [if_pos (by omega)]
   rw [e] at hi
   injection hi with hi
   have:=(h4 _ _ _ _ hlt hi).1
   omega
  ·rw [List.getElem?_append_right (by omega)] at hk hk'
   have hlt:=(List.getElem?_eq_some_iff.1 hk).1
   have hlt':=(List.getElem?_eq_some_iff.1 hk').1
   have e:B1 ι H.length B.length new id=some (new (id - H.length)):=by
    unfold B1;rw [if_pos (by omega)]
   have e':B1 ι H.length B.length new id'=some (new (id' - H.length)):=by
    unfold B1;rw [if_pos (by omega)]
   rw [e] at hi
   rw [e'] at hi'
   injection hi with hi
   injection hi' with hi'
   have:=h5 _ _ _ _ _ _ _ hlt hlt' hi hi'
   omega
 ·intro id id' k k' hk hk' hl hl' b cap size cap' size' hi hi'
  by_cases hid:id<H.length
  ·rw [List.getElem?_append_left hid] at hk
   rw [hold _ hid] at hi
   by_cases hid':id'<H.length
   ·rw [List.getElem?_append_left hid'] at hk'
    rw [hold _ hid'] at hi'
    exact hH.old id id' k k' hk hk' hl hl' b cap size cap' size' hi hi'
   ·have:=hdist _ _ _ _ hi k hk (by rw [hl];intro h;cases h)
    rw [List.getElem?_append_right (by omega)] at hk'
    have hlt:=(List.getElem?_eq_some_iff.1 hk').1
    have e:B1 ι H.length B.length new id'=some (new (id' - H.length)):=by
     unfold B1;rw [if_pos (by omega)]
    rw [e] at hi'
    injection hi' with hi'
    have:=(h4 _ _ _ _ hlt hi').1
    omega
  ·rw [List.getElem?_append_right (by omega)] at hk
   have:=(h3 _ _ hk).1
   rw [hl] at this
   cases this
 ·intro b hb
  rcases hb with hb|⟨k,hk,cap,size,he⟩
  ·exact Nat.lt_of_lt_of_le (hM b hb) h2.size
  ·exact (h4 k b cap size hk he).2
 ·intro id hid
  rw [List.length_append] at hid
  unfold B1
  rw [if_neg (by omega)]
  exact hF id (by omega)
 ·refine ⟨h2.os,h2.tape,h2.output,h2.size,fun b hb _=>h2.keep b hb,fun id hid=>hold id hid,?_,fun b hb=>.inl (.inl hb),?_,by simp⟩
  ·intro b hb
   rcases hb with hb|⟨k,hk,cap,size,he⟩
   ·exact .inl hb
   ·exact .inr (h4 k b cap size hk he).1
  ·rintro b ⟨id,k,cap,size,hk,hl,hi⟩
   by_cases hid:id<H.length
   ·rw [List.getElem?_append_left hid] at hk
    rw [hold _ hid] at hi
    exact .inl ⟨id,k,cap,size,hk,hl,hi⟩
   ·rw [List.getElem?_append_right (by omega)] at hk
    have hlt:=(List.getElem?_eq_some_iff.1 hk).1
    have e:B1 ι H.length B.length new id=some (new (id - H.length)):=by
     unfold B1;rw [if_pos (by omega)]
    rw [e] at hi
    injection hi with hi
    exact .inr (h4 _ _ _ _ hlt hi).1
def aT5 (P : Program) (g : FuncId) : Prop := ∃ fn, P.funcs[g]? = some fn ∧ fn.body.isSome = true ∧ fn.name ≠ "runtime.NumGoroutine"
def X7 (P:Program) (g:FuncId) (args:List S) (H:Hp) (s:S) (B:List Blk):Prop:=
 aT5 P g∧∀(w:World) (ι:Io) (M:Ms) (vals:List Value),vals.length=args.length->(∀ j s,args[j]? =some s->RS w ι M s (vals.getD j undef))->o9 w ι M H->MB w M->
  (∀ k,k<B.length->ι (H.length+k)=none)->Calls P g vals.toArray w fun e w'=>∃v,e=.returned v∧I8 w ι M H.length s B v w'
def a9 (P:Program) (g:FuncId) (args:List S) (H:Hp) (s:S) (H':Hp):Prop:=
 aT5 P g∧∀(w:World) (ι:Io) (M:Ms) (vals:List Value),vals.length=args.length->(∀ j s,args[j]? =some s->RS w ι M s (vals.getD j undef))->o9 w ι M H->MB w M->
  a22 ι H.length->Calls P g vals.toArray w fun e w'=>∃v,e=.returned v∧F7 w ι M H s H' v w'
end
end Go.Proofs.YtdbogogfeffjlaaGreat
