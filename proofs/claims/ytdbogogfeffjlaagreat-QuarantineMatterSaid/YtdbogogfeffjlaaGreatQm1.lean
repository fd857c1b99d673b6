/- Part 1. -/
import Derived.WalkKit
import Derived.WalkSpells
import Derived.WalkLawsBesides
import Derived.Lib.Hide
import Derived.Laws.OwnMore
import Derived.Deep.AppendLies
import Derived.Deep.Draws
import Derived.Laws.Small
import Derived.Laws.StructEq
import Derived.Great.BuildSlice
import Derived.Laws.MakeOwn
import Derived.Laws.Tables
import Derived.Deep.Upon
import Derived.Orders
import Derived.Deep.DeepMust
import Derived.BigQuiet
import Derived.Deep.Light
import Derived.ProofKit
import Derived.OpenShut
import Derived.Deep.Slices
import Derived.Deep.Fields
import Derived.Test.YtdbogogfeffjlaaGreatChecked
import Derived.Test.YtdbogogfeffjlaaGreatRows
namespace Go.Proofs.YtdbogogfeffjlaaGreat
set_option linter.unusedVariables false
set_option linter.unusedSimpArgs false
section
open Go.RowKit
structure C8 where
 kind:Int
 hh:Int
 mat:Int
structure p6 where
 day:Int
 src:Int
 dst:Int
 scale:Int
 reading:Int
 all:Bool
structure G5 where
 scale:Int
 since:Int
 till:Int
 grams:Int
 permille:Int
 drift:Int
structure z4 where
 scale:Int
 since:Int
structure a0p where
 move:Int
 mat:Int
 least:Int
 most:Int
structure Ev where
 mats:Int
 hhs:Int
 scs:Int
 places:List C8
 moves:List p6
 certs:List G5
 recalls:List z4
 purities:List a0p
section
variable {α:Type} {k:Nat} {f:α->List Value} {w w':World} {A:Option Addr} {n:Nat} {xs:List α}
end
section
variable {w w':World} {m h s:Int} {A1 A2 A3 A4 A5:Option Addr} {n1 n2 n3 n4 n5:Nat} {e:Ev}
end
end
section
def idx (a b:Int):Bool:=decide (0<=a) && decide (a<b)
def btw (n lo hi:Int):Bool:=decide (lo<=n) && decide (n<=hi)
theorem b05 (a b:Int):btw a 0 (b - 1)=idx a b:=by
 unfold btw idx
 have:decide (a<=b - 1)=decide (a<b):=by simp;omega
 rw [this]
theorem ap2 {a b:Int}:idx a b=true↔0<=a∧a<b:=by simp [idx]
theorem S4 {a b c:Int}:btw a b c=true↔b<=a∧a<=c:=by simp [btw]
def a1j (e:Ev):Bool:=
 decide (6<e.mats) || decide (100<e.hhs) || decide (30<e.scs) || decide (100<e.places.length) || decide (200<e.moves.length) ||
  decide (100<e.certs.length) || decide (30<e.recalls.length) || decide (200<e.purities.length)
def S1 (e:Ev) (p:C8):Bool:=
 idx p.kind 7 && (if p.kind=0 then idx p.hh e.hhs && idx p.mat e.mats else decide (p.hh=-1) && decide (p.mat=-1))
def m9 (e:Ev) (i:Int):Int:=((e.places[i.toNat]?).map (·.kind)).getD (-1)
def D2 (e:Ev) (m:p6):Bool:=
 idx m.src e.places.length && idx m.dst e.places.length && decide (m.src≠m.dst) && decide (m9 e m.src≠5) && decide (m9 e m.src≠6) &&
  !(decide (m9 e m.src=0) && m.all) && decide (m9 e m.dst≠0) && (if m.scale=-1 then decide (m.reading=0) else idx m.scale e.scs && btw m.reading 0 1099511627776)
def a2E (e:Ev) (c:G5):Bool:=
 decide (0<=c.since) && decide (c.since<=c.till) && decide (c.till<=100000) && idx c.scale e.scs && btw c.grams 0 1099511627776 && btw c.permille 0 1000 && btw c.drift 0 10000000
def W9 (e:Ev) (r:z4):Bool:=idx r.scale e.scs && btw r.since 0 100000
def W8 (e:Ev) (p:a0p):Bool:=
 idx p.move e.moves.length && idx p.mat e.mats && decide (0<=p.least) && decide (p.least<=p.most) && decide (p.most<=1000)
def T7 (e:Ev):Bool:=e.certs.all (a2E e) && e.recalls.all (W9 e) && e.purities.all (W8 e)
def u6 (e:Ev):Int->List p6->Int
 |_,[]=>0
 |last,m::r=>if m.day<last∨100000<m.day then 17 else if D2 e m then u6 e m.day r else 1
def z6 (e:Ev):Int:=
 if a1j e then 6 else if e.mats<1∨e.hhs<0∨e.scs<0∨e.places.all (S1 e)=false then 1
 else if u6 e 0 e.moves≠0 then u6 e 0 e.moves else if T7 e then 0 else 1
theorem ag3 {e:Ev} {i:Nat} {p:C8} (h:e.places[i]? =some p):m9 e (i:Int)=p.kind:=by
 simp [m9,h]
theorem ad4 {e:Ev} {l:List p6}:∀{last:Int},u6 e last l=0->∀m ∈ l,D2 e m=true:=by
 induction l with
 |nil=>intro last _ m hm;cases hm
 |cons m r ih=>
  intro last h x hx
  unfold u6 at h
  split at h
  ·simp at h
  ·split at h
   ·rename_i hmk
    rcases List.mem_cons.1 hx with rfl|hx
    ·exact hmk
    ·exact ih h x hx
   ·simp at h
theorem ac7 {e:Ev} (h:z6 e=0):a1j e=false∧1<=e.mats∧0<=e.hhs∧0<=e.scs∧e.places.all (S1 e)=true∧u6 e 0 e.moves=0∧T7 e=true:=by
 unfold z6 at h
 by_cases h1:a1j e=true
 ·rw [if_pos h1] at h;simp at h
 rw [if_neg h1] at h
 by_cases h2:e.mats<1∨e.hhs<0∨e.scs<0∨e.places.all (S1 e)=false
 ·rw [if_pos h2] at h;simp at h
 rw [if_neg h2] at h
 by_cases h3:u6 e 0 e.moves≠0
 ·rw [if_pos h3] at h;exact absurd h h3
 rw [if_neg h3] at h
 by_cases h4:T7 e=true
 ·refine ⟨by simpa using h1,by omega,by omega,by omega,?_,by simpa using h3,h4⟩
  rw [← Bool.not_eq_false]
  exact fun hq=>h2 (.inr (.inr (.inr hq)))
 ·rw [if_neg h4] at h;simp at h
theorem B3 {e:Ev} (h:z6 e=0) {m:p6} (hm:m ∈ e.moves):D2 e m=true:=ad4 (ac7 h).2.2.2.2.2.1 m hm
theorem O4 {e:Ev} {m:p6} (h:D2 e m=true):0<=m.src∧m.src<e.places.length:=by
 simp [D2] at h
 exact ap2.1 h.1.1.1.1.1.1.1
theorem a10 {e:Ev} {m:p6} (h:D2 e m=true):0<=m.dst∧m.dst<e.places.length:=by
 simp [D2] at h
 exact ap2.1 h.1.1.1.1.1.1.2
def a1r {α:Type} (p:Nat->α->Bool):Nat->List α->List Int
 |_,[]=>[]
 |k,m::r=>if p k m then (k:Int)::a1r p (k+1) r else a1r p (k+1) r
end
section
def val:List Int->Int
 |[]=>0
 |d::r=>d+1048576*val r
def Okd (l:List Int):Prop:=∀d ∈ l,0<=d∧d<1048576
def dgF:Nat->Nat->List Int
 |0,_=>[]
 |f+1,n=>if n=0 then [] else ((n % 1048576:Nat):Int)::dgF f (n / 1048576)
def dg (n:Nat):List Int:=dgF n n
def pw (i:Nat):Int:=1048576 ^ i
theorem b5S:pw 0=1:=rfl
theorem D7 (i:Nat):pw (i+1)=pw i*1048576:=Int.pow_succ ..
theorem N5 (i:Nat):0<pw i:=Int.pow_pos (by decide)
theorem a7a (i j:Nat):pw (i+j)=pw i*pw j:=Int.pow_add ..
theorem a0C {i j:Nat} (h:i<=j):pw i<=pw j:=by
 obtain ⟨k,rfl⟩:=Nat.exists_eq_add_of_le h
 rw [a7a]
 have h1:=N5 i
 have h2:=N5 k
 have:=Int.mul_le_mul_of_nonneg_left (a:=1) (b:=pw k) (c:=pw i) (by omega) (by omega)
 omega
theorem Okd.nil:Okd []:=fun _ h=>nomatch h
theorem Okd.cons {d:Int} {l:List Int} (h1:0<=d∧d<1048576) (h2:Okd l):Okd (d::l):=by
 intro x hx
 rcases List.mem_cons.1 hx with rfl|hx
 ·exact h1
 ·exact h2 x hx
theorem Okd.head {d:Int} {l:List Int} (h:Okd (d::l)):0<=d∧d<1048576:=h d (by simp)
theorem Okd.tail {d:Int} {l:List Int} (h:Okd (d::l)):Okd l:=fun x hx=>h x (by simp [hx])
theorem Okd.take {l:List Int} (h:Okd l) (n:Nat):Okd (l.take n):=fun x hx=>h x (List.mem_of_mem_take hx)
theorem Okd.drop {l:List Int} (h:Okd l) (n:Nat):Okd (l.drop n):=fun x hx=>h x (List.mem_of_mem_drop hx)
theorem Okd.append {a b:List Int} (h:Okd a) (h2:Okd b):Okd (a++b):=fun x hx=>by
 rcases List.mem_append.1 hx with hx|hx
 ·exact h x hx
 ·exact h2 x hx
theorem Okd.set {l:List Int} (h:Okd l) {i:Nat} {x:Int} (hx:0<=x∧x<1048576):Okd (l.set i x):=fun y hy=>by
 rcases List.mem_or_eq_of_mem_set hy with hy|rfl
 ·exact h y hy
 ·exact hx
theorem Okd.zeros (n:Nat):Okd (List.replicate n 0):=fun x hx=>by rw [List.eq_of_mem_replicate hx];decide
theorem t4 {l:List Int} (h:Okd l):0<=val l:=by
 induction l with
 |nil=>simp [val]
 |cons d l ih=>have:=ih h.tail;have:=h.head;simp only [val];omega
theorem S9 {l:List Int} (h:Okd l):val l<pw l.length:=by
 induction l with
 |nil=>simp [val,pw]
 |cons d l ih=>
  have:=ih h.tail;have:=h.head
  simp only [val,List.length_cons,D7];omega
theorem I6 (a b:List Int):val (a++b)=val a+pw a.length*val b:=by
 induction a with
 |nil=>simp [val,pw]
 |cons d a ih=>simp only [List.cons_append,val,ih,List.length_cons,D7];grind
theorem a7f (n:Nat):val (List.replicate n 0)=0:=by
 induction n with
 |zero=>rfl
 |succ n ih=>simp [List.replicate_succ,val,ih]
theorem a4F (l:List Int) (i:Nat) (h:i<=l.length):val l=val (l.take i)+pw i*val (l.drop i):=by
 have:=I6 (l.take i) (l.drop i)
 rw [List.take_append_drop] at this
 rw [this]
 rw [List.length_take,Nat.min_eq_left h]
theorem a52 {l:List Int} {i:Nat} {x:Int} (h:l[i]? =some x):val (l.take (i+1))=val (l.take i)+pw i*x:=by
 have hi:i<l.length:=by
  rcases Nat.lt_or_ge i l.length with h1|h1
  ·exact h1
  ·rw [List.getElem?_eq_none h1] at h;cases h
 rw [List.take_add_one,h,I6,List.length_take,Nat.min_eq_left (by omega)]
 simp [val]
theorem a3F {l:List Int} {i:Nat} {x:Int} (h:l[i]? =some x):val (l.drop i)=x+1048576*val (l.drop (i+1)):=by
 have hi:i<l.length:=by
  rcases Nat.lt_or_ge i l.length with h1|h1
  ·exact h1
  ·rw [List.getElem?_eq_none h1] at h;cases h
 rw [List.drop_eq_getElem_cons hi]
 rw [List.getElem?_eq_getElem hi] at h
 injection h with h
 rw [h];rfl
theorem b61 {l:List Int} {i:Nat} {x y:Int} (h:l[i]? =some y):val (l.set i x)=val l+pw i*(x - y):=by
 induction l generalizing i with
 |nil=>simp at h
 |cons d l ih=>
  cases i with
  |zero=>
   simp only [List.getElem?_cons_zero,Option.some.injEq] at h
   subst h
   simp [val,pw];omega
  |succ i=>
   simp only [List.getElem?_cons_succ] at h
   simp only [List.set_cons_succ,val,ih h,D7];grind
theorem b3D (f n:Nat) (h:n<=f):dgF f n=dg n:=by
 unfold dg
 induction f using Nat.strongRecOn generalizing n with
 |ind f ih=>
  cases f with
  |zero=>cases Nat.le_zero.1 h;rfl
  |succ f=>
   cases n with
   |zero=>rfl
   |succ n=>
    simp only [dgF,Nat.succ_ne_zero,if_false]
    rw [ih f (by omega) _ (by omega),ih n (by omega) _ (by omega)]
theorem S3:dg 0=[]:=rfl
theorem a5p {n:Nat} (h:0<n):dg n=((n % 1048576:Nat):Int)::dg (n / 1048576):=by
 obtain ⟨m,rfl⟩:∃m,n=m+1:=⟨n - 1,by omega⟩
 show dgF (m+1) (m+1)=_
 simp only [dgF,Nat.succ_ne_zero,if_false]
 rw [b3D _ _ (by omega)]
theorem aL6 {P:Nat->Prop} (h0:P 0) (h:∀n,0<n->P (n / 1048576)->P n) (n:Nat):P n:=by
 induction n using Nat.strongRecOn with
 |ind n ih=>
  rcases Nat.eq_zero_or_pos n with rfl|hn
  ·exact h0
  ·exact h n hn (ih _ (by omega))
theorem k6 (n:Nat):val (dg n)=n:=by
 induction n using aL6 with
 |h0=>rfl
 |h n hn ih=>rw [a5p hn,val,ih];omega
theorem o8 (n:Nat):Okd (dg n):=by
 induction n using aL6 with
 |h0=>exact .nil
 |h n hn ih=>rw [a5p hn];exact .cons (by omega) ih
theorem N2 {n:Nat}:dg n=[]↔n=0:=by
 constructor
 ·intro h
  have:=k6 n
  rw [h] at this
  simp only [val] at this;omega
 ·rintro rfl;rfl
def E3:List Int->List Int
 |[]=>[]
 |d::r=>if E3 r=[]∧d=0 then [] else d::E3 r
theorem H9 {l:List Int} (h:Okd l):E3 l=dg (val l).toNat:=by
 induction l with
 |nil=>rfl
 |cons d l ih=>
  have h0:=t4 h.tail
  have h1:=h.head
  have hv:(val (d::l)).toNat=d.toNat+1048576*(val l).toNat:=by simp only [val];omega
  rw [E3,ih h.tail,hv]
  split
  ·rename_i hc
   have:=N2.1 hc.1
   rw [this,hc.2];rfl
  ·rename_i hc
   rw [a5p (n:=d.toNat+1048576*(val l).toNat)]
   ·congr 1
    ·omega
    ·congr 1;omega
   ·rcases Nat.eq_zero_or_pos (val l).toNat with h2|h2
    ·have:d≠0:=fun h3=>hc ⟨by rw [h2];rfl,h3⟩
     omega
    ·omega
theorem a35 {l:List Int} {n:Nat} (h1:∀j x,n<=j->l[j]? =some x->x=0) (h2:∀x,0<n->l[n-1]? =some x->x≠0) (hn:n<=l.length):l.take n=E3 l:=by
 induction l generalizing n with
 |nil=>simp [E3]
 |cons d l ih=>
  cases n with
  |zero=>
   have ht:E3 l=[]:=by
    rw [← ih (n:=0) (fun j x _ hx=>h1 (j+1) x (by omega) (by simpa using hx)) (fun x h=>absurd h (by omega)) (by omega)];rfl
   have hd:d=0:=h1 0 d (by omega) (by simp)
   simp [E3,ht,hd]
  |succ n=>
   have ht:E3 l=l.take n:=by
    refine (ih (n:=n) (fun j x hj hx=>h1 (j+1) x (by omega) (by simpa using hx)) (fun x h hx=>h2 x (by omega) ?_) (by simpa using hn)).symm
    obtain ⟨m,rfl⟩:∃m,n=m+1:=⟨n - 1,by omega⟩
    simpa using hx
   rw [E3,ht,List.take_succ_cons,if_neg]
   rintro ⟨h3,h4⟩
   have hn0:n=0:=by
    rcases Nat.eq_zero_or_pos n with h5|h5
    ·exact h5
    ·have:=congrArg List.length h3
     simp only [List.length_take,List.length_nil,List.length_cons] at this hn
     omega
   subst hn0
   exact h2 d (by omega) (by simp) h4
theorem L1 {n k:Nat} (h:(n:Int)<pw k):(dg n).length<=k:=by
 induction k generalizing n with
 |zero=>have:n=0:=by simp [pw] at h;omega
        subst this;simp [S3]
 |succ k ih=>
  rcases Nat.eq_zero_or_pos n with rfl|hn
  ·simp [S3]
  ·rw [a5p hn]
   rw [D7] at h
   have:=ih (n:=n / 1048576) (by omega)
   simp;omega
theorem as8 {n:Nat} (h:0<n):pw ((dg n).length - 1)<=n:=by
 induction n using aL6 with
 |h0=>omega
 |h n hn ih=>
  rw [a5p hn]
  rcases Nat.eq_zero_or_pos (n / 1048576) with h1|h1
  ·rw [h1,S3]
   simp [pw];omega
  ·have h2:=ih h1
   have:(dg (n / 1048576)).length≠0:=by rw [Ne,List.length_eq_zero_iff,N2];omega
   obtain ⟨m,hm⟩:∃m,(dg (n / 1048576)).length=m+1:=⟨(dg (n / 1048576)).length - 1,by omega⟩
   rw [hm] at h2
   rw [List.length_cons,hm]
   simp only [Nat.add_sub_cancel] at h2 ⊢
   rw [D7];omega
theorem K4 (n:Nat):(n:Int)<pw (dg n).length:=by
 have:=S9 (o8 n);rw [k6] at this;exact this
theorem m8 {m n:Nat} (h:m<=n):(dg m).length<=(dg n).length:=L1 (by have:=K4 n;omega)
theorem at8 {m n:Nat} (h:(dg m).length<(dg n).length):m<n:=by
 rcases Nat.lt_or_ge m n with h1|h1
 ·exact h1
 ·have:=m8 h1;omega
def Can (l:List Int):Prop:=Okd l∧∀x,l[l.length - 1]? =some x->x≠0
theorem aM2 {l:List Int} (h:Can l):l=dg (val l).toNat:=by
 rw [← H9 h.1]
 have:=a35 (l:=l) (n:=l.length) (fun j x hj hx=>by rw [List.getElem?_eq_none hj] at hx;cases hx) (fun x _ hx=>h.2 x hx) (Nat.le_refl _)
 rw [List.take_length] at this
 exact this
theorem a0V (n:Nat):Can (dg n):=by
 refine ⟨o8 n,fun x hx h0=>?_⟩
 subst h0
 have hl:0<(dg n).length:=by
  rcases Nat.eq_zero_or_pos (dg n).length with h|h
  ·rw [List.length_eq_zero_iff.1 h] at hx;simp at hx
  ·exact h
 have hp:0<n:=by
  rcases Nat.eq_zero_or_pos n with rfl|h
  ·simp [S3] at hl
  ·exact h
 have h1:=as8 hp
 have h2:=a52 hx
 rw [show (dg n).length - 1+1=(dg n).length by omega,List.take_length,k6] at h2
 have h3:=S9 ((o8 n).take ((dg n).length - 1))
 rw [List.length_take,Nat.min_eq_left (by omega)] at h3
 omega
theorem a82 {a b:List Int} (ha:Okd a) (hb:Okd b) (hl:a.length=b.length) {i:Nat} {x y:Int} (hx:a[i]? =some x) (hy:b[i]? =some y)
 (hd:a.drop (i+1)=b.drop (i+1)) (h:x<y):val a<val b:=by
 have hi:i<a.length:=by
  rcases Nat.lt_or_ge i a.length with h1|h1
  ·exact h1
  ·rw [List.getElem?_eq_none h1] at hx;cases hx
 have e1:=a4F a i (by omega)
 have e2:=a4F b i (by omega)
 rw [a3F hx] at e1
 rw [a3F hy] at e2
 rw [hd] at e1
 have h1:=S9 (ha.take i)
 rw [List.length_take,Nat.min_eq_left (by omega)] at h1
 have h2:=t4 (hb.take i)
 have h3:=N5 i
 have h4:pw i*(x+1048576*val (b.drop (i+1)))+pw i<=pw i*(y+1048576*val (b.drop (i+1))):=by
  have:=Int.mul_le_mul_of_nonneg_left (a:=x+1048576*val (b.drop (i+1))+1) (b:=y+1048576*val (b.drop (i+1))) (c:=pw i) (by omega) (by omega)
  rw [Int.mul_add (pw i) _ 1] at this
  omega
 omega
def dat (l:List Int) (i:Nat):Int:=l.getD i 0
theorem a2k {l:List Int} {i:Nat} {x:Int} (h:l[i]? =some x):dat l i=x:=by unfold dat;rw [List.getD_eq_getElem?_getD,h];rfl
theorem M9 {l:List Int} {i:Nat} (h:l.length<=i):dat l i=0:=by unfold dat;rw [List.getD_eq_getElem?_getD,List.getElem?_eq_none h];rfl
theorem Okd.dat {l:List Int} (h:Okd l) (i:Nat):0<=dat l i∧dat l i<1048576:=by
 rcases Nat.lt_or_ge i l.length with h1|h1
 ·rw [a2k (List.getElem?_eq_getElem h1)]
  exact h _ (List.getElem_mem h1)
 ·rw [M9 h1];decide
theorem o6 (l:List Int) (i:Nat):val (l.take (i+1))=val (l.take i)+pw i*dat l i:=by
 rcases Nat.lt_or_ge i l.length with h1|h1
 ·rw [a2k (List.getElem?_eq_getElem h1)]
  exact a52 (List.getElem?_eq_getElem h1)
 ·rw [M9 h1,List.take_of_length_le (by omega),List.take_of_length_le (by omega)];simp
theorem a4s (n:Int):0<=n % 1048576∧n % 1048576<1048576:=by omega
structure a77 (a b:List Int) (i:Nat) (out:List Int) (c:Int):Prop where
 len:out.length=a.length+1
 ok:Okd out
 le:i<=a.length
 zero:∀j,i<=j->dat out j=0
 c0:0<=c
 c1:c<=1
 eq:val out+pw i*c=val (a.take i)+val (b.take i)
theorem a77.init (a b:List Int):a77 a b 0 (List.replicate (a.length+1) 0) 0:=
 ⟨by simp,.zeros _,Nat.zero_le _,fun j _=>by unfold dat;rw [List.getD_eq_getElem?_getD,List.getElem?_replicate];split<;>rfl,by decide,by decide,by rw [a7f];simp [val]⟩
theorem a4n {l:List Int} {i j:Nat} {x:Int} (h:i≠j):dat (l.set i x) j=dat l j:=by
 unfold dat;rw [List.getD_eq_getElem?_getD,List.getD_eq_getElem?_getD,List.getElem?_set_ne h]
theorem a0L {l:List Int} {i:Nat} {x:Int} (hi:i<l.length):val (l.set i x)=val l+pw i*(x - dat l i):=by
 rw [a2k (List.getElem?_eq_getElem hi)];exact b61 (List.getElem?_eq_getElem hi)
theorem a77.step {a b out:List Int} {i:Nat} {c:Int} (h:a77 a b i out c) (ha:Okd a) (hb:Okd b) (hi:i<a.length):
 a77 a b (i+1) (out.set i ((c+dat a i+dat b i) % 1048576)) ((c+dat a i+dat b i) / 1048576):=by
 have h1:=ha.dat i
 have h2:=hb.dat i
 have h3:=h.c0
 have h4:=h.c1
 have hl:=h.len
 refine ⟨by simp [hl],h.ok.set (a4s _),hi,fun j hj=>?_,by omega,by omega,?_⟩
 ·rw [a4n (by omega)];exact h.zero j (by omega)
 ·rw [a0L (by omega),h.zero i (Nat.le_refl _),o6,o6,D7]
  have h5:=h.eq
  have h6:(c+dat a i+dat b i) % 1048576=c+dat a i+dat b i - 1048576*((c+dat a i+dat b i) / 1048576):=by omega
  rw [h6]
  grind
theorem a77.fin {a b out:List Int} {c:Int} (h:a77 a b a.length out c) (hl:b.length<=a.length):E3 (out.set a.length c)=dg (val a+val b).toNat:=by
 have h1:=h.c0
 have h2:=h.c1
 have h3:=h.eq
 have hl:=h.len
 rw [H9 (h.ok.set (by omega)),a0L (by omega),h.zero _ (Nat.le_refl _)]
 rw [List.take_length,List.take_of_length_le (by omega)] at h3
 congr 2
 grind
structure ae7 (a b:List Int) (i:Nat) (out:List Int) (c:Int):Prop where
 len:out.length=a.length
 ok:Okd out
 le:i<=a.length
 rest:∀j,i<=j->dat out j=dat a j
 c0:0<=c
 c1:c<=1
 eq:val out - pw i*c=val a - val (b.take i)
theorem ae7.init {a b:List Int} (ha:Okd a):ae7 a b 0 a 0:=⟨rfl,ha,Nat.zero_le _,fun _ _=>rfl,by decide,by decide,by simp [val]⟩
theorem ae7.step {a b out:List Int} {i:Nat} {c:Int} (h:ae7 a b i out c) (ha:Okd a) (hb:Okd b) (hi:i<a.length):
 ae7 a b (i+1) (out.set i ((dat out i - c - dat b i) % 1048576)) ((dat out i - c - dat b i) / 1048576 % 2):=by
 have h1:=h.ok.dat i
 have h2:=hb.dat i
 have h3:=h.c0
 have h4:=h.c1
 have hl:=h.len
 refine ⟨by simp [hl],h.ok.set (a4s _),hi,fun j hj=>?_,by omega,by omega,?_⟩
 ·rw [a4n (by omega)];exact h.rest j (by omega)
 ·rw [a0L (by omega),o6,D7]
  have h5:=h.eq
  have h6:(dat out i - c - dat b i) % 1048576=dat out i - c - dat b i+1048576*((dat out i - c - dat b i) / 1048576 % 2):=by omega
  rw [h6]
  grind
theorem ae7.fin {a b out:List Int} {c:Int} (h:ae7 a b a.length out c) (hl:b.length<=a.length) (hv:val b<=val a):E3 out=dg (val a - val b).toNat:=by
 have h1:=h.c0
 have h2:=h.c1
 have h3:=h.eq
 have hlen:=h.len
 rw [List.take_of_length_le (by omega)] at h3
 have h4:=S9 h.ok
 rw [hlen] at h4
 rw [H9 h.ok]
 rcases Int.lt_or_le 0 c with h5|h5
 ·have:c=1:=by omega
  subst this;omega
 ·have:c=0:=by omega
  subst this
  congr 2;omega
structure aa9 (a b:List Int) (i k:Nat) (out:List Int) (c:Int):Prop where
 len:out.length=a.length+b.length
 ok:Okd out
 le:k<=b.length
 zero:∀j,i+b.length<=j->dat out j=0
 c0:0<=c
 c1:c<1048576
 eq:val out+pw (i+k)*c=val (a.take i)*val b+pw i*dat a i*val (b.take k)
structure a3p (a b:List Int) (i:Nat) (out:List Int):Prop where
 len:out.length=a.length+b.length
 ok:Okd out
 le:i<=a.length
 zero:∀j,i+b.length<=j->dat out j=0
 eq:val out=val (a.take i)*val b
theorem a3p.init (a b:List Int):a3p a b 0 (List.replicate (a.length+b.length) 0):=
 ⟨by simp,.zeros _,Nat.zero_le _,fun j _=>by unfold dat;rw [List.getD_eq_getElem?_getD,List.getElem?_replicate];split<;>rfl,by rw [a7f];simp [val]⟩
theorem a3p.start {a b out:List Int} {i:Nat} (h:a3p a b i out):aa9 a b i 0 out 0:=
 ⟨h.len,h.ok,Nat.zero_le _,h.zero,by decide,by decide,by rw [h.eq];simp [val]⟩
theorem a2G {x y:Int} (hx:0<=x∧x<1048576) (hy:0<=y∧y<1048576):0<=x*y∧x*y<=1048575*1048575:=
 ⟨Int.mul_nonneg hx.1 hy.1,Int.mul_le_mul (by omega) (by omega) hy.1 (by decide)⟩
theorem aa9.step {a b out:List Int} {i k:Nat} {c:Int} (h:aa9 a b i k out c) (ha:Okd a) (hb:Okd b) (hi:i<a.length) (hk:k<b.length):
 aa9 a b i (k+1) (out.set (i+k) ((dat out (i+k)+dat a i*dat b k+c) % 1048576)) ((dat out (i+k)+dat a i*dat b k+c) / 1048576):=by
 have h1:=h.ok.dat (i+k)
 have h2:=a2G (ha.dat i) (hb.dat k)
 have h3:=h.c0
 have h4:=h.c1
 have hl:=h.len
 refine ⟨by simp [hl],h.ok.set (a4s _),hk,fun j hj=>?_,by omega,by omega,?_⟩
 ·rw [a4n (by omega)];exact h.zero j (by omega)
 ·rw [a0L (by omega),o6,show i+(k+1)=i+k+1 by omega,D7]
  have h5:=h.eq
  have h6:(dat out (i+k)+dat a i*dat b k+c) % 1048576=dat out (i+k)+dat a i*dat b k+c - 1048576*((dat out (i+k)+dat a i*dat b k+c) / 1048576):=by omega
  rw [h6]
  have h7:=a7a i k
  grind
theorem aa9.done {a b out:List Int} {i:Nat} {c:Int} (h:aa9 a b i b.length out c) (ha:Okd a) (hb:Okd b) (hi:i<a.length):
 a3p a b (i+1) (out.set (i+b.length) (dat out (i+b.length)+c)):=by
 have h3:=h.c0
 have h4:=h.c1
 have hl:=h.len
 have h8:=h.zero _ (Nat.le_refl _)
 refine ⟨by simp [hl],h.ok.set (by omega),hi,fun j hj=>?_,?_⟩
 ·rw [a4n (by omega)];exact h.zero j (by omega)
 ·rw [a0L (by omega),o6]
  have h5:=h.eq
  rw [List.take_length] at h5
  grind
theorem a3p.fin {a b out:List Int} (h:a3p a b a.length out):E3 out=dg (val a*val b).toNat:=by
 rw [H9 h.ok,h.eq,List.take_length]
structure Y8 (a:List Int) (d:Int) (j:Nat) (out:List Int) (r:Int):Prop where
 len:out.length=a.length
 ok:Okd out
 le:j<=a.length
 r0:0<=r
 r1:r<d
 eq:val (a.drop j)=d*val (out.drop j)+r
theorem Y8.init (a:List Int) {d:Int} (hd:0<d):Y8 a d a.length (List.replicate a.length 0) 0:=
 ⟨by simp,.zeros _,Nat.le_refl _,by decide,hd,by simp [val]⟩
theorem a5J {l:List Int} {i:Nat} (h:i<l.length):val (l.drop i)=dat l i+1048576*val (l.drop (i+1)):=by
 rw [a2k (List.getElem?_eq_getElem h)];exact a3F (List.getElem?_eq_getElem h)
theorem a6B {l:List Int} {i:Nat} {x:Int} (h:i<l.length):dat (l.set i x) i=x:=by
 unfold dat;rw [List.getD_eq_getElem?_getD,List.getElem?_set_self h];rfl
theorem Y8.step {a out:List Int} {d r:Int} {j:Nat} (h:Y8 a d (j+1) out r) (ha:Okd a) (hd:0<d):
 Y8 a d j (out.set j ((r*1048576+dat a j) / d)) ((r*1048576+dat a j) % d):=by
 have h1:=ha.dat j
 have h3:=h.r0
 have h4:=h.r1
 have hl:=h.len
 have hle:=h.le
 have h6:0<=(r*1048576+dat a j) / d:=Int.ediv_nonneg (by omega) (by omega)
 have h7:(r*1048576+dat a j) / d<1048576:=by
  apply Int.ediv_lt_of_lt_mul hd
  have:=Int.mul_le_mul_of_nonneg_left (a:=r+1) (b:=d) (c:=1048576) (by omega) (by omega)
  omega
 refine ⟨by simp [hl],h.ok.set ⟨h6,h7⟩,by omega,Int.emod_nonneg _ (by omega),Int.emod_lt_of_pos _ hd,?_⟩
 rw [a5J (by omega),a5J (l:=out.set j _) (by simp;omega),a6B (by omega),List.drop_set_of_lt (by omega),h.eq]
 have h8:=Int.emod_add_mul_ediv (r*1048576+dat a j) d
 grind
theorem Y8.fin {a out:List Int} {d r:Int} (h:Y8 a d 0 out r) (ha:Okd a) (hd:0<d):E3 out=dg (val a / d).toNat∧r=val a % d:=by
 have h3:=h.r0
 have h4:=h.r1
 have h5:=h.eq
 simp only [List.drop_zero] at h5
 rw [H9 h.ok]
 have e1:val a / d=val out:=by rw [h5];rw [Int.add_comm,Int.add_mul_ediv_left _ _ (by omega),Int.ediv_eq_zero_of_lt h3 h4];omega
 have e2:val a % d=r:=by rw [h5,Int.add_comm,Int.add_mul_emod_self_left,Int.emod_eq_of_lt h3 h4]
 exact ⟨by rw [e1],e2.symm⟩
structure a8d (w v:List Int) (g:Int) (i:Nat) (out:List Int) (c:Int):Prop where
 len:out.length=w.length
 ok:Okd out
 le:i<=w.length
 rest:∀j,i<=j->dat out j=dat w j
 c0:0<=c
 c1:c<1048576
 eq:val out - pw i*c=val w - g*val (v.take i)
theorem a8d.init {w v:List Int} (g:Int) (hw:Okd w):a8d w v g 0 w 0:=⟨rfl,hw,Nat.zero_le _,fun _ _=>rfl,by decide,by decide,by simp [val]⟩
theorem a8d.step {w v out:List Int} {g:Int} {i:Nat} {c:Int} (h:a8d w v g i out c) (hv:Okd v) (hg:0<=g∧g<1048576) (hi:i<w.length):
 a8d w v g (i+1) (out.set i ((dat out i - c - g*dat v i) % 1048576)) (-((dat out i - c - g*dat v i) / 1048576)):=by
 have h1:=h.ok.dat i
 have h2:=a2G hg (hv.dat i)
 have h3:=h.c0
 have h4:=h.c1
 have hl:=h.len
 refine ⟨by simp [hl],h.ok.set (a4s _),hi,fun j hj=>?_,by omega,by omega,?_⟩
 ·rw [a4n (by omega)];exact h.rest j (by omega)
 ·rw [a0L (by omega),o6,D7]
  have h5:=h.eq
  have h6:(dat out i - c - g*dat v i) % 1048576=dat out i - c - g*dat v i - 1048576*((dat out i - c - g*dat v i) / 1048576):=by omega
  rw [h6]
  grind
structure a6g (w v:List Int) (i:Nat) (out:List Int) (c:Int):Prop where
 len:out.length=w.length
 ok:Okd out
 le:i<=w.length
 rest:∀j,i<=j->dat out j=dat w j
 c0:0<=c
 c1:c<=1
 eq:val out+pw i*c=val w+val (v.take i)
theorem a6g.init {w v:List Int} (hw:Okd w):a6g w v 0 w 0:=⟨rfl,hw,Nat.zero_le _,fun _ _=>rfl,by decide,by decide,by simp [val]⟩
theorem a6g.step {w v out:List Int} {i:Nat} {c:Int} (h:a6g w v i out c) (hv:Okd v) (hi:i<w.length):
 a6g w v (i+1) (out.set i ((c+dat out i+dat v i) % 1048576)) ((c+dat out i+dat v i) / 1048576):=by
 have h1:=h.ok.dat i
 have h2:=hv.dat i
 have h3:=h.c0
 have h4:=h.c1
 have hl:=h.len
 refine ⟨by simp [hl],h.ok.set (a4s _),hi,fun j hj=>?_,by omega,by omega,?_⟩
 ·rw [a4n (by omega)];exact h.rest j (by omega)
 ·rw [a0L (by omega),o6,D7]
  have h5:=h.eq
  have h6:(c+dat out i+dat v i) % 1048576=c+dat out i+dat v i - 1048576*((c+dat out i+dat v i) / 1048576):=by omega
  rw [h6]
  grind
theorem a8d.zero {w v out:List Int} {g c:Int} (h:a8d w v g w.length out c) (hl:v.length<=w.length) (hw:Okd w) (hv:Okd v) (hg:0<=g):
 (c=0↔g*val v<=val w)∧(c=0->val out=val w - g*val v):=by
 have h3:=h.c0
 have h5:=h.eq
 rw [List.take_of_length_le (by omega)] at h5
 have h6:=S9 h.ok
 have h7:=t4 h.ok
 rw [h.len] at h6
 have h8:=N5 w.length
 have h9:0<c->pw w.length<=pw w.length*c:=fun hc=>by
  have:=Int.mul_le_mul_of_nonneg_left (a:=1) (b:=c) (c:=pw w.length) (by omega) (by omega)
  omega
 constructor
 ·constructor
  ·rintro rfl;omega
  ·intro h10
   rcases Int.lt_or_le 0 c with h11|h11
   ·have:=h9 h11;omega
   ·omega
 ·rintro rfl;omega
theorem a8d.back {w v out out':List Int} {g c c':Int} (h:a8d w v g w.length out c) (h':a6g out v w.length out' c') (hl:v.length<=w.length)
 (h1:0<=val w - g*val v+val v) (h2:val w - g*val v+val v<pw w.length):val out'=val w - g*val v+val v:=by
 have h5:=h.eq
 have h6:=h'.eq
 rw [List.take_of_length_le (by omega)] at h5 h6
 have h7:=S9 h'.ok
 have h8:=t4 h'.ok
 rw [h'.len,h.len] at h7
 have h9:=N5 w.length
 have e:val out'+pw w.length*(c' - c)=val w - g*val v+val v:=by grind
 rcases Int.lt_trichotomy (c' - c) 0 with hc|hc|hc
 ·have:=Int.mul_le_mul_of_nonneg_left (a:=c' - c) (b:=-1) (c:=pw w.length) (by omega) (by omega)
  omega
 ·rw [hc] at e;omega
 ·have:=Int.mul_le_mul_of_nonneg_left (a:=1) (b:=c' - c) (c:=pw w.length) (by omega) (by omega)
  omega
structure Win (P V W v1 v2 top u2:Int):Prop where
 P0:0<P
 v1l:524288<=v1
 v1u:v1<1048576
 v20:0<=v2
 v2u:v2<1048576
 u20:0<=u2
 u2u:u2<1048576
 t0:0<=top
 tu:top<1048576*1048576
 Vl:P*(v1*1048576+v2)<=V
 Vu:V<P*(v1*1048576+v2)+P
 Wl:P*(top*1048576+u2)<=W
 Wu:W<P*(top*1048576+u2)+P
 lt:W<V*1048576
theorem Win.V0 {P V W v1 v2 top u2:Int} (h:Win P V W v1 v2 top u2):0<V:=by
 have h1:=h.Vl
 have h2:=h.P0
 have h3:=h.v1l
 have h4:=h.v20
 have:=Int.mul_pos h2 (b:=v1*1048576+v2) (by omega)
 omega
structure U3 (V W v1 top g r:Int):Prop where
 g0:0<=g
 gu:g<=2097152
 r0:0<=r
 ru:r<2097152
 eq:g*v1+r=top
 hi:W<(g+1)*V
theorem U3.init {P V W v1 v2 top u2:Int} (h:Win P V W v1 v2 top u2):U3 V W v1 top (top / v1) (top % v1):=by
 have h1:=h.v1l
 have h2:=h.v1u
 have h3:=h.t0
 have h4:=h.tu
 have h5:=Int.emod_nonneg top (b:=v1) (by omega)
 have h6:=Int.emod_lt_of_pos top (b:=v1) (by omega)
 have h7:=Int.mul_ediv_add_emod top v1
 have h8:0<=top / v1:=Int.ediv_nonneg h3 (by omega)
 have hq:top / v1*v1+top % v1=top:=by rw [Int.mul_comm];exact h7
 refine ⟨h8,?_,h5,by omega,hq,?_⟩
 ·have h9:=Int.mul_le_mul_of_nonneg_left (a:=524288) (b:=v1) (c:=top / v1) h1 h8
  omega
 ·have hW:=h.Wu
  have hV:=h.Vl
  have hP:=h.P0
  have h20:=h.v20
  have hu:=h.u2u
  have e1:(top / v1+1)*(P*(v1*1048576+v2))<=(top / v1+1)*V:=Int.mul_le_mul_of_nonneg_left hV (by omega)
  have e2:top*1048576+u2+1<=(top / v1+1)*(v1*1048576+v2):=by
   have:0<=(top / v1+1)*v2:=Int.mul_nonneg (by omega) h20
   have e3:(top / v1+1)*v1≥top+1:=by grind
   grind
  have e4:=Int.mul_le_mul_of_nonneg_left (c:=P) e2 (by omega)
  grind
theorem U3.dec {P V W v1 v2 top u2 g r:Int} (h:Win P V W v1 v2 top u2) (hg:U3 V W v1 top g r) (hc:1048576<=g∨(r<1048576∧r*1048576+u2<g*v2)):
 W<g*V:=by
 have hV0:=h.V0
 rcases hc with hc|⟨hr,hc⟩
 ·have:=Int.mul_le_mul_of_nonneg_right (a:=1048576) (b:=g) (c:=V) hc (by omega)
  have:=h.lt
  omega
 ·have hW:=h.Wu
  have e1:g*(P*(v1*1048576+v2))<=g*V:=Int.mul_le_mul_of_nonneg_left h.Vl hg.g0
  have e2:top*1048576+u2+1<=g*(v1*1048576+v2):=by
   have:=hg.eq
   grind
  have e4:=Int.mul_le_mul_of_nonneg_left (c:=P) e2 (Int.le_of_lt h.P0)
  grind
theorem U3.small {P V W v1 v2 top u2 g r:Int} (h:Win P V W v1 v2 top u2) (hg:U3 V W v1 top g r) (hc:1048576<=g):r<1048576:=by
 have h1:=h.Wl
 have h2:=h.lt
 have h3:=h.Vu
 have hP:=h.P0
 have e1:P*(top*1048576+u2)<P*((v1*1048576+v2+1)*1048576):=by grind
 have e2:top*1048576+u2<(v1*1048576+v2+1)*1048576:=Int.lt_of_mul_lt_mul_left e1 (Int.le_of_lt hP)
 have h4:=h.u20
 have h5:=hg.eq
 have h6:=Int.mul_le_mul_of_nonneg_right (a:=1048576) (b:=g) (c:=v1) hc (by have:=h.v1l;omega)
 have h7:=h.v2u
 omega
theorem U3.step {P V W v1 v2 top u2 g r:Int} (h:Win P V W v1 v2 top u2) (hg:U3 V W v1 top g r) (hc:1048576<=g∨(r<1048576∧r*1048576+u2<g*v2))
 (hW0:0<=W):U3 V W v1 top (g - 1) (r+v1):=by
 have h1:=U3.dec h hg hc
 have hV0:=h.V0
 have hg0:0<g:=by
  rcases Int.lt_or_le 0 g with h2|h2
  ·exact h2
  ·have:=hg.g0
   have:g=0:=by omega
   subst this;omega
 have h2:=hg.gu
 have h3:=hg.r0
 have h4:=h.v1l
 have h5:=h.v1u
 have h6:=hg.eq
 have h7:r<1048576:=by
  rcases hc with hc|hc
  ·exact U3.small h hg hc
  ·exact hc.1
 exact ⟨by omega,by omega,by omega,by omega,by grind,by grind⟩
theorem U3.fin {P V W v1 v2 top u2 g r:Int} (h:Win P V W v1 v2 top u2) (hg:U3 V W v1 top g r) (hc:¬(1048576<=g∨(r<1048576∧r*1048576+u2<g*v2)))
 (hP:P*1048576<=V):g<1048576∧g*V<=W+V:=by
 have hg1:g<1048576:=by omega
 refine ⟨hg1,?_⟩
 have h0:=hg.g0
 have h20:=h.v20
 have h2u:=h.v2u
 have hu0:=h.u20
 have e1:g*v2<=r*1048576+u2:=by
  rcases Int.lt_or_le r 1048576 with hr|hr
  ·omega
  ·have:=a2G ⟨h0,hg1⟩ ⟨h20,h2u⟩
   omega
 have e2:g*(v1*1048576+v2)<=top*1048576+u2:=by
  have:=hg.eq
  grind
 have e3:=Int.mul_le_mul_of_nonneg_left (c:=P) e2 (Int.le_of_lt h.P0)
 have e4:g*V<=g*(P*(v1*1048576+v2)+P):=Int.mul_le_mul_of_nonneg_left (Int.le_of_lt h.Vu) h0
 have e5:g*P<=1048576*P:=Int.mul_le_mul_of_nonneg_right (Int.le_of_lt hg1) (Int.le_of_lt h.P0)
 have hW:=h.Wl
 grind
structure Bg where
 sg:Int
 dl:List Int
def bz (z:Int):Bg:=⟨z.sign,dg z.natAbs⟩
def inD (d:Int):Bool:=decide (0<=d) && decide (d<=1048575)
def G0 (b:Bg):Bool:=b.dl.all inD && (if b.dl.length=0 then b.sg == 0 else (b.sg == 1 || b.sg == -1) && !(dat b.dl (b.dl.length - 1) == 0))
def bv (b:Bg):Int:=b.sg*val b.dl
theorem b0h {l:List Int}:l.all inD=true↔Okd l:=by
 simp only [List.all_eq_true,inD,Bool.and_eq_true,decide_eq_true_eq]
 exact ⟨fun h d hd=>by have:=h d hd;omega,fun h d hd=>by have:=h d hd;omega⟩
theorem a3f (z:Int):bv (bz z)=z:=by
 unfold bv bz
 rw [k6]
 exact Int.sign_mul_natAbs z
theorem b3q {b:Bg} (h:G0 b=true):b=bz (bv b):=by
 unfold G0 at h
 rw [Bool.and_eq_true,b0h] at h
 obtain ⟨h1,h2⟩:=h
 obtain ⟨sg,dl⟩:=b
 simp only at h1 h2
 have hv:=t4 h1
 by_cases hl:dl.length=0
 ·rw [if_pos hl] at h2
  have:dl=[]:=List.eq_nil_of_length_eq_zero hl
  subst this
  have:sg=0:=by simpa using h2
  subst this
  rfl
 ·rw [if_neg hl,Bool.and_eq_true] at h2
  have hc:Can dl:=⟨h1,fun x hx=>by rw [a2k hx] at h2;simpa using h2.2⟩
  have h3:=aM2 hc
  have hp:0<val dl:=by
   rcases Int.lt_or_le 0 (val dl) with h4|h4
   ·exact h4
   ·have:val dl=0:=by omega
    rw [this] at h3
    rw [h3] at hl
    exact absurd rfl hl
  have hs:sg=1∨sg=-1:=by simpa using h2.1
  have ha:(sg*val dl).natAbs=(val dl).toNat:=by
   rcases hs with rfl|rfl<;>omega
  have hg:(sg*val dl).sign=sg:=by
   rcases hs with rfl|rfl
   ·rw [Int.one_mul];exact Int.sign_eq_one_of_pos hp
   ·exact Int.sign_eq_neg_one_of_neg (by omega)
  unfold bz bv
  simp only
  rw [ha,hg,←h3]
theorem V7 (z:Int):G0 (bz z)=true:=by
 unfold G0
 rw [Bool.and_eq_true,b0h]
 refine ⟨o8 _,?_⟩
 by_cases hl:(bz z).dl.length=0
 ·rw [if_pos hl]
  have h0:dg z.natAbs=[]:=List.eq_nil_of_length_eq_zero hl
  have:z=0:=by have:=N2.1 h0;omega
  subst this;rfl
 ·rw [if_neg hl]
  have hz:z≠0:=by rintro rfl;exact hl rfl
  have hl0:(dg z.natAbs).length - 1<(dg z.natAbs).length:=by have:(dg z.natAbs).length≠0:=hl;omega
  have h1:=(a0V z.natAbs).2 _ (List.getElem?_eq_getElem hl0)
  have h2:dat (bz z).dl ((bz z).dl.length - 1)≠0:=by
   show dat (dg z.natAbs) ((dg z.natAbs).length - 1)≠0
   rw [a2k (List.getElem?_eq_getElem hl0)];exact h1
  rw [Bool.and_eq_true]
  refine ⟨?_,by simpa using h2⟩
  show ((z.sign == 1) || (z.sign == -1))=true
  rcases Int.lt_trichotomy z 0 with h|h|h
  ·rw [Int.sign_eq_neg_one_of_neg h];rfl
  ·exact absurd h hz
  ·rw [Int.sign_eq_one_of_pos h];rfl
theorem ab2 {z:Int}:(bz z).sg=z.sign:=rfl
structure Fr where
 p:Bg
 q:Bg
def fz (x:Rat):Fr:=⟨bz x.num,bz x.den⟩
def B5 (f:Fr):Bool:=G0 f.p && G0 f.q && (f.q.sg == 1) && (Int.gcd (bv f.p) (bv f.q) == 1)
def fv (f:Fr):Rat:=mkRat (bv f.p) (bv f.q).toNat
theorem a6t (x:Rat):B5 (fz x)=true:=by
 unfold B5 fz
 simp only [V7,a3f,Bool.true_and,Bool.and_eq_true]
 have hd:=x.den_pos
 refine ⟨?_,?_⟩
 ·rw [ab2,Int.sign_eq_one_of_pos (by omega)];rfl
 ·have:=x.reduced
  simp only [Int.gcd,Int.natAbs_natCast]
  rw [this];rfl
theorem b8h {f:Fr} (h:B5 f=true):f=fz (fv f):=by
 unfold B5 at h
 simp only [Bool.and_eq_true,beq_iff_eq] at h
 obtain ⟨⟨⟨h1,h2⟩,h3⟩,h4⟩:=h
 have e1:=b3q h1
 have e2:=b3q h2
 rw [e2,ab2] at h3
 have hq:0<bv f.q:=Int.sign_eq_one_iff_pos.1 h3
 have hr:Nat.Coprime (bv f.p).natAbs (bv f.q).toNat:=by
  have:(bv f.q).natAbs=(bv f.q).toNat:=by omega
  rw [← this];exact h4
 have e3:fv f=⟨bv f.p,(bv f.q).toNat,by omega,hr⟩:=(Rat.mk_eq_mkRat _ _ _ _).symm
 rw [e3]
 unfold fz
 simp only
 rw [← e1,show (((bv f.q).toNat:Nat):Int)=bv f.q by omega,←e2]
theorem b8W (x:Rat):fv (fz x)=x:=by
 unfold fv fz
 simp only [a3f,Int.toNat_natCast]
 exact Rat.mkRat_self x
theorem a7z {p q g:Int} (hq:0<q) (hg:g=Int.gcd p q):fz (Rat.divInt p q)=⟨bz (p / g),bz (q / g)⟩:=by
 unfold fz
 rw [Rat.num_divInt,Rat.den_divInt,if_neg (by omega),Int.sign_eq_one_of_pos hq,Int.one_mul,Int.gcd_comm q p,←hg]
 congr 2
 rw [hg]
 have:((q.natAbs / Int.gcd p q:Nat):Int)=(q.natAbs:Int) / (Int.gcd p q:Int):=by simp
 rw [this,show (q.natAbs:Int)=q by omega]
structure a8g (U V N L:Nat) (j:Nat) (u q:List Int):Prop where
 lu:u.length=N
 oku:Okd u
 lq:q.length=N - L
 okq:Okd q
 le:j<=N - L
 eq:val (q.drop j)*pw j*V+val u=U
 lt:val u<V*pw j
theorem a8g.init {U V:Nat} (hV:0<V) (hl:(dg V).length<=(dg U).length+1):a8g U V ((dg U).length+1) (dg V).length ((dg U).length+1 - (dg V).length) (dg U++[0]) (List.replicate ((dg U).length+1 - (dg V).length) 0):=by
 have h1:=as8 hV
 have h2:=K4 U
 have hv:val (dg U++[0])=U:=by rw [I6,k6];simp [val]
 have hL:(dg V).length≠0:=by rw [Ne,List.length_eq_zero_iff,N2];omega
 refine ⟨by simp,(o8 U).append (by intro x hx;simp at hx;omega),by simp,.zeros _,Nat.le_refl _,?_,?_⟩
 ·rw [List.drop_of_length_le (by simp),hv];simp [val]
 ·rw [hv]
  have h3:=Int.mul_le_mul_of_nonneg_right (a:=pw ((dg V).length - 1)) (b:=V) (c:=pw ((dg U).length+1 - (dg V).length)) h1 (Int.le_of_lt (N5 _))
  rw [← a7a,show (dg V).length - 1+((dg U).length+1 - (dg V).length)=(dg U).length by omega] at h3
  omega
theorem a8g.window {U V N L j:Nat} {u q:List Int} (h:a8g U V N L (j+1) u q) (hL:(dg V).length=L):
 u=u.take j++(u.drop j).take (L+1)++u.drop (j+(L+1))∧((u.drop j).take (L+1)).length=L+1∧(u.take j).length=j∧
 val u=val (u.take j)+pw j*val ((u.drop j).take (L+1))∧val (u.drop (j+(L+1)))=0∧val ((u.drop j).take (L+1))<V*1048576:=by
 have h1:=h.lu
 have h2:=h.le
 have h3:=h.lt
 have hp:=N5 j
 have e0:(u.take j).length=j:=by simp;omega
 have e1:u.drop j=(u.drop j).take (L+1)++u.drop (j+(L+1)):=by rw [← List.drop_drop,List.take_append_drop]
 have e2:((u.drop j).take (L+1)).length=L+1:=by simp;omega
 have e3:u=u.take j++(u.drop j).take (L+1)++u.drop (j+(L+1)):=by rw [List.append_assoc,←e1,List.take_append_drop]
 have hv:=a4F u j (by omega)
 have hw:=I6 ((u.drop j).take (L+1)) (u.drop (j+(L+1)))
 rw [← e1,e2] at hw
 have h4:=t4 (h.oku.take j)
 have h5:=t4 ((h.oku.drop j).take (L+1))
 have h6:=t4 (h.oku.drop (j+(L+1)))
 have hVp:=K4 V
 rw [hL] at hVp
 have hz:val (u.drop (j+(L+1)))=0:=by
  rcases Int.lt_or_le 0 (val (u.drop (j+(L+1)))) with h7|h7
  ·exfalso
   have a1:=Int.mul_le_mul_of_nonneg_left (a:=1) (b:=val (u.drop (j+(L+1)))) (c:=pw (L+1)) (by omega) (Int.le_of_lt (N5 _))
   have a2:=Int.mul_le_mul_of_nonneg_left (a:=pw (L+1)) (b:=val (u.drop j)) (c:=pw j) (by omega) (Int.le_of_lt hp)
   have a3:=Int.mul_le_mul_of_nonneg_right (a:=(V:Int)) (b:=pw L) (c:=pw (j+1)) (Int.le_of_lt hVp) (Int.le_of_lt (N5 _))
   have a4:pw j*pw (L+1)=pw L*pw (j+1):=by rw [← a7a,←a7a];congr 1;omega
   omega
  ·omega
 rw [hz,Int.mul_zero,Int.add_zero] at hw
 rw [hw] at hv
 refine ⟨e3,e2,e0,hv,hz,?_⟩
 have a5:pw j*val ((u.drop j).take (L+1))<pw j*(V*1048576):=by
  rw [D7] at h3
  have:(V:Int)*(pw j*1048576)=pw j*(V*1048576):=by grind
  omega
 exact Int.lt_of_mul_lt_mul_left a5 (Int.le_of_lt hp)
theorem ak1 (l:List Int):E3 l++List.replicate (l.length - (E3 l).length) 0=l:=by
 induction l with
 |nil=>rfl
 |cons d r ih=>
  rw [E3]
  split
  ·rename_i h
   rw [h.1] at ih
   rw [h.2]
   simp only [List.nil_append,List.length_nil,Nat.sub_zero,List.length_cons,List.replicate_succ] at ih ⊢
   rw [ih]
  ·simp only [List.cons_append,List.length_cons,Nat.add_sub_add_right]
   rw [ih]
def Y1 (n:Nat) (l:List Int):List Int:=l++List.replicate (n - l.length) 0
theorem aZ1 {l:List Int} (h:Okd l) {n:Nat} (hn:l.length=n):l=Y1 n (dg (val l).toNat):=by
 subst hn
 have:=ak1 l
 rw [H9 h] at this
 exact this.symm
theorem b6c (n:Nat) (l:List Int):val (Y1 n l)=val l:=by unfold Y1;rw [I6,a7f];simp
theorem al3 {n:Nat} {l:List Int} (h:l.length<=n):(Y1 n l).length=n:=by unfold Y1;simp;omega
theorem b4m {n:Nat} {l:List Int} (h:Okd l):Okd (Y1 n l):=h.append (.zeros _)
theorem Win.of {v w:List Int} {L:Nat} (hv:Okd v) (hw:Okd w) (lv:v.length=L+2) (lw:w.length=L+3) (ht:524288<=dat v (L+1)) (hlt:val w<val v*1048576):
 Win (pw L) (val v) (val w) (dat v (L+1)) (dat v L) (dat w (L+2)*1048576+dat w (L+1)) (dat w L):=by
 have v1:=o6 v (L+1)
 have v2:=o6 v L
 have w1:=o6 w (L+2)
 have w2:=o6 w (L+1)
 have w3:=o6 w L
 rw [List.take_of_length_le (by omega)] at v1 w1
 have a1:=t4 (hv.take L)
 have a2:=S9 (hv.take L)
 have a3:=t4 (hw.take L)
 have a4:=S9 (hw.take L)
 rw [List.length_take,Nat.min_eq_left (by omega)] at a2 a4
 have d1:=hv.dat (L+1)
 have d2:=hv.dat L
 have d3:=hw.dat (L+2)
 have d4:=hw.dat (L+1)
 have d5:=hw.dat L
 have p1:=D7 L
 have p2:=D7 (L+1)
 have e1:val v=pw L*(dat v (L+1)*1048576+dat v L)+val (v.take L):=by grind
 have e2:val w=pw L*((dat w (L+2)*1048576+dat w (L+1))*1048576+dat w L)+val (w.take L):=by grind
 exact ⟨N5 L,ht,by omega,by omega,by omega,by omega,by omega,by omega,by omega,by omega,by omega,by omega,by omega,hlt⟩
theorem a8g.step {U V N L j:Nat} {u q:List Int} (h:a8g U V N L (j+1) u q) (hL:(dg V).length=L) (hV:0<V) {Q:Int} (hQ:0<=Q∧Q<1048576)
 (hr0:0<=val ((u.drop j).take (L+1)) - Q*V) (hr1:val ((u.drop j).take (L+1)) - Q*V<V):
 a8g U V N L j (u.take j++Y1 (L+1) (dg (val ((u.drop j).take (L+1)) - Q*V).toNat)++u.drop (j+(L+1))) (q.set j Q):=by
 obtain ⟨e3,e2,e0,hv,hz,hW⟩:=h.window hL
 have h1:=h.lu
 have h2:=h.le
 have h3:=h.lq
 have hVp:=K4 V
 rw [hL] at hVp
 have hmono:=a0C (Nat.le_succ L)
 have lp:(dg (val ((u.drop j).take (L+1)) - Q*V).toNat).length<=L+1:=L1 (by have:pw L<=pw (L+1):=hmono;omega)
 have hpl:=al3 lp
 have hvp:val (Y1 (L+1) (dg (val ((u.drop j).take (L+1)) - Q*V).toNat))=val ((u.drop j).take (L+1)) - Q*V:=by
  rw [b6c,k6,Int.toNat_of_nonneg hr0]
 have hu':val (u.take j++Y1 (L+1) (dg (val ((u.drop j).take (L+1)) - Q*V).toNat)++u.drop (j+(L+1)))=val (u.take j)+pw j*(val ((u.drop j).take (L+1)) - Q*V):=by
  rw [I6,hz,I6,hvp,e0];simp
 have hp:=N5 j
 have hlt:=S9 (h.oku.take j)
 rw [e0] at hlt
 refine ⟨?_,((h.oku.take j).append (b4m (o8 _))).append (h.oku.drop _),by simp [h3],h.okq.set hQ,by omega,?_,?_⟩
 ·simp only [List.length_append,hpl,e0,List.length_drop];omega
 ·rw [hu',a5J (by simp;omega),a6B (by omega),List.drop_set_of_lt (by omega)]
  have h4:=h.eq
  rw [hv,D7] at h4
  grind
 ·rw [hu']
  have h5:=Int.mul_le_mul_of_nonneg_left (a:=val ((u.drop j).take (L+1)) - Q*V) (b:=(V:Int) - 1) (c:=pw j) (by omega) (by omega)
  have h6:pw j*((V:Int) - 1)=V*pw j - pw j:=by grind
  omega
theorem a8g.fin {U V N L:Nat} {u q:List Int} (h:a8g U V N L 0 u q) (hV:0<V):val q=(U / V:Nat)∧val u=(U % V:Nat):=by
 have h1:=h.eq
 have h2:=h.lt
 simp only [List.drop_zero,b5S,Int.mul_one] at h1 h2
 have h3:=t4 h.oku
 have h4:=t4 h.okq
 obtain ⟨Q,hQ⟩:=Int.eq_ofNat_of_zero_le h4
 obtain ⟨R,hR⟩:=Int.eq_ofNat_of_zero_le h3
 rw [hQ,hR] at h1
 rw [hR] at h2
 have e:U=R+Q*V:=by
  have:((R+Q*V:Nat):Int)=(U:Int):=by rw [← h1];simp [Int.add_comm]
  omega
 have hlt:R<V:=by omega
 rw [hQ,hR,e,Nat.add_mul_div_right _ _ hV,Nat.div_eq_of_lt hlt,Nat.add_mul_mod_self_right,Nat.mod_eq_of_lt hlt]
 simp
end
section
def bl (z:Int):Nat:=(dg z.natAbs).length
theorem a2Q (m n:Nat):(dg (m+n)).length<=max (dg m).length (dg n).length+1:=by
 refine L1 ?_
 have h1:=K4 m
 have h2:=K4 n
 have h3:=a0C (Nat.le_max_left (dg m).length (dg n).length)
 have h4:=a0C (Nat.le_max_right (dg m).length (dg n).length)
 rw [D7]
 omega
theorem a2N (m n:Nat):(dg (m*n)).length<=(dg m).length+(dg n).length:=by
 refine L1 ?_
 have h1:=K4 m
 have h2:=K4 n
 rw [a7a]
 have h3:(m:Int)*n<=m*(pw (dg n).length):=Int.mul_le_mul_of_nonneg_left (by omega) (by omega)
 have h4:(m:Int)*pw (dg n).length<pw (dg m).length*pw (dg n).length:=Int.mul_lt_mul_of_pos_right h1 (N5 _)
 have h5:((m*n:Nat):Int)=m*n:=by simp
 omega
theorem a12 (x:Int):bl (-x)=bl x:=by unfold bl;rw [Int.natAbs_neg]
theorem a6K (x y:Int):bl (x+y)<=max (bl x) (bl y)+1:=Nat.le_trans (m8 (Int.natAbs_add_le x y)) (a2Q _ _)
theorem C7 (x y:Int):bl (x*y)<=bl x+bl y:=by unfold bl;rw [Int.natAbs_mul];exact a2N _ _
theorem b0a {x y:Int} (h:x.natAbs<=y.natAbs):bl x<=bl y:=m8 h
theorem P6 {x:Int} (h0:-9223372036854775808<=x) (h1:x<=9223372036854775807):bl x<=4:=L1 (by simp only [pw];omega)
theorem o5 {x:Int} (h0:-1048575<=x) (h1:x<=1048575):bl x<=1:=L1 (by simp only [pw];omega)
theorem a9h (x y:Int) {n:Nat} (lx:bl x<=n) (ly:bl y<=n):bl (Int.gcd x y)<=n:=by
 by_cases h:x=0
 ·subst h;unfold bl at *;rw [Int.gcd_zero_left];simpa using ly
 ·refine Nat.le_trans (m8 ?_) lx
  simp only [Int.natAbs_natCast]
  exact Int.gcd_le_natAbs_left y h
def rl (x:Rat):Nat:=max (bl x.num) (bl x.den)
theorem E7 (x:Rat):bl x.num<=rl x:=Nat.le_max_left _ _
theorem F7 (x:Rat):bl x.den<=rl x:=Nat.le_max_right _ _
theorem N0 {p q:Int} (hq:q≠0):rl (Rat.divInt p q)<=max (bl p) (bl q):=by
 unfold rl
 rw [Rat.num_divInt,Rat.den_divInt,if_neg hq]
 have h1:bl (q.sign*p / (q.gcd p:Nat))<=bl p:=b0a (by
  refine Nat.le_trans (Int.natAbs_ediv_le_natAbs _ _) ?_
  rw [Int.natAbs_mul]
  have:q.sign.natAbs=1:=by
   rcases Int.lt_trichotomy q 0 with h|h|h
   ·rw [Int.sign_eq_neg_one_of_neg h];rfl
   ·exact absurd h hq
   ·rw [Int.sign_eq_one_of_pos h];rfl
  rw [this,Nat.one_mul];exact Nat.le_refl _)
 have h2:bl ((q.natAbs / q.gcd p:Nat):Int)<=bl q:=b0a (by simp only [Int.natAbs_natCast];exact Nat.div_le_self _ _)
 omega
theorem a8s (x y:Rat):x+y=Rat.divInt (x.num*y.den+y.num*x.den) (x.den*y.den):=by rw [Rat.add_def',←Rat.divInt_ofNat,Int.natCast_mul]
theorem av0 (x y:Rat):x*y=Rat.divInt (x.num*y.num) (x.den*y.den):=by rw [Rat.mul_def',←Rat.divInt_ofNat,Int.natCast_mul]
theorem b57 (x y:Rat):x / y=Rat.divInt (x.num*y.den) (x.den*y.num):=by
 rw [Rat.div_def,Rat.inv_def]
 conv=>lhs;rw [← Rat.num_divInt_den x]
 rw [Rat.divInt_mul_divInt]
theorem aT7 (x:Rat):(x.den:Int)≠0:=by have:=x.den_pos;omega
theorem a8B (x y:Rat):(x.den:Int)*y.den≠0:=Int.mul_ne_zero (aT7 x) (aT7 y)
theorem a3a (x y:Rat):rl (x+y)<=rl x+rl y+1:=by
 rw [a8s]
 have h1:=a6K (x.num*y.den) (y.num*x.den)
 have h2:=C7 x.num y.den
 have h3:=C7 y.num x.den
 have h4:=C7 x.den y.den
 have:=N0 (p:=x.num*y.den+y.num*x.den) (a8B x y)
 unfold rl at *
 omega
theorem O9 (x:Rat):rl (-x)=rl x:=by unfold rl;rw [Rat.neg_num,Rat.neg_den,a12]
theorem ao2 (x y:Rat):rl (x - y)<=rl x+rl y+1:=by rw [Rat.sub_eq_add_neg];have:=a3a x (-y);rw [O9] at this;exact this
theorem a2Y (x y:Rat):rl (x*y)<=rl x+rl y:=by
 rw [av0]
 have h2:=C7 x.num y.num
 have h4:=C7 x.den y.den
 have:=N0 (p:=x.num*y.num) (a8B x y)
 unfold rl at *
 omega
theorem a1c (n:Int):rl (n:Rat)=max (bl n) 1:=by unfold rl;rw [Rat.num_intCast,Rat.den_intCast];rfl
def Z0 (x y:Rat):Int:=if x<y then -1 else if y<x then 1 else 0
theorem b2A {x:Rat}:x.num<0↔x<0:=by rw [Rat.lt_iff];simp
theorem b1Y {x:Rat}:0<x.num↔0<x:=by rw [Rat.lt_iff];simp
def sgR (x:Rat):Int:=if x<0 then -1 else if 0<x then 1 else 0
theorem a5M (x:Rat):x.num.sign=sgR x:=by
 unfold sgR
 by_cases h:x<0
 ·rw [if_pos h,Int.sign_eq_neg_one_of_neg (b2A.2 h)]
 ·rw [if_neg h]
  by_cases h2:0<x
  ·rw [if_pos h2,Int.sign_eq_one_of_pos (b1Y.2 h2)]
  ·rw [if_neg h2]
   have h3:¬x.num<0:=fun e=>h (b2A.1 e)
   have h4:¬0<x.num:=fun e=>h2 (b1Y.1 e)
   rw [show x.num=0 by omega];rfl
end
section
def J7 (c:G5):Bool:=
 decide (0<=c.since) && decide (c.since<=c.till) && decide (c.till<=100000) && idx c.scale 30 && btw c.grams 0 1099511627776 && btw c.permille 0 1000 && btw c.drift 0 10000000
def F9 (c:G5) (day:Int):Bool:=J7 c && btw day c.since c.till
def ao4 (cs:List G5) (i:Nat):Int:=((cs[i]?).map (·.since)).getD 0
def a3h (cs:List G5) (o:Option Nat) (c:G5):Bool:=match o with
 |none=>true
 |some b=>decide (ao4 cs b<=c.since)
def x5 (cs:List G5) (scale day:Int):Nat->Option Nat
 |0=>none
 |k+1=>match cs[k]? with
  |none=>x5 cs scale day k
  |some c=>if decide (c.scale=scale) && F9 c day && a3h cs (x5 cs scale day k) c then some k else x5 cs scale day k
theorem I4 {cs:List G5} {scale day:Int}:∀{k b:Nat},x5 cs scale day k=some b->b<k∧∃c,cs[b]? =some c∧c.scale=scale∧F9 c day=true
 |0,b,h=>by simp [x5] at h
 |k+1,b,h=>by
  unfold x5 at h
  split at h
  ·obtain ⟨h1,h2⟩:=I4 h;exact ⟨by omega,h2⟩
  ·rename_i c hc
   split at h
   ·rename_i hcc
    injection h with h
    subst h
    simp only [Bool.and_eq_true,decide_eq_true_eq] at hcc
    exact ⟨by omega,c,hc,hcc.1.1,hcc.1.2⟩
   ·obtain ⟨h1,h2⟩:=I4 h;exact ⟨by omega,h2⟩
def a1f (rs:List z4) (scale day:Int):Bool:=rs.any fun r=>decide (r.scale=scale) && decide (r.since<=day)
def a1I (c:G5) (reading day:Int):Rat:=Rat.divInt (c.permille*reading) 1000+((c.grams+c.drift*(day - c.since):Int):Rat)
def at3 (x y:Rat):Rat:=if x<y then y else x
def b2s:G5:=⟨0,0,0,0,0,0⟩
def a0n (cs:List G5) (i:Nat):G5:=(cs[i]?).getD b2s
def H6 (cs:List G5) (rs:List z4) (scale reading day:Int):Option (Rat × Rat):=
 match x5 cs scale day cs.length with
 |none=>none
 |some i=>if a1f rs scale day then none else if btw reading 0 1099511627776 then
   some (at3 ((reading:Rat) - a1I (a0n cs i) reading day) ((0:Int):Rat),(reading:Rat)+a1I (a0n cs i) reading day) else none
def b9C (l:List Rat):Rat:=l.foldl (·+·) ((0:Int):Rat)
def hz (H:List (List Rat)):List (List Fr):=H.map (·.map fz)
theorem a8Z {l:List Fr} (h:l.all B5=true):∃L:List Rat,l=L.map fz:=by
 induction l with
 |nil=>exact ⟨[],rfl⟩
 |cons f r ih=>
  simp only [List.all_cons,Bool.and_eq_true] at h
  obtain ⟨L,rfl⟩:=ih h.2
  exact ⟨fv f::L,by simp [← b8h h.1]⟩
def hAt (H:List (List Rat)) (k m:Nat):Rat:=(H.getD k []).getD m 0
def a6T (x:p6) (v:Nat->Rat) (f:Nat->Nat->Rat):Nat->Nat->Rat:=fun p m=>if x.src=(p:Int) then f p m - v m else if x.dst=(p:Int) then f p m+v m else f p m
def stk (e:Ev) (H:List (List Rat)):Nat->Nat->Nat->Rat
 |0=>fun _ _=>((0:Int):Rat)
 |k+1=>match e.moves[k]? with
  |none=>stk e H k
  |some x=>a6T x (hAt H k) (stk e H k)
theorem b1u {x:p6} {v:Nat->Rat} {f:Nat->Nat->Rat} {B C:Nat} (hv:∀m,rl (v m)<=B) (hf:∀p m,rl (f p m)<=C) (p m:Nat):rl (a6T x v f p m)<=C+(B+1):=by
 unfold a6T
 have h1:=hf p m
 have h2:=hv m
 have h3:=ao2 (f p m) (v m)
 have h4:=a3a (f p m) (v m)
 split
 ·omega
 ·split<;>omega
theorem a6e:rl ((0:Int):Rat)=1:=by rw [a1c];rfl
theorem b7e {H:List (List Rat)} {B:Nat} (hB:∀l ∈ H,∀x ∈ l,rl x<=B) (h1:1<=B) (k m:Nat):rl (hAt H k m)<=B:=by
 unfold hAt
 rw [List.getD_eq_getElem?_getD,List.getD_eq_getElem?_getD]
 cases hk:H[k]? with
 |none=>
  have:rl 0=1:=a6e
  simp only [Option.getD_none,List.getElem?_nil]
  omega
 |some l=>
  simp only [Option.getD_some]
  cases hm:l[m]? with
  |none=>
   have:rl 0=1:=a6e
   simp only [Option.getD_none]
   omega
  |some x=>exact hB l (List.mem_of_getElem? hk) x (List.mem_of_getElem? hm)
theorem aJ4 {e:Ev} {H:List (List Rat)} {B:Nat} (hB:∀l ∈ H,∀x ∈ l,rl x<=B) (h1:1<=B):∀k p m,rl (stk e H k p m)<=k*(B+1)+1
 |0,p,m=>by unfold stk;rw [a6e];omega
 |k+1,p,m=>by
  have ih:=aJ4 hB h1 (e:=e) k
  unfold stk
  cases hx:e.moves[k]? with
  |none=>have:=ih p m;rw [Nat.succ_mul];simp only;omega
  |some x=>
   simp only
   have:=b1u (x:=x) (b7e hB h1 k) ih p m
   rw [Nat.succ_mul];omega
end
section
def f9 (f:Nat->Rat):Nat->Rat
 |0=>((0:Int):Rat)
 |n+1=>f9 f n+f n
theorem W0:((0:Int):Rat)=0:=rfl
theorem f6 {f g:Nat->Rat}:∀{n:Nat},(∀ m,m<n->f m=g m)->f9 f n=f9 g n
 |0,_=>rfl
 |n+1,h=>by simp only [f9];rw [f6 fun m hm=>h m (by omega),h n (by omega)]
end
section
theorem getD_some {l:List Rat} {m:Nat} (h:m<l.length):l[m]? =some (l.getD m 0):=by rw [List.getD_eq_getElem?_getD,List.getElem?_eq_getElem h];rfl
end
section
structure Ev.Sized (e:Ev):Prop where
 s1:e.places.length<=1000000
 s2:e.moves.length<=1000000
 s3:e.certs.length<=1000000
 s4:e.recalls.length<=1000000
 s5:e.purities.length<=1000000
end
section
def b9i (xs ys:List Int) (k:Nat):Prop:=xs.take k=ys.take k
end
section
theorem a2J {α:Type} {p:Nat->α->Bool} {l:List α}:∀{k:Nat} {x:Int},x ∈ a1r p k l↔∃i m,l[i]? =some m∧p (k+i) m=true∧x=((k+i:Nat):Int):=by
 induction l with
 |nil=>intro k x;simp [a1r]
 |cons a r ih=>
  intro k x
  have step:x ∈ a1r p (k+1) r↔∃i m,(a::r)[i+1]? =some m∧p (k+(i+1)) m=true∧x=((k+(i+1):Nat):Int):=by
   rw [ih]
   constructor
   ·rintro ⟨i,m,h1,h2,h3⟩
    exact ⟨i,m,by simpa using h1,by rw [show k+(i+1)=k+1+i from by omega];exact h2,by rw [h3];omega⟩
   ·rintro ⟨i,m,h1,h2,h3⟩
    exact ⟨i,m,by simpa using h1,by rw [show k+1+i=k+(i+1) from by omega];exact h2,by rw [h3];omega⟩
  unfold a1r
  by_cases hp:p k a=true
  ·rw [if_pos hp,List.mem_cons,step]
   constructor
   ·rintro (rfl|⟨i,m,h⟩)
    ·exact ⟨0,a,rfl,hp,rfl⟩
    ·exact ⟨i+1,m,h⟩
   ·rintro ⟨i,m,h1,h2,h3⟩
    cases i with
    |zero=>left;simpa using h3
    |succ i=>right;exact ⟨i,m,h1,h2,h3⟩
  ·rw [if_neg hp,step]
   constructor
   ·rintro ⟨i,m,h⟩
    exact ⟨i+1,m,h⟩
   ·rintro ⟨i,m,h1,h2,h3⟩
    cases i with
    |zero=>simp at h1;subst h1;exact absurd h2 hp
    |succ i=>exact ⟨i,m,h1,h2,h3⟩
end
section
theorem a9t {e:Ev} {m:p6} (h:D2 e m=true):m9 e m.dst≠0:=by
 simp [D2] at h;exact h.1.2
end
section
theorem a5Z {e:Ev} {G:List (List Rat)} {k:Nat} {x:p6} (hx:e.moves[k]? =some x):stk e G (k+1)=a6T x (hAt G k) (stk e G k):=by
 conv=>lhs;unfold stk
 rw [hx]
theorem a8m {e:Ev} {G:List (List Rat)} {k:Nat} (hx:e.moves[k]? =none):stk e G (k+1)=stk e G k:=by
 conv=>lhs;unfold stk
 rw [hx]
end
section
theorem aQ0 {e:Ev} {x:p6} (h:D2 e x=true) (ha:x.all=true):m9 e x.src≠0:=by
 unfold D2 at h
 simp only [Bool.and_eq_true,decide_eq_true_eq] at h
 have:=h.1.1.2
 rw [ha] at this
 simpa using this
end
section
def C3 (e:Ev) (x:p6):Option (Rat × Rat):=if x.scale=-1 then none else H6 e.certs e.recalls x.scale x.reading x.day
end
section
structure L7 where
 mv:Int
 kind:Int
 grams:Int
structure Q6 where
 mv:Int
 kind:Int
structure e7 where
 ev:Ev
 finds:List L7
 cleans:List Q6
def a0z (e:Ev) (mv kind:Int):Int:=if mv<0∨(e.moves.length:Int)<=mv then 4 else if kind<0∨8<=kind then 1 else 0
def J0 (e:Ev):List L7->Int
 |[]=>0
 |f::r=>if a0z e f.mv f.kind≠0 then a0z e f.mv f.kind else if f.grams<1∨1099511627776<f.grams then 3 else J0 e r
def J4 (e:Ev):List Q6->Int
 |[]=>0
 |c::r=>if a0z e c.mv c.kind≠0 then a0z e c.mv c.kind else J4 e r
def o9 (t:e7):Int:=
 if z6 t.ev≠0 then z6 t.ev else if 20<t.finds.length∨50<t.cleans.length then 6
 else if J0 t.ev t.finds≠0 then J0 t.ev t.finds else J4 t.ev t.cleans
def g7 (l:List L7) (kind:Int) (i:Nat):List Int:=(l.filter fun f=>decide (f.kind=kind) && decide (f.mv=(i:Int))).map (·.grams)
def j1 (l:List Q6) (kind:Int) (i:Nat):Nat:=(l.filter fun c=>decide (c.kind=kind) && decide (c.mv=(i:Int))).length
def col (z:List Rat):List (List Rat):=z.map fun v=>[v]
theorem a8w (z:List Rat) (k:Nat):hAt (col z) k 0=z.getD k 0:=by
 unfold hAt col
 cases h:z[k]?<;>simp [List.getD_eq_getElem?_getD,h]
def t7 (e:Ev) (z:List Rat) (k p:Nat):Rat:=stk e (col z) k p 0
def ad8 (iv:Option (Rat × Rat)) (v:Rat):Bool:=match iv with
 |none=>true
 |some (_,hi)=>decide (v<=hi)
def a03 (t:e7) (kind:Int) (i:Nat) (x:p6) (v:Rat):Int:=
 if ad8 (C3 t.ev x) v=false then 20 else if (g7 t.finds kind i).any (fun g=>decide (v<(g:Rat))) then 24
 else if 0<j1 t.cleans kind i∧v≠0 then 13 else 0
def ak4 (e:Ev) (x:p6) (v f:Rat):Int:=if v<0 then 3 else if m9 e x.src≠0∧f<v then 4 else if x.all=true∧v≠f then 7 else 0
def Y6 (t:e7) (kind:Int) (i:Nat) (x:p6) (v f:Rat):Int:=if ak4 t.ev x v f≠0 then ak4 t.ev x v f else a03 t kind i x v
def tAt (t:e7) (kind:Int) (z:List Rat) (i:Nat) (x:p6):Int:=Y6 t kind i x (z.getD i 0) (t7 t.ev z i x.src.toNat)
def S0 (t:e7) (kind:Int) (z:List Rat):Nat->List p6->Int
 |_,[]=>0
 |k,x::r=>if tAt t kind z k x≠0 then tAt t kind z k x else S0 t kind z (k+1) r
def R8 (t:e7) (kind:Int) (z:List Fr):Int:=
 if o9 t≠0∨kind<0∨8<=kind then 1 else if z.length≠t.ev.moves.length then 2
 else if z.all B5 then S0 t kind (z.map fv) 0 t.ev.moves else 2
theorem a2M {t:e7} {kind:Int} {z:List Rat}:∀{ms:List p6} {k:Nat},S0 t kind z k ms=0↔∀j x,ms[j]? =some x->tAt t kind z (k+j) x=0
 |[],k=>by simp [S0]
 |y::r,k=>by
  unfold S0
  constructor
  ·intro h j x hx
   by_cases h0:tAt t kind z k y=0
   ·rw [if_neg (by simpa using h0)] at h
    cases j with
    |zero=>simp at hx;subst hx;exact h0
    |succ j=>rw [show k+(j+1)=k+1+j by omega];exact a2M.1 h j x (by simpa using hx)
   ·rw [if_pos h0] at h;exact absurd h h0
  ·intro h
   have h0:=h 0 y rfl
   rw [if_neg (by simpa using h0)]
   exact a2M.2 fun j x hx=>by rw [show k+1+j=k+(j+1) by omega];exact h (j+1) x (by simpa using hx)
structure b4M (e:Ev) (x:p6) (v f:Rat):Prop where
 pos:0<=v
 most:m9 e x.src≠0->v<=f
 all:x.all=true->v=f
theorem a98 {e:Ev} {x:p6} {v f:Rat}:ak4 e x v f=0↔b4M e x v f:=by
 unfold ak4
 by_cases h1:v<0
 ·rw [if_pos h1];exact ⟨fun h=>(by cases h),fun h=>absurd h.pos (by grind)⟩
 ·rw [if_neg h1]
  by_cases h2:m9 e x.src≠0∧f<v
  ·rw [if_pos h2];exact ⟨fun h=>(by cases h),fun h=>absurd (h.most h2.1) (by grind)⟩
  ·rw [if_neg h2]
   by_cases h3:x.all=true∧v≠f
   ·rw [if_pos h3];exact ⟨fun h=>(by cases h),fun h=>absurd (h.all h3.1) h3.2⟩
   ·rw [if_neg h3]
    refine ⟨fun _=>⟨Rat.not_lt.1 h1,fun h=>Rat.not_lt.1 fun h'=>h2 ⟨h,h'⟩,fun h=>?_⟩,fun _=>rfl⟩
    by_cases h4:v=f
    ·exact h4
    ·exact absurd ⟨h,h4⟩ h3
structure ao0 (t:e7) (kind:Int) (i:Nat) (x:p6) (v:Rat):Prop where
 cap:ad8 (C3 t.ev x) v=true
 fin:∀g ∈ g7 t.finds kind i,(g:Rat)<=v
 cln:0<j1 t.cleans kind i->v=0
theorem av4 {t:e7} {kind:Int} {i:Nat} {x:p6} {v:Rat}:a03 t kind i x v=0↔ao0 t kind i x v:=by
 unfold a03
 by_cases h1:ad8 (C3 t.ev x) v=false
 ·rw [if_pos h1];exact ⟨fun h=>(by cases h),fun h=>(by rw [h.cap] at h1;cases h1)⟩
 ·rw [if_neg h1]
  by_cases h2:(g7 t.finds kind i).any (fun g=>decide (v<(g:Rat)))=true
  ·rw [if_pos h2]
   obtain ⟨g,hg,hv⟩:=List.any_eq_true.1 h2
   exact ⟨fun h=>(by cases h),fun h=>absurd (h.fin g hg) (by have:=of_decide_eq_true hv;grind)⟩
  ·rw [if_neg h2]
   by_cases h3:0<j1 t.cleans kind i∧v≠0
   ·rw [if_pos h3];exact ⟨fun h=>(by cases h),fun h=>absurd (h.cln h3.1) h3.2⟩
   ·rw [if_neg h3]
    refine ⟨fun _=>⟨by simpa using h1,fun g hg=>Rat.not_lt.1 fun h'=>h2 (List.any_eq_true.2 ⟨g,hg,decide_eq_true h'⟩),fun h=>?_⟩,fun _=>rfl⟩
    by_cases h4:v=0
    ·exact h4
    ·exact absurd ⟨h,h4⟩ h3
theorem a7G {t:e7} {kind:Int} {i:Nat} {x:p6} {v f:Rat}:Y6 t kind i x v f=0↔b4M t.ev x v f∧ao0 t kind i x v:=by
 unfold Y6
 by_cases h:ak4 t.ev x v f≠0
 ·rw [if_pos h];exact ⟨fun h'=>absurd h' h,fun h'=>absurd (a98.2 h'.1) h⟩
 ·rw [if_neg h,av4]
  exact ⟨fun h'=>⟨a98.1 (by simpa using h),h'⟩,fun h'=>h'.2⟩
structure aS5 (t:e7) (kind:Int) (z:List Rat):Prop where
 tr:o9 t=0
 k0:0<=kind
 k1:kind<8
 len:z.length=t.ev.moves.length
 step:∀i x,t.ev.moves[i]? =some x->b4M t.ev x (z.getD i 0) (t7 t.ev z i x.src.toNat)∧ao0 t kind i x (z.getD i 0)
theorem a9D (z:List Rat):(z.map fz).map fv=z:=by
 rw [List.map_map]
 conv=>rhs;rw [← List.map_id z]
 exact List.map_congr_left fun x _=>b8W x
theorem aB2 {t:e7} {kind:Int} {z:List Fr}:R8 t kind z=0↔∃Z:List Rat,z=Z.map fz∧aS5 t kind Z:=by
 unfold R8
 by_cases h1:o9 t≠0∨kind<0∨8<=kind
 ·rw [if_pos h1]
  refine ⟨fun h=>(by cases h),fun ⟨Z,_,h⟩=>?_⟩
  have:=h.tr;have:=h.k0;have:=h.k1
  omega
 rw [if_neg h1]
 by_cases h2:z.length≠t.ev.moves.length
 ·rw [if_pos h2]
  refine ⟨fun h=>(by cases h),fun ⟨Z,hz,h⟩=>?_⟩
  subst hz
  exact absurd (by rw [List.length_map];exact h.len) h2
 rw [if_neg h2]
 by_cases h3:z.all B5=true
 ·rw [if_pos h3]
  obtain ⟨Z,rfl⟩:=a8Z h3
  rw [a9D,a2M]
  constructor
  ·intro h
   refine ⟨Z,rfl,by omega,by omega,by omega,by simpa using h2,fun i x hx=>?_⟩
   have:=h i x hx
   rw [Nat.zero_add] at this
   exact a7G.1 this
  ·rintro ⟨Y,hy,h⟩
   have e:Z=Y:=by rw [← a9D Z,←a9D Y,hy]
   subst e
   intro j x hx
   rw [Nat.zero_add]
   exact a7G.2 (h.step j x hx)
 ·rw [if_neg h3]
  refine ⟨fun h=>(by cases h),fun ⟨Z,hz,h⟩=>?_⟩
  subst hz
  exact absurd (List.all_eq_true.2 fun f hf=>by obtain ⟨x,_,rfl⟩:=List.mem_map.1 hf;exact a6t x) h3
theorem p8 {t:e7} (h:o9 t=0):z6 t.ev=0∧t.finds.length<=20∧t.cleans.length<=50∧J0 t.ev t.finds=0∧J4 t.ev t.cleans=0:=by
 unfold o9 at h
 by_cases h1:z6 t.ev≠0
 ·rw [if_pos h1] at h;exact absurd h h1
 rw [if_neg h1] at h
 by_cases h2:20<t.finds.length∨50<t.cleans.length
 ·rw [if_pos h2] at h;cases h
 rw [if_neg h2] at h
 by_cases h3:J0 t.ev t.finds≠0
 ·rw [if_pos h3] at h;exact absurd h h3
 rw [if_neg h3] at h
 exact ⟨by simpa using h1,by omega,by omega,by simpa using h3,h⟩
theorem b1k {t:e7} (h1:z6 t.ev=0) (h2:t.finds.length<=20) (h3:t.cleans.length<=50) (h4:J0 t.ev t.finds=0) (h5:J4 t.ev t.cleans=0):o9 t=0:=by
 unfold o9
 rw [if_neg (by simp [h1]),if_neg (by omega),if_neg (by simp [h4]),h5]
theorem A0 {e:Ev}:∀{l:List L7},J0 e l=0->∀f ∈ l,0<=f.mv∧f.mv<e.moves.length∧0<=f.kind∧f.kind<8∧1<=f.grams∧f.grams<=1099511627776
 |[],_,f,hf=>by cases hf
 |g::r,h,f,hf=>by
  unfold J0 at h
  by_cases h1:a0z e g.mv g.kind≠0
  ·rw [if_pos h1] at h;exact absurd h h1
  rw [if_neg h1] at h
  by_cases h2:g.grams<1∨1099511627776<g.grams
  ·rw [if_pos h2] at h;cases h
  rw [if_neg h2] at h
  rcases List.mem_cons.1 hf with rfl|hf
  ·unfold a0z at h1
   by_cases h3:f.mv<0∨(e.moves.length:Int)<=f.mv
   ·rw [if_pos h3] at h1;exact absurd (by decide) h1
   rw [if_neg h3] at h1
   by_cases h4:f.kind<0∨8<=f.kind
   ·rw [if_pos h4] at h1;exact absurd (by decide) h1
   omega
  ·exact A0 h f hf
theorem a60 (l:List L7) (f:L7) (kind:Int) (i:Nat):g7 (l++[f]) kind i=g7 l kind i++(if f.kind=kind∧f.mv=(i:Int) then [f.grams] else []):=by
 unfold g7
 rw [List.filter_append,List.map_append]
 by_cases h:f.kind=kind∧f.mv=(i:Int)
 ·rw [if_pos h];simp [h.1,h.2]
 ·rw [if_neg h]
  have:(decide (f.kind=kind) && decide (f.mv=(i:Int)))=false:=by
   rw [← Bool.not_eq_true];simp only [Bool.and_eq_true,decide_eq_true_eq];exact h
  simp [this]
theorem a07 (l:List Q6) (c:Q6) (kind:Int) (i:Nat):j1 (l++[c]) kind i=j1 l kind i+(if c.kind=kind∧c.mv=(i:Int) then 1 else 0):=by
 unfold j1
 rw [List.filter_append,List.length_append]
 by_cases h:c.kind=kind∧c.mv=(i:Int)
 ·rw [if_pos h];simp [h.1,h.2]
 ·rw [if_neg h]
  have:(decide (c.kind=kind) && decide (c.mv=(i:Int)))=false:=by
   rw [← Bool.not_eq_true];simp only [Bool.and_eq_true,decide_eq_true_eq];exact h
  simp [this]
end
section
theorem b0c {e:Ev} {W A B:List (List Rat)} {a b:Rat} {m ma mb:Nat} (h:∀i,i<e.moves.length->hAt W i m=a*hAt A i ma+b*hAt B i mb):∀k p,stk e W k p m=a*stk e A k p ma+b*stk e B k p mb
 |0,p=>by simp only [stk,W0];grind
 |k+1,p=>by
  have ih:=b0c h k p
  cases hx:e.moves[k]? with
  |none=>rw [a8m hx,a8m hx,a8m hx];exact ih
  |some x=>
   have hk:k<e.moves.length:=(List.getElem?_eq_some_iff.1 hx).1
   rw [a5Z hx,a5Z hx,a5Z hx]
   unfold a6T
   have hv:=h k hk
   split
   ·rw [ih,hv];grind
   ·split
    ·rw [ih,hv];grind
    ·exact ih
theorem b2y {e:Ev} {w y z:List Rat} {a b:Rat} (h:∀i,i<e.moves.length->w.getD i 0=a*z.getD i 0+b*y.getD i 0) (k p:Nat):t7 e w k p=a*t7 e z k p+b*t7 e y k p:=
 b0c (fun i hi=>by rw [a8w,a8w,a8w];exact h i hi) k p
theorem a7Q {a b c:Rat} (h:a<=b) (hc:0<=c):c*a<=c*b:=by
 have:=Rat.mul_nonneg hc (show 0<=b - a by grind)
 grind
def t8 (t:e7):e7:={ t with finds:=[] }
theorem a1Y {t:e7} (h:o9 t=0):o9 (t8 t)=0:=by
 obtain ⟨q1,q2,q3,q4,q5⟩:=p8 h
 exact b1k q1 (by simp [t8]) q3 rfl q5
theorem a2e {e:Ev} {z:List Rat} {k:Nat} {x:p6} (hx:e.moves[k]? =some x) (p:Nat):t7 e z (k+1) p=if x.src=(p:Int) then t7 e z k p - z.getD k 0 else if x.dst=(p:Int) then t7 e z k p+z.getD k 0 else t7 e z k p:=by
 unfold t7
 rw [a5Z hx]
 unfold a6T
 rw [a8w]
theorem a91 {e:Ev} {z:List Rat} {k:Nat} (hx:e.moves[k]? =none) (p:Nat):t7 e z (k+1) p=t7 e z k p:=by
 unfold t7
 rw [a8m hx]
theorem aF7 {t:e7} {kind:Int} {z:List Rat} (h:aS5 t kind z):∀k p:Nat,m9 t.ev p≠0->0<=t7 t.ev z k p
 |0,p,_=>Rat.le_refl
 |k+1,p,hp=>by
  have ih:=aF7 h k p hp
  cases hx:t.ev.moves[k]? with
  |none=>rw [a91 hx];exact ih
  |some x=>
   obtain ⟨h1,_⟩:=h.step k x hx
   have hz:=h1.pos
   rw [a2e hx]
   split
   ·rename_i hs
    have:=h1.most (by rw [hs];exact hp)
    rw [hs,show ((p:Int)).toNat=p by omega] at this
    grind
   ·split
    ·grind
    ·exact ih
theorem a29 {f:Nat->Rat}:∀{n:Nat},(∀ p,p<n->0<=f p)->0<=f9 f n
 |0,_=>Rat.le_refl
 |n+1,h=>by
  have h1:=a29 (n:=n) fun p hp=>h p (by omega)
  have h2:=h n (by omega)
  simp only [f9];grind
end
section
structure B1 where
 terms:List (Int × Rat)
 kind:Int
 value:Rat
structure f7 where
 n:Int
 rows:List B1
def k7 (l:List (Int × Rat)) (z:List Rat):Rat:=l.foldl (fun a t=>a+t.2*z.getD t.1.toNat 0) ((0:Int):Rat)
theorem P9 (l:List (Int × Rat)) (t:Int × Rat) (z:List Rat):k7 (l++[t]) z=k7 l z+t.2*z.getD t.1.toNat 0:=by unfold k7;rw [List.foldl_append];rfl
def f8:Int->Int->List (Int × Rat)->Bool
 |_,_,[]=>true
 |last,n,t::r=>decide (last<t.1) && decide (t.1<n) && decide (t.2≠0) && f8 t.1 n r
def t9 (n:Int) (w:B1):Bool:=f8 (-1) n w.terms && decide (0<=w.kind) && decide (w.kind<3)
def i8 (s:f7):Bool:=decide (0<=s.n) && decide (s.n<=1500) && decide (s.rows.length<=6000) && s.rows.all (t9 s.n)
def Q7 (w:B1) (z:List Rat):Bool:=!((decide (k7 w.terms z<w.value) && decide (w.kind≠1)) || (decide (w.value<k7 w.terms z) && decide (w.kind≠0)))
def j7 (s:f7) (z:List Rat):Bool:=i8 s && decide ((z.length:Int)=s.n) && z.all (fun v=>decide (0<=v)) && s.rows.all (fun w=>Q7 w z)
def i7 (e:Ev) (p:Int):Nat->List (Int × Rat)
 |0=>[]
 |k+1=>match e.moves[k]? with
  |none=>i7 e p k
  |some y=>if y.dst=p then i7 e p k++[((k:Int),((1:Int):Rat))] else if y.src=p then i7 e p k++[((k:Int),((-1:Int):Rat))] else i7 e p k
def s9 (e:Ev) (i:Nat) (x:p6):B1:=⟨i7 e x.src i++[((i:Int),((-1:Int):Rat))],if x.all then 2 else 0,((0:Int):Rat)⟩
def n6 (i:Nat) (kind:Int) (v:Rat):B1:=⟨[((i:Int),((1:Int):Rat))],kind,v⟩
def L4 (iv:Option (Rat × Rat)) (i:Nat):List B1:=match iv with
 |none=>[]
 |some (_,hi)=>[n6 i 1 hi]
def K5 (t:e7) (kind:Int) (i:Nat) (x:p6):List B1:=
 (if m9 t.ev x.src=0 then [] else [s9 t.ev i x])++L4 (C3 t.ev x) i++(g7 t.finds kind i).map (fun g:Int=>n6 i 0 (g:Rat))++List.replicate (j1 t.cleans kind i) (n6 i 2 ((0:Int):Rat))
def n8 (t:e7) (kind:Int):Nat->List B1
 |0=>[]
 |k+1=>match t.ev.moves[k]? with
  |none=>n8 t kind k
  |some x=>n8 t kind k++K5 t kind k x
def N6 (t:e7) (kind:Int):f7:=⟨t.ev.moves.length,n8 t kind t.ev.moves.length⟩
theorem a5r {e:Ev} (h0:z6 e=0) (z:List Rat) (p:Nat):∀k,k7 (i7 e p k) z=t7 e z k p
 |0=>rfl
 |k+1=>by
  have ih:=a5r h0 z p k
  unfold i7
  cases hx:e.moves[k]? with
  |none=>rw [a91 hx];exact ih
  |some y=>
   have hm:=B3 h0 (List.mem_of_getElem? hx)
   have hne:y.src≠y.dst:=by unfold D2 at hm;simp only [Bool.and_eq_true,decide_eq_true_eq] at hm;exact hm.1.1.1.1.1.2
   rw [a2e hx]
   simp only
   by_cases c1:y.dst=(p:Int)
   ·rw [if_pos c1,if_neg (by omega),if_pos c1,P9,ih]
    simp only [Int.toNat_natCast]
    have:((1:Int):Rat)=1:=rfl
    rw [this];grind
   ·rw [if_neg c1]
    by_cases c2:y.src=(p:Int)
    ·rw [if_pos c2,if_pos c2,P9,ih]
     simp only [Int.toNat_natCast]
     have:((-1:Int):Rat)=-1:=rfl
     rw [this];grind
    ·rw [if_neg c2,if_neg c2,if_neg c1];exact ih
theorem a2l {w:B1} {z:List Rat}:Q7 w z=true↔(k7 w.terms z<w.value->w.kind=1)∧(w.value<k7 w.terms z->w.kind=0):=by
 unfold Q7
 simp only [Bool.not_eq_true',Bool.or_eq_false_iff,Bool.and_eq_false_iff,decide_eq_false_iff_not,Classical.not_not]
 constructor
 ·rintro ⟨h1,h2⟩
  exact ⟨fun h=>h1.resolve_left (fun h'=>h' h),fun h=>h2.resolve_left (fun h'=>h' h)⟩
 ·rintro ⟨h1,h2⟩
  refine ⟨?_,?_⟩
  ·by_cases h:k7 w.terms z<w.value
   ·exact .inr (h1 h)
   ·exact .inl h
  ·by_cases h:w.value<k7 w.terms z
   ·exact .inr (h2 h)
   ·exact .inl h
theorem at6 (i:Nat) (kind:Int) (v:Rat) (z:List Rat):k7 (n6 i kind v).terms z=z.getD i 0:=by
 show ((0:Int):Rat)+((1:Int):Rat)*z.getD ((i:Int)).toNat 0=_
 rw [Int.toNat_natCast]
 have h0:((0:Int):Rat)=0:=rfl
 have h1:((1:Int):Rat)=1:=rfl
 rw [h0,h1];grind
theorem b2N {i:Nat} {v:Rat} {z:List Rat}:Q7 (n6 i 1 v) z=true↔z.getD i 0<=v:=by
 rw [a2l,at6]
 show (_->(1:Int)=1)∧(v<z.getD i 0->(1:Int)=0)↔_
 constructor
 ·rintro ⟨_,h⟩;exact Rat.not_lt.1 fun h'=>absurd (h h') (by decide)
 ·intro h;exact ⟨fun _=>rfl,fun h'=>absurd h' (Rat.not_lt.2 h)⟩
theorem ak0 {i:Nat} {v:Rat} {z:List Rat}:Q7 (n6 i 0 v) z=true↔v<=z.getD i 0:=by
 rw [a2l,at6]
 show (z.getD i 0<v->(0:Int)=1)∧(_->(0:Int)=0)↔_
 constructor
 ·rintro ⟨h,_⟩;exact Rat.not_lt.1 fun h'=>absurd (h h') (by decide)
 ·intro h;exact ⟨fun h'=>absurd h' (Rat.not_lt.2 h),fun _=>rfl⟩
theorem a4g {i:Nat} {v:Rat} {z:List Rat}:Q7 (n6 i 2 v) z=true↔z.getD i 0=v:=by
 rw [a2l,at6]
 show (z.getD i 0<v->(2:Int)=1)∧(v<z.getD i 0->(2:Int)=0)↔_
 constructor
 ·rintro ⟨h,h2⟩
  have q1:¬z.getD i 0<v:=fun h'=>absurd (h h') (by decide)
  have q2:¬v<z.getD i 0:=fun h'=>absurd (h2 h') (by decide)
  grind
 ·intro h;exact ⟨fun h'=>by grind,fun h'=>by grind⟩
theorem stock_holds {e:Ev} (h0:z6 e=0) {i:Nat} {x:p6} (hx:e.moves[i]? =some x) {z:List Rat}:Q7 (s9 e i x) z=true↔z.getD i 0<=t7 e z i x.src.toNat∧(x.all=true->z.getD i 0=t7 e z i x.src.toNat):=by
 have hm:=B3 h0 (List.mem_of_getElem? hx)
 have ms:=O4 hm
 have hv:k7 (s9 e i x).terms z=t7 e z i x.src.toNat - z.getD i 0:=by
  unfold s9
  simp only
  rw [P9,show i7 e x.src i=i7 e ((x.src.toNat:Nat):Int) i by rw [show ((x.src.toNat:Nat):Int)=x.src by omega],a5r h0]
  simp only [Int.toNat_natCast]
  have:((-1:Int):Rat)=-1:=rfl
  rw [this];grind
 have hz:(s9 e i x).value=0:=rfl
 have hk:(s9 e i x).kind=if x.all then 2 else 0:=rfl
 rw [a2l,hv,hz,hk]
 cases hal:x.all with
 |true=>
  simp only [if_true]
  constructor
  ·rintro ⟨h,h2⟩
   have q1:¬t7 e z i x.src.toNat - z.getD i 0<0:=fun h'=>absurd (h h') (by decide)
   have q2:¬0<t7 e z i x.src.toNat - z.getD i 0:=fun h'=>absurd (h2 h') (by decide)
   exact ⟨by grind,fun _=>by grind⟩
  ·rintro ⟨h,h2⟩
   have h2:=h2 trivial
   exact ⟨fun h'=>by grind,fun h'=>by grind⟩
 |false=>
  simp only [Bool.false_eq_true,if_false]
  constructor
  ·rintro ⟨h,h2⟩
   have q1:¬t7 e z i x.src.toNat - z.getD i 0<0:=fun h'=>absurd (h h') (by decide)
   exact ⟨by grind,fun h=>(by cases h)⟩
  ·rintro ⟨h,_⟩
   exact ⟨fun h'=>by grind,fun _=>trivial⟩
theorem move_holds {t:e7} {kind:Int} (h0:z6 t.ev=0) {i:Nat} {x:p6} (hx:t.ev.moves[i]? =some x) {z:List Rat} (hz:0<=z.getD i 0):
 (K5 t kind i x).all (fun w=>Q7 w z)=true↔b4M t.ev x (z.getD i 0) (t7 t.ev z i x.src.toNat)∧ao0 t kind i x (z.getD i 0):=by
 have hmo:=B3 h0 (List.mem_of_getElem? hx)
 unfold K5
 simp only [List.all_append,Bool.and_eq_true,List.all_map]
 have e1:(if m9 t.ev x.src=0 then ([]:List B1) else [s9 t.ev i x]).all (fun w=>Q7 w z)=true↔(m9 t.ev x.src≠0->z.getD i 0<=t7 t.ev z i x.src.toNat∧(x.all=true->z.getD i 0=t7 t.ev z i x.src.toNat)):=by
  by_cases hb:m9 t.ev x.src=0
  ·rw [if_pos hb];exact ⟨fun _ h=>absurd hb h,fun _=>rfl⟩
  ·rw [if_neg hb]
   simp only [List.all_cons,List.all_nil,Bool.and_true]
   rw [stock_holds h0 hx]
   exact ⟨fun h _=>h,fun h=>h hb⟩
 have e2:(L4 (C3 t.ev x) i).all (fun w=>Q7 w z)=true↔ad8 (C3 t.ev x) (z.getD i 0)=true:=by
  cases hiv:C3 t.ev x with
  |none=>exact ⟨fun _=>rfl,fun _=>rfl⟩
  |some p=>
   obtain ⟨lo,hi⟩:=p
   simp only [L4,ad8,List.all_cons,List.all_nil,Bool.and_true,decide_eq_true_eq]
   exact b2N
 have e3:(g7 t.finds kind i).all ((fun w=>Q7 w z) ∘ fun g:Int=>n6 i 0 (g:Rat))=true↔∀g ∈ g7 t.finds kind i,(g:Rat)<=z.getD i 0:=by
  rw [List.all_eq_true]
  exact ⟨fun h g hg=>ak0.1 (h g hg),fun h g hg=>ak0.2 (h g hg)⟩
 have e4:(List.replicate (j1 t.cleans kind i) (n6 i 2 ((0:Int):Rat))).all (fun w=>Q7 w z)=true↔(0<j1 t.cleans kind i->z.getD i 0=0):=by
  rw [List.all_eq_true]
  constructor
  ·intro h hc;exact a4g.1 (h _ (List.mem_replicate.2 ⟨by omega,rfl⟩))
  ·intro h w hw
   obtain ⟨h1,rfl⟩:=List.mem_replicate.1 hw
   exact a4g.2 (h (by omega))
 rw [e1,e2,e3,e4]
 constructor
 ·rintro ⟨⟨⟨q1,q2⟩,q3⟩,q4⟩
  exact ⟨⟨hz,fun h=>(q1 h).1,fun h=>(q1 (aQ0 hmo h)).2 h⟩,⟨q2,q3,q4⟩⟩
 ·rintro ⟨p1,p2⟩
  exact ⟨⟨⟨fun h=>⟨p1.most h,p1.all⟩,p2.cap⟩,p2.fin⟩,p2.cln⟩
theorem a0j {t:e7} {kind:Int} {q:B1->Bool}:∀n,n<=t.ev.moves.length->((n8 t kind n).all q=true↔∀i x,i<n->t.ev.moves[i]? =some x->(K5 t kind i x).all q=true)
 |0,_=>⟨fun _ i x h=>by omega,fun _=>rfl⟩
 |n+1,h=>by
  obtain ⟨y,hy⟩:∃y,t.ev.moves[n]? =some y:=⟨_,List.getElem?_eq_getElem (by omega)⟩
  unfold n8
  rw [hy]
  simp only [List.all_append,Bool.and_eq_true]
  rw [a0j n (by omega)]
  constructor
  ·rintro ⟨h1,h2⟩ i x hi hx
   rcases Nat.lt_or_ge i n with h3|h3
   ·exact h1 i x h3 hx
   ·obtain rfl:i=n:=by omega
    rw [hy] at hx;injection hx with hx;subst hx;exact h2
  ·intro h1
   exact ⟨fun i x hi hx=>h1 i x (by omega) hx,h1 n y (by omega) hy⟩
theorem a5z {last n i:Int} {c:Rat} (h1:last<i) (h2:i<n) (h3:c≠0):f8 last n [(i,c)]=true:=by
 unfold f8
 simp [h1,h2,h3,f8]
theorem a3v {n:Int} {c:Rat} {i:Int} (h2:i<n) (h3:c≠0):∀{l:List (Int × Rat)} {last:Int},f8 last n l=true->last<i->(∀ t ∈ l,t.1<i)->f8 last n (l++[(i,c)])=true
 |[],last,_,h,_=>a5z h h2 h3
 |t::r,last,h,h1,ht=>by
  unfold f8 at h
  simp only [Bool.and_eq_true,decide_eq_true_eq] at h
  show f8 last n (t::(r++[(i,c)]))=true
  unfold f8
  simp only [Bool.and_eq_true,decide_eq_true_eq]
  exact ⟨h.1,a3v h2 h3 h.2 (ht t (by simp)) fun u hu=>ht u (by simp [hu])⟩
theorem a5g:((1:Int):Rat)≠0:=by decide
theorem a7R:((-1:Int):Rat)≠0:=by decide
theorem a1L {e:Ev} {p:Int} {n:Int}:∀k:Nat,(k:Int)<=n->f8 (-1) n (i7 e p k)=true∧∀t ∈ i7 e p k,t.1<(k:Int)
 |0,_=>⟨rfl,fun t ht=>by cases ht⟩
 |k+1,h=>by
  obtain ⟨h1,h2⟩:=a1L (e:=e) (p:=p) (n:=n) k (by omega)
  have h3:∀c:Rat,c≠0->f8 (-1) n (i7 e p k++[((k:Int),c)])=true∧∀t ∈ i7 e p k++[((k:Int),c)],t.1<((k+1:Nat):Int):=fun c hc=>
   ⟨a3v (by omega) hc h1 (by omega) h2,fun t ht=>by
     rcases List.mem_append.1 ht with ht|ht
     ·have:=h2 t ht;omega
     ·simp at ht;subst ht;simp;omega⟩
  unfold i7
  cases hx:e.moves[k]? with
  |none=>exact ⟨h1,fun t ht=>by have:=h2 t ht;omega⟩
  |some y=>
   simp only
   split
   ·exact h3 _ a5g
   ·split
    ·exact h3 _ a7R
    ·exact ⟨h1,fun t ht=>by have:=h2 t ht;omega⟩
theorem aS4 {t:e7} {kind:Int} {i:Nat} {x:p6} {n:Int} (hi:(i:Int)<n):(K5 t kind i x).all (t9 n)=true:=by
 have ho:∀(k:Int) (v:Rat),0<=k->k<3->t9 n (n6 i k v)=true:=fun k v h1 h2=>by
  unfold t9 n6
  simp only [Bool.and_eq_true,decide_eq_true_eq]
  exact ⟨⟨a5z (by omega) hi a5g,h1⟩,h2⟩
 unfold K5
 simp only [List.all_append,Bool.and_eq_true,List.all_eq_true]
 refine ⟨⟨⟨fun w hw=>?_,fun w hw=>?_⟩,fun w hw=>?_⟩,fun w hw=>?_⟩
 ·by_cases hb:m9 t.ev x.src=0
  ·rw [if_pos hb] at hw;cases hw
  ·rw [if_neg hb] at hw
   simp at hw
   subst hw
   obtain ⟨h1,h2⟩:=a1L (e:=t.ev) (p:=x.src) (n:=n) i (by omega)
   unfold t9 s9
   simp only [Bool.and_eq_true,decide_eq_true_eq]
   refine ⟨⟨a3v hi a7R h1 (by omega) h2,?_⟩,?_⟩<;>split<;>decide
 ·cases hiv:C3 t.ev x with
  |none=>rw [hiv] at hw;cases hw
  |some p=>
   obtain ⟨lo,hi⟩:=p
   rw [hiv] at hw
   simp [L4] at hw
   subst hw
   exact ho 1 hi (by decide) (by decide)
 ·obtain ⟨g,_,rfl⟩:=List.mem_map.1 hw
  exact ho 0 _ (by decide) (by decide)
 ·obtain ⟨_,rfl⟩:=List.mem_replicate.1 hw
  exact ho 2 _ (by decide) (by decide)
theorem aq3 {t:e7} {kind:Int} {i:Nat} {x:p6}:(K5 t kind i x).length<=2+t.finds.length+t.cleans.length:=by
 unfold K5
 have h1:(L4 (C3 t.ev x) i).length<=1:=by unfold L4;split<;>simp
 have h2:(g7 t.finds kind i).length<=t.finds.length:=by unfold g7;rw [List.length_map];exact List.length_filter_le _ _
 have h3:j1 t.cleans kind i<=t.cleans.length:=List.length_filter_le _ _
 have h4:(if m9 t.ev x.src=0 then ([]:List B1) else [s9 t.ev i x]).length<=1:=by split<;>simp
 simp only [List.length_append,List.length_map,List.length_replicate]
 omega
theorem O7 {t:e7} {kind:Int}:∀n,(n8 t kind n).length<=n*(2+t.finds.length+t.cleans.length)
 |0=>by simp [n8]
 |n+1=>by
  have ih:=O7 (t:=t) (kind:=kind) n
  unfold n8
  rw [Nat.succ_mul]
  cases hx:t.ev.moves[n]? with
  |none=>simp only;omega
  |some x=>
   have:=aq3 (t:=t) (kind:=kind) (i:=n) (x:=x)
   simp only [List.length_append]
   omega
theorem a7p {t:e7} {kind:Int} (hm:t.ev.moves.length<=14) (hf:t.finds.length<=20) (hc:t.cleans.length<=50):i8 (N6 t kind)=true:=by
 unfold i8 N6
 have h1:=O7 (t:=t) (kind:=kind) t.ev.moves.length
 have h2:t.ev.moves.length*(2+t.finds.length+t.cleans.length)<=14*72:=Nat.mul_le_mul hm (by omega)
 simp only [Bool.and_eq_true,decide_eq_true_eq]
 refine ⟨⟨⟨by omega,by omega⟩,by omega⟩,?_⟩
 rw [a0j _ (Nat.le_refl _)]
 intro i x hi hx
 exact aS4 (by omega)
theorem sys_holds {t:e7} {kind:Int} {z:List Rat} (ht:o9 t=0) (k0:0<=kind) (k1:kind<8) (hm:t.ev.moves.length<=14):j7 (N6 t kind) z=true↔aS5 t kind z:=by
 obtain ⟨q1,q2,q3,q4,q5⟩:=p8 ht
 unfold j7
 rw [a7p hm q2 q3]
 simp only [Bool.true_and,Bool.and_eq_true,decide_eq_true_eq]
 constructor
 ·rintro ⟨⟨h1,h2⟩,h3⟩
  have hl:z.length=t.ev.moves.length:=by have:(z.length:Int)=t.ev.moves.length:=h1;omega
  refine ⟨ht,k0,k1,hl,fun i x hx=>?_⟩
  have hi:i<t.ev.moves.length:=(List.getElem?_eq_some_iff.1 hx).1
  have hz:0<=z.getD i 0:=of_decide_eq_true (List.all_eq_true.1 h2 _ (List.mem_of_getElem? (getD_some (by omega))))
  exact (move_holds q1 hx hz).1 ((a0j _ (Nat.le_refl _)).1 h3 i x hi hx)
 ·intro h
  refine ⟨⟨?_,?_⟩,?_⟩
  ·show (z.length:Int)=t.ev.moves.length
   rw [h.len]
  ·rw [List.all_eq_true]
   intro v hv
   obtain ⟨i,hi,rfl⟩:=List.getElem_of_mem hv
   obtain ⟨x,hx⟩:∃x,t.ev.moves[i]? =some x:=⟨_,List.getElem?_eq_getElem (by rw [← h.len];exact hi)⟩
   have:=(h.step i x hx).1.pos
   rw [List.getD_eq_getElem?_getD,List.getElem?_eq_getElem hi] at this
   exact decide_eq_true this
  ·show (n8 t kind t.ev.moves.length).all _=true
   rw [a0j _ (Nat.le_refl _)]
   intro i x hi hx
   obtain ⟨a,b⟩:=h.step i x hx
   exact (move_holds q1 hx a.pos).2 ⟨a,b⟩
end
section
structure Fd where
 V:Nat->Rat
 A:Nat->Nat->Rat
 G:Nat->Rat
 O:Nat->Nat
 F:Nat->Nat
namespace Fd
def pRow (D:Fd) (r s j:Nat):Rat:=if j=s then 1 / D.A r s else D.A r j / D.A r s
def exch (D:Fd) (r s:Nat):Fd where
 V:=fun i=>if i=r then D.V r / D.A r s else D.V i - D.A i s*(D.V r / D.A r s)
 A:=fun i j=>if i=r then D.pRow r s j else if j=s then 0 - D.A i s*D.pRow r s s else D.A i j - D.A i s*D.pRow r s j
 G:=fun j=>if j=s then 0 - D.G s*D.pRow r s s else D.G j - D.G s*D.pRow r s j
 O:=fun i=>if i=r then D.F s else D.O i
 F:=fun j=>if j=s then D.O r else D.F j
end Fd
theorem x9 {f:Nat->Rat} {s:Nat}:∀{n:Nat},s<n->f9 f n=f9 (fun j=>if j=s then 0 else f j) n+f s
 |0,h=>by omega
 |n+1,h=>by
  simp only [f9]
  by_cases hs:s=n
  ·subst hs
   rw [if_pos rfl,f6 (n:=s) (f:=fun j=>if j=s then 0 else f j) (g:=f) fun m hm=>by rw [if_neg (by omega)]]
   grind
  ·rw [if_neg (show ¬n=s by omega),x9 (f:=f) (s:=s) (n:=n) (by omega)];grind
theorem z9 {f:Nat->Rat} (k:Rat):∀n:Nat,f9 (fun j=>k*f j) n=k*f9 f n
 |0=>by simp only [f9,W0];grind
 |n+1=>by simp only [f9];rw [z9 k n];grind
theorem a00 {f g:Nat->Rat}:∀n:Nat,f9 (fun j=>f j+g j) n=f9 f n+f9 g n
 |0=>by simp only [f9,W0];grind
 |n+1=>by simp only [f9];rw [a00 n];grind
theorem s6 {f:Nat->Rat}:∀{n:Nat},(∀ j,j<n->f j=0)->f9 f n=0
 |0,_=>by simp only [f9,W0]
 |n+1,h=>by simp only [f9];rw [s6 fun j hj=>h j (by omega),h n (by omega)];grind
theorem a5I {f:Nat->Rat}:∀{n:Nat},(∀ j,j<n->f j<=0)->f9 f n<=0
 |0,_=>by simp only [f9,W0];grind
 |n+1,h=>by
  simp only [f9]
  have h1:=a5I (f:=f) (n:=n) fun j hj=>h j (by omega)
  have h2:=h n (by omega)
  grind
theorem b4Q {f:Nat->Rat} {n s:Nat} (h:∀j,j<n->f j<=0) (hs:s<n) (h0:f s<0):f9 f n<0:=by
 rw [x9 hs]
 have:=a5I (f:=fun j=>if j=s then 0 else f j) (n:=n) fun j hj=>by split;grind;exact h j hj
 grind
theorem aV4 {f:Nat->Rat} {n s:Nat} (h:∀j,j<n->0<=f j) (hs:s<n) (h0:0<f s):0<f9 f n:=by
 rw [x9 hs]
 have:=a29 (f:=fun j=>if j=s then 0 else f j) (n:=n) fun j hj=>by
  by_cases hj2:j=s
  ·simp only [hj2,if_true];grind
  ·simp only [if_neg hj2];exact h j hj
 grind
def Ids (m n:Nat) (D:Fd) (y:Nat->Rat) (c:Rat):Prop:=∀i,i<m->y (D.O i)=c*D.V i - f9 (fun j=>D.A i j*y (D.F j)) n
theorem a9X {D:Fd} {r s n:Nat} {y:Nat->Rat} (hs:s<n) (f:Nat->Rat) (f':Nat->Rat) (k:Rat) (hf:∀j,j≠s->f' j=f j - k*D.pRow r s j):
 f9 (fun j=>f' j*y ((D.exch r s).F j)) n=f9 (fun j=>if j=s then 0 else f j*y (D.F j)) n - k*f9 (fun j=>if j=s then 0 else D.pRow r s j*y (D.F j)) n+f' s*y (D.O r):=by
 rw [x9 hs]
 have h1:(D.exch r s).F s=D.O r:=by show (if s=s then D.O r else D.F s)=_;rw [if_pos rfl]
 rw [h1]
 have h2:f9 (fun j=>if j=s then 0 else f' j*y ((D.exch r s).F j)) n=f9 (fun j=>(if j=s then 0 else f j*y (D.F j))+(-k)*(if j=s then 0 else D.pRow r s j*y (D.F j))) n:=f6 fun j hj=>by
  by_cases h:j=s
  ·rw [if_pos h,if_pos h,if_pos h];grind
  ·rw [if_neg h,if_neg h,if_neg h,hf j h]
   have:(D.exch r s).F j=D.F j:=by show (if j=s then D.O r else D.F j)=_;rw [if_neg h]
   rw [this];grind
 rw [h2,a00,z9];grind
theorem a8T {D:Fd} {r s n:Nat} {y:Nat->Rat} {c:Rat} (hs:s<n) (hp:D.A r s≠0):
 y (D.O r)=c*D.V r - f9 (fun j=>D.A r j*y (D.F j)) n↔y (D.F s)=c*(D.V r / D.A r s) - f9 (fun j=>if j=s then 0 else D.pRow r s j*y (D.F j)) n - 1 / D.A r s*y (D.O r):=by
 have e1:f9 (fun j=>D.A r j*y (D.F j)) n=D.A r s*f9 (fun j=>if j=s then 0 else D.pRow r s j*y (D.F j)) n+D.A r s*y (D.F s):=by
  rw [x9 hs,←z9]
  congr 1
  refine f6 fun j hj=>?_
  by_cases h:j=s
  ·simp only [if_pos h];grind
  ·simp only [if_neg h]
   unfold Fd.pRow
   rw [if_neg h];grind
 rw [e1]
 generalize f9 (fun j=>if j=s then 0 else D.pRow r s j*y (D.F j)) n=R
 generalize y (D.F s)=a
 generalize y (D.O r)=b
 generalize D.V r=v
 generalize D.A r s=p at *
 constructor
 ·intro h;rw [h];grind
 ·intro h;rw [h];grind
theorem ac6 {m n:Nat} {D:Fd} {r s:Nat} {y:Nat->Rat} {c:Rat} (hr:r<m) (hs:s<n) (hp:D.A r s≠0):Ids m n D y c↔Ids m n (D.exch r s) y c:=by
 have hO:(D.exch r s).O r=D.F s:=by show (if r=r then D.F s else D.O r)=_;rw [if_pos rfl]
 have hV:(D.exch r s).V r=D.V r / D.A r s:=by show (if r=r then _ else _)=_;rw [if_pos rfl]
 have hA:∀j,(D.exch r s).A r j=D.pRow r s j:=fun j=>by show (if r=r then _ else _)=_;rw [if_pos rfl]
 have hps:D.pRow r s s=1 / D.A r s:=by unfold Fd.pRow;rw [if_pos rfl]
 have rowr:(y ((D.exch r s).O r)=c*(D.exch r s).V r - f9 (fun j=>(D.exch r s).A r j*y ((D.exch r s).F j)) n)↔y (D.O r)=c*D.V r - f9 (fun j=>D.A r j*y (D.F j)) n:=by
  rw [a8T hs hp,hO,hV]
  have h:=a9X (D:=D) (r:=r) (y:=y) hs (fun _=>0) ((D.exch r s).A r) (-1) (fun j hj=>by rw [hA];grind)
  rw [h,hA,hps,s6 (f:=fun j=>if j=s then 0 else 0*y (D.F j)) (fun j _=>by split<;>grind)]
  constructor
  ·intro h;rw [h];grind
  ·intro h;rw [h];grind
 have rowi:∀i,i≠r->y (D.O r)=c*D.V r - f9 (fun j=>D.A r j*y (D.F j)) n->
  ((y ((D.exch r s).O i)=c*(D.exch r s).V i - f9 (fun j=>(D.exch r s).A i j*y ((D.exch r s).F j)) n)↔y (D.O i)=c*D.V i - f9 (fun j=>D.A i j*y (D.F j)) n):=fun i hi h0=>by
  rw [a8T hs hp] at h0
  have h1:(D.exch r s).O i=D.O i:=by show (if i=r then _ else _)=_;rw [if_neg hi]
  have h2:(D.exch r s).V i=D.V i - D.A i s*(D.V r / D.A r s):=by show (if i=r then _ else _)=_;rw [if_neg hi]
  have h3:∀j,j≠s->(D.exch r s).A i j=D.A i j - D.A i s*D.pRow r s j:=fun j hj=>by show (if i=r then _ else _)=_;rw [if_neg hi,if_neg hj]
  have h4:(D.exch r s).A i s=0 - D.A i s*D.pRow r s s:=by show (if i=r then _ else _)=_;rw [if_neg hi,if_pos rfl]
  rw [h1,h2,a9X hs (D.A i) ((D.exch r s).A i) (D.A i s) h3,h4,hps,x9 (f:=fun j=>D.A i j*y (D.F j)) hs,h0]
  constructor
  ·intro h;rw [h];grind
  ·intro h;rw [h];grind
 constructor
 ·intro h i hi
  by_cases hir:i=r
  ·subst hir;exact rowr.2 (h i hi)
  ·exact (rowi i hir (h r hr)).2 (h i hi)
 ·intro h i hi
  have h0:=rowr.1 (h r hr)
  by_cases hir:i=r
  ·subst hir;exact h0
  ·exact (rowi i hir h0).1 (h i hi)
def T3 (n:Nat) (D:Fd) (g0:Nat->Rat) (m:Nat) (z:Rat):Prop:=∀y c,Ids m n D y c->f9 (fun j=>g0 j*y j) n=c*z+f9 (fun j=>D.G j*y (D.F j)) n
theorem al0 {m n:Nat} {D:Fd} {r s:Nat} {g0:Nat->Rat} {z:Rat} (hr:r<m) (hs:s<n) (hp:D.A r s≠0) (h:T3 n D g0 m z):T3 n (D.exch r s) g0 m (z+D.G s*(D.V r / D.A r s)):=by
 intro y c hy
 have hy:=(ac6 hr hs hp).2 hy
 rw [h y c hy]
 have h0:=(a8T hs hp).1 (hy r hr)
 have hps:D.pRow r s s=1 / D.A r s:=by unfold Fd.pRow;rw [if_pos rfl]
 have h3:∀j,j≠s->(D.exch r s).G j=D.G j - D.G s*D.pRow r s j:=fun j hj=>by show (if j=s then _ else _)=_;rw [if_neg hj]
 have h4:(D.exch r s).G s=0 - D.G s*D.pRow r s s:=by show (if s=s then _ else _)=_;rw [if_pos rfl]
 rw [a9X hs D.G (D.exch r s).G (D.G s) h3,h4,hps,x9 (f:=fun j=>D.G j*y (D.F j)) hs,h0]
 grind
end
section
def ae9 (f:Nat->Nat) (w:Nat):Nat->Option Nat
 |0=>none
 |k+1=>match ae9 f w k with
  |some i=>some i
  |none=>if f k=w then some k else none
theorem a4i {f:Nat->Nat} {w:Nat}:∀{k i:Nat},ae9 f w k=some i->i<k∧f i=w
 |0,i,h=>by cases h
 |k+1,i,h=>by
  unfold ae9 at h
  split at h
  ·rename_i i' hi;injection h with h;subst h;have:=a4i hi;exact ⟨by omega,this.2⟩
  ·split at h
   ·injection h with h;subst h;exact ⟨by omega,by assumption⟩
   ·cases h
theorem a7x {f:Nat->Nat} {w:Nat}:∀{k:Nat},ae9 f w k=none->∀i,i<k->f i≠w
 |0,_,i,hi=>by omega
 |k+1,h,i,hi=>by
  unfold ae9 at h
  split at h
  ·cases h
  ·rename_i hn
   split at h
   ·cases h
   ·by_cases hik:i=k
    ·subst hik;assumption
    ·exact a7x hn i (by omega)
structure X8 (m n:Nat) (D:Fd):Prop where
 oi:∀i i',i<m->i'<m->D.O i=D.O i'->i=i'
 fi:∀j j',j<n->j'<n->D.F j=D.F j'->j=j'
 of:∀i j,i<m->j<n->D.O i≠D.F j
 all:∀w,w<n+m->(∃ i,i<m∧D.O i=w)∨(∃ j,j<n∧D.F j=w)
 ob:∀i,i<m->D.O i<n+m
 fb:∀j,j<n->D.F j<n+m
theorem a6Q {D:Fd} {r s i:Nat}:(D.exch r s).O i=if i=r then D.F s else D.O i:=rfl
theorem a0R {D:Fd} {r s j:Nat}:(D.exch r s).F j=if j=s then D.O r else D.F j:=rfl
theorem am1 {m n:Nat} {D:Fd} {r s:Nat} (hr:r<m) (hs:s<n) (h:X8 m n D):X8 m n (D.exch r s) where
 oi:=fun i i' hi hi' he=>by
  rw [a6Q,a6Q] at he
  by_cases h1:i=r<;>by_cases h2:i'=r
  ·omega
  ·rw [if_pos h1,if_neg h2] at he;exact absurd he.symm (h.of i' s hi' hs)
  ·rw [if_neg h1,if_pos h2] at he;exact absurd he (h.of i s hi hs)
  ·rw [if_neg h1,if_neg h2] at he;exact h.oi i i' hi hi' he
 fi:=fun j j' hj hj' he=>by
  rw [a0R,a0R] at he
  by_cases h1:j=s<;>by_cases h2:j'=s
  ·omega
  ·rw [if_pos h1,if_neg h2] at he;exact absurd he (h.of r j' hr hj')
  ·rw [if_neg h1,if_pos h2] at he;exact absurd he.symm (h.of r j hr hj)
  ·rw [if_neg h1,if_neg h2] at he;exact h.fi j j' hj hj' he
 of:=fun i j hi hj he=>by
  rw [a6Q,a0R] at he
  by_cases h1:i=r<;>by_cases h2:j=s
  ·rw [if_pos h1,if_pos h2] at he;exact h.of r s hr hs he.symm
  ·rw [if_pos h1,if_neg h2] at he;exact h2 (h.fi s j hs hj he).symm
  ·rw [if_neg h1,if_pos h2] at he;exact h1 (h.oi i r hi hr he)
  ·rw [if_neg h1,if_neg h2] at he;exact h.of i j hi hj he
 all:=fun w hw=>by
  rcases h.all w hw with ⟨i,hi,he⟩|⟨j,hj,he⟩
  ·by_cases h1:i=r
   ·exact .inr ⟨s,hs,by rw [a0R,if_pos rfl,←h1];exact he⟩
   ·exact .inl ⟨i,hi,by rw [a6Q,if_neg h1];exact he⟩
  ·by_cases h1:j=s
   ·exact .inl ⟨r,hr,by rw [a6Q,if_pos rfl,←h1];exact he⟩
   ·exact .inr ⟨j,hj,by rw [a0R,if_neg h1];exact he⟩
 ob:=fun i hi=>by rw [a6Q];split;exact h.fb s hs;exact h.ob i hi
 fb:=fun j hj=>by rw [a0R];split;exact h.ob r hr;exact h.fb j hj
def X7 (m n:Nat) (D:Fd) (c:Rat) (t:Nat->Rat) (w:Nat):Rat:=match ae9 D.F w n with
 |some j=>t j
 |none=>match ae9 D.O w m with
  |some i=>c*D.V i - f9 (fun j=>D.A i j*t j) n
  |none=>0
theorem Y0 {m n:Nat} {D:Fd} (h:X8 m n D) {c:Rat} {t:Nat->Rat} {j:Nat} (hj:j<n):X7 m n D c t (D.F j)=t j:=by
 unfold X7
 cases hi:ae9 D.F (D.F j) n with
 |none=>exact absurd rfl (a7x hi j hj)
 |some i=>obtain ⟨h1,h2⟩:=a4i hi;rw [h.fi i j h1 hj h2]
theorem a51 {m n:Nat} {D:Fd} (h:X8 m n D) {c:Rat} {t:Nat->Rat} {i:Nat} (hi:i<m):X7 m n D c t (D.O i)=c*D.V i - f9 (fun j=>D.A i j*t j) n:=by
 unfold X7
 cases hj:ae9 D.F (D.O i) n with
 |some j=>obtain ⟨h1,h2⟩:=a4i hj;exact absurd h2.symm (h.of i j hi h1)
 |none=>
  cases hk:ae9 D.O (D.O i) m with
  |none=>exact absurd rfl (a7x hk i hi)
  |some k=>obtain ⟨h1,h2⟩:=a4i hk;rw [h.oi k i h1 hi h2]
theorem S5 {m n:Nat} {D:Fd} (h:X8 m n D) (c:Rat) (t:Nat->Rat):Ids m n D (X7 m n D c t) c:=fun i hi=>by
 rw [a51 h hi]
 congr 1
 exact f6 fun j hj=>by rw [Y0 h hj]
def R5 (f:Nat->Nat) (p:Nat->Bool):Nat->Option Nat
 |0=>none
 |k+1=>match R5 f p k with
  |none=>if p k then some k else none
  |some a=>if p k && decide (f k<f a) then some k else some a
theorem a0b {f:Nat->Nat} {p:Nat->Bool}:∀{k:Nat},R5 f p k=none->∀i,i<k->p i=false
 |0,_,i,hi=>by omega
 |k+1,h,i,hi=>by
  unfold R5 at h
  split at h
  ·rename_i hn
   split at h
   ·cases h
   ·rename_i hp
    by_cases hik:i=k
    ·subst hik;simpa using hp
    ·exact a0b hn i (by omega)
  ·split at h<;>cases h
theorem E5 {f:Nat->Nat} {p:Nat->Bool}:∀{k a:Nat},R5 f p k=some a->a<k∧p a=true∧∀i,i<k->p i=true->f a<=f i
 |0,a,h=>by cases h
 |k+1,a,h=>by
  unfold R5 at h
  split at h
  ·rename_i hn
   split at h
   ·rename_i hp
    injection h with h;subst h
    refine ⟨by omega,hp,fun i hi hpi=>?_⟩
    by_cases hik:i=k
    ·subst hik;omega
    ·rw [a0b hn i (by omega)] at hpi;cases hpi
   ·cases h
  ·rename_i b hb
   obtain ⟨h1,h2,h3⟩:=E5 hb
   split at h
   ·rename_i hc
    injection h with h;subst h
    simp only [Bool.and_eq_true,decide_eq_true_eq] at hc
    refine ⟨by omega,hc.1,fun i hi hpi=>?_⟩
    by_cases hik:i=k
    ·subst hik;omega
    ·have:=h3 i (by omega) hpi;omega
   ·rename_i hc
    injection h with h;subst h
    refine ⟨by omega,h2,fun i hi hpi=>?_⟩
    by_cases hik:i=k
    ·subst hik
     have:¬(f i<f b):=fun h=>hc (by simp [hpi,h])
     omega
    ·exact h3 i (by omega) hpi
inductive b22 where
 |best
 |row (r:Nat)
 |col (s:Nat)
 |next (r s:Nat)
def a0y (n:Nat) (D:Fd) (r:Nat):b22:=match R5 D.F (fun j=>decide (D.A r j<0)) n with
 |none=>.row r
 |some s=>.next r s
def a0w (m:Nat) (D:Fd) (s:Nat):b22:=match R5 D.O (fun i=>decide (0<D.A i s)) m with
 |none=>.col s
 |some r=>.next r s
def y4 (m n:Nat) (D:Fd):b22:=match R5 D.O (fun i=>decide (D.V i<0)) m,R5 D.F (fun j=>decide (0<D.G j)) n with
 |none,none=>.best
 |some r,none=>a0y n D r
 |none,some s=>a0w m D s
 |some r,some s=>if D.O r<D.F s then a0y n D r else a0w m D s
structure ah9 (m n:Nat) (D:Fd) (r s:Nat):Prop where
 v:D.V r<0
 a:D.A r s<0
 f:∀j,j<n->D.F j<D.F s->0<=D.A r j
 o:∀i,i<m->D.O i<D.O r->0<=D.V i
 g:∀j,j<n->D.F j<D.O r->D.G j<=0
structure ak8 (m n:Nat) (D:Fd) (r s:Nat):Prop where
 g:0<D.G s
 a:0<D.A r s
 o:∀i,i<m->D.O i<D.O r->D.A i s<=0
 f:∀j,j<n->D.F j<D.F s->D.G j<=0
 v:∀i,i<m->D.O i<D.F s->0<=D.V i
theorem aI5 {m n:Nat} {D:Fd} {r r' s:Nat} (hr:R5 D.O (fun i=>decide (D.V i<0)) m=some r) (hg:∀j,j<n->D.F j<D.O r->D.G j<=0) (h:a0y n D r=.next r' s):r'<m∧s<n∧ah9 m n D r' s:=by
 obtain ⟨a1,a2,a3⟩:=E5 hr
 unfold a0y at h
 split at h
 ·cases h
 ·rename_i s' hs'
  injection h with h1 h2;subst h1;subst h2
  obtain ⟨b1,b2,b3⟩:=E5 hs'
  refine ⟨a1,b1,of_decide_eq_true a2,of_decide_eq_true b2,fun j hj hlt=>?_,fun i hi hlt=>?_,hg⟩
  ·exact Rat.not_lt.1 fun h=>by have:=b3 j hj (decide_eq_true h);omega
  ·exact Rat.not_lt.1 fun h=>by have:=a3 i hi (decide_eq_true h);omega
theorem aw9 {m n:Nat} {D:Fd} {s s' r:Nat} (hs:R5 D.F (fun j=>decide (0<D.G j)) n=some s) (hv:∀i,i<m->D.O i<D.F s->0<=D.V i) (h:a0w m D s=.next r s'):r<m∧s'<n∧ak8 m n D r s':=by
 obtain ⟨a1,a2,a3⟩:=E5 hs
 unfold a0w at h
 split at h
 ·cases h
 ·rename_i r' hr'
  injection h with h1 h2;subst h1;subst h2
  obtain ⟨b1,b2,b3⟩:=E5 hr'
  refine ⟨b1,a1,of_decide_eq_true a2,of_decide_eq_true b2,fun i hi hlt=>?_,fun j hj hlt=>?_,hv⟩
  ·exact Rat.not_lt.1 fun h=>by have:=b3 i hi (decide_eq_true h);omega
  ·exact Rat.not_lt.1 fun h=>by have:=a3 j hj (decide_eq_true h);omega
theorem a4M {m n:Nat} {D:Fd} {r s:Nat} (h:y4 m n D=.next r s):r<m∧s<n∧(ah9 m n D r s∨ak8 m n D r s):=by
 unfold y4 at h
 cases hr:R5 D.O (fun i=>decide (D.V i<0)) m with
 |none=>
  have hv:∀i,i<m->0<=D.V i:=fun i hi=>Rat.not_lt.1 (of_decide_eq_false (a0b hr i hi))
  cases hs:R5 D.F (fun j=>decide (0<D.G j)) n with
  |none=>rw [hr,hs] at h;cases h
  |some s'=>
   rw [hr,hs] at h
   obtain ⟨q1,q2,q3⟩:=aw9 hs (fun i hi _=>hv i hi) h
   exact ⟨q1,q2,.inr q3⟩
 |some r'=>
  obtain ⟨a1,a2,a3⟩:=E5 hr
  cases hs:R5 D.F (fun j=>decide (0<D.G j)) n with
  |none=>
   rw [hr,hs] at h
   obtain ⟨q1,q2,q3⟩:=aI5 (n:=n) hr (fun j hj _=>Rat.not_lt.1 (of_decide_eq_false (a0b hs j hj))) h
   exact ⟨q1,q2,.inl q3⟩
  |some s'=>
   rw [hr,hs] at h
   obtain ⟨b1,b2,b3⟩:=E5 hs
   simp only at h
   split at h
   ·rename_i hlt
    obtain ⟨q1,q2,q3⟩:=aI5 (n:=n) hr (fun j hj hj2=>Rat.not_lt.1 fun h=>by have:=b3 j hj (decide_eq_true h);omega) h
    exact ⟨q1,q2,.inl q3⟩
   ·rename_i hlt
    obtain ⟨q1,q2,q3⟩:=aw9 hs (fun i hi hi2=>Rat.not_lt.1 fun h=>by have:=a3 i hi (decide_eq_true h);omega) h
    exact ⟨q1,q2,.inr q3⟩
theorem a6y {m n:Nat} {D:Fd} {r s:Nat} (h:ah9 m n D r s∨ak8 m n D r s):D.A r s≠0:=by
 rcases h with h|h
 ·have:=h.a;intro h0;rw [h0] at this;exact absurd this (by grind)
 ·have:=h.a;intro h0;rw [h0] at this;exact absurd this (by grind)
theorem b2U {m n:Nat} {D D':Fd} {g0:Nat->Rat} {z z':Rat} (hP:X8 m n D) (hP':X8 m n D') (hI:∀y c,Ids m n D y c↔Ids m n D' y c) (hG:T3 n D g0 m z) (hG':T3 n D' g0 m z')
 {r s r' s' q:Nat} (hr:r<m) (hs:s<n) (hr':r'<m) (hs':s'<n) (h:ah9 m n D r s∨ak8 m n D r s) (h':ah9 m n D' r' s'∨ak8 m n D' r' s') (hq:D.F s=q) (hq':D'.O r'=q)
 (hrq:D.O r<q) (hsq:D'.F s'<q) (hst:∀w,q<w->((∃ j,j<n∧D.F j=w)↔∃j,j<n∧D'.F j=w)):False:=by
 have hfree:∀j,j<n->q<D.F j->∃k,k<n∧D'.F k=D.F j:=fun j hj hlt=>(hst _ hlt).1 ⟨j,hj,rfl⟩
 -- a vector of the second dictionary
 obtain ⟨c,y,hc,hy,ypos,yq,yfree,hobj⟩:∃(c:Rat) (y:Nat->Rat),(c=0∨c=1)∧Ids m n D' y c∧(∀ w,w<n+m->w<q->0<=y w)∧y q<0∧(∀ j,j<n->q<D.F j->y (D.F j)=0)∧
  ((c=0∧0<f9 (fun j=>g0 j*y j) n)∨(c=1∧f9 (fun j=>g0 j*y j) n=z'∧∀j,j<n->D'.F j<q->D'.G j<=0)):=by
  rcases h' with h'|h'
  ·refine ⟨1,X7 m n D' 1 (fun _=>0),.inr rfl,S5 hP' 1 _,fun w hw hwq=>?_,?_,fun j hj hlt=>?_,.inr ⟨rfl,?_,fun j hj hlt=>h'.g j hj (by rw [hq'];exact hlt)⟩⟩
   ·rcases hP'.all w hw with ⟨i,hi,rfl⟩|⟨j,hj,rfl⟩
    ·rw [a51 hP' hi,s6 fun j _=>by grind]
     have:=h'.o i hi (by rw [hq'];exact hwq)
     grind
    ·rw [Y0 hP' hj];grind
   ·rw [← hq',a51 hP' hr',s6 fun j _=>by grind]
    have:=h'.v
    grind
   ·obtain ⟨k,hk,he⟩:=hfree j hj hlt
    rw [← he,Y0 hP' hk]
   ·rw [hG' _ 1 (S5 hP' 1 _),s6 fun j hj=>by rw [Y0 hP' hj];grind];grind
  ·refine ⟨0,X7 m n D' 0 (fun j=>if j=s' then 1 else 0),.inl rfl,S5 hP' 0 _,fun w hw hwq=>?_,?_,fun j hj hlt=>?_,.inl ⟨rfl,?_⟩⟩
   ·have hone:∀i,f9 (fun j=>D'.A i j*(if j=s' then 1 else 0)) n=D'.A i s':=fun i=>by
     rw [x9 hs',s6 fun j _=>by by_cases hj:j=s'<;>simp [hj]]
     simp;grind
    rcases hP'.all w hw with ⟨i,hi,rfl⟩|⟨j,hj,rfl⟩
    ·rw [a51 hP' hi,hone]
     have:=h'.o i hi (by rw [hq'];exact hwq)
     grind
    ·rw [Y0 hP' hj];split<;>grind
   ·have hone:f9 (fun j=>D'.A r' j*(if j=s' then 1 else 0)) n=D'.A r' s':=by
     rw [x9 hs',s6 fun j _=>by by_cases hj:j=s'<;>simp [hj]]
     simp;grind
    rw [← hq',a51 hP' hr',hone]
    have:=h'.a
    grind
   ·obtain ⟨k,hk,he⟩:=hfree j hj hlt
    rw [← he,Y0 hP' hk,if_neg]
    intro hks
    rw [hks] at he;omega
   ·rw [hG' _ 0 (S5 hP' 0 _)]
    have:f9 (fun j=>D'.G j*X7 m n D' 0 (fun j=>if j=s' then 1 else 0) (D'.F j)) n=D'.G s':=by
     rw [f6 (g:=fun j=>D'.G j*(if j=s' then 1 else 0)) fun j hj=>by rw [Y0 hP' hj],x9 hs',s6 fun j _=>by by_cases hj:j=s'<;>simp [hj]]
     simp;grind
    rw [this]
    have:=h'.g
    grind
 have hy2:=(hI y c).2 hy
 -- the terms of the first dictionary
 have hF:∀j,j<n->(D.F j<q∧0<=y (D.F j))∨(j=s∧y (D.F j)<0)∨y (D.F j)=0:=fun j hj=>by
  rcases Nat.lt_trichotomy (D.F j) q with hlt|heq|hgt
  ·exact .inl ⟨hlt,ypos _ (hP.fb j hj) hlt⟩
  ·refine .inr (.inl ⟨hP.fi j s hj hs (by omega),by rw [heq];exact yq⟩)
  ·exact .inr (.inr (yfree j hj hgt))
 rcases h with h|h
 · -- by its row
   have hid:=hy2 r hr
   have h1:0<f9 (fun j=>D.A r j*y (D.F j)) n:=aV4 (s:=s) (fun j hj=>by
    rcases hF j hj with ⟨a,b⟩|⟨rfl,b⟩|b
    ·exact Rat.mul_nonneg (h.f j hj (by rw [hq];exact a)) b
    ·have:=h.a;exact Rat.le_of_lt (by have:=Rat.mul_pos (a:=-D.A r j) (b:=-y (D.F j)) (by grind) (by grind);grind)
    ·rw [b];grind) hs (by
    have:=h.a
    have hyq:y (D.F s)<0:=by rw [hq];exact yq
    have:=Rat.mul_pos (a:=-D.A r s) (b:=-y (D.F s)) (by grind) (by grind);grind)
   have h2:0<=y (D.O r):=ypos _ (hP.ob r hr) hrq
   have h3:=h.v
   rcases hc with rfl|rfl
   ·grind
   ·grind
 · -- by its goal
   have h1:f9 (fun j=>D.G j*y (D.F j)) n<0:=b4Q (s:=s) (fun j hj=>by
    rcases hF j hj with ⟨a,b⟩|⟨rfl,b⟩|b
    ·have:=h.f j hj (by rw [hq];exact a)
     have:=Rat.mul_nonneg (a:=-D.G j) (b:=y (D.F j)) (by grind) b
     grind
    ·have:=h.g
     have:=Rat.mul_pos (a:=D.G j) (b:=-y (D.F j)) (by grind) (by grind)
     grind
    ·rw [b];grind) hs (by
    have:=h.g
    have hyq:y (D.F s)<0:=by rw [hq];exact yq
    have:=Rat.mul_pos (a:=D.G s) (b:=-y (D.F s)) (by grind) (by grind)
    grind)
   have hg:=hG y c hy2
   rcases hobj with ⟨rfl,ho⟩|⟨rfl,ho,hneg⟩
   ·grind
   · -- the basic point of the first dictionary
     have k1:=hG (X7 m n D 1 (fun _=>0)) 1 (S5 hP 1 _)
     rw [s6 (f:=fun j=>D.G j*X7 m n D 1 (fun _=>0) (D.F j)) fun j hj=>by rw [Y0 hP hj];grind] at k1
     have k2:=hG' (X7 m n D 1 (fun _=>0)) 1 ((hI _ 1).1 (S5 hP 1 _))
     have k3:f9 (fun j=>D'.G j*X7 m n D 1 (fun _=>0) (D'.F j)) n<=0:=a5I fun j hj=>by
      have hv:∀w,w<n+m->w<q->0<=X7 m n D 1 (fun _=>0) w:=fun w hw hwq=>by
       rcases hP.all w hw with ⟨i,hi,rfl⟩|⟨k,hk,rfl⟩
       ·rw [a51 hP hi,s6 fun j _=>by grind]
        have:=h.v i hi (by rw [hq];exact hwq)
        grind
       ·rw [Y0 hP hk];grind
      rcases Nat.lt_trichotomy (D'.F j) q with hlt|heq|hgt
      ·have a1:=hneg j hj hlt
       have a2:=hv _ (hP'.fb j hj) hlt
       have:=Rat.mul_nonneg (a:=-D'.G j) (by grind) a2
       grind
      ·exact absurd (hq'.trans heq.symm) (hP'.of r' j hr' hj)
      ·obtain ⟨k,hk,he⟩:=(hst _ hgt).2 ⟨j,hj,rfl⟩
       rw [← he,Y0 hP hk];grind
     grind
end
section
def D3 (m n:Nat) (D:Fd):Option Fd:=match y4 m n D with
 |.next r s=>some (D.exch r s)
 |_=>none
theorem a5q {m n:Nat} {D D':Fd} (h:D3 m n D=some D'):∃r s,y4 m n D=.next r s∧D'=D.exch r s:=by
 unfold D3 at h
 split at h
 ·rename_i r s hs;injection h with h;exact ⟨r,s,hs,h.symm⟩
 ·cases h
theorem a8I {P:Nat->Nat->Prop}:∀N:Nat,(∀ w,w<N->∃T,∀k,T<=k->¬P k w)->∃T,∀w,w<N->∀k,T<=k->¬P k w
 |0,_=>⟨0,fun w hw=>by omega⟩
 |N+1,h=>by
  obtain ⟨T,hT⟩:=a8I (P:=P) N fun w hw=>h w (by omega)
  obtain ⟨T',hT'⟩:=h N (by omega)
  refine ⟨max T T',fun w hw k hk=>?_⟩
  by_cases hwn:w=N
  ·subst hwn;exact hT' k (by omega)
  ·exact hT w (by omega) k (by omega)
theorem a9P {p:Nat->Prop}:∀N:Nat,(∃ w,w<N∧p w)->∃q,q<N∧p q∧∀w,q<w->w<N->¬p w
 |0,⟨w,hw,_⟩=>by omega
 |N+1,⟨w,hw,hp⟩=>by
  by_cases h:p N
  ·exact ⟨N,by omega,h,fun w h1 h2=>by omega⟩
  ·have hwN:w≠N:=fun e=>h (e ▸ hp)
   obtain ⟨q,h1,h2,h3⟩:=a9P N ⟨w,by omega,hp⟩
   refine ⟨q,by omega,h2,fun w h4 h5=>?_⟩
   by_cases hw2:w=N
   ·subst hw2;exact h
   ·exact h3 w h4 (by omega)
theorem a1a (p:Nat->Prop) (h:∃n,p n):∃n,p n∧∀m,p m->n<=m:=by
 obtain ⟨n,hn⟩:=h
 induction n using Nat.strongRecOn with
 |_ n ih=>
  by_cases hex:∃m,m<n∧p m
  ·obtain ⟨m,hm,hp⟩:=hex
   exact ih m hm hp
  ·exact ⟨n,hn,fun m hm=>Nat.le_of_not_lt fun h=>hex ⟨m,h,hm⟩⟩
theorem b6U {m n:Nat} {f:Nat->Fd} {g0:Nat->Rat} (hP0:X8 m n (f 0)) (hG0:∃z,T3 n (f 0) g0 m z) (hf:∀k,D3 m n (f k)=some (f (k+1))):False:=by
 have hstep:∀k,∃rs:Nat × Nat,rs.1<m∧rs.2<n∧(ah9 m n (f k) rs.1 rs.2∨ak8 m n (f k) rs.1 rs.2)∧f (k+1)=(f k).exch rs.1 rs.2:=fun k=>by
  obtain ⟨r,s,h1,h2⟩:=a5q (hf k)
  obtain ⟨a,b,c⟩:=a4M h1
  exact ⟨(r,s),a,b,c,h2⟩
 obtain ⟨W,hW⟩:=Classical.axiomOfChoice hstep
 have hP:∀k,X8 m n (f k):=fun k=>by
  induction k with
  |zero=>exact hP0
  |succ k ih=>obtain ⟨a,b,_,d⟩:=hW k;rw [d];exact am1 a b ih
 have hI:∀k y c,Ids m n (f 0) y c↔Ids m n (f k) y c:=fun k=>by
  induction k with
  |zero=>exact fun _ _=>Iff.rfl
  |succ k ih=>obtain ⟨a,b,c',d⟩:=hW k;rw [d];exact fun y c=>(ih y c).trans (ac6 a b (a6y c'))
 have hG:∀k,∃z,T3 n (f k) g0 m z:=fun k=>by
  induction k with
  |zero=>exact hG0
  |succ k ih=>obtain ⟨a,b,c',d⟩:=hW k;obtain ⟨z,hz⟩:=ih;rw [d];exact ⟨_,al0 a b (a6y c') hz⟩
 let E:Nat->Nat:=fun k=>(f k).F (W k).2
 let L:Nat->Nat:=fun k=>(f k).O (W k).1
 have hE:∀k,E k<n+m:=fun k=>(hP k).fb _ (hW k).2.1
 have hL:∀k,L k<n+m:=fun k=>(hP k).ob _ (hW k).1
 have hEL:∀k,L k≠E k:=fun k=>(hP k).of _ _ (hW k).1 (hW k).2.1
 let fre:Nat->Nat->Prop:=fun k w=>∃j,j<n∧(f k).F j=w
 have hfre:∀k w,w≠E k->w≠L k->(fre (k+1) w↔fre k w):=fun k w h1 h2=>by
  obtain ⟨a,b,_,d⟩:=hW k
  show (∃ j,j<n∧(f (k+1)).F j=w)↔∃j,j<n∧(f k).F j=w
  rw [d]
  constructor
  ·rintro ⟨j,hj,he⟩
   rw [a0R] at he
   by_cases hjs:j=(W k).2
   ·rw [if_pos hjs] at he;exact absurd he.symm h2
   ·rw [if_neg hjs] at he;exact ⟨j,hj,he⟩
  ·rintro ⟨j,hj,he⟩
   have hjs:j≠(W k).2:=fun h=>h1 (by rw [← he,h])
   exact ⟨j,hj,by rw [a0R,if_neg hjs];exact he⟩
 have hin:∀k,fre k (E k):=fun k=>⟨_,(hW k).2.1,rfl⟩
 have hout:∀k,¬fre k (L k):=fun k=>by rintro ⟨j,hj,he⟩;exact (hP k).of _ _ (hW k).1 hj he.symm
 have hin2:∀k,fre (k+1) (L k):=fun k=>by
  obtain ⟨a,b,_,d⟩:=hW k
  show ∃j,j<n∧(f (k+1)).F j=L k
  rw [d];exact ⟨_,b,by rw [a0R,if_pos rfl]⟩
 have hout2:∀k,¬fre (k+1) (E k):=fun k=>by
  obtain ⟨a,b,_,d⟩:=hW k
  show ¬∃j,j<n∧(f (k+1)).F j=E k
  rw [d]
  rintro ⟨j,hj,he⟩
  rw [a0R] at he
  by_cases hjs:j=(W k).2
  ·rw [if_pos hjs] at he;exact hEL k he
  ·rw [if_neg hjs] at he;exact hjs ((hP k).fi _ _ hj b he)
 let mv:Nat->Nat->Prop:=fun k w=>E k=w∨L k=w
 obtain ⟨q,hqN,hio,hmax⟩:=a9P (p:=fun w=>∀T,∃k,T<=k∧mv k w) (n+m) (Classical.byContradiction fun hno=>by
  have h1:∀w,w<n+m->∃T,∀k,T<=k->¬mv k w:=fun w hw=>Classical.byContradiction fun h=>hno ⟨w,hw,fun T=>Classical.byContradiction fun h'=>h ⟨T,fun k hk hm=>h' ⟨k,hk,hm⟩⟩⟩
  obtain ⟨T,hT⟩:=a8I (P:=mv) _ h1
  exact hT _ (hE T) T (Nat.le_refl _) (.inl rfl))
 obtain ⟨T,hT⟩:∃T,∀w,q<w->∀k,T<=k->¬mv k w:=by
  obtain ⟨T,hT⟩:=a8I (P:=fun k w=>q<w∧mv k w) (n+m) fun w hw=>by
   by_cases hqw:q<w
   ·have:=hmax w hqw hw
    obtain ⟨T,hT⟩:=Classical.not_forall.1 this
    exact ⟨T,fun k hk ⟨_,hm⟩=>hT ⟨k,hk,hm⟩⟩
   ·exact ⟨0,fun k _ ⟨h,_⟩=>hqw h⟩
  refine ⟨T,fun w hqw k hk hm=>?_⟩
  have hw:w<n+m:=by rcases hm with hm|hm<;>rw [← hm];exact hE k;exact hL k
  exact hT w hw k hk ⟨hqw,hm⟩
 have hEq:∀k,T<=k->E k<=q:=fun k hk=>Nat.le_of_not_lt fun h=>hT _ h k hk (.inl rfl)
 have hLq:∀k,T<=k->L k<=q:=fun k hk=>Nat.le_of_not_lt fun h=>hT _ h k hk (.inr rfl)
 have hconst:∀w,q<w->∀d,fre (T+d) w↔fre T w:=fun w hw d=>by
  induction d with
  |zero=>exact Iff.rfl
  |succ d ih=>
   have h1:=hEq (T+d) (by omega)
   have h2:=hLq (T+d) (by omega)
   exact (hfre (T+d) w (by omega) (by omega)).trans ih
 have hsame:∀w,q<w->∀t u,T<=t->T<=u->(fre t w↔fre u w):=fun w hw t u ht hu=>by
  have h1:=hconst w hw (t - T)
  have h2:=hconst w hw (u - T)
  rw [show T+(t - T)=t by omega] at h1
  rw [show T+(u - T)=u by omega] at h2
  exact h1.trans h2.symm
 -- q enters at some time, and leaves at some time
 have hnext:∀k1,T<=k1->mv k1 q->∃k2,T<=k2∧mv k2 q∧(fre k2 q↔fre (k1+1) q):=fun k1 h1 _=>by
  obtain ⟨k2,⟨h2,h3⟩,hleast⟩:=a1a (fun k=>k1+1<=k∧mv k q) (hio (k1+1))
  refine ⟨k2,by omega,h3,?_⟩
  have key:∀d,k1+1+d<=k2->(fre (k1+1+d) q↔fre (k1+1) q):=fun d=>by
   induction d with
   |zero=>exact fun _=>Iff.rfl
   |succ d ih=>
    intro hd
    have hnm:¬mv (k1+1+d) q:=fun h=>by have:=hleast (k1+1+d) ⟨by omega,h⟩;omega
    exact (hfre (k1+1+d) q (fun h=>hnm (.inl h.symm)) (fun h=>hnm (.inr h.symm))).trans (ih (by omega))
  have:=key (k2 - (k1+1)) (by omega)
  rwa [show k1+1+(k2 - (k1+1))=k2 by omega] at this
 have hboth:∃t u,T<=t∧T<=u∧E t=q∧L u=q:=by
  obtain ⟨k1,h1,hm1⟩:=hio T
  obtain ⟨k2,h2,hm2,hs⟩:=hnext k1 h1 hm1
  rcases hm1 with hm1|hm1
  ·rcases hm2 with hm2|hm2
   ·have a:=hin k2
    rw [hm2] at a
    have b:=hout2 k1
    rw [hm1] at b
    exact absurd (hs.1 a) b
   ·exact ⟨k1,k2,h1,h2,hm1,hm2⟩
  ·rcases hm2 with hm2|hm2
   ·exact ⟨k2,k1,h2,h1,hm2,hm1⟩
   ·have a:=hout k2
    rw [hm2] at a
    have b:=hin2 k1
    rw [hm1] at b
    exact absurd (hs.2 b) a
 obtain ⟨t,u,ht,hu,het,hlu⟩:=hboth
 obtain ⟨z,hz⟩:=hG t
 obtain ⟨z',hz'⟩:=hG u
 obtain ⟨a1,a2,a3,_⟩:=hW t
 obtain ⟨b1,b2,b3,_⟩:=hW u
 have hl:L t<q:=by have:=hLq t ht;have:=hEL t;omega
 have he:E u<q:=by have:=hEq u hu;have:=hEL u;omega
 exact b2U (hP t) (hP u) (fun y c=>(hI t y c).symm.trans (hI u y c)) hz hz' a1 a2 b1 b2 a3 b3 het hlu hl he (fun w hw=>hsame w hw t u ht hu)
def itS (m n:Nat):Nat->Fd->Option Fd
 |0,D=>some D
 |k+1,D=>match D3 m n D with
  |none=>none
  |some D'=>itS m n k D'
theorem W6 {m n:Nat}:∀(k:Nat) (D:Fd),itS m n (k+1) D=(itS m n k D).bind (D3 m n)
 |0,D=>by
  show (match D3 m n D with|none=>none|some D'=>some D')=D3 m n D
  cases D3 m n D<;>rfl
 |k+1,D=>by
  show (match D3 m n D with|none=>none|some D'=>itS m n (k+1) D')=(match D3 m n D with|none=>none|some D'=>itS m n k D').bind (D3 m n)
  cases D3 m n D with
  |none=>rfl
  |some D'=>exact W6 k D'
theorem b6C {m n:Nat} {D:Fd} {g0:Nat->Rat} (hP:X8 m n D) (hG:∃z,T3 n D g0 m z):∃k,itS m n k D=none:=Classical.byContradiction fun h=>by
 have h1:∀k,∃D',itS m n k D=some D':=fun k=>by
  cases hk:itS m n k D with
  |none=>exact absurd ⟨k,hk⟩ h
  |some D'=>exact ⟨D',rfl⟩
 obtain ⟨f,hf⟩:=Classical.axiomOfChoice h1
 have hf:∀k,itS m n k D=some (f k):=hf
 have h0:f 0=D:=by have:=hf 0;injection this with this;exact this.symm
 refine b6U (f:=f) (g0:=g0) (by rw [h0];exact hP) (by rw [h0];exact hG) fun k=>?_
 have h2:=W6 (m:=m) (n:=n) k D
 rw [hf k,hf (k+1)] at h2
 exact h2.symm
noncomputable def a7Y (m n:Nat) (D:Fd):Nat:=Classical.epsilon fun k=>itS m n k D=none∧∀j,itS m n j D=none->k<=j
theorem aN6 {m n:Nat} {D D':Fd} (h:∃k,itS m n k D=none) (hn:D3 m n D=some D'):a7Y m n D'<a7Y m n D:=by
 have hD:=Classical.epsilon_spec (a1a _ h)
 have h':∃k,itS m n k D'=none:=by
  obtain ⟨k,hk⟩:=h
  cases k with
  |zero=>cases hk
  |succ k=>
   have hk:(match D3 m n D with|none=>none|some D'=>itS m n k D')=none:=hk
   rw [hn] at hk;exact ⟨k,hk⟩
 have hD':=Classical.epsilon_spec (a1a _ h')
 have e:a7Y m n D=Classical.epsilon fun k=>itS m n k D=none∧∀j,itS m n j D=none->k<=j:=rfl
 have e':a7Y m n D'=Classical.epsilon fun k=>itS m n k D'=none∧∀j,itS m n j D'=none->k<=j:=rfl
 rw [← e] at hD
 rw [← e'] at hD'
 obtain ⟨a1,a2⟩:=hD
 obtain ⟨b1,b2⟩:=hD'
 generalize a7Y m n D=k at a1 a2
 cases k with
 |zero=>cases a1
 |succ k=>
  have a1:(match D3 m n D with|none=>none|some D'=>itS m n k D')=none:=a1
  rw [hn] at a1
  have:=b2 k a1
  omega
end
section
structure EqI where
 co:Nat->Int
 rhs:Int
def a7g (k:Nat) (e:EqI) (u:Nat->Rat):Prop:=f9 (fun l=>((e.co l:Int):Rat)*u l) (k+1)=((e.rhs:Int):Rat)
theorem b5H {f g:Nat->Rat} (a b:Rat) (n:Nat):f9 (fun j=>a*f j - b*g j) n=a*f9 f n - b*f9 g n:=by
 rw [← z9 a,←z9 b]
 have:f9 (fun j=>a*f j - b*g j) n=f9 (fun j=>a*f j+(-1)*(b*g j)) n:=f6 fun j _=>by grind
 rw [this,a00,z9 (-1)];grind
def a94 (k:Nat) (e0 e:EqI):EqI:=⟨fun l=>e0.co (k+1)*e.co l - e.co (k+1)*e0.co l,e0.co (k+1)*e.rhs - e.co (k+1)*e0.rhs⟩
theorem av9 {k:Nat} {e0 e:EqI} {u:Nat->Rat}:f9 (fun l=>(((a94 k e0 e).co l:Int):Rat)*u l) (k+1)=
 ((e0.co (k+1):Int):Rat)*f9 (fun l=>((e.co l:Int):Rat)*u l) (k+1) - ((e.co (k+1):Int):Rat)*f9 (fun l=>((e0.co l:Int):Rat)*u l) (k+1):=by
 rw [← b5H]
 refine f6 fun l _=>?_
 unfold a94
 simp only
 rw [Rat.intCast_sub,Rat.intCast_mul,Rat.intCast_mul];grind
theorem az5 {k:Nat} {e0 e:EqI}:(((a94 k e0 e).rhs:Int):Rat)=((e0.co (k+1):Int):Rat)*((e.rhs:Int):Rat) - ((e.co (k+1):Int):Rat)*((e0.rhs:Int):Rat):=by
 unfold a94
 simp only
 rw [Rat.intCast_sub,Rat.intCast_mul,Rat.intCast_mul]
theorem b4E {k:Nat} {e0 e:EqI} {s:Nat} (h0:(∀ l,l<=k+1->bl (e0.co l)<=s)∧bl e0.rhs<=s) (h:(∀ l,l<=k+1->bl (e.co l)<=s)∧bl e.rhs<=s):(∀ l,l<=k->bl ((a94 k e0 e).co l)<=2*s+1)∧bl (a94 k e0 e).rhs<=2*s+1:=by
 have key:∀a b c d:Int,bl a<=s->bl b<=s->bl c<=s->bl d<=s->bl (a*b - c*d)<=2*s+1:=fun a b c d ha hb hc hd=>by
  have h1:=C7 a b
  have h2:=C7 c d
  have h3:=a6K (a*b) (-(c*d))
  rw [a12,←Int.sub_eq_add_neg] at h3
  omega
 exact ⟨fun l hl=>key _ _ _ _ (h0.1 _ (by omega)) (h.1 _ (by omega)) (h.1 _ (by omega)) (h0.1 _ (by omega)),key _ _ _ _ (h0.1 _ (by omega)) h.2 (h.1 _ (by omega)) h0.2⟩
theorem a5h:∀(k s:Nat) (E:List EqI) (u:Nat->Rat),(∀ e ∈ E,(∀ l,l<=k->bl (e.co l)<=s)∧bl e.rhs<=s)->(∀ e ∈ E,a7g k e u)->(∀ u',(∀ e ∈ E,a7g k e u')->u' 0=u 0)->rl (u 0)<=2 ^ k*(s+1)
 |0,s,E,u,hb,hu,hq=>by
  by_cases hex:∃e ∈ E,e.co 0≠0
  ·obtain ⟨e,he,hc⟩:=hex
   have h1:((0:Int):Rat)+((e.co 0:Int):Rat)*u 0=((e.rhs:Int):Rat):=hu e he
   have hne:((e.co 0:Int):Rat)≠0:=fun h=>hc (by exact_mod_cast h)
   have h2:u 0=Rat.divInt e.rhs (e.co 0):=by
    rw [Rat.divInt_eq_div,←h1]
    have:((0:Int):Rat)=0:=rfl
    rw [this];grind
   rw [h2]
   have h3:=(hb e he).1 0 (Nat.le_refl _)
   have h4:=(hb e he).2
   have:=N0 (p:=e.rhs) (q:=e.co 0) hc
   omega
  ·have hz:∀e ∈ E,e.co 0=0:=fun e he=>Classical.byContradiction fun h=>hex ⟨e,he,h⟩
   have:=hq (fun _=>u 0+1) fun e he=>by
    have h1:((0:Int):Rat)+((e.co 0:Int):Rat)*u 0=((e.rhs:Int):Rat):=hu e he
    show ((0:Int):Rat)+((e.co 0:Int):Rat)*(u 0+1)=((e.rhs:Int):Rat)
    rw [← h1,hz e he]
    have:((0:Int):Rat)=0:=rfl
    rw [this];grind
   grind
 |k+1,s,E,u,hb,hu,hq=>by
  have hlast:∀(e:EqI) (v:Nat->Rat),f9 (fun l=>((e.co l:Int):Rat)*v l) (k+1+1)=f9 (fun l=>((e.co l:Int):Rat)*v l) (k+1)+((e.co (k+1):Int):Rat)*v (k+1):=fun e v=>rfl
  by_cases hex:∃e ∈ E,e.co (k+1)≠0
  ·obtain ⟨e0,he0,hc⟩:=hex
   have hne:((e0.co (k+1):Int):Rat)≠0:=fun h=>hc (by exact_mod_cast h)
   have ih:=a5h k (2*s+1) (E.map (a94 k e0)) u (fun e he=>by
    obtain ⟨e1,he1,rfl⟩:=List.mem_map.1 he
    exact b4E (hb e0 he0) (hb e1 he1)) (fun e he=>by
    obtain ⟨e1,he1,rfl⟩:=List.mem_map.1 he
    have a1:f9 _ (k+1+1)=_:=hu e0 he0
    have a2:f9 _ (k+1+1)=_:=hu e1 he1
    rw [hlast] at a1 a2
    unfold a7g
    rw [av9,az5,←a1,←a2];grind) (fun u' hu'=>by
    have hnew:=hq (fun l=>if l=k+1 then (((e0.rhs:Int):Rat) - f9 (fun l=>((e0.co l:Int):Rat)*u' l) (k+1)) / ((e0.co (k+1):Int):Rat) else u' l) fun e he=>by
     have b1:=hu' _ (List.mem_map.2 ⟨e,he,rfl⟩)
     unfold a7g at b1 ⊢
     rw [av9,az5] at b1
     rw [hlast,f6 (g:=fun l=>((e.co l:Int):Rat)*u' l) fun l hl=>by rw [if_neg (by omega)],if_pos rfl]
     generalize f9 (fun l=>((e.co l:Int):Rat)*u' l) (k+1)=X at *
     generalize f9 (fun l=>((e0.co l:Int):Rat)*u' l) (k+1)=Y at *
     generalize ((e0.co (k+1):Int):Rat)=c at *
     generalize ((e.co (k+1):Int):Rat)=d at *
     generalize ((e.rhs:Int):Rat)=r at *
     generalize ((e0.rhs:Int):Rat)=r0 at *
     have h1:c*(X+d*((r0 - Y) / c))=c*r:=by
      have:c*((r0 - Y) / c)=r0 - Y:=by grind
      have h2:c*(X+d*((r0 - Y) / c))=c*X+d*(c*((r0 - Y) / c)):=by grind
      rw [h2,this];grind
     grind
    rw [if_neg (by omega)] at hnew
    exact hnew)
   have e1:2 ^ (k+1)*(s+1)=2 ^ k*(2*s+1+1):=by rw [Nat.pow_succ,Nat.mul_assoc,show 2*(s+1)=2*s+1+1 by omega]
   rw [e1];exact ih
  ·have hz:∀e ∈ E,e.co (k+1)=0:=fun e he=>Classical.byContradiction fun h=>hex ⟨e,he,h⟩
   have hiff:∀e ∈ E,∀v,a7g (k+1) e v↔a7g k e v:=fun e he v=>by
    unfold a7g
    rw [hlast,hz e he]
    have:((0:Int):Rat)=0:=rfl
    rw [this]
    constructor
    ·intro h;rw [← h];grind
    ·intro h;rw [← h];grind
   have ih:=a5h k s E u (fun e he=>⟨fun l hl=>(hb e he).1 l (by omega),(hb e he).2⟩) (fun e he=>(hiff e he u).1 (hu e he)) fun u' hu'=>hq u' fun e he=>(hiff e he u').2 (hu' e he)
   have:2 ^ k<=2 ^ (k+1):=Nat.pow_le_pow_right (by decide) (by omega)
   exact Nat.le_trans ih (Nat.mul_le_mul_right _ this)
end
section
structure aM0 (m n s:Nat) (D:Fd):Prop where
 o:∀i,i<m->D.O i=n+i
 f:∀j,j<n->D.F j=j
 w:∀i,i<m->∃(q v:Int) (a:Nat->Int),q≠0∧bl q<=s∧bl v<=s∧(∀ j,j<n->bl (a j)<=s)∧((q:Int):Rat)*D.V i=((v:Int):Rat)∧∀j,j<n->((q:Int):Rat)*D.A i j=((a j:Int):Rat)
theorem a8p (x:Int):bl (-x)=bl x:=by unfold bl;rw [Int.natAbs_neg]
theorem b3u (x y:Int):bl (x - y)<=max (bl x) (bl y)+1:=by
 have:=a6K x (-y)
 rw [a8p] at this
 rw [Int.sub_eq_add_neg];exact this
theorem ag9 {f:Nat->Rat}:∀n:Nat,f9 f (n+1)=f 0+f9 (fun l=>f (l+1)) n
 |0=>by simp only [f9];grind
 |n+1=>by
  have ih:=ag9 (f:=f) n
  have e:f9 f (n+1+1)=f9 f (n+1)+f (n+1):=rfl
  rw [e,ih]
  simp only [f9];grind
def b15 (q0:Int) (b:Nat->Int) (r:Int):EqI:=⟨fun l=>match l with|0=>q0|l+1=>b l,r⟩
theorem aa8 {n:Nat} {q0 r:Int} {b:Nat->Int} {u:Nat->Rat}:a7g n (b15 q0 b r) u↔((q0:Int):Rat)*u 0+f9 (fun l=>((b l:Int):Rat)*u (l+1)) n=((r:Int):Rat):=by
 unfold a7g b15
 simp only
 rw [ag9]
theorem ac9 {n v:Nat} {u:Nat->Rat} (hv:v<n):f9 (fun l=>(((if l=v then (1:Int) else 0):Int):Rat)*u l) n=u v:=by
 rw [x9 hv,s6 fun j hj=>?_]
 ·simp only [if_true]
  have:((1:Int):Rat)=1:=rfl
  rw [this];grind
 ·by_cases h:j=v
  ·simp only [h,if_true]
  ·simp only [if_neg h]
   have:((0:Int):Rat)=0:=rfl
   rw [this];grind
theorem b8Y {s:Nat} (hs:1<=s) (b:Prop) [Decidable b]:bl (if b then (1:Int) else 0)<=s:=by
 split
 ·exact Nat.le_trans (o5 (by decide) (by decide)) hs
 ·exact Nat.le_trans (o5 (by decide) (by decide)) hs
theorem aF1 {m n s:Nat} {D0 D:Fd} (h0:aM0 m n s D0) (hs:1<=s) (hP:X8 m n D) (hI:∀y c,Ids m n D0 y c↔Ids m n D y c) {c:Int} {t:Nat->Int} (hc:c=0∨c=1) (ht:∀j,t j=0∨t j=1)
 {q r:Int} {b:Nat->Int} {φ:Rat} (hq:q≠0) (hqs:bl q<=s) (hr:bl r<=s) (hb:∀l,l<n->bl (b l)<=s)
 (hφ:((q:Int):Rat)*φ=((r:Int):Rat)*((c:Int):Rat)+f9 (fun l=>((b l:Int):Rat)*X7 m n D ((c:Int):Rat) (fun j=>((t j:Int):Rat)) l) n):rl φ<=2 ^ n*(s+2):=by
 obtain ⟨y,hy⟩:∃y,y=X7 m n D ((c:Int):Rat) (fun j=>((t j:Int):Rat)):=⟨_,rfl⟩
 rw [← hy] at hφ
 have hyD:Ids m n D y ((c:Int):Rat):=by rw [hy];exact S5 hP _ _
 have hy0:=(hI y _).2 hyD
 have hyF:∀j,j<n->y (D.F j)=((t j:Int):Rat):=fun j hj=>by rw [hy];exact Y0 hP hj
 -- the equations of the columns
 have eqs:∀j,j<n->∃e:EqI,(∀ l,l<=n->bl (e.co l)<=s+1)∧bl e.rhs<=s+1∧
  ∀(y' u':Nat->Rat),(∀ l,l<n->u' (l+1)=y' l)->Ids m n D0 y' ((c:Int):Rat)->(a7g n e u'↔y' (D.F j)=((t j:Int):Rat)):=by
  intro j hj
  have htb:bl (t j)<=1:=by rcases ht j with h|h<;>rw [h]<;>exact o5 (by decide) (by decide)
  by_cases hv:D.F j<n
  ·refine ⟨b15 0 (fun l=>if l=D.F j then 1 else 0) (t j),fun l hl=>?_,Nat.le_trans htb (by omega),fun y' u' hu hy'=>?_⟩
   ·cases l with
    |zero=>exact Nat.le_trans (o5 (x:=0) (by decide) (by decide)) (by omega)
    |succ l=>exact b8Y (by omega) _
   ·rw [aa8]
    rw [f6 (g:=fun l=>(((if l=D.F j then (1:Int) else 0):Int):Rat)*y' l) fun l hl=>by rw [hu l hl],ac9 hv]
    have:((0:Int):Rat)=0:=rfl
    rw [this]
    constructor<;>intro h<;>grind
  ·have hb1:=hP.fb j hj
   obtain ⟨i,hi⟩:∃i,D.F j=n+i:=⟨D.F j - n,by omega⟩
   have him:i<m:=by omega
   obtain ⟨qi,vi,ai,q1,q2,q3,q4,q5,q6⟩:=h0.w i him
   have hrhs:bl (vi*c - qi*t j)<=s+1:=by
    have h1:bl (vi*c)<=s:=by rcases hc with h|h<;>rw [h]<;>simp<;>first|exact q3|exact Nat.le_trans (o5 (x:=0) (by decide) (by decide)) hs
    have h2:bl (qi*t j)<=s:=by rcases ht j with h|h<;>rw [h]<;>simp<;>first|exact q2|exact Nat.le_trans (o5 (x:=0) (by decide) (by decide)) hs
    have:=b3u (vi*c) (qi*t j)
    omega
   refine ⟨b15 0 ai (vi*c - qi*t j),fun l hl=>?_,hrhs,fun y' u' hu hy'=>?_⟩
   ·cases l with
    |zero=>exact Nat.le_trans (o5 (x:=0) (by decide) (by decide)) (by omega)
    |succ l=>exact Nat.le_trans (q4 l (by omega)) (by omega)
   ·rw [aa8,hi]
    have hid:=hy' i him
    rw [h0.o i him] at hid
    have hsum:f9 (fun l=>((ai l:Int):Rat)*u' (l+1)) n=((qi:Int):Rat)*f9 (fun j=>D0.A i j*y' (D0.F j)) n:=by
     rw [← z9]
     refine f6 fun l hl=>?_
     rw [hu l hl,h0.f l hl,←q6 l hl];grind
    rw [hsum]
    have e0:((0:Int):Rat)=0:=rfl
    have e1:((vi*c - qi*t j:Int):Rat)=((vi:Int):Rat)*((c:Int):Rat) - ((qi:Int):Rat)*((t j:Int):Rat):=by push_cast;rfl
    rw [e0,e1,←q5]
    have hqn:((qi:Int):Rat)≠0:=by intro h;exact q1 (by exact_mod_cast h)
    constructor
    ·intro h
     have:((qi:Int):Rat)*(y' (n+i) - ((t j:Int):Rat))=0:=by rw [hid];grind
     have:=(Rat.mul_eq_zero.1 this).resolve_left hqn
     grind
    ·intro h
     rw [← h,hid];grind
 -- the equation of the value
 obtain ⟨E,hE⟩:∃E:Nat->EqI,∀j,(hj:j<n)->E j=Classical.choose (eqs j hj):=⟨fun j=>if hj:j<n then Classical.choose (eqs j hj) else ⟨fun _=>0,0⟩,fun j hj=>by simp [hj]⟩
 have hEs:∀j,j<n->(∀ l,l<=n->bl ((E j).co l)<=s+1)∧bl (E j).rhs<=s+1∧
  ∀(y' u':Nat->Rat),(∀ l,l<n->u' (l+1)=y' l)->Ids m n D0 y' ((c:Int):Rat)->(a7g n (E j) u'↔y' (D.F j)=((t j:Int):Rat)):=fun j hj=>by
  rw [hE j hj];exact Classical.choose_spec (eqs j hj)
 let e0:EqI:=b15 q (fun l=>0 - b l) (r*c)
 have he0:∀(y' u':Nat->Rat),(∀ l,l<n->u' (l+1)=y' l)->(a7g n e0 u'↔((q:Int):Rat)*u' 0=((r:Int):Rat)*((c:Int):Rat)+f9 (fun l=>((b l:Int):Rat)*y' l) n):=by
  intro y' u' hu
  show a7g n (b15 q (fun l=>0 - b l) (r*c)) u'↔_
  rw [aa8]
  have e1:f9 (fun l=>(((0 - b l:Int)):Rat)*u' (l+1)) n=0 - f9 (fun l=>((b l:Int):Rat)*y' l) n:=by
   have:f9 (fun l=>(((0 - b l:Int)):Rat)*u' (l+1)) n=f9 (fun l=>(-1:Rat)*(((b l:Int):Rat)*y' l)) n:=f6 fun l hl=>by
    rw [hu l hl];push_cast;grind
   rw [this,z9];grind
  rw [e1]
  have e2:((r*c:Int):Rat)=((r:Int):Rat)*((c:Int):Rat):=by push_cast;rfl
  rw [e2]
  constructor<;>intro h<;>grind
 let u:Nat->Rat:=fun l=>match l with|0=>φ|l+1=>y l
 have hu:∀l,l<n->u (l+1)=y l:=fun l _=>rfl
 have key:=a5h n (s+1) (e0::(List.range n).map E) u (fun e he=>?_) (fun e he=>?_) (fun u' hu'=>?_)
 ·exact key
 ·rcases List.mem_cons.1 he with rfl|he
  ·refine ⟨fun l hl=>?_,?_⟩
   ·cases l with
    |zero=>exact Nat.le_trans hqs (by omega)
    |succ l=>
     show bl (0 - b l)<=s+1
     have:=hb l (by omega)
     have h1:=b3u 0 (b l)
     have h2:=o5 (x:=0) (by decide) (by decide)
     omega
   ·show bl (r*c)<=s+1
    rcases hc with h|h<;>rw [h]<;>simp
    ·exact Nat.le_trans (o5 (x:=0) (by decide) (by decide)) (by omega)
    ·omega
  ·obtain ⟨j,hj,rfl⟩:=List.mem_map.1 he
   have:=hEs j (List.mem_range.1 hj)
   exact ⟨this.1,this.2.1⟩
 ·rcases List.mem_cons.1 he with rfl|he
  ·exact (he0 y u hu).2 hφ
  ·obtain ⟨j,hj,rfl⟩:=List.mem_map.1 he
   have hj:=List.mem_range.1 hj
   exact ((hEs j hj).2.2 y u hu hy0).2 (hyF j hj)
 ·let y':Nat->Rat:=fun w=>if w<n then u' (w+1) else ((c:Int):Rat)*D0.V (w - n) - f9 (fun j=>D0.A (w - n) j*u' (j+1)) n
  have huy:∀l,l<n->u' (l+1)=y' l:=fun l hl=>by show _=if l<n then _ else _;rw [if_pos hl]
  have hy':Ids m n D0 y' ((c:Int):Rat):=by
   intro i hi
   rw [h0.o i hi]
   show (if n+i<n then _ else _)=_
   rw [if_neg (by omega),show n+i - n=i by omega]
   congr 1
   refine f6 fun j hj=>?_
   rw [h0.f j hj,huy j hj]
  have hyD':=(hI y' _).1 hy'
  have hF':∀j,j<n->y' (D.F j)=((t j:Int):Rat):=fun j hj=>((hEs j hj).2.2 y' u' huy hy').1 (hu' _ (List.mem_cons_of_mem _ (List.mem_map.2 ⟨j,List.mem_range.2 hj,rfl⟩)))
  have same:∀w,w<n+m->y' w=y w:=by
   intro w hw
   rcases hP.all w hw with ⟨i,hi,rfl⟩|⟨j,hj,rfl⟩
   ·rw [hyD' i hi,hyD i hi]
    congr 1
    exact f6 fun j hj=>by rw [hF' j hj,hyF j hj]
   ·rw [hF' j hj,hyF j hj]
  have h1:=(he0 y' u' huy).1 (hu' e0 (List.mem_cons_self))
  have h2:f9 (fun l=>((b l:Int):Rat)*y' l) n=f9 (fun l=>((b l:Int):Rat)*y l) n:=f6 fun l hl=>by rw [same l (by omega)]
  rw [h2,←hφ] at h1
  have hqn:((q:Int):Rat)≠0:=by intro h;exact hq (by exact_mod_cast h)
  show u' 0=φ
  have h3:((q:Int):Rat)*(u' 0 - φ)=0:=by grind
  have:=(Rat.mul_eq_zero.1 h3).resolve_left hqn
  grind
end
section
theorem b5C {m n s:Nat} {D0 D:Fd} (h0:aM0 m n s D0) (hs:1<=s) (hP:X8 m n D) (hI:∀y c,Ids m n D0 y c↔Ids m n D y c) {g0:Nat->Rat} {z:Rat} (hG:T3 n D g0 m z) {q:Int} {b:Nat->Int} (hq:q≠0) (hqs:bl q<=s) (hb:∀l,l<n->bl (b l)<=s) (hg:∀l,l<n->((q:Int):Rat)*g0 l=((b l:Int):Rat)) {j:Nat} (hj:j<n):rl (D.G j)<=2 ^ n*(s+2):=by
 have h1:=hG _ _ (S5 hP ((0:Int):Rat) (fun l=>(((if l=j then (1:Int) else 0):Int):Rat)))
 have e:f9 (fun l=>D.G l*X7 m n D ((0:Int):Rat) (fun l=>(((if l=j then (1:Int) else 0):Int):Rat)) (D.F l)) n=D.G j:=by
  rw [f6 (g:=fun l=>(((if l=j then (1:Int) else 0):Int):Rat)*D.G l) fun l hl=>by rw [Y0 hP hl];grind,ac9 (u:=fun l=>D.G l) hj]
 rw [e] at h1
 refine aF1 h0 hs hP hI (c:=0) (t:=fun l=>if l=j then 1 else 0) (.inl rfl) (fun l=>by by_cases h:l=j;exact .inr (if_pos h);exact .inl (if_neg h)) (q:=q) (r:=0) (b:=b) hq hqs (Nat.le_trans (o5 (by decide) (by decide)) hs) hb ?_
 have e0:((0:Int):Rat)=0:=rfl
 have h2:D.G j=f9 (fun l=>g0 l*X7 m n D ((0:Int):Rat) (fun l=>(((if l=j then (1:Int) else 0):Int):Rat)) l) n:=by
  rw [h1];simp only [e0];grind
 rw [h2,←z9]
 have h3:f9 (fun l=>((b l:Int):Rat)*X7 m n D ((0:Int):Rat) (fun l=>(((if l=j then (1:Int) else 0):Int):Rat)) l) n=f9 (fun l=>((q:Int):Rat)*(g0 l*X7 m n D ((0:Int):Rat) (fun l=>(((if l=j then (1:Int) else 0):Int):Rat)) l)) n:=f6 fun l hl=>by rw [← hg l hl];grind
 rw [h3];grind
def b1i (m n:Nat) (y:Nat->Rat):Prop:=∀w,w<n+m->0<=y w
theorem aG2 {m n:Nat} {D:Fd} {g0:Nat->Rat} {z:Rat} (hP:X8 m n D) (hG:T3 n D g0 m z) (hv:∀i,i<m->0<=D.V i) (hg:∀j,j<n->D.G j<=0):
 (∃ y,Ids m n D y 1∧b1i m n y∧f9 (fun j=>g0 j*y j) n=z∧y=X7 m n D 1 (fun _=>0))∧∀y,Ids m n D y 1->b1i m n y->f9 (fun j=>g0 j*y j) n<=z:=by
 refine ⟨⟨_,S5 hP 1 (fun _=>0),fun w hw=>?_,?_,rfl⟩,fun y hy hp=>?_⟩
 ·rcases hP.all w hw with ⟨i,hi,rfl⟩|⟨j,hj,rfl⟩
  ·rw [a51 hP hi,s6 fun j hj=>by grind]
   have:=hv i hi;grind
  ·rw [Y0 hP hj];grind
 ·rw [hG _ _ (S5 hP 1 (fun _=>0)),s6 fun j hj=>by rw [Y0 hP hj];grind];grind
 ·rw [hG _ _ hy]
  have:f9 (fun j=>D.G j*y (D.F j)) n<=0:=a5I fun j hj=>by
   have h1:=hg j hj
   have h2:=hp (D.F j) (hP.fb j hj)
   have:=Rat.mul_nonneg (show 0<=-(D.G j) by grind) h2
   grind
  grind
theorem b4w {m n:Nat} {D:Fd} (hP:X8 m n D) {r:Nat} (hr:r<m) (hv:D.V r<0) (ha:∀j,j<n->0<=D.A r j):∀y,Ids m n D y 1->¬b1i m n y:=by
 intro y hy hp
 have h1:=hy r hr
 have h2:=hp (D.O r) (hP.ob r hr)
 have h3:0<=f9 (fun j=>D.A r j*y (D.F j)) n:=a29 fun j hj=>Rat.mul_nonneg (ha j hj) (hp _ (hP.fb j hj))
 grind
theorem b5c {m n:Nat} {D:Fd} {g0:Nat->Rat} {z:Rat} (hP:X8 m n D) (hG:T3 n D g0 m z) {s:Nat} (hs:s<n) (hg:0<D.G s) (ha:∀i,i<m->D.A i s<=0):
 ∃y,Ids m n D y 0∧b1i m n y∧0<f9 (fun j=>g0 j*y j) n∧y=X7 m n D 0 (fun j=>if j=s then 1 else 0):=by
 have hsum:∀f:Nat->Rat,f9 (fun j=>f j*(if j=s then (1:Rat) else 0)) n=f s:=fun f=>by
  rw [x9 hs,s6 fun j hj=>by by_cases h:j=s;simp only [h,if_true];simp only [if_neg h];grind]
  simp only [if_true];grind
 refine ⟨_,S5 hP 0 _,fun w hw=>?_,?_,rfl⟩
 ·rcases hP.all w hw with ⟨i,hi,rfl⟩|⟨j,hj,rfl⟩
  ·rw [a51 hP hi,hsum]
   have:=ha i hi;grind
  ·rw [Y0 hP hj];split<;>grind
 ·rw [hG _ _ (S5 hP 0 _),f6 (g:=fun j=>D.G j*(if j=s then (1:Rat) else 0)) fun j hj=>by rw [Y0 hP hj],hsum]
  grind
end
section
def I9 (l:List (Int × Rat)):Nat->Nat->Rat
 |0=>fun _=>0
 |k+1=>match l[k]? with
  |none=>I9 l k
  |some t=>fun j=>if j=t.1.toNat then t.2 else I9 l k j
def v7 (l:List (Int × Rat)):Nat->Rat:=I9 l l.length
theorem G9 {l:List (Int × Rat)} {k:Nat} {t:Int × Rat} (h:l[k]? =some t):I9 l (k+1)=fun j=>if j=t.1.toNat then t.2 else I9 l k j:=by rw [I9,h]
theorem a2g {l:List (Int × Rat)} {v:Nat}:∀k,(∀ i t,i<k->l[i]? =some t->t.1.toNat≠v)->I9 l k v=0
 |0,_=>rfl
 |k+1,h=>by
  have ih:=a2g (l:=l) (v:=v) k fun i t hi ht=>h i t (by omega) ht
  cases hk:l[k]? with
  |none=>rw [I9,hk];exact ih
  |some t=>
   rw [G9 hk]
   simp only
   rw [if_neg (fun e=>h k t (by omega) hk e.symm),ih]
theorem C2:∀{last n:Int} {l:List (Int × Rat)},f8 last n l=true->∀t ∈ l,last<t.1∧t.1<n∧t.2≠0
 |_,_,[],_,t,ht=>by cases ht
 |last,n,a::r,h,t,ht=>by
  unfold f8 at h
  simp only [Bool.and_eq_true,decide_eq_true_eq] at h
  rcases List.mem_cons.1 ht with rfl|ht
  ·exact ⟨h.1.1.1,h.1.1.2,h.1.2⟩
  ·have:=C2 h.2 t ht
   exact ⟨by omega,this.2⟩
theorem a32:∀{last n:Int} {l:List (Int × Rat)},f8 last n l=true->∀(i j:Nat) (t u:Int × Rat),i<j->l[i]? =some t->l[j]? =some u->t.1<u.1
 |_,_,[],_,i,j,t,u,_,ht,_=>by simp at ht
 |last,n,a::r,h,i,j,t,u,hij,ht,hu=>by
  unfold f8 at h
  simp only [Bool.and_eq_true,decide_eq_true_eq] at h
  cases j with
  |zero=>omega
  |succ j=>
   simp only [List.getElem?_cons_succ] at hu
   cases i with
   |zero=>
    simp only [List.getElem?_cons_zero] at ht
    injection ht with ht;subst ht
    exact (C2 h.2 u (List.mem_of_getElem? hu)).1
   |succ i=>
    simp only [List.getElem?_cons_succ] at ht
    exact a32 h.2 i j t u (by omega) ht hu
theorem a9m {α:Type} {l:List α} {k:Nat} {x:α} (h:l[k]? =some x):l.take (k+1)=l.take k++[x]:=by rw [List.take_add_one,h];rfl
theorem aw5 {n:Nat} {l:List (Int × Rat)} (h:f8 (-1) (n:Int) l=true) (z:List Rat):∀k,k<=l.length->k7 (l.take k) z=f9 (fun j=>I9 l k j*z.getD j 0) n
 |0,_=>by
  rw [List.take_zero,s6 fun j hj=>by show (0:Rat)*_=0;grind]
  rfl
 |k+1,hk=>by
  have ih:=aw5 h z k (by omega)
  obtain ⟨t,ht⟩:∃t,l[k]? =some t:=⟨_,List.getElem?_eq_getElem (by omega)⟩
  have hm:=C2 h t (List.mem_of_getElem? ht)
  have hv:t.1.toNat<n:=by omega
  have h0:I9 l k t.1.toNat=0:=a2g k fun i u hi hu=>by
   have:=a32 h i k u t hi hu ht
   have h2:=C2 h u (List.mem_of_getElem? hu)
   omega
  rw [a9m ht,P9,ih,G9 ht]
  rw [x9 (f:=fun j=>(if j=t.1.toNat then t.2 else I9 l k j)*z.getD j 0) hv,x9 (f:=fun j=>I9 l k j*z.getD j 0) hv]
  simp only [if_true,h0]
  rw [f6 (f:=fun j=>if j=t.1.toNat then 0 else (if j=t.1.toNat then t.2 else I9 l k j)*z.getD j 0) (g:=fun j=>if j=t.1.toNat then 0 else I9 l k j*z.getD j 0) fun j hj=>by
   by_cases hj:j=t.1.toNat
   ·rw [if_pos hj,if_pos hj]
   ·rw [if_neg hj,if_neg hj,if_neg hj]]
  grind
theorem K3 {n:Nat} {l:List (Int × Rat)} (h:f8 (-1) (n:Int) l=true) (z:List Rat):k7 l z=f9 (fun j=>v7 l j*z.getD j 0) n:=by
 have:=aw5 h z l.length (Nat.le_refl _)
 rw [List.take_length] at this
 exact this
def I0 (s:f7):Nat->List (Nat × Bool)
 |0=>[]
 |k+1=>match s.rows[k]? with
  |none=>I0 s k
  |some w=>I0 s k++(if w.kind≠0 then [(k,false)] else [])++(if w.kind≠1 then [(k,true)] else [])
def e8 (s:f7):List (Nat × Bool):=I0 s s.rows.length
def Q8 (b:Bool) (x:Rat):Rat:=if b then -x else x
def a3g (s:f7) (f:Nat × Bool):Rat:=match s.rows[f.1]? with
 |none=>0
 |some w=>Q8 f.2 w.value
def a1x (s:f7) (f:Nat × Bool) (j:Nat):Rat:=match s.rows[f.1]? with
 |none=>0
 |some w=>Q8 f.2 (v7 w.terms j)
def g4 (s:f7) (g:List (Int × Rat)):Fd where
 V:=fun i=>a3g s ((e8 s).getD i (0,false))
 A:=fun i j=>a1x s ((e8 s).getD i (0,false)) j
 G:=fun j=>-(v7 g j)
 O:=fun i=>s.n.toNat+i
 F:=fun j=>j
theorem an0 {s:f7} {f:Nat × Bool}:∀k,f ∈ I0 s k↔f.1<k∧∃w,s.rows[f.1]? =some w∧(f.2=false->w.kind≠0)∧(f.2=true->w.kind≠1)
 |0=>by simp [I0]
 |k+1=>by
  have ih:=an0 (s:=s) (f:=f) k
  unfold I0
  cases hw:s.rows[k]? with
  |none=>
   simp only
   rw [ih]
   constructor
   ·rintro ⟨h1,h2⟩;exact ⟨by omega,h2⟩
   ·rintro ⟨h1,w,h2,h3⟩
    refine ⟨?_,w,h2,h3⟩
    by_cases he:f.1=k
    ·rw [he,hw] at h2;cases h2
    ·omega
  |some w=>
   simp only
   rw [List.mem_append,List.mem_append,ih]
   obtain ⟨a,b⟩:=f
   simp only
   constructor
   ·rintro ((⟨h1,h2⟩|h)|h)
    ·exact ⟨by omega,h2⟩
    ·split at h
     ·rename_i hk
      simp at h
      obtain ⟨rfl,rfl⟩:=h
      exact ⟨by omega,w,hw,fun _=>hk,fun h=>by cases h⟩
     ·simp at h
    ·split at h
     ·rename_i hk
      simp at h
      obtain ⟨rfl,rfl⟩:=h
      exact ⟨by omega,w,hw,fun h=>(by cases h),fun _=>hk⟩
     ·simp at h
   ·rintro ⟨h1,w',h2,h3,h4⟩
    by_cases he:a=k
    ·subst he
     rw [hw] at h2;injection h2 with h2;subst h2
     cases b with
     |false=>rw [if_pos (h3 rfl)];simp
     |true=>rw [if_pos (h4 rfl)];simp
    ·exact .inl (.inl ⟨by omega,w',h2,h3,h4⟩)
theorem T8 {s:f7} {f:Nat × Bool}:f ∈ e8 s↔∃w,s.rows[f.1]? =some w∧(f.2=false->w.kind≠0)∧(f.2=true->w.kind≠1):=by
 unfold e8
 rw [an0]
 constructor
 ·rintro ⟨_,h⟩;exact h
 ·rintro ⟨w,h⟩;exact ⟨(List.getElem?_eq_some_iff.1 h.1).1,w,h⟩
theorem aI8 {s:f7} {g:List (Int × Rat)}:X8 (e8 s).length s.n.toNat (g4 s g) where
 oi:=fun i i' _ _ h=>by have:s.n.toNat+i=s.n.toNat+i':=h;omega
 fi:=fun j j' _ _ h=>h
 of:=fun i j _ hj h=>by have:s.n.toNat+i=j:=h;omega
 all:=fun w hw=>by
  by_cases h:w<s.n.toNat
  ·exact .inr ⟨w,h,rfl⟩
  ·exact .inl ⟨w - s.n.toNat,by omega,by show s.n.toNat+(w - s.n.toNat)=w;omega⟩
 ob:=fun i hi=>by show s.n.toNat+i<_;omega
 fb:=fun j hj=>by show j<_;omega
theorem aJ2 {s:f7} {g:List (Int × Rat)}:T3 s.n.toNat (g4 s g) (fun j=>-(v7 g j)) (e8 s).length 0:=by
 intro y c _
 have:c*(0:Rat)=0:=by grind
 rw [this]
 have e:f9 (fun j=>(g4 s g).G j*y ((g4 s g).F j)) s.n.toNat=f9 (fun j=>-(v7 g j)*y j) s.n.toNat:=rfl
 rw [e];grind
def a5A (s:f7) (g:List (Int × Rat)) (z:List Rat) (w:Nat):Rat:=if w<s.n.toNat then z.getD w 0 else (g4 s g).V (w - s.n.toNat) - f9 (fun j=>(g4 s g).A (w - s.n.toNat) j*z.getD j 0) s.n.toNat
theorem aW2 {s:f7} {g:List (Int × Rat)} (z:List Rat):Ids (e8 s).length s.n.toNat (g4 s g) (a5A s g z) 1:=by
 intro i hi
 show a5A s g z (s.n.toNat+i)=_
 unfold a5A
 rw [if_neg (by omega),show s.n.toNat+i - s.n.toNat=i by omega]
 have:(1:Rat)*(g4 s g).V i=(g4 s g).V i:=by grind
 rw [this]
 congr 1
 refine f6 fun j hj=>?_
 show _=(g4 s g).A i j*(if j<s.n.toNat then z.getD j 0 else _)
 rw [if_pos hj]
theorem ai1 {s:f7} {g:List (Int × Rat)} (hr:i8 s=true) {z:List Rat} {i:Nat} {f:Nat × Bool} {w:B1} (hf:(e8 s)[i]? =some f) (hw:s.rows[f.1]? =some w):a5A s g z (s.n.toNat+i)=Q8 f.2 (w.value - k7 w.terms z):=by
 unfold a5A
 rw [if_neg (by omega),show s.n.toNat+i - s.n.toNat=i by omega]
 have hfd:(e8 s).getD i (0,false)=f:=by rw [List.getD_eq_getElem?_getD,hf];rfl
 show a3g s ((e8 s).getD i (0,false)) - f9 (fun j=>a1x s ((e8 s).getD i (0,false)) j*z.getD j 0) s.n.toNat=_
 rw [hfd]
 have hrow:t9 s.n w=true:=by
  unfold i8 at hr
  simp only [Bool.and_eq_true,decide_eq_true_eq,List.all_eq_true] at hr
  exact hr.2 w (List.mem_of_getElem? hw)
 have hn:(s.n.toNat:Int)=s.n:=by
  unfold i8 at hr
  simp only [Bool.and_eq_true,decide_eq_true_eq] at hr
  omega
 unfold t9 at hrow
 simp only [Bool.and_eq_true,decide_eq_true_eq] at hrow
 have hrt:=hrow.1.1
 rw [← hn] at hrt
 have e1:a3g s f=Q8 f.2 w.value:=by unfold a3g;rw [hw]
 have e2:∀j,a1x s f j=Q8 f.2 (v7 w.terms j):=fun j=>by unfold a1x;rw [hw]
 rw [e1,K3 hrt z]
 cases hb:f.2 with
 |false=>
  rw [f6 (g:=fun j=>v7 w.terms j*z.getD j 0) fun j hj=>by rw [e2 j,hb];rfl]
  rfl
 |true=>
  rw [f6 (g:=fun j=>(-1:Rat)*(v7 w.terms j*z.getD j 0)) fun j hj=>by rw [e2 j,hb];show -(v7 w.terms j)*_=_;grind,z9]
  show -w.value - _=-(w.value - _)
  grind
theorem first_holds {s:f7} {g:List (Int × Rat)} (hr:i8 s=true) {z:List Rat} (hl:(z.length:Int)=s.n):j7 s z=true↔b1i (e8 s).length s.n.toNat (a5A s g z):=by
 have hn:z.length=s.n.toNat:=by omega
 unfold j7
 rw [hr,decide_eq_true hl]
 simp only [Bool.true_and,Bool.and_eq_true,List.all_eq_true,decide_eq_true_eq]
 constructor
 ·rintro ⟨h1,h2⟩ w hw
  by_cases hv:w<s.n.toNat
  ·unfold a5A
   rw [if_pos hv,List.getD_eq_getElem?_getD,List.getElem?_eq_getElem (by omega)]
   exact h1 _ (List.getElem_mem _)
  ·obtain ⟨i,rfl⟩:∃i,w=s.n.toNat+i:=⟨w - s.n.toNat,by omega⟩
   have hi:i<(e8 s).length:=by omega
   obtain ⟨f,hf⟩:∃f,(e8 s)[i]? =some f:=⟨_,List.getElem?_eq_getElem hi⟩
   obtain ⟨x,hx,hk1,hk2⟩:=T8.1 (List.mem_of_getElem? hf)
   rw [ai1 hr hf hx]
   have hb:=h2 x (List.mem_of_getElem? hx)
   unfold Q7 at hb
   simp only [Bool.not_eq_true',Bool.or_eq_false_iff,Bool.and_eq_false_iff,decide_eq_false_iff_not] at hb
   cases hfb:f.2 with
   |false=>
    have:=hk1 hfb
    show 0<=x.value - k7 x.terms z
    rcases hb.2 with h|h
    ·grind
    ·exact absurd this h
   |true=>
    have:=hk2 hfb
    show 0<=-(x.value - k7 x.terms z)
    rcases hb.1 with h|h
    ·grind
    ·exact absurd this h
 ·intro hp
  refine ⟨fun v hv=>?_,fun x hx=>?_⟩
  ·obtain ⟨j,hj,rfl⟩:=List.getElem_of_mem hv
   have:=hp j (by omega)
   unfold a5A at this
   rw [if_pos (by omega),List.getD_eq_getElem?_getD,List.getElem?_eq_getElem hj] at this
   exact this
  ·obtain ⟨k,hk,hkx⟩:=List.getElem_of_mem hx
   have hxk:s.rows[k]? =some x:=by rw [List.getElem?_eq_getElem hk,hkx]
   have side:∀b:Bool,(b=false->x.kind≠0)->(b=true->x.kind≠1)->0<=Q8 b (x.value - k7 x.terms z):=by
    intro b h1 h2
    have hm:((k,b):Nat × Bool) ∈ e8 s:=T8.2 ⟨x,hxk,h1,h2⟩
    obtain ⟨i,hi,hif⟩:=List.getElem_of_mem hm
    have hf:(e8 s)[i]? =some (k,b):=by rw [List.getElem?_eq_getElem hi,hif]
    have:=hp (s.n.toNat+i) (by omega)
    rw [ai1 hr hf hxk] at this
    exact this
   unfold Q7
   simp only [Bool.not_eq_true',Bool.or_eq_false_iff,Bool.and_eq_false_iff,decide_eq_false_iff_not]
   constructor
   ·by_cases h:x.kind≠1
    ·left
     have:=side true (fun h=>by cases h) (fun _=>h)
     have h2:0<=-(x.value - k7 x.terms z):=this
     grind
    ·right;exact h
   ·by_cases h:x.kind≠0
    ·left
     have:=side false (fun _=>h) (fun h=>by cases h)
     have h2:0<=x.value - k7 x.terms z:=this
     grind
    ·right;exact h
end
section
def a9J (B:Nat) (w:B1):Prop:=(∀ t ∈ w.terms,∃c:Int,t.2=((c:Int):Rat)∧bl c<=1)∧rl w.value<=B
theorem a0N {l:List (Int × Rat)} (h:∀t ∈ l,∃c:Int,t.2=((c:Int):Rat)∧bl c<=1):∀(k j:Nat),∃c:Int,I9 l k j=((c:Int):Rat)∧bl c<=1
 |0,j=>⟨0,rfl,o5 (by decide) (by decide)⟩
 |k+1,j=>by
  cases hk:l[k]? with
  |none=>rw [I9,hk];exact a0N h k j
  |some t=>
   rw [G9 hk]
   simp only
   split
   ·exact h t (List.mem_of_getElem? hk)
   ·exact a0N h k j
theorem b4W {b:Bool} {x:Rat} {c:Int} (h:x=((c:Int):Rat)):∃c':Int,Q8 b x=((c':Int):Rat)∧bl c'=bl c:=by
 cases b with
 |false=>exact ⟨c,h,rfl⟩
 |true=>exact ⟨-c,by show -x=_;rw [h];push_cast;rfl,a8p c⟩
end
section
instance:Inhabited Fd:=⟨⟨fun _=>0,fun _ _=>0,fun _=>0,fun _=>0,fun _=>0⟩⟩
structure a5m (m n:Nat) (D0:Fd) (g0:Nat->Rat) (D:Fd):Prop where
 p:X8 m n D
 i:∀y c,Ids m n D0 y c↔Ids m n D y c
 g:∃z,T3 n D g0 m z
theorem b2M {m n r s:Nat} {D0 D:Fd} {g0:Nat->Rat} (h:a5m m n D0 g0 D) (hs:y4 m n D=.next r s):a5m m n D0 g0 (D.exch r s):=by
 obtain ⟨hr,hsn,hb⟩:=a4M hs
 have hp:=a6y hb
 obtain ⟨z,hz⟩:=h.g
 exact ⟨am1 hr hsn h.p,fun y c=>(h.i y c).trans (ac6 hr hsn hp),_,al0 hr hsn hp hz⟩
def T0 (m n:Nat) (D0 D:Fd):Prop:=∃k,itS m n k D0=some D
theorem aP7 {m n:Nat} {D0:Fd}:T0 m n D0 D0:=⟨0,rfl⟩
theorem a9I {m n:Nat} {D0 D D':Fd} (h:T0 m n D0 D) (hn:D3 m n D=some D'):T0 m n D0 D':=by
 obtain ⟨k,hk⟩:=h
 exact ⟨k+1,by rw [W6,hk];exact hn⟩
theorem a2c {m n:Nat} {D0:Fd} {g0:Nat->Rat} (h0:a5m m n D0 g0 D0):∀{k:Nat} {D:Fd},itS m n k D0=some D->a5m m n D0 g0 D
 |0,D,h=>by injection h with h;subst h;exact h0
 |k+1,D,h=>by
  rw [W6] at h
  cases hk:itS m n k D0 with
  |none=>rw [hk] at h;cases h
  |some D1=>
   rw [hk] at h
   have h:D3 m n D1=some D:=h
   obtain ⟨r,s,hs,rfl⟩:=a5q h
   exact b2M (a2c h0 hk) hs
theorem a9Z {m n:Nat} {D0:Fd} {k:Nat} (h:itS m n k D0=none):∀j,itS m n (k+j) D0=none
 |0=>h
 |j+1=>by rw [show k+(j+1)=(k+j)+1 by omega,W6,a9Z h j];rfl
theorem aJ8 {m n:Nat} {D0 D D':Fd} (h:T0 m n D0 D) (hn:D3 m n D=none) (h':T0 m n D0 D') (hn':D3 m n D'=none):D=D':=by
 obtain ⟨k,hk⟩:=h
 obtain ⟨l,hl⟩:=h'
 have a1:itS m n (k+1) D0=none:=by rw [W6,hk];exact hn
 have a2:itS m n (l+1) D0=none:=by rw [W6,hl];exact hn'
 have hkl:k=l:=by
  rcases Nat.lt_trichotomy k l with h|h|h
  ·have:=a9Z a1 (l - (k+1))
   rw [show k+1+(l - (k+1))=l by omega,hl] at this;cases this
  ·exact h
  ·have:=a9Z a2 (k - (l+1))
   rw [show l+1+(k - (l+1))=k by omega,hk] at this;cases this
 subst hkl
 rw [hk] at hl;injection hl
theorem b7b {m n:Nat} {D0:Fd} {g0:Nat->Rat} (h0:a5m m n D0 g0 D0):∃D,T0 m n D0 D∧D3 m n D=none:=by
 obtain ⟨k,hk,hmin⟩:=a1a (fun k=>itS m n k D0=none) (b6C h0.p h0.g)
 cases k with
 |zero=>cases hk
 |succ k=>
  cases hk':itS m n k D0 with
  |none=>have:=hmin k hk';omega
  |some D=>
   rw [W6,hk'] at hk
   exact ⟨D,⟨k,hk'⟩,hk⟩
noncomputable def a9L (m n:Nat) (D0:Fd):Fd:=Classical.epsilon fun D=>T0 m n D0 D∧D3 m n D=none
theorem a45 {m n:Nat} {D0:Fd} {g0:Nat->Rat} (h0:a5m m n D0 g0 D0):T0 m n D0 (a9L m n D0)∧D3 m n (a9L m n D0)=none:=Classical.epsilon_spec (b7b h0)
theorem b7s {m n:Nat} {D0 D:Fd} {g0:Nat->Rat} (h0:a5m m n D0 g0 D0) (h:T0 m n D0 D) (hn:D3 m n D=none):D=a9L m n D0:=aJ8 h hn (a45 h0).1 (a45 h0).2
theorem b5g {m n:Nat} {D0:Fd} {g0:Nat->Rat} (h0:a5m m n D0 g0 D0):a5m m n D0 g0 (a9L m n D0):=by
 obtain ⟨k,hk⟩:=(a45 h0).1
 exact a2c h0 hk
theorem af4 {m n:Nat} {D:Fd} (h:y4 m n D=.best):(∀ i,i<m->0<=D.V i)∧∀j,j<n->D.G j<=0:=by
 unfold y4 at h
 split at h
 ·rename_i h1 h2
  refine ⟨fun i hi=>?_,fun j hj=>?_⟩
  ·have:=a0b h1 i hi;simp at this;grind
  ·have:=a0b h2 j hj;simp at this;grind
 ·unfold a0y at h;split at h<;>cases h
 ·unfold a0w at h;split at h<;>cases h
 ·split at h
  ·unfold a0y at h;split at h<;>cases h
  ·unfold a0w at h;split at h<;>cases h
theorem ah1 {n r r':Nat} {D:Fd} (h:a0y n D r=.row r'):r'=r∧∀j,j<n->0<=D.A r j:=by
 unfold a0y at h
 split at h
 ·rename_i h1
  injection h with h
  exact ⟨h.symm,fun j hj=>by have:=a0b h1 j hj;simp at this;grind⟩
 ·cases h
theorem af7 {m s s':Nat} {D:Fd} (h:a0w m D s=.col s'):s'=s∧∀i,i<m->D.A i s<=0:=by
 unfold a0w at h
 split at h
 ·rename_i h1
  injection h with h
  exact ⟨h.symm,fun i hi=>by have:=a0b h1 i hi;simp at this;grind⟩
 ·cases h
theorem b2l {m n r:Nat} {D:Fd} (h:y4 m n D=.row r):r<m∧D.V r<0∧∀j,j<n->0<=D.A r j:=by
 unfold y4 at h
 split at h
 ·cases h
 ·rename_i r0 h1 h2
  obtain ⟨rfl,h4⟩:=ah1 h
  have h3:=E5 h1
  exact ⟨h3.1,by simpa using h3.2.1,h4⟩
 ·unfold a0w at h;split at h<;>cases h
 ·rename_i r0 s0 h1 h2
  split at h
  ·obtain ⟨rfl,h4⟩:=ah1 h
   have h3:=E5 h1
   exact ⟨h3.1,by simpa using h3.2.1,h4⟩
  ·unfold a0w at h;split at h<;>cases h
theorem a6n {m n s:Nat} {D:Fd} (h:y4 m n D=.col s):s<n∧0<D.G s∧∀i,i<m->D.A i s<=0:=by
 unfold y4 at h
 split at h
 ·cases h
 ·unfold a0y at h;split at h<;>cases h
 ·rename_i s0 h1 h2
  obtain ⟨rfl,h4⟩:=af7 h
  have h3:=E5 h2
  exact ⟨h3.1,by simpa using h3.2.1,h4⟩
 ·rename_i r0 s0 h1 h2
  split at h
  ·unfold a0y at h;split at h<;>cases h
  ·obtain ⟨rfl,h4⟩:=af7 h
   have h3:=E5 h2
   exact ⟨h3.1,by simpa using h3.2.1,h4⟩
theorem b2i {m n:Nat} {D:Fd} (h:D3 m n D=none):y4 m n D=.best∨(∃ r,y4 m n D=.row r)∨∃s,y4 m n D=.col s:=by
 unfold D3 at h
 cases hs:y4 m n D with
 |best=>exact .inl rfl
 |row r=>exact .inr (.inl ⟨r,rfl⟩)
 |col s=>exact .inr (.inr ⟨s,rfl⟩)
 |next r s=>rw [hs] at h;cases h
end
section
def zOf (n:Nat) (y:Nat->Rat):List Rat:=(List.range n).map y
theorem Q0 {n:Nat} {y:Nat->Rat}:(zOf n y).length=n:=by simp [zOf]
theorem a62 {n:Nat} {y:Nat->Rat} {j:Nat} (h:j<n):(zOf n y).getD j 0=y j:=by simp [zOf,List.getD_eq_getElem?_getD,h]
theorem a4w {n:Nat} {y:Nat->Rat} {v:Rat} (h:v ∈ zOf n y):∃j,j<n∧v=y j:=by
 obtain ⟨j,hj,rfl⟩:=List.mem_map.1 h
 exact ⟨j,List.mem_range.1 hj,rfl⟩
theorem ax4 {n:Nat} {l:List (Int × Rat)} (h:f8 (-1) (n:Int) l=true) (y:Nat->Rat):k7 l (zOf n y)=f9 (fun j=>v7 l j*y j) n:=by
 rw [K3 h];exact f6 fun j hj=>by rw [a62 hj]
theorem a0h {s:f7} (hr:i8 s=true):((s.n.toNat:Nat):Int)=s.n:=by
 unfold i8 at hr
 simp only [Bool.and_eq_true,decide_eq_true_eq] at hr
 omega
theorem W4 {s:f7} (hr:i8 s=true) {i:Nat} {w:B1} (hw:s.rows[i]? =some w):f8 (-1) ((s.n.toNat:Nat):Int) w.terms=true∧0<=w.kind∧w.kind<3:=by
 rw [a0h hr]
 unfold i8 at hr
 simp only [Bool.and_eq_true,List.all_eq_true] at hr
 have:=hr.2 w (List.mem_of_getElem? hw)
 unfold t9 at this
 simp only [Bool.and_eq_true,decide_eq_true_eq] at this
 exact ⟨this.1.1,this.1.2,this.2⟩
theorem b4S {s:f7} {g:List (Int × Rat)} (hr:i8 s=true) {y:Nat->Rat} {c:Rat} (hy:Ids (e8 s).length s.n.toNat (g4 s g) y c) {i k:Nat} {b:Bool} {w:B1}
 (hf:(e8 s)[i]? =some (k,b)) (hw:s.rows[k]? =some w):y (s.n.toNat+i)=Q8 b (c*w.value - k7 w.terms (zOf s.n.toNat y)):=by
 have hi:i<(e8 s).length:=(List.getElem?_eq_some_iff.1 hf).1
 have h1:y (s.n.toNat+i)=c*(g4 s g).V i - f9 (fun j=>(g4 s g).A i j*y j) s.n.toNat:=hy i hi
 have hd:(e8 s).getD i (0,false)=(k,b):=by rw [List.getD_eq_getElem?_getD,hf];rfl
 have hV:(g4 s g).V i=Q8 b w.value:=by show a3g s ((e8 s).getD i (0,false))=_;rw [hd];unfold a3g;simp only [hw]
 have hA:∀j,(g4 s g).A i j=Q8 b (v7 w.terms j):=fun j=>by show a1x s ((e8 s).getD i (0,false)) j=_;rw [hd];unfold a1x;simp only [hw]
 rw [h1,hV,ax4 (W4 hr hw).1]
 cases b with
 |false=>rw [f6 (g:=fun j=>v7 w.terms j*y j) fun j hj=>by rw [hA j];rfl];rfl
 |true=>
  rw [f6 (g:=fun j=>(-1:Rat)*(v7 w.terms j*y j)) fun j hj=>by rw [hA j];show -(v7 w.terms j)*_=_;grind,z9]
  show c*-w.value - _=-(c*w.value - _)
  grind
noncomputable def v8 (s:f7) (g:List (Int × Rat)):Fd:=a9L (e8 s).length s.n.toNat (g4 s g)
noncomputable def a0o (s:f7) (g:List (Int × Rat)):b22:=y4 (e8 s).length s.n.toNat (v8 s g)
theorem a1W {s:f7} {g:List (Int × Rat)}:a5m (e8 s).length s.n.toNat (g4 s g) (fun j=>-(v7 g j)) (g4 s g):=⟨aI8,fun _ _=>Iff.rfl,0,aJ2⟩
theorem P4 {s:f7} {g:List (Int × Rat)}:a5m (e8 s).length s.n.toNat (g4 s g) (fun j=>-(v7 g j)) (v8 s g):=b5g a1W
theorem aj9 (s:f7) (g:List (Int × Rat)):a0o s g=.best∨(∃ r,a0o s g=.row r)∨∃c,a0o s g=.col c:=b2i (a45 a1W).2
noncomputable def x6 (s:f7) (g:List (Int × Rat)):List Rat:=zOf s.n.toNat (X7 (e8 s).length s.n.toNat (v8 s g) 1 (fun _=>0))
noncomputable def a4O (s:f7) (g:List (Int × Rat)) (c:Nat):List Rat:=zOf s.n.toNat (X7 (e8 s).length s.n.toNat (v8 s g) 0 (fun j=>if j=c then 1 else 0))
theorem aN8 {s:f7} {g:List (Int × Rat)} {y:Nat->Rat} (hy:Ids (e8 s).length s.n.toNat (g4 s g) y 1):∀w,w<s.n.toNat+(e8 s).length->a5A s g (zOf s.n.toNat y) w=y w:=by
 intro w hw
 unfold a5A
 split
 ·rename_i h;exact a62 h
 ·have h1:y (s.n.toNat+(w - s.n.toNat))=1*(g4 s g).V (w - s.n.toNat) - f9 (fun j=>(g4 s g).A (w - s.n.toNat) j*y j) s.n.toNat:=hy (w - s.n.toNat) (by omega)
  rw [show s.n.toNat+(w - s.n.toNat)=w by omega] at h1
  rw [h1,f6 (g:=fun j=>(g4 s g).A (w - s.n.toNat) j*y j) fun j hj=>by rw [a62 hj]]
  grind
theorem b0s {s:f7} {g:List (Int × Rat)} (hr:i8 s=true) {y:Nat->Rat} (hy:Ids (e8 s).length s.n.toNat (g4 s g) y 1) (hp:b1i (e8 s).length s.n.toNat y):j7 s (zOf s.n.toNat y)=true:=by
 refine (first_holds (g:=g) hr (by rw [Q0];exact a0h hr)).2 fun w hw=>?_
 rw [aN8 hy w hw];exact hp w hw
theorem P1 {s:f7} {z:List Rat} (h:j7 s z=true):i8 s=true∧(z.length:Int)=s.n:=by
 unfold j7 at h
 simp only [Bool.and_eq_true,decide_eq_true_eq] at h
 exact ⟨h.1.1.1,h.1.1.2⟩
theorem a8Q {s:f7} {g:List (Int × Rat)} (hg:f8 (-1) ((s.n.toNat:Nat):Int) g=true) (z:List Rat):f9 (fun j=>-(v7 g j)*a5A s g z j) s.n.toNat=-(k7 g z):=by
 rw [K3 hg z,f6 (g:=fun j=>(-1:Rat)*(v7 g j*z.getD j 0)) fun j hj=>by
  have:a5A s g z j=z.getD j 0:=by unfold a5A;rw [if_pos hj]
  rw [this];grind,z9]
 grind
theorem a1V {s:f7} {g:List (Int × Rat)} (hr:i8 s=true) (hg:f8 (-1) ((s.n.toNat:Nat):Int) g=true) (h:a0o s g=.best):
 j7 s (x6 s g)=true∧∀z,j7 s z=true->k7 g (x6 s g)<=k7 g z:=by
 obtain ⟨hv,hgj⟩:=af4 h
 have hi:=P4 (s:=s) (g:=g)
 obtain ⟨v,hv'⟩:=hi.g
 obtain ⟨⟨y,h1,h2,h3,h4⟩,h5⟩:=aG2 hi.p hv' hv hgj
 have h1':=(hi.i y 1).2 h1
 have e:x6 s g=zOf s.n.toNat y:=by unfold x6;rw [h4]
 rw [e]
 refine ⟨b0s hr h1' h2,fun z hz=>?_⟩
 have hx:=h5 (a5A s g z) ((hi.i _ 1).1 (aW2 z)) ((first_holds hr (P1 hz).2).1 hz)
 rw [a8Q hg z] at hx
 have h6:f9 (fun j=>-(v7 g j)*y j) s.n.toNat=-(k7 g (zOf s.n.toNat y)):=by
  rw [← a8Q hg]
  exact f6 fun j hj=>by rw [aN8 h1' j (by omega)]
 rw [h6] at h3
 grind
theorem b0m {s:f7} {g:List (Int × Rat)} {r:Nat} (h:a0o s g=.row r):∀z,j7 s z=false:=by
 intro z
 cases hz:j7 s z with
 |false=>rfl
 |true=>
  obtain ⟨hr1,hv,ha⟩:=b2l h
  have hi:=P4 (s:=s) (g:=g)
  exact absurd ((first_holds (P1 hz).1 (P1 hz).2).1 hz) (b4w hi.p hr1 hv ha (a5A s g z) ((hi.i _ 1).1 (aW2 z)))
structure b8R (s:f7) (d:List Rat):Prop where
 len:d.length=s.n.toNat
 pos:∀v ∈ d,0<=v
 up:∀(k:Nat) (w:B1),s.rows[k]? =some w->w.kind≠0->k7 w.terms d<=0
 down:∀(k:Nat) (w:B1),s.rows[k]? =some w->w.kind≠1->0<=k7 w.terms d
theorem au6 {s:f7} {g:List (Int × Rat)} {c:Nat} (hr:i8 s=true) (hg:f8 (-1) ((s.n.toNat:Nat):Int) g=true) (h:a0o s g=.col c):b8R s (a4O s g c)∧k7 g (a4O s g c)<0:=by
 obtain ⟨hc,hgc,ha⟩:=a6n h
 have hi:=P4 (s:=s) (g:=g)
 obtain ⟨v,hv⟩:=hi.g
 obtain ⟨y,h1,h2,h3,h4⟩:=b5c hi.p hv hc hgc ha
 have h1':=(hi.i y 0).2 h1
 have e:a4O s g c=zOf s.n.toNat y:=by unfold a4O;rw [h4]
 rw [e]
 have side:∀(k:Nat) (w:B1) (b:Bool),s.rows[k]? =some w->(b=false->w.kind≠0)->(b=true->w.kind≠1)->0<=Q8 b (-(k7 w.terms (zOf s.n.toNat y))):=by
  intro k w b hw hb1 hb2
  have hm:((k,b):Nat × Bool) ∈ e8 s:=T8.2 ⟨w,hw,hb1,hb2⟩
  obtain ⟨i,hil,hif⟩:=List.getElem_of_mem hm
  have hf:(e8 s)[i]? =some (k,b):=by rw [List.getElem?_eq_getElem hil,hif]
  have:=b4S hr h1' hf hw
  have hp:=h2 (s.n.toNat+i) (by omega)
  rw [this] at hp
  have e2:(0:Rat)*w.value - k7 w.terms (zOf s.n.toNat y)=-(k7 w.terms (zOf s.n.toNat y)):=by grind
  rw [e2] at hp;exact hp
 refine ⟨⟨Q0,fun v hv=>?_,fun k w hw hk=>?_,fun k w hw hk=>?_⟩,?_⟩
 ·obtain ⟨j,hj,rfl⟩:=a4w hv
  exact h2 j (by omega)
 ·have:0<=-(k7 w.terms (zOf s.n.toNat y)):=side k w false hw (fun _=>hk) (fun h=>by cases h)
  grind
 ·have:0<=-(-(k7 w.terms (zOf s.n.toNat y))):=side k w true hw (fun h=>by cases h) (fun _=>hk)
  grind
 ·rw [ax4 hg,f6 (g:=fun j=>(-1:Rat)*(-(v7 g j)*y j)) fun j hj=>by grind,z9]
  grind
def V4 (x d:List Rat):List Rat:=List.zipWith (·+·) x d
theorem a15 {x d:List Rat} {n:Nat} (hx:x.length=n) (hd:d.length=n):(V4 x d).length=n:=by simp [V4,hx,hd]
theorem a4G {x d:List Rat} {n j:Nat} (hx:x.length=n) (hd:d.length=n) (hj:j<n):(V4 x d).getD j 0=x.getD j 0+d.getD j 0:=by
 simp only [V4,List.getD_eq_getElem?_getD,List.getElem?_zipWith]
 rw [List.getElem?_eq_getElem (show j<x.length by omega),List.getElem?_eq_getElem (show j<d.length by omega)]
 rfl
theorem a2n {x d:List Rat} {n:Nat} {l:List (Int × Rat)} (hx:x.length=n) (hd:d.length=n) (h:f8 (-1) (n:Int) l=true):k7 l (V4 x d)=k7 l x+k7 l d:=by
 rw [K3 h,K3 h,K3 h,←a00]
 exact f6 fun j hj=>by rw [a4G hx hd hj];grind
theorem b26 {w:B1} {z:List Rat}:Q7 w z=true↔(w.kind≠1->w.value<=k7 w.terms z)∧(w.kind≠0->k7 w.terms z<=w.value):=by
 unfold Q7
 simp only [Bool.not_eq_true',Bool.or_eq_false_iff,Bool.and_eq_false_iff,decide_eq_false_iff_not,Rat.not_lt]
 constructor
 ·rintro ⟨h1,h2⟩
  exact ⟨fun h=>h1.elim id fun h'=>absurd h h',fun h=>h2.elim id fun h'=>absurd h h'⟩
 ·rintro ⟨h1,h2⟩
  refine ⟨?_,?_⟩
  ·by_cases h:w.kind≠1
   ·exact .inl (h1 h)
   ·exact .inr h
  ·by_cases h:w.kind≠0
   ·exact .inl (h2 h)
   ·exact .inr h
theorem Y7 {s:f7} {z:List Rat}:j7 s z=true↔i8 s=true∧(z.length:Int)=s.n∧(∀ v ∈ z,0<=v)∧∀w ∈ s.rows,(w.kind≠1->w.value<=k7 w.terms z)∧(w.kind≠0->k7 w.terms z<=w.value):=by
 unfold j7
 simp only [Bool.and_eq_true,decide_eq_true_eq,List.all_eq_true,b26]
 constructor
 ·rintro ⟨⟨⟨h1,h2⟩,h3⟩,h4⟩;exact ⟨h1,h2,h3,h4⟩
 ·rintro ⟨h1,h2,h3,h4⟩;exact ⟨⟨⟨h1,h2⟩,h3⟩,h4⟩
theorem b1x {s:f7} {x d:List Rat} (hx:j7 s x=true) (hd:b8R s d):j7 s (V4 x d)=true:=by
 obtain ⟨h1,h2,h3,h4⟩:=Y7.1 hx
 have hn:=a0h h1
 have hxl:x.length=s.n.toNat:=by omega
 refine Y7.2 ⟨h1,by rw [a15 hxl hd.len];exact hn,fun v hv=>?_,fun w hw=>?_⟩
 ·obtain ⟨j,hj,rfl⟩:=List.getElem_of_mem hv
  rw [a15 hxl hd.len] at hj
  have h5:0<=x[j]:=h3 _ (List.getElem_mem _)
  have h6:0<=d[j]'(by rw [hd.len];exact hj):=hd.pos _ (List.getElem_mem _)
  simp only [V4,List.getElem_zipWith]
  grind
 ·obtain ⟨k,hk,hkw⟩:=List.getElem_of_mem hw
  have hkw':s.rows[k]? =some w:=by rw [List.getElem?_eq_getElem hk,hkw]
  have h7:=a2n hxl hd.len (W4 h1 hkw').1
  obtain ⟨h8,h9⟩:=h4 w hw
  rw [h7]
  exact ⟨fun h=>by have:=h8 h;have:=hd.down k w hkw' h;grind,fun h=>by have:=h9 h;have:=hd.up k w hkw' h;grind⟩
theorem b4I {s:f7} (hr:i8 s=true) {c:Nat}:a0o s []≠.col c:=fun h=>by
 have:=(au6 hr rfl h).2
 have h2:k7 [] (a4O s [] c)=((0:Int):Rat):=rfl
 rw [h2] at this
 exact absurd this (by decide +kernel)
theorem av5 {s:f7} (hr:i8 s=true):a0o s []=.best↔∃z,j7 s z=true:=by
 constructor
 ·intro h;exact ⟨_,(a1V hr rfl h).1⟩
 ·rintro ⟨z,hz⟩
  rcases aj9 s [] with h|⟨r,h⟩|⟨c,h⟩
  ·exact h
  ·rw [b0m h z] at hz;cases hz
  ·exact absurd h (b4I hr)
end
section
theorem aB3 {f:Nat->Nat->Rat} (m:Nat):∀n:Nat,f9 (fun i=>f9 (f i) m) n=f9 (fun j=>f9 (fun i=>f i j) n) m
 |0=>by
  show f9 _ 0=_
  rw [s6 (f:=fun j=>f9 (fun i=>f i j) 0) (n:=m) fun j hj=>by simp only [f9,W0]]
  simp only [f9,W0]
 |n+1=>by
  simp only [f9]
  rw [aB3 m n,←a00]
theorem a3P {n a:Nat} (ha:a<n) (v:Rat) (c:Nat->Rat):f9 (fun i=>(if a=i then v else 0)*c i) n=v*c a:=by
 rw [x9 ha,s6 fun j hj=>by
  by_cases h:j=a
  ·rw [if_pos h]
  ·rw [if_neg h,if_neg (fun e=>h e.symm)];grind]
 rw [if_pos rfl];grind
def w6 (s:f7) (i:Nat):B1:=s.rows.getD i ⟨[],2,0⟩
theorem L3 {s:f7} {i:Nat} {w:B1} (h:s.rows[i]? =some w):w6 s i=w:=by unfold w6;rw [List.getD_eq_getElem?_getD,h];rfl
def z5 (s:f7) (k:Nat):Nat × Bool:=(e8 s).getD k (0,false)
def chg (s:f7) (w:Nat) (p:Rat) (i:Nat):Rat:=if s.n.toNat<=w∧(z5 s (w - s.n.toNat)).1=i then -(Q8 (z5 s (w - s.n.toNat)).2 p) else 0
def slV (s:f7) (w:Nat):Rat:=if s.n.toNat<=w then (g4 s []).V (w - s.n.toNat) else 0
def slA (s:f7) (l w:Nat):Rat:=if s.n.toNat<=w then (g4 s []).A (w - s.n.toNat) l else 0
theorem a4v {s:f7} {k:Nat} (hk:k<(e8 s).length):∃w,s.rows[(z5 s k).1]? =some w∧((z5 s k).2=false->w.kind≠0)∧((z5 s k).2=true->w.kind≠1):=by
 have:z5 s k ∈ e8 s:=by
  unfold z5
  rw [List.getD_eq_getElem?_getD,List.getElem?_eq_getElem hk]
  exact List.getElem_mem _
 exact T8.1 this
theorem ax9 {s:f7} {w:Nat} (hw:w<s.n.toNat+(e8 s).length) (p:Rat) (c:B1->Rat):
 f9 (fun i=>chg s w p i*c (w6 s i)) s.rows.length=if s.n.toNat<=w then -p*Q8 (z5 s (w - s.n.toNat)).2 (c (w6 s (z5 s (w - s.n.toNat)).1)) else 0:=by
 by_cases h:s.n.toNat<=w
 ·rw [if_pos h]
  obtain ⟨x,hx,_⟩:=a4v (s:=s) (k:=w - s.n.toNat) (by omega)
  have hl:=(List.getElem?_eq_some_iff.1 hx).1
  rw [f6 (g:=fun i=>(if (z5 s (w - s.n.toNat)).1=i then -(Q8 (z5 s (w - s.n.toNat)).2 p) else 0)*c (w6 s i)) fun i hi=>by
   unfold chg
   by_cases h2:(z5 s (w - s.n.toNat)).1=i
   ·rw [if_pos ⟨h,h2⟩,if_pos h2]
   ·rw [if_neg (fun e=>h2 e.2),if_neg h2]]
  rw [a3P hl]
  cases (z5 s (w - s.n.toNat)).2 with
  |false=>rfl
  |true=>show -(-p)*_=-p*-_;grind
 ·rw [if_neg h]
  exact s6 fun i hi=>by unfold chg;rw [if_neg (fun e=>h e.1)];grind
theorem b5V {s:f7} {w:Nat} (hw:w<s.n.toNat+(e8 s).length) (p:Rat):f9 (fun i=>chg s w p i*(w6 s i).value) s.rows.length=-p*slV s w:=by
 rw [ax9 hw p B1.value]
 unfold slV
 split
 ·rename_i h
  obtain ⟨x,hx,_⟩:=a4v (s:=s) (k:=w - s.n.toNat) (by omega)
  rw [L3 hx]
  have:(g4 s []).V (w - s.n.toNat)=Q8 (z5 s (w - s.n.toNat)).2 x.value:=by show a3g s (z5 s (w - s.n.toNat))=_;unfold a3g;simp only [hx]
  rw [this]
 ·grind
theorem b5U {s:f7} {w:Nat} (hw:w<s.n.toNat+(e8 s).length) (p:Rat) (l:Nat):f9 (fun i=>chg s w p i*v7 (w6 s i).terms l) s.rows.length=-p*slA s l w:=by
 rw [ax9 hw p (fun r=>v7 r.terms l)]
 unfold slA
 split
 ·rename_i h
  obtain ⟨x,hx,_⟩:=a4v (s:=s) (k:=w - s.n.toNat) (by omega)
  rw [L3 hx]
  have:(g4 s []).A (w - s.n.toNat) l=Q8 (z5 s (w - s.n.toNat)).2 (v7 x.terms l):=by show a1x s (z5 s (w - s.n.toNat)) l=_;unfold a1x;simp only [hx]
  rw [this]
 ·grind
def yv (s:f7) (c:Rat) (t:Nat->Rat) (w:Nat):Rat:=if w<s.n.toNat then t w else c*(g4 s []).V (w - s.n.toNat) - f9 (fun l=>(g4 s []).A (w - s.n.toNat) l*t l) s.n.toNat
theorem b4a {s:f7} {g:List (Int × Rat)} (c:Rat) (t:Nat->Rat):Ids (e8 s).length s.n.toNat (g4 s g) (yv s c t) c:=by
 intro i hi
 show yv s c t (s.n.toNat+i)=_
 unfold yv
 rw [if_neg (by omega),show s.n.toNat+i - s.n.toNat=i by omega]
 show c*(g4 s g).V i - _=c*(g4 s g).V i - _
 congr 1
 refine f6 fun j hj=>?_
 show _=(g4 s g).A i j*(if j<s.n.toNat then t j else _)
 rw [if_pos hj];rfl
theorem b3k {s:f7} (w:Nat):yv s 1 (fun _=>0) w=slV s w:=by
 unfold yv slV
 by_cases h:w<s.n.toNat
 ·rw [if_pos h,if_neg (by omega)]
 ·rw [if_neg h,if_pos (by omega),s6 fun l hl=>by grind];grind
theorem b7k {s:f7} {l:Nat} (hl:l<s.n.toNat) (w:Nat):yv s 0 (fun j=>if l=j then 1 else 0) w=(if l=w then 1 else 0) - slA s l w:=by
 unfold yv slA
 by_cases h:w<s.n.toNat
 ·rw [if_pos h,if_neg (show ¬s.n.toNat<=w by omega)];grind
 ·rw [if_neg h,if_pos (show s.n.toNat<=w by omega),if_neg (show ¬l=w by omega),f6 (g:=fun j=>(if l=j then (1:Rat) else 0)*(g4 s []).A (w - s.n.toNat) j) fun j hj=>by grind,a3P hl]
  grind
def O0 (s:f7) (y:Nat->Rat) (l:Nat):Rat:=f9 (fun i=>y i*v7 (w6 s i).terms l) s.rows.length
def a2j (s:f7) (y:Nat->Rat):Rat:=f9 (fun i=>y i*(w6 s i).value) s.rows.length
def aB7 (s:f7) (y:Nat->Rat):Prop:=∀(i:Nat) (w:B1),s.rows[i]? =some w->(w.kind=0->0<=y i)∧(w.kind=1->y i<=0)
theorem b3F {s:f7} {w:Nat} (hw:w<s.n.toNat+(e8 s).length) {p:Rat} (hp:0<=p):aB7 s (chg s w p):=by
 intro i x hx
 unfold chg
 by_cases h:s.n.toNat<=w∧(z5 s (w - s.n.toNat)).1=i
 ·rw [if_pos h]
  obtain ⟨x',hx',h1,h2⟩:=a4v (s:=s) (k:=w - s.n.toNat) (by omega)
  rw [h.2,hx] at hx'
  injection hx' with hx'
  subst hx'
  cases hb:(z5 s (w - s.n.toNat)).2 with
  |false=>exact ⟨fun e=>absurd e (h1 hb),fun _=>by show -p<=0;grind⟩
  |true=>exact ⟨fun _=>by show 0<=-(-p);grind,fun e=>absurd e (h2 hb)⟩
 ·rw [if_neg h];exact ⟨fun _=>by grind,fun _=>by grind⟩
theorem aD3 {s:f7} {f:Nat->Nat->Rat}:∀n:Nat,(∀ j,j<n->aB7 s (f j))->aB7 s (fun i=>f9 (fun j=>f j i) n)
 |0,_=>fun i w hw=>⟨fun _=>by simp only [f9,W0];grind,fun _=>by simp only [f9,W0];grind⟩
 |n+1,h=>fun i w hw=>by
  have h1:=aD3 n (fun j hj=>h j (by omega)) i w hw
  have h2:=h n (by omega) i w hw
  simp only [f9]
  exact ⟨fun e=>by have:=h1.1 e;have:=h2.1 e;grind,fun e=>by have:=h1.2 e;have:=h2.2 e;grind⟩
def N8 (s:f7) (E:Fd) (i:Nat):Rat:=f9 (fun j=>chg s (E.F j) (-(E.G j)) i) s.n.toNat
theorem a5K {s:f7} {f:Nat->Nat->Rat} {c:Nat->Rat} {n R:Nat}:f9 (fun i=>f9 (fun j=>f j i) n*c i) R=f9 (fun j=>f9 (fun i=>f j i*c i) R) n:=by
 rw [← aB3]
 refine f6 fun i hi=>?_
 rw [f6 (f:=fun j=>f j i*c i) (g:=fun j=>c i*f j i) fun j hj=>by grind,z9];grind
structure b5I (s:f7) (g:Nat->Rat) (y:Nat->Rat) (v:Rat):Prop where
 sign:aB7 s y
 mix:∀l,l<s.n.toNat->O0 s y l<=g l
 val:a2j s y=v
theorem b1J {s:f7} {g:List (Int × Rat)} (hr:i8 s=true) (hg:f8 (-1) ((s.n.toNat:Nat):Int) g=true) (h:a0o s g=.best):b5I s (v7 g) (N8 s (v8 s g)) (k7 g (x6 s g)):=by
 obtain ⟨hv,hgj⟩:=af4 h
 have hi:=P4 (s:=s) (g:=g)
 obtain ⟨z,hz⟩:=hi.g
 have hF:∀j,j<s.n.toNat->(v8 s g).F j<s.n.toNat+(e8 s).length:=fun j hj=>hi.p.fb j hj
 refine ⟨aD3 _ fun j hj=>b3F (hF j hj) (by have:=hgj j hj;grind),fun l hl=>?_,?_⟩
 ·have h1:=hz _ _ ((hi.i _ 0).1 (b4a (s:=s) (g:=g) 0 (fun j=>if l=j then 1 else 0)))
  rw [f6 (g:=fun j=>(if l=j then (1:Rat) else 0)*-(v7 g j)) fun j hj=>by unfold yv;rw [if_pos hj];grind,a3P hl] at h1
  unfold O0 N8
  rw [a5K (s:=s),f6 (g:=fun j=>(v8 s g).G j*slA s l ((v8 s g).F j)) fun j hj=>by rw [b5U (hF j hj)];grind]
  rw [f6 (g:=fun j=>(v8 s g).G j*(if l=(v8 s g).F j then 1 else 0)+(-1:Rat)*((v8 s g).G j*slA s l ((v8 s g).F j))) fun j hj=>by rw [b7k hl];grind,a00,z9] at h1
  have h2:f9 (fun j=>(v8 s g).G j*(if l=(v8 s g).F j then (1:Rat) else 0)) s.n.toNat<=0:=a5I fun j hj=>by
   have:=hgj j hj
   split<;>grind
  grind
 ·have h1:=hz _ _ ((hi.i _ 1).1 (b4a (s:=s) (g:=g) 1 (fun _=>0)))
  rw [s6 fun j hj=>by unfold yv;rw [if_pos hj];grind] at h1
  unfold a2j N8
  rw [a5K (s:=s),f6 (g:=fun j=>(v8 s g).G j*slV s ((v8 s g).F j)) fun j hj=>by rw [b5V (hF j hj)];grind]
  rw [f6 (g:=fun j=>(v8 s g).G j*slV s ((v8 s g).F j)) fun j hj=>by rw [b3k]] at h1
  obtain ⟨⟨y,k1,k2,k3,k4⟩,_⟩:=aG2 hi.p hz hv hgj
  have k1':=(hi.i y 1).2 k1
  have e:x6 s g=zOf s.n.toNat y:=by unfold x6;rw [k4]
  have h6:f9 (fun j=>-(v7 g j)*y j) s.n.toNat=-(k7 g (zOf s.n.toNat y)):=by
   rw [← a8Q hg]
   exact f6 fun j hj=>by rw [aN8 k1' j (by omega)]
  rw [e];rw [h6] at k3
  grind
theorem b0v {s:f7} {g:List (Int × Rat)} {c y:Nat->Rat} {v:Rat} (h:b5I s c y v) {z:List Rat} (hz:j7 s z=true):v<=f9 (fun l=>c l*z.getD l 0) s.n.toNat:=by
 obtain ⟨hr,hl,hp,hw⟩:=Y7.1 hz
 have hn:=a0h hr
 have h0:∀l,l<s.n.toNat->0<=z.getD l 0:=fun l hl'=>by
  rw [List.getD_eq_getElem?_getD,List.getElem?_eq_getElem (by omega)]
  exact hp _ (List.getElem_mem _)
 have h1:f9 (fun l=>O0 s y l*z.getD l 0) s.n.toNat<=f9 (fun l=>c l*z.getD l 0) s.n.toNat:=by
  have:=a29 (f:=fun l=>(c l - O0 s y l)*z.getD l 0) (n:=s.n.toNat) fun l hl'=>Rat.mul_nonneg (by have:=h.mix l hl';grind) (h0 l hl')
  rw [f6 (g:=fun l=>c l*z.getD l 0+(-1:Rat)*(O0 s y l*z.getD l 0)) fun l hl'=>by grind,a00,z9] at this
  grind
 have h2:f9 (fun l=>O0 s y l*z.getD l 0) s.n.toNat=f9 (fun i=>y i*k7 (w6 s i).terms z) s.rows.length:=by
  unfold O0
  rw [a5K (s:=s) (f:=fun i l=>y i*v7 (w6 s i).terms l)]
  refine f6 fun i hi=>?_
  have hx:s.rows[i]? =some (w6 s i):=by unfold w6;rw [List.getD_eq_getElem?_getD,List.getElem?_eq_getElem hi];rfl
  rw [K3 (W4 hr hx).1 z,←z9]
  exact f6 fun l hl=>by grind
 have h3:0<=f9 (fun i=>y i*(k7 (w6 s i).terms z - (w6 s i).value)) s.rows.length:=a29 fun i hi=>by
  have hx:s.rows[i]? =some (w6 s i):=by unfold w6;rw [List.getD_eq_getElem?_getD,List.getElem?_eq_getElem hi];rfl
  obtain ⟨_,k1,k2⟩:=W4 hr hx
  obtain ⟨s1,s2⟩:=h.sign i _ hx
  obtain ⟨b1,b2⟩:=hw _ (List.mem_of_getElem? hx)
  by_cases e0:(w6 s i).kind=0
  ·have:=b1 (by omega)
   exact Rat.mul_nonneg (s1 e0) (by grind)
  ·by_cases e1:(w6 s i).kind=1
   ·have:=b2 e0
    have:=Rat.mul_nonneg (show 0<=-(y i) by have:=s2 e1;grind) (show 0<=-(k7 (w6 s i).terms z - (w6 s i).value) by grind)
    grind
   ·have a1:=b1 e1
    have a2:=b2 e0
    have:k7 (w6 s i).terms z - (w6 s i).value=0:=by grind
    rw [this];grind
 rw [f6 (g:=fun i=>y i*k7 (w6 s i).terms z+(-1:Rat)*(y i*(w6 s i).value)) fun i hi=>by grind,a00,z9] at h3
 have h4:=h.val
 unfold a2j at h4
 grind
end
section
set_option maxRecDepth 100000
def p5 (e:Ev):Nat->List Nat
 |0=>[]
 |k+1=>match e.moves[k]? with
  |some m=>if m9 e m.src=0 then p5 e k++[k] else p5 e k
  |none=>p5 e k
def i5 (e:Ev):List Nat:=p5 e e.moves.length
def a6R (e:Ev) (i:Nat):Prop:=∃m,e.moves[i]? =some m∧m9 e m.src=0
theorem a3V {e:Ev} {i:Nat}:∀{k:Nat},i ∈ p5 e k↔i<k∧a6R e i
 |0=>by simp [p5]
 |k+1=>by
  have ih:=a3V (e:=e) (i:=i) (k:=k)
  unfold p5
  cases hm:e.moves[k]? with
  |none=>
   simp only
   rw [ih]
   constructor
   ·rintro ⟨h1,h2⟩;exact ⟨by omega,h2⟩
   ·rintro ⟨h1,h2⟩
    refine ⟨?_,h2⟩
    obtain ⟨m,h3,_⟩:=h2
    by_cases h:i=k
    ·subst h;rw [hm] at h3;cases h3
    ·omega
  |some m=>
   simp only
   by_cases hk:m9 e m.src=0
   ·rw [if_pos hk,List.mem_append,ih,List.mem_singleton]
    constructor
    ·rintro (⟨h1,h2⟩|h)
     ·exact ⟨by omega,h2⟩
     ·subst h;exact ⟨by omega,m,hm,hk⟩
    ·rintro ⟨h1,h2⟩
     by_cases h:i=k
     ·exact .inr h
     ·exact .inl ⟨by omega,h2⟩
   ·rw [if_neg hk,ih]
    constructor
    ·rintro ⟨h1,h2⟩;exact ⟨by omega,h2⟩
    ·rintro ⟨h1,h2⟩
     refine ⟨?_,h2⟩
     obtain ⟨m',h3,h4⟩:=h2
     by_cases h:i=k
     ·subst h;rw [hm] at h3;injection h3 with h3;subst h3;exact absurd h4 hk
     ·omega
theorem L6 {e:Ev} {i:Nat}:i ∈ i5 e↔a6R e i:=by
 unfold i5
 rw [a3V]
 constructor
 ·exact fun h=>h.2
 ·intro h
  have h':=h
  obtain ⟨m,h1,_⟩:=h'
  exact ⟨(List.getElem?_eq_some_iff.1 h1).1,h⟩
theorem x7 {e:Ev}:∀k,(p5 e k).length<=k
 |0=>by simp [p5]
 |k+1=>by
  have ih:=x7 (e:=e) k
  unfold p5
  split
  ·split
   ·simp;omega
   ·omega
  ·omega
def J3 (l:List Nat) (i:Nat):List B1:=(l.filter fun j=>decide (j≠i)).map fun j=>n6 j 2 ((0:Int):Rat)
def p9 (t:e7) (kind:Int) (i:Nat):f7:=⟨t.ev.moves.length,(N6 (t8 t) kind).rows++J3 (i5 t.ev) i⟩
theorem a1s (l:List Nat) (i:Nat):(J3 l i).length<=l.length:=by unfold J3;rw [List.length_map];exact List.length_filter_le _ _
structure aa0 (t:e7) (kind:Int) (i:Nat) (z:List Rat):Prop where
 p:aS5 (t8 t) kind z
 o:∀j,a6R t.ev j->j≠i->z.getD j 0=0
theorem a7T {t:e7} {kind:Int} {i:Nat} (hm:t.ev.moves.length<=14) (hc:t.cleans.length<=50):i8 (p9 t kind i)=true:=by
 have h:=a7p (t:=t8 t) (kind:=kind) hm (by simp [t8]) hc
 unfold i8 at h ⊢
 simp only [Bool.and_eq_true,decide_eq_true_eq] at h ⊢
 obtain ⟨⟨⟨h1,h2⟩,h3⟩,h4⟩:=h
 have hl:=O7 (t:=t8 t) (kind:=kind) t.ev.moves.length
 have hl2:t.ev.moves.length*(2+(t8 t).finds.length+(t8 t).cleans.length)<=14*52:=Nat.mul_le_mul hm (by show 2+0+t.cleans.length<=52;omega)
 have hl3:=a1s (i5 t.ev) i
 have hl4:=x7 (e:=t.ev) t.ev.moves.length
 refine ⟨⟨⟨h1,h2⟩,?_⟩,?_⟩
 ·show ((n8 (t8 t) kind t.ev.moves.length++J3 (i5 t.ev) i).length)<=6000
  rw [List.length_append]
  have:(i5 t.ev).length<=t.ev.moves.length:=hl4
  omega
 ·show ((N6 (t8 t) kind).rows++J3 (i5 t.ev) i).all (t9 (t.ev.moves.length:Nat))=true
  rw [List.all_append]
  have h5:(N6 (t8 t) kind).rows.all (t9 (t.ev.moves.length:Nat))=true:=h4
  rw [h5,Bool.true_and,List.all_eq_true]
  intro w hw
  obtain ⟨j,hj,rfl⟩:=List.mem_map.1 hw
  have hj:=(a3V.1 (List.mem_filter.1 hj).1).1
  unfold t9 n6
  simp only [Bool.and_eq_true,decide_eq_true_eq]
  exact ⟨⟨a5z (by omega) (by omega) a5g,by decide⟩,by decide⟩
theorem alone_holds {t:e7} {kind:Int} {i:Nat} {z:List Rat} (ht:o9 t=0) (k0:0<=kind) (k1:kind<8) (hm:t.ev.moves.length<=14):j7 (p9 t kind i) z=true↔aa0 t kind i z:=by
 have hc:=(p8 ht).2.2.1
 have hb:=sys_holds (t:=t8 t) (kind:=kind) (z:=z) (a1Y ht) k0 k1 hm
 have hr1:=a7T (t:=t) (kind:=kind) (i:=i) hm hc
 have hr2:=a7p (t:=t8 t) (kind:=kind) hm (by simp [t8]) hc
 have e:j7 (p9 t kind i) z=(j7 (N6 (t8 t) kind) z && (J3 (i5 t.ev) i).all fun w=>Q7 w z):=by
  unfold j7
  rw [hr1,hr2]
  show (true && decide ((z.length:Int)=(t.ev.moves.length:Nat)) && _ && ((N6 (t8 t) kind).rows++J3 (i5 t.ev) i).all _)=_
  rw [List.all_append]
  simp only [Bool.true_and,Bool.and_assoc]
  rfl
 rw [e,Bool.and_eq_true,hb]
 constructor
 ·rintro ⟨h1,h2⟩
  refine ⟨h1,fun j hj hji=>?_⟩
  exact a4g.1 (List.all_eq_true.1 h2 (n6 j 2 ((0:Int):Rat)) (List.mem_map.2 ⟨j,List.mem_filter.2 ⟨L6.2 hj,decide_eq_true hji⟩,rfl⟩))
 ·rintro ⟨h1,h2⟩
  refine ⟨h1,List.all_eq_true.2 fun w hw=>?_⟩
  obtain ⟨j,hj,rfl⟩:=List.mem_map.1 hw
  have hj:=List.mem_filter.1 hj
  exact a4g.2 (h2 j (L6.1 hj.1) (of_decide_eq_true hj.2))
theorem a9u (n i:Nat):(List.replicate n (0:Rat)).getD i 0=0:=by
 rw [List.getD_eq_getElem?_getD]
 by_cases h:i<n
 ·simp [h]
 ·rw [List.getElem?_eq_none (by simp;omega)];rfl
theorem b1a {e:Ev} {z:List Rat} (hz:∀i,z.getD i 0=0) (k p:Nat):t7 e z k p=0:=by
 have h:=b2y (e:=e) (w:=z) (z:=z) (y:=z) (a:=0) (b:=0) (fun i _=>by rw [hz i];grind) k p
 rw [h];grind
end
section
open Go.RowKit
inductive SK where
 |any|full|nil|nul|non
inductive T where
 |atm (v:Value)
 |sl (size:Nat) (k:SK) (rows:List (List T))
 |ptr (cells:List T)
 |fn (f:Fn) (caps:List T)
inductive C where
 |t (x:T)
 |ptr (id row off:Nat)
 |own (id lo len:Nat) (app:Bool)
 |fn (f:Fn) (caps:List C)
inductive S where
 |junk
 |c (x:C)
 |agg (cs:List C)
 |tup (ss:List S)
abbrev J:S:=.junk
inductive BM where
 |live|froz|old|dead
def BM.gone:BM->Prop
 |.dead=>True
 |.old=>True
 |_=>False
structure Blk where
 mode:BM
 elem:TypeId
 size:Nat
 rows:List (List C)
 box:Bool
 app:Bool:=false
inductive Loc where
 |nil
 |blk (b cap size:Nat)
abbrev Hp:=List Blk
abbrev Io:=Nat->Option Loc
abbrev Ms:=Nat->Prop
def at2 {α:Type} (rows:List (List α)) (i j:Nat):Option α:=(rows[i]?).bind (·[j]?)
inductive RT (w:World) (M:Ms):T->Value->Prop
 |atm {v:Value} (h:v.oneCell'=true):RT w M (.atm v) v
 |sl {size:Nat} {k:SK} {rows:List (List T)} {b off cap:Nat} {A:Option Addr} (f:Nat->Nat->Value)
   (hrow:∀r ∈ rows,r.length=size) (hcap:rows.length<=cap) (hmax:cap<=maxLen) (hk:k=.full->cap=rows.length)
   (hn:k=.nil->rows=[]∧A=none∧cap=0) (hA:rows≠[]->A=some ⟨b,off,none⟩)
   (hc:∀i j c,at2 rows i j=some c->w.cell? ⟨b,off+(i*size+j),none⟩=some (f i j)∧¬M b)
   (hr:∀i j c,at2 rows i j=some c->RT w M c (f i j)) (hx:(k=.nul->rows=[]∧A=none)∧(k=.non->A≠none):=by exact ⟨(fun h=>nomatch h),(fun h=>nomatch h)⟩):RT w M (.sl size k rows) (.slice A rows.length cap)
 |ptr {cells:List T} {b off:Nat} (f:Nat->Value)
   (hc:∀j c,cells[j]? =some c->w.cell? ⟨b,off+j,none⟩=some (f j)∧¬M b)
   (hr:∀j c,cells[j]? =some c->RT w M c (f j)):RT w M (.ptr cells) (.pointer (some ⟨b,off,none⟩))
 |fn {f:Fn} {caps:List T} (vs:List Value) (hl:vs.length=caps.length)
   (hr:∀j c,caps[j]? =some c->RT w M c (vs.getD j undef)):RT w M (.fn f caps) (.func f #[] vs.toArray)
inductive RC (w:World) (ι:Io) (M:Ms):C->Value->Prop
 |t {x:T} {v:Value} (h:RT w M x v):RC w ι M (.t x) v
 |ptr {id r o b cap size:Nat} (h:ι id=some (.blk b cap size)):RC w ι M (.ptr id r o) (.pointer (some ⟨b,r*size+o,none⟩))
 |own {id lo len:Nat} {app:Bool} {b cap size:Nat} {A:Option Addr} {cap':Nat} (h:ι id=some (.blk b cap size)) (h1:lo+len<=cap)
   (h2:0<len->A=some ⟨b,lo*size,none⟩) (h3:len<=cap') (h4:cap'<=maxLen)
   (h5:app=true->lo=0∧A=some ⟨b,0,none⟩∧cap'=cap):RC w ι M (.own id lo len app) (.slice A len cap')
 |nil {id:Nat} {app:Bool} {A:Option Addr} (h:ι id=some .nil):RC w ι M (.own id 0 0 app) (.slice A 0 0)
 |fn {f:Fn} {caps:List C} (vs:List Value) (hl:vs.length=caps.length)
   (hr:∀j c,caps[j]? =some c->RC w ι M c (vs.getD j undef)):RC w ι M (.fn f caps) (.func f #[] vs.toArray)
inductive RS (w:World) (ι:Io) (M:Ms):S->Value->Prop
 |junk {v:Value}:RS w ι M .junk v
 |c {x:C} {v:Value} (h:RC w ι M x v):RS w ι M (.c x) v
 |agg {cs:List C} (vs:List Value) (hl:vs.length=cs.length)
   (hr:∀j c,cs[j]? =some c->RC w ι M c (vs.getD j undef)):RS w ι M (.agg cs) (.agg vs.toArray)
 |tup {ss:List S} (vs:List Value) (hl:vs.length=ss.length)
   (hr:∀j s,ss[j]? =some s->RS w ι M s (vs.getD j undef)):RS w ι M (.tup ss) (.tuple vs.toArray)
theorem RT.one {w:World} {M:Ms} {x:T} {v:Value} (h:RT w M x v):v.oneCell'=true:=by
 cases h<;>first|assumption|rfl
theorem RC.one {w:World} {ι:Io} {M:Ms} {x:C} {v:Value} (h:RC w ι M x v):v.oneCell'=true:=by
 cases h<;>first|exact RT.one ‹_›|rfl
def I8 (w:World) (ι:Io) (M:Ms) (k:Blk):Loc->Prop
 |.nil=>k.rows=[]
 |.blk b cap size=>k.size=size∧0<size∧k.rows.length<=cap∧cap<=maxLen∧(∀ r ∈ k.rows,r.length=size)∧
   ∃cur:Array Value,w.heap[b]? =some (.cells cur k.elem (0,0))∧cur.size=cap*size∧
    ∀i j c,at2 k.rows i j=some c->∃u,cur[i*size+j]? =some u∧RC w ι M c u
structure k9 (w:World) (ι:Io) (M:Ms) (H:Hp):Prop where
 blk:∀(id:Nat) (k:Blk),H[id]? =some k->k.mode≠.dead->∀l,ι id=some l->I8 w ι M k l
 liv:∀(id:Nat) (k:Blk),H[id]? =some k->k.mode=.live->∀b cap size,ι id=some (.blk b cap size)->M b
 fro:∀(id:Nat) (k:Blk),H[id]? =some k->k.mode=.froz->∀b cap size,ι id=some (.blk b cap size)->¬M b
 inj:∀(id id':Nat) (k k':Blk),H[id]? =some k->H[id']? =some k'->k.mode=.live->k'.mode=.live->
  ∀b cap size cap' size',ι id=some (.blk b cap size)->ι id'=some (.blk b cap' size')->id=id'
 old:∀(id id':Nat) (k k':Blk),H[id]? =some k->H[id']? =some k'->k.mode=.old->k'.mode=.live->
  ∀b cap size cap' size',ι id=some (.blk b cap size)->ι id'=some (.blk b cap' size')->k'.app=true∧size=size'∧k.rows.length<=k'.rows.length
def a38 (ι:Io) (H:Hp) (b:Nat):Prop:=∃id k cap size,H[id]? =some k∧k.mode=.live∧ι id=some (.blk b cap size)
def MB (w:World) (M:Ms):Prop:=∀b,M b->b<w.heap.size
def a1u (ι:Io) (n:Nat):Prop:=∀id,n<=id->ι id=none
structure a3q (w:World) (ι:Io) (M:Ms) (H:Hp) (w':World) (ι':Io) (M':Ms) (H':Hp):Prop where
 os:w'.os=w.os
 tape:w'.tape=w.tape
 output:w'.output=w.output
 size:w.heap.size<=w'.heap.size
 keep:∀b,b<w.heap.size->¬a38 ι H b->w'.heap[b]? =w.heap[b]?
 same:∀id,id<H.length->ι' id=ι id
 mnew:∀b,M' b->M b∨w.heap.size<=b
 mold:∀b,M b->M' b∨a38 ι H b
 live:∀b,a38 ι' H' b->a38 ι H b∨w.heap.size<=b
 len:H.length<=H'.length
theorem C1 {w:World} {b:Nat} {o:Obj} (h:w.heap[b]? =some o):b<w.heap.size:=(Array.getElem?_eq_some_iff.1 h).1
theorem aU7 {w:World} {a:Addr} {u:Value} (h:w.cell? a=some u):a.block<w.heap.size:=World.block_lt_of_cell? w a h
theorem RT.keep {w w':World} {M M':Ms} (hk:∀b,b<w.heap.size->¬M b->w'.heap[b]? =w.heap[b]?) (hm:∀b,M' b->M b∨w.heap.size<=b)
 {x:T} {v:Value} (h:RT w M x v):RT w' M' x v:=by
 induction h with
 |atm h=>exact .atm h
 |sl f hrow hcap hmax hk1 hn hA hc hr hx ih=>
  refine .sl f hrow hcap hmax hk1 hn hA (fun i j c hc'=>?_) ih hx
  obtain ⟨h1,h2⟩:=hc i j c hc'
  have hlt:=aU7 h1
  refine ⟨(World.cell?_of_block (hk _ hlt h2)).trans h1,fun hM=>?_⟩
  rcases hm _ hM with h3|h3
  ·exact h2 h3
  ·exact absurd h3 (by simpa using hlt)
 |ptr f hc hr ih=>
  refine .ptr f (fun j c hc'=>?_) ih
  obtain ⟨h1,h2⟩:=hc j c hc'
  have hlt:=aU7 h1
  refine ⟨(World.cell?_of_block (hk _ hlt h2)).trans h1,fun hM=>?_⟩
  rcases hm _ hM with h3|h3
  ·exact h2 h3
  ·exact absurd h3 (by simpa using hlt)
 |fn vs hl hr ih=>exact .fn vs hl ih
theorem RC.keep {w w':World} {ι ι':Io} {M M':Ms} (hk:∀b,b<w.heap.size->¬M b->w'.heap[b]? =w.heap[b]?) (hm:∀b,M' b->M b∨w.heap.size<=b)
 (hi:∀id l,ι id=some l->ι' id=some l) {x:C} {v:Value} (h:RC w ι M x v):RC w' ι' M' x v:=by
 induction h with
 |t h=>exact .t (h.keep hk hm)
 |ptr h=>exact .ptr (hi _ _ h)
 |own h h1 h2 h3 h4 h5=>exact .own (hi _ _ h) h1 h2 h3 h4 h5
 |nil h=>exact .nil (hi _ _ h)
 |fn vs hl hr ih=>exact .fn vs hl ih
theorem RS.keep {w w':World} {ι ι':Io} {M M':Ms} (hk:∀b,b<w.heap.size->¬M b->w'.heap[b]? =w.heap[b]?) (hm:∀b,M' b->M b∨w.heap.size<=b)
 (hi:∀id l,ι id=some l->ι' id=some l) {x:S} {v:Value} (h:RS w ι M x v):RS w' ι' M' x v:=by
 induction h with
 |junk=>exact .junk
 |c h=>exact .c (h.keep hk hm hi)
 |agg vs hl hr=>exact .agg vs hl fun j c hc=>(hr j c hc).keep hk hm hi
 |tup vs hl hr ih=>exact .tup vs hl ih
theorem a38.inM {w:World} {ι:Io} {M:Ms} {H:Hp} (h:k9 w ι M H) {b:Nat} (hl:a38 ι H b):M b:=by
 obtain ⟨id,k,cap,size,h1,h2,h3⟩:=hl
 exact h.liv id k h1 h2 b cap size h3
theorem a3q.refl (w:World) (ι:Io) (M:Ms) (H:Hp):a3q w ι M H w ι M H:=
 ⟨rfl,rfl,rfl,Nat.le_refl _,fun _ _ _=>rfl,fun _ _=>rfl,fun _ h=>.inl h,fun _ h=>.inl h,fun _ h=>.inl h,Nat.le_refl _⟩
theorem a3q.trans {w w1 w2:World} {ι ι1 ι2:Io} {M M1 M2:Ms} {H H1 H2:Hp} (hb:MB w M) (a:a3q w ι M H w1 ι1 M1 H1) (c:a3q w1 ι1 M1 H1 w2 ι2 M2 H2):
 a3q w ι M H w2 ι2 M2 H2 where
 os:=c.os.trans a.os
 tape:=c.tape.trans a.tape
 output:=c.output.trans a.output
 size:=Nat.le_trans a.size c.size
 keep:=fun k hk hl=>(c.keep k (Nat.lt_of_lt_of_le hk a.size) fun h=>by rcases a.live k h with h|h;exact hl h;omega).trans (a.keep k hk hl)
 same:=fun id hid=>(c.same id (Nat.lt_of_lt_of_le hid a.len)).trans (a.same id hid)
 mnew:=fun k h=>by
  rcases c.mnew k h with h|h
  ·exact a.mnew k h
  ·exact .inr (Nat.le_trans a.size h)
 mold:=fun k h=>by
  rcases a.mold k h with h1|h1
  ·rcases c.mold k h1 with h2|h2
   ·exact .inl h2
   ·rcases a.live k h2 with h3|h3
    ·exact .inr h3
    ·have:=hb k h;omega
  ·exact .inr h1
 live:=fun k h=>by
  rcases c.live k h with h|h
  ·exact a.live k h
  ·exact .inr (Nat.le_trans a.size h)
 len:=Nat.le_trans a.len c.len
structure Ext (w w':World):Prop where
 os:w'.os=w.os
 tape:w'.tape=w.tape
 output:w'.output=w.output
 size:w.heap.size<=w'.heap.size
 keep:∀b,b<w.heap.size->w'.heap[b]? =w.heap[b]?
theorem Ext.refl (w:World):Ext w w:=⟨rfl,rfl,rfl,Nat.le_refl _,fun _ _=>rfl⟩
def w7 (ι:Io) (n m:Nat) (new:Nat->Loc):Io:=fun id=>if n<=id∧id<n+m then some (new (id - n)) else ι id
def a3R (M:Ms) (m:Nat) (new:Nat->Loc):Ms:=fun b=>M b∨∃k,k<m∧∃cap size,new k=.blk b cap size
def F4 (w:World) (ι:Io) (M:Ms) (n:Nat) (s:S) (B:List Blk) (v:Value) (w':World):Prop:=
 ∃new:Nat->Loc,RS w' (w7 ι n B.length new) (a3R M B.length new) s v∧Ext w w'∧
  (∀ k blk,B[k]? =some blk->blk.mode=.live∧I8 w' (w7 ι n B.length new) (a3R M B.length new) blk (new k))∧
  (∀ k b cap size,k<B.length->new k=.blk b cap size->w.heap.size<=b∧b<w'.heap.size)∧
  (∀ k k' b cap size cap' size',k<B.length->k'<B.length->new k=.blk b cap size->new k'=.blk b cap' size'->k=k')
def C5 (w:World) (ι:Io) (M:Ms) (H:Hp) (s:S) (H':Hp) (v:Value) (w':World):Prop:=
 ∃(ι':Io) (M':Ms),RS w' ι' M' s v∧k9 w' ι' M' H'∧MB w' M'∧a1u ι' H'.length∧a3q w ι M H w' ι' M' H'
theorem a7l {ι:Io} {n m:Nat} {new:Nat->Loc} (hf:∀k,k<m->ι (n+k)=none) {id:Nat} {l:Loc} (h:ι id=some l):w7 ι n m new id=some l:=by
 unfold w7
 split
 ·rename_i hc
  have:=hf (id - n) (by omega)
  rw [show n+(id - n)=id by omega,h] at this
  cases this
 ·exact h
theorem F4.gpost {w:World} {ι:Io} {M:Ms} {H:Hp} {s:S} {B:List Blk} {v:Value} {w':World} (hH:k9 w ι M H) (hM:MB w M) (hF:a1u ι H.length)
 (h:F4 w ι M H.length s B v w'):C5 w ι M H s (H++B) v w':=by
 obtain ⟨new,h1,h2,h3,h4,h5⟩:=h
 have hnone:∀k,k<B.length->ι (H.length+k)=none:=fun k _=>hF _ (by omega)
 have hold:∀id,id<H.length->w7 ι H.length B.length new id=ι id:=fun id hid=>by
  unfold w7;rw [if_neg (by omega)]
 have hnew:∀k,k<B.length->w7 ι H.length B.length new (H.length+k)=some (new k):=fun k hk=>by
  unfold w7;rw [if_pos (by omega)];congr 2;omega
 have hdist:∀id b cap size,ι id=some (.blk b cap size)->∀k,H[id]? =some k->k.mode≠.dead->b<w.heap.size:=fun id b cap size hi k hk hd=>by
  have:=hH.blk id k hk hd _ hi
  obtain ⟨_,_,_,_,_,cur,hc,_⟩:=this
  exact C1 hc
 refine ⟨_,_,h1,⟨?_,?_,?_,?_,?_⟩,?_,?_,?_⟩
 ·intro id k hk hd l hl
  by_cases hid:id<H.length
  ·rw [List.getElem?_append_left hid] at hk
   rw [hold id hid] at hl
   have hb:=hH.blk id k hk hd l hl
   cases l with
   |nil=>exact hb
   |blk b cap size=>
    obtain ⟨q1,q2,q3,q4,q5,cur,q6,q7,q8⟩:=hb
    refine ⟨q1,q2,q3,q4,q5,cur,(h2.keep b (C1 q6)).trans q6,q7,fun i j c hc=>?_⟩
    obtain ⟨u,hu,hr⟩:=q8 i j c hc
    refine ⟨u,hu,hr.keep (fun b hb _=>h2.keep b hb) (fun b hb=>?_) (fun id l=>a7l hnone)⟩
    rcases hb with hb|⟨k,hk,cap,size,he⟩
    ·exact .inl hb
    ·exact .inr (h4 k b cap size hk he).1
  ·rw [List.getElem?_append_right (by omega)] at hk
   have hlt:=(List.getElem?_eq_some_iff.1 hk).1
   have e:w7 ι H.length B.length new id=some (new (id - H.length)):=by
    unfold w7;rw [if_pos (by omega)]
   rw [e] at hl
   injection hl with hl
   subst hl
   exact (h3 _ _ hk).2
 ·intro id k hk hl b cap size hi
  by_cases hid:id<H.length
  ·rw [List.getElem?_append_left hid] at hk
   rw [hold id hid] at hi
   exact .inl (hH.liv id k hk hl b cap size hi)
  ·rw [List.getElem?_append_right (by omega)] at hk
   have hlt:=(List.getElem?_eq_some_iff.1 hk).1
   have e:w7 ι H.length B.length new id=some (new (id - H.length)):=by
    unfold w7;rw [if_pos (by omega)]
   rw [e] at hi
   injection hi with hi
   exact .inr ⟨_,hlt,cap,size,hi⟩
 ·intro id k hk hl b cap size hi
  by_cases hid:id<H.length
  ·rw [List.getElem?_append_left hid] at hk
   rw [hold id hid] at hi
   have hb:=hdist _ _ _ _ hi k hk (by rw [hl];intro h;cases h)
   rintro (hM'|⟨k',hk',cap',size',he⟩)
   ·exact hH.fro id k hk hl b cap size hi hM'
   ·have:=(h4 _ _ _ _ hk' he).1
    omega
  ·rw [List.getElem?_append_right (by omega)] at hk
   have:=(h3 _ _ hk).1
   rw [hl] at this
   cases this
 ·intro id id' k k' hk hk' hl hl' b cap size cap' size' hi hi'
  by_cases hid:id<H.length<;>by_cases hid':id'<H.length
  ·rw [List.getElem?_append_left hid] at hk
   rw [List.getElem?_append_left hid'] at hk'
   rw [hold _ hid] at hi
   rw [hold _ hid'] at hi'
   exact hH.inj id id' k k' hk hk' hl hl' b cap size cap' size' hi hi'
  ·rw [List.getElem?_append_left hid] at hk
   rw [hold _ hid] at hi
   have:=hdist _ _ _ _ hi k hk (by rw [hl];intro h;cases h)
   rw [List.getElem?_append_right (by omega)] at hk'
   have hlt:=(List.getElem?_eq_some_iff.1 hk').1
   have e:w7 ι H.length B.length new id'=some (new (id' - H.length)):=by
    unfold w7;rw [if_pos (by omega)]
   rw [e] at hi'
   injection hi' with hi'
   have:=(h4 _ _ _ _ hlt hi').1
   omega
  ·rw [List.getElem?_append_left hid'] at hk'
   rw [hold _ hid'] at hi'
   have:=hdist _ _ _ _ hi' k' hk' (by rw [hl'];intro h;cases h)
   rw [List.getElem?_append_right (by omega)] at hk
   have hlt:=(List.getElem?_eq_some_iff.1 hk).1
   have e:w7 ι H.length B.length new id=some (new (id - H.length)):=by
    unfold w7;rw [if_pos (by omega)]
   rw [e] at hi
   injection hi with hi
   have:=(h4 _ _ _ _ hlt hi).1
   omega
  ·rw [List.getElem?_append_right (by omega)] at hk hk'
   have hlt:=(List.getElem?_eq_some_iff.1 hk).1
   have hlt':=(List.getElem?_eq_some_iff.1 hk').1
   have e:w7 ι H.length B.length new id=some (new (id - H.length)):=by
    unfold w7;rw [if_pos (by omega)]
   have e':w7 ι H.length B.length new id'=some (new (id' - H.length)):=by
    unfold w7;rw [if_pos (by omega)]
   rw [e] at hi
   rw [e'] at hi'
   injection hi with hi
   injection hi' with hi'
   have:=h5 _ _ _ _ _ _ _ hlt hlt' hi hi'
   omega
 ·intro id id' k k' hk hk' hl hl' b cap size cap' size' hi hi'
  by_cases hid:id<H.length
  ·rw [List.getElem?_append_left hid] at hk
   rw [hold _ hid] at hi
   by_cases hid':id'<H.length
   ·rw [List.getElem?_append_left hid'] at hk'
    rw [hold _ hid'] at hi'
    exact hH.old id id' k k' hk hk' hl hl' b cap size cap' size' hi hi'
   ·have:=hdist _ _ _ _ hi k hk (by rw [hl];intro h;cases h)
    rw [List.getElem?_append_right (by omega)] at hk'
    have hlt:=(List.getElem?_eq_some_iff.1 hk').1
    have e:w7 ι H.length B.length new id'=some (new (id' - H.length)):=by
     unfold w7;rw [if_pos (by omega)]
    rw [e] at hi'
    injection hi' with hi'
    have:=(h4 _ _ _ _ hlt hi').1
    omega
  ·rw [List.getElem?_append_right (by omega)] at hk
   have:=(h3 _ _ hk).1
   rw [hl] at this
   cases this
 ·intro b hb
  rcases hb with hb|⟨k,hk,cap,size,he⟩
  ·exact Nat.lt_of_lt_of_le (hM b hb) h2.size
  ·exact (h4 k b cap size hk he).2
 ·intro id hid
  rw [List.length_append] at hid
  unfold w7
  rw [if_neg (by omega)]
  exact hF id (by omega)
 ·refine ⟨h2.os,h2.tape,h2.output,h2.size,fun b hb _=>h2.keep b hb,fun id hid=>hold id hid,?_,fun b hb=>.inl (.inl hb),?_,by simp⟩
  ·intro b hb
   rcases hb with hb|⟨k,hk,cap,size,he⟩
   ·exact .inl hb
   ·exact .inr (h4 k b cap size hk he).1
  ·rintro b ⟨id,k,cap,size,hk,hl,hi⟩
   by_cases hid:id<H.length
   ·rw [List.getElem?_append_left hid] at hk
    rw [hold _ hid] at hi
    exact .inl ⟨id,k,cap,size,hk,hl,hi⟩
   ·rw [List.getElem?_append_right (by omega)] at hk
    have hlt:=(List.getElem?_eq_some_iff.1 hk).1
    have e:w7 ι H.length B.length new id=some (new (id - H.length)):=by
     unfold w7;rw [if_pos (by omega)]
    rw [e] at hi
    injection hi with hi
    exact .inr (h4 _ _ _ _ hlt hi).1
def aK3 (P : Program) (g : FuncId) : Prop := ∃ fn, P.funcs[g]? = some fn ∧ fn.body.isSome = true ∧ fn.name ≠ "runtime.NumGoroutine"
def U1 (P:Program) (g:FuncId) (args:List S) (H:Hp) (s:S) (B:List Blk):Prop:=
 aK3 P g∧∀(w:World) (ι:Io) (M:Ms) (vals:List Value),vals.length=args.length->(∀ j s,args[j]? =some s->RS w ι M s (vals.getD j undef))->k9 w ι M H->MB w M->
  (∀ k,k<B.length->ι (H.length+k)=none)->Calls P g vals.toArray w fun e w'=>∃v,e=.returned v∧F4 w ι M H.length s B v w'
def a9 (P:Program) (g:FuncId) (args:List S) (H:Hp) (s:S) (H':Hp):Prop:=
 aK3 P g∧∀(w:World) (ι:Io) (M:Ms) (vals:List Value),vals.length=args.length->(∀ j s,args[j]? =some s->RS w ι M s (vals.getD j undef))->k9 w ι M H->MB w M->
  a1u ι H.length->Calls P g vals.toArray w fun e w'=>∃v,e=.returned v∧C5 w ι M H s H' v w'
end
end Go.Proofs.YtdbogogfeffjlaaGreat
