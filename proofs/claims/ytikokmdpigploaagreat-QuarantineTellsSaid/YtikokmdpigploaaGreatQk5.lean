/- Part 5. -/
import Derived.Test.YtikokmdpigploaaGreatQk4
namespace Go.Proofs.YtikokmdpigploaaGreat
set_option linter.all false
section
def val:LI->Int
 |[]=>0
 |d::r=>d+1048576*val r
def Okd (l:LI):Prop:=∀d ∈ l,0<=d∧d<1048576
def dgF:Nat->Nat->LI
 |0,_=>[]
 |f+1,n=>if n=0 then [] else ((n % 1048576:Nat):Int)::dgF f (n / 1048576)
def dg (n:Nat):LI:=dgF n n
def pw (i:Nat):Int:=1048576 ^ i
def aI9:pw 0=1:=rfl
def J2 (i:Nat):pw (i+1)=pw i*1048576:=Int.pow_succ ..
def K6 (i:Nat):0<pw i:=Int.pow_pos de
def a5K (i j:Nat):pw (i+j)=pw i*pw j:=Int.pow_add ..
def a0W {i j:Nat} (h:i<=j):pw i<=pw j:=by
 obtain ⟨k,rfl⟩:=Nat.exists_eq_add_of_le h;rw [a5K];have h1:=K6 i;have h2:=K6 k;have:=lbX (a:=1) (b:=pw k) (c:=pw i) om om;omega
def Okd.nil:Okd []:=fun _ h=>nomatch h
def Okd.cons {d:Int} {l:LI} (h1:0<=d∧d<1048576) (h2:Okd l):Okd (d::l):=by
 intro x hx;rcases lbB.1 hx with rfl|hx
 ·exact h1
 ·exact h2 x hx
def Okd.head {d:Int} {l:LI} (h:Okd (d::l)):0<=d∧d<1048576:=h d zq
def Okd.tail {d:Int} {l:LI} (h:Okd (d::l)):Okd l:=fun x hx=>h x (by simp [hx])
def Okd.take {l:LI} (h:Okd l) (n:Nat):Okd (l.take n):=fun x hx=>h x (am9 hx)
def Okd.drop {l:LI} (h:Okd l) (n:Nat):Okd (l.drop n):=fun x hx=>h x (aW2 hx)
def Okd.append {a b:LI} (h:Okd a) (h2:Okd b):Okd (a++b):=fun x hx=>by
 rcases lbA.1 hx with hx|hx
 ·exact h x hx
 ·exact h2 x hx
def Okd.set {l:LI} (h:Okd l) {i:Nat} {x:Int} (hx:0<=x∧x<1048576):Okd (l.set i x):=fun y hy=>by
 rcases b1E hy with hy|rfl
 ·exact h y hy
 ·exact hx
def Okd.get {l:LI} (h:Okd l) {i:Nat} {x:Int} (hx:l[i]? =some x):0<=x∧x<1048576:=h x (lbm hx)
def Okd.zeros (n:Nat):Okd (List.replicate n 0):=fun x hx=>by rw [List.eq_of_mem_replicate hx];decide
def v7 {l:LI} (h:Okd l):0<=val l:=by
 induction l with
 |nil=>simp [val]
 |cons d l ih=>have:=ih h.tail;have:=h.head;simp only [val];omega
def W3 {l:LI} (h:Okd l):val l<pw l.length:=by
 induction l with
 |nil=>simp [val,pw]
 |cons d l ih=>
  have:=ih h.tail;have:=h.head;simp only [val,lbu,J2];omega
def L4 (a b:LI):val (a++b)=val a+pw a.length*val b:=by
 induction a with
 |nil=>simp [val,pw]
 |cons d a ih=>simp only [List.cons_append,val,ih,lbu,J2];grind
def a6J (n:Nat):val (List.replicate n 0)=0:=by
 induction n with
 |zero=>rfl
 |succ n ih=>simp [aN4,val,ih]
def a3K (l:LI) (i:Nat) (h:i<=l.length):val l=val (l.take i)+pw i*val (l.drop i):=by
 have:=L4 (l.take i) (l.drop i);rw [lb8] at this;rw [this];rw [lbs,a32 h]
def a7a {l:LI} {i:Nat} {x:Int} (h:l[i]? =some x):val (l.take (i+1))=val (l.take i)+pw i*x:=by
 have hi:i<l.length:=by
  rcases F8 i l.length with h1|h1
  ·exact h1
  ·rw [lbd h1] at h;cases h
 rw [lbH,h,L4,lbs,a32 om];simp [val]
def a3r {l:LI} {i:Nat} {x:Int} (h:l[i]? =some x):val (l.drop i)=x+1048576*val (l.drop (i+1)):=by
 have hi:i<l.length:=by
  rcases F8 i l.length with h1|h1
  ·exact h1
  ·rw [lbd h1] at h;cases h
 rw [a3y hi];rw [lbf hi] at h;injection h with h;rw [h];rfl
def b93 {l:LI} {i:Nat} {x y:Int} (h:l[i]? =some y):val (l.set i x)=val l+pw i*(x - y):=by
 induction l generalizing i with
 |nil=>simp at h
 |cons d l ih=>
  cases i with
  |zero=>
   simp only [List.getElem?_cons_zero,lb6] at h;subst h;simp [val,pw];omega
  |succ i=>
   simp only [List.getElem?_cons_succ] at h;simp only [List.set_cons_succ,val,ih h,J2];grind
def b6J (f n:Nat) (h:n<=f):dgF f n=dg n:=by
 unfold dg;induction f using Nat.strongRecOn generalizing n with
 |ind f ih=>
  cases f with
  |zero=>cases Nat.le_zero.1 h;rfl
  |succ f=>
   cases n with
   |zero=>rfl
   |succ n=>
    simp only [dgF,Nat.succ_ne_zero,if_false];rw [ih f om _ om,ih n om _ om]
def a0b:dg 0=[]:=rfl
def a7Y {n:Nat} (h:0<n):dg n=((n % 1048576:Nat):Int)::dg (n / 1048576):=by
 obtain ⟨m,rfl⟩:∃m,n=m+1:=⟨n - 1,om⟩;show dgF (m+1) (m+1)=_;simp only [dgF,Nat.succ_ne_zero,if_false];rw [b6J _ _ om]
def b1w {P:Nat->Prop} (h0:P 0) (h:∀n,0<n->P (n / 1048576)->P n) (n:Nat):P n:=by
 induction n using Nat.strongRecOn with
 |ind n ih=>
  rcases a5l n with rfl|hn
  ·exact h0
  ·exact h n hn (ih _ om)
def p9 (n:Nat):val (dg n)=n:=by
 induction n using b1w with
 |h0=>rfl
 |h n hn ih=>rw [a7Y hn,val,ih];omega
def v5 (n:Nat):Okd (dg n):=by
 induction n using b1w with
 |h0=>exact .nil
 |h n hn ih=>rw [a7Y hn];exact .cons om ih
def L1 {n:Nat}:dg n=[]↔n=0:=by
 constructor
 ·intro h;have:=p9 n;rw [h] at this;simp only [val] at this;omega
 ·rintro rfl;rfl
def K3:LI->LI
 |[]=>[]
 |d::r=>if K3 r=[]∧d=0 then [] else d::K3 r
def N7 {l:LI} (h:Okd l):K3 l=dg (val l).toNat:=by
 induction l with
 |nil=>rfl
 |cons d l ih=>
  have h0:=v7 h.tail;have h1:=h.head;have hv:(val (d::l)).toNat=d.toNat+1048576*(val l).toNat:=by simp only [val];omega
  rw [K3,ih h.tail,hv];split
  ·rename_i hc;have:=L1.1 hc.1;rw [this,hc.2];rfl
  ·rename_i hc;rw [a7Y (n:=d.toNat+1048576*(val l).toNat)]
   ·congr 1
    ·omega
    ·congr 1;omega
   ·rcases a5l (val l).toNat with h2|h2
    ·have:d≠0:=fun h3=>hc ⟨by rw [h2];rfl,h3⟩
     omega
    ·omega
def a4O {l:LI} {n:Nat} (h1:∀j x,n<=j->l[j]? =some x->x=0) (h2:∀x,0<n->l[n-1]? =some x->x≠0) (hn:n<=l.length):l.take n=K3 l:=by
 induction l generalizing n with
 |nil=>simp [K3]
 |cons d l ih=>
  cases n with
  |zero=>
   have ht:K3 l=[]:=by
    rw [← ih (n:=0) (fun j x _ hx=>h1 (j+1) x om (by simpa using hx)) (fun x h=>absurd h om) om];rfl
   have hd:d=0:=h1 0 d om zq;simp [K3,ht,hd]
  |succ n=>
   have ht:K3 l=l.take n:=by
    refine (ih (n:=n) (fun j x hj hx=>h1 (j+1) x om (by simpa using hx)) (fun x h hx=>h2 x om ?_) (by simpa using hn)).symm;obtain ⟨m,rfl⟩:∃m,n=m+1:=⟨n - 1,om⟩;simpa using hx
   rw [K3,ht,List.take_succ_cons,if_neg];rintro ⟨h3,h4⟩;have hn0:n=0:=by
    rcases a5l n with h5|h5
    ·exact h5
    ·have:=congrArg List.length h3;simp only [lbs,a5n,lbu] at this hn;omega
   subst hn0;exact h2 d om zq h4
def N2 {n k:Nat} (h:(n:Int)<pw k):(dg n).length<=k:=by
 induction k generalizing n with
 |zero=>have:n=0:=by simp [pw] at h;omega
        subst this;simp [a0b]
 |succ k ih=>
  rcases a5l n with rfl|hn
  ·simp [a0b]
  ·rw [a7Y hn];rw [J2] at h;have:=ih (n:=n / 1048576) om;simp;omega
def ai6 {n:Nat} (h:0<n):pw ((dg n).length - 1)<=n:=by
 induction n using b1w with
 |h0=>omega
 |h n hn ih=>
  rw [a7Y hn];rcases a5l (n / 1048576) with h1|h1
  ·rw [h1,a0b];simp [pw];omega
  ·have h2:=ih h1;have:(dg (n / 1048576)).length≠0:=by rw [Ne,a0I,L1];omega
   obtain ⟨m,hm⟩:∃m,(dg (n / 1048576)).length=m+1:=⟨(dg (n / 1048576)).length - 1,om⟩;rw [hm] at h2;rw [lbu,hm];simp only [aM8] at h2 ⊢;rw [J2];omega
def Q4 (n:Nat):(n:Int)<pw (dg n).length:=by
 have:=W3 (v5 n);rw [p9] at this;exact this
def p7 {m n:Nat} (h:m<=n):(dg m).length<=(dg n).length:=N2 (by have:=Q4 n;omega)
def aI4 {m n:Nat} (h:(dg m).length<(dg n).length):m<n:=by
 rcases F8 m n with h1|h1
 ·exact h1
 ·have:=p7 h1;omega
def Can (l:LI):Prop:=Okd l∧∀x,l[l.length - 1]? =some x->x≠0
def b2G {l:LI} (h:Can l):l=dg (val l).toNat:=by
 rw [← N7 h.1];have:=a4O (l:=l) (n:=l.length) (fun j x hj hx=>by rw [lbd hj] at hx;cases hx) (fun x _ hx=>h.2 x hx) (lbS _);rw [a7V] at this;exact this
def U5 (n:Nat):Can (dg n):=by
 refine ⟨v5 n,fun x hx h0=>?_⟩;subst h0;have hl:0<(dg n).length:=by
  rcases a5l (dg n).length with h|h
  ·rw [a0I.1 h] at hx;simp at hx
  ·exact h
 have hp:0<n:=by
  rcases a5l n with rfl|h
  ·simp [a0b] at hl
  ·exact h
 have h1:=ai6 hp;have h2:=a7a hx;rw [show (dg n).length - 1+1=(dg n).length by omega,a7V,p9] at h2;have h3:=W3 ((v5 n).take ((dg n).length - 1));rw [lbs,a32 om] at h3;omega
def ab2 {a b:LI} (ha:Okd a) (hb:Okd b) (hl:a.length=b.length) {i:Nat} {x y:Int} (hx:a[i]? =some x) (hy:b[i]? =some y)
 (hd:a.drop (i+1)=b.drop (i+1)) (h:x<y):val a<val b:=by
 have hi:i<a.length:=by
  rcases F8 i a.length with h1|h1
  ·exact h1
  ·rw [lbd h1] at hx;cases hx
 have e1:=a3K a i om;have e2:=a3K b i om;rw [a3r hx] at e1;rw [a3r hy] at e2;rw [hd] at e1;have h1:=W3 (ha.take i);rw [lbs,a32 om] at h1;have h2:=v7 (hb.take i);have h3:=K6 i;have h4:pw i*(x+1048576*val (b.drop (i+1)))+pw i<=pw i*(y+1048576*val (b.drop (i+1))):=by
  have:=lbX (a:=x+1048576*val (b.drop (i+1))+1) (b:=y+1048576*val (b.drop (i+1))) (c:=pw i) om om;rw [ao6 (pw i) _ 1] at this;omega
 omega
def dat (l:LI) (i:Nat):Int:=l.getD i 0
def a2x {l:LI} {i:Nat} {x:Int} (h:l[i]? =some x):dat l i=x:=by unfold dat;rw [lbl,h];rfl
def T7 {l:LI} {i:Nat} (h:l.length<=i):dat l i=0:=by unfold dat;rw [lbl,lbd h];rfl
def Okd.dat {l:LI} (h:Okd l) (i:Nat):0<=dat l i∧dat l i<1048576:=by
 rcases F8 i l.length with h1|h1
 ·rw [a2x (lbf h1)];exact h _ (lbF h1)
 ·rw [T7 h1];decide
def u5 (l:LI) (i:Nat):val (l.take (i+1))=val (l.take i)+pw i*dat l i:=by
 rcases F8 i l.length with h1|h1
 ·rw [a2x (lbf h1)];exact a7a (lbf h1)
 ·rw [T7 h1,lbn om,lbn om];simp
def a6D (n:Int):0<=n % 1048576∧n % 1048576<1048576:=by omega
structure a9B (a b:LI) (i:Nat) (out:LI) (c:Int):Prop where
 len:out.length=a.length+1
 ok:Okd out
 le:i<=a.length
 zero:∀j,i<=j->dat out j=0
 c0:0<=c
 c1:c<=1
 eq:val out+pw i*c=val (a.take i)+val (b.take i)
def a9B.init (a b:LI):a9B a b 0 (List.replicate (a.length+1) 0) 0:=
 ⟨zq,.zeros _,J0 _,fun j _=>by unfold dat;rw [lbl,lbk];split<;>rfl,de,de,by rw [a6J];simp [val]⟩
def a6L {l:LI} {i j:Nat} {x:Int} (h:i≠j):dat (l.set i x) j=dat l j:=by
 unfold dat;rw [lbl,lbl,List.getElem?_set_ne h]
def a2S {l:LI} {i:Nat} {x:Int} (hi:i<l.length):val (l.set i x)=val l+pw i*(x - dat l i):=by
 rw [a2x (lbf hi)];exact b93 (lbf hi)
def a9B.step {a b out:LI} {i:Nat} {c:Int} (h:a9B a b i out c) (ha:Okd a) (hb:Okd b) (hi:i<a.length):
 a9B a b (i+1) (out.set i ((c+dat a i+dat b i) % 1048576)) ((c+dat a i+dat b i) / 1048576):=by
 have h1:=ha.dat i;have h2:=hb.dat i;have h3:=h.c0;have h4:=h.c1;have hl:=h.len;refine ⟨by simp [hl],h.ok.set (a6D _),hi,fun j hj=>?_,om,om,?_⟩
 ·rw [a6L om];exact h.zero j om
 ·rw [a2S om,h.zero i (lbS _),u5,u5,J2];have h5:=h.eq;have h6:(c+dat a i+dat b i) % 1048576=c+dat a i+dat b i - 1048576*((c+dat a i+dat b i) / 1048576):=om;rw [h6];grind
def a9B.fin {a b out:LI} {c:Int} (h:a9B a b a.length out c) (hl:b.length<=a.length):K3 (out.set a.length c)=dg (val a+val b).toNat:=by
 have h1:=h.c0;have h2:=h.c1;have h3:=h.eq;have hl:=h.len;rw [N7 (h.ok.set om),a2S om,h.zero _ (lbS _)];rw [a7V,lbn om] at h3
 congr 2
 grind
structure aw8 (a b:LI) (i:Nat) (out:LI) (c:Int):Prop where
 len:out.length=a.length
 ok:Okd out
 le:i<=a.length
 rest:∀j,i<=j->dat out j=dat a j
 c0:0<=c
 c1:c<=1
 eq:val out - pw i*c=val a - val (b.take i)
def aw8.init {a b:LI} (ha:Okd a):aw8 a b 0 a 0:=⟨rfl,ha,J0 _,fun _ _=>rfl,de,de,by simp [val]⟩
def aw8.step {a b out:LI} {i:Nat} {c:Int} (h:aw8 a b i out c) (ha:Okd a) (hb:Okd b) (hi:i<a.length):
 aw8 a b (i+1) (out.set i ((dat out i - c - dat b i) % 1048576)) ((dat out i - c - dat b i) / 1048576 % 2):=by
 have h1:=h.ok.dat i;have h2:=hb.dat i;have h3:=h.c0;have h4:=h.c1;have hl:=h.len;refine ⟨by simp [hl],h.ok.set (a6D _),hi,fun j hj=>?_,om,om,?_⟩
 ·rw [a6L om];exact h.rest j om
 ·rw [a2S om,u5,J2];have h5:=h.eq;have h6:(dat out i - c - dat b i) % 1048576=dat out i - c - dat b i+1048576*((dat out i - c - dat b i) / 1048576 % 2):=om;rw [h6];grind
def aw8.fin {a b out:LI} {c:Int} (h:aw8 a b a.length out c) (hl:b.length<=a.length) (hv:val b<=val a):K3 out=dg (val a - val b).toNat:=by
 have h1:=h.c0;have h2:=h.c1;have h3:=h.eq;have hlen:=h.len;rw [lbn om] at h3;have h4:=W3 h.ok;rw [hlen] at h4;rw [N7 h.ok];rcases a6m 0 c with h5|h5
 ·have:c=1:=by omega
  subst this;omega
 ·have:c=0:=by omega
  subst this
  congr 2;omega
structure an4 (a b:LI) (i k:Nat) (out:LI) (c:Int):Prop where
 len:out.length=a.length+b.length
 ok:Okd out
 le:k<=b.length
 zero:∀j,i+b.length<=j->dat out j=0
 c0:0<=c
 c1:c<1048576
 eq:val out+pw (i+k)*c=val (a.take i)*val b+pw i*dat a i*val (b.take k)
structure a5t (a b:LI) (i:Nat) (out:LI):Prop where
 len:out.length=a.length+b.length
 ok:Okd out
 le:i<=a.length
 zero:∀j,i+b.length<=j->dat out j=0
 eq:val out=val (a.take i)*val b
def a5t.init (a b:LI):a5t a b 0 (List.replicate (a.length+b.length) 0):=
 ⟨zq,.zeros _,J0 _,fun j _=>by unfold dat;rw [lbl,lbk];split<;>rfl,by rw [a6J];simp [val]⟩
def a5t.start {a b out:LI} {i:Nat} (h:a5t a b i out):an4 a b i 0 out 0:=
 ⟨h.len,h.ok,J0 _,h.zero,de,de,by rw [h.eq];simp [val]⟩
def a4B {x y:Int} (hx:0<=x∧x<1048576) (hy:0<=y∧y<1048576):0<=x*y∧x*y<=1048575*1048575:=
 ⟨lb1 hx.1 hy.1,a7I om om hy.1 de⟩
def an4.step {a b out:LI} {i k:Nat} {c:Int} (h:an4 a b i k out c) (ha:Okd a) (hb:Okd b) (hi:i<a.length) (hk:k<b.length):
 an4 a b i (k+1) (out.set (i+k) ((dat out (i+k)+dat a i*dat b k+c) % 1048576)) ((dat out (i+k)+dat a i*dat b k+c) / 1048576):=by
 have h1:=h.ok.dat (i+k);have h2:=a4B (ha.dat i) (hb.dat k);have h3:=h.c0;have h4:=h.c1;have hl:=h.len;refine ⟨by simp [hl],h.ok.set (a6D _),hk,fun j hj=>?_,om,om,?_⟩
 ·rw [a6L om];exact h.zero j om
 ·rw [a2S om,u5,show i+(k+1)=i+k+1 by omega,J2];have h5:=h.eq;have h6:(dat out (i+k)+dat a i*dat b k+c) % 1048576=dat out (i+k)+dat a i*dat b k+c - 1048576*((dat out (i+k)+dat a i*dat b k+c) / 1048576):=om;rw [h6];have h7:=a5K i k;grind
def an4.done {a b out:LI} {i:Nat} {c:Int} (h:an4 a b i b.length out c) (ha:Okd a) (hb:Okd b) (hi:i<a.length):
 a5t a b (i+1) (out.set (i+b.length) (dat out (i+b.length)+c)):=by
 have h3:=h.c0;have h4:=h.c1;have hl:=h.len;have h8:=h.zero _ (lbS _);refine ⟨by simp [hl],h.ok.set om,hi,fun j hj=>?_,?_⟩
 ·rw [a6L om];exact h.zero j om
 ·rw [a2S om,u5];have h5:=h.eq;rw [a7V] at h5;grind
def a5t.fin {a b out:LI} (h:a5t a b a.length out):K3 out=dg (val a*val b).toNat:=by
 rw [N7 h.ok,h.eq,a7V]
structure a1j (a:LI) (d:Int) (j:Nat) (out:LI) (r:Int):Prop where
 len:out.length=a.length
 ok:Okd out
 le:j<=a.length
 r0:0<=r
 r1:r<d
 eq:val (a.drop j)=d*val (out.drop j)+r
def a1j.init (a:LI) {d:Int} (hd:0<d):a1j a d a.length (List.replicate a.length 0) 0:=
 ⟨zq,.zeros _,lbS _,de,hd,by simp [val]⟩
def a8C {l:LI} {i:Nat} (h:i<l.length):val (l.drop i)=dat l i+1048576*val (l.drop (i+1)):=by
 rw [a2x (lbf h)];exact a3r (lbf h)
def a8i {l:LI} {i:Nat} {x:Int} (h:i<l.length):dat (l.set i x) i=x:=by
 unfold dat;rw [lbl,List.getElem?_set_self h];rfl
def a1j.step {a out:LI} {d r:Int} {j:Nat} (h:a1j a d (j+1) out r) (ha:Okd a) (hd:0<d):
 a1j a d j (out.set j ((r*1048576+dat a j) / d)) ((r*1048576+dat a j) % d):=by
 have h1:=ha.dat j;have h3:=h.r0;have h4:=h.r1;have hl:=h.len;have hle:=h.le;have h6:0<=(r*1048576+dat a j) / d:=au1 om om;have h7:(r*1048576+dat a j) / d<1048576:=by
  apply Int.ediv_lt_of_lt_mul hd;have:=lbX (a:=r+1) (b:=d) (c:=1048576) om om;omega
 refine ⟨by simp [hl],h.ok.set ⟨h6,h7⟩,om,am0 _ om,aM0 _ hd,?_⟩;rw [a8C om,a8C (l:=out.set j _) zo,a8i om,b2W om,h.eq];have h8:=Int.emod_add_mul_ediv (r*1048576+dat a j) d;grind
def a1j.fin {a out:LI} {d r:Int} (h:a1j a d 0 out r) (ha:Okd a) (hd:0<d):K3 out=dg (val a / d).toNat∧r=val a % d:=by
 have h3:=h.r0;have h4:=h.r1;have h5:=h.eq;simp only [a8y] at h5;rw [N7 h.ok];have e1:val a / d=val out:=by rw [h5];rw [ap8,Int.add_mul_ediv_left _ _ om,Int.ediv_eq_zero_of_lt h3 h4];omega
 have e2:val a % d=r:=by rw [h5,ap8,Int.add_mul_emod_self_left,au9 h3 h4]
 exact ⟨by rw [e1],e2.symm⟩
structure af0 (w v:LI) (g:Int) (i:Nat) (out:LI) (c:Int):Prop where
 len:out.length=w.length
 ok:Okd out
 le:i<=w.length
 rest:∀j,i<=j->dat out j=dat w j
 c0:0<=c
 c1:c<1048576
 eq:val out - pw i*c=val w - g*val (v.take i)
def af0.init {w v:LI} (g:Int) (hw:Okd w):af0 w v g 0 w 0:=⟨rfl,hw,J0 _,fun _ _=>rfl,de,de,by simp [val]⟩
def af0.step {w v out:LI} {g:Int} {i:Nat} {c:Int} (h:af0 w v g i out c) (hv:Okd v) (hg:0<=g∧g<1048576) (hi:i<w.length):
 af0 w v g (i+1) (out.set i ((dat out i - c - g*dat v i) % 1048576)) (-((dat out i - c - g*dat v i) / 1048576)):=by
 have h1:=h.ok.dat i;have h2:=a4B hg (hv.dat i);have h3:=h.c0;have h4:=h.c1;have hl:=h.len;refine ⟨by simp [hl],h.ok.set (a6D _),hi,fun j hj=>?_,om,om,?_⟩
 ·rw [a6L om];exact h.rest j om
 ·rw [a2S om,u5,J2];have h5:=h.eq;have h6:(dat out i - c - g*dat v i) % 1048576=dat out i - c - g*dat v i - 1048576*((dat out i - c - g*dat v i) / 1048576):=om;rw [h6];grind
structure a87 (w v:LI) (i:Nat) (out:LI) (c:Int):Prop where
 len:out.length=w.length
 ok:Okd out
 le:i<=w.length
 rest:∀j,i<=j->dat out j=dat w j
 c0:0<=c
 c1:c<=1
 eq:val out+pw i*c=val w+val (v.take i)
def a87.init {w v:LI} (hw:Okd w):a87 w v 0 w 0:=⟨rfl,hw,J0 _,fun _ _=>rfl,de,de,by simp [val]⟩
def a87.step {w v out:LI} {i:Nat} {c:Int} (h:a87 w v i out c) (hv:Okd v) (hi:i<w.length):
 a87 w v (i+1) (out.set i ((c+dat out i+dat v i) % 1048576)) ((c+dat out i+dat v i) / 1048576):=by
 have h1:=h.ok.dat i;have h2:=hv.dat i;have h3:=h.c0;have h4:=h.c1;have hl:=h.len;refine ⟨by simp [hl],h.ok.set (a6D _),hi,fun j hj=>?_,om,om,?_⟩
 ·rw [a6L om];exact h.rest j om
 ·rw [a2S om,u5,J2];have h5:=h.eq;have h6:(c+dat out i+dat v i) % 1048576=c+dat out i+dat v i - 1048576*((c+dat out i+dat v i) / 1048576):=om;rw [h6];grind
def af0.zero {w v out:LI} {g c:Int} (h:af0 w v g w.length out c) (hl:v.length<=w.length) (hw:Okd w) (hv:Okd v) (hg:0<=g):
 (c=0↔g*val v<=val w)∧(c=0->val out=val w - g*val v):=by
 have h3:=h.c0;have h5:=h.eq;rw [lbn om] at h5;have h6:=W3 h.ok;have h7:=v7 h.ok;rw [h.len] at h6;have h8:=K6 w.length;have h9:0<c->pw w.length<=pw w.length*c:=fun hc=>by
  have:=lbX (a:=1) (b:=c) (c:=pw w.length) om om;omega
 constructor
 ·constructor
  ·rintro rfl;omega
  ·intro h10;rcases a6m 0 c with h11|h11
   ·have:=h9 h11;omega
   ·omega
 ·rintro rfl;omega
theorem zg {p:Prop} (h:p:=by grind):p:=h
def af0.back {w v out out':LI} {g c c':Int} (h:af0 w v g w.length out c) (h':a87 out v w.length out' c') (hl:v.length<=w.length)
 (h1:0<=val w - g*val v+val v) (h2:val w - g*val v+val v<pw w.length):val out'=val w - g*val v+val v:=by
 have h5:=h.eq;have h6:=h'.eq;rw [lbn om] at h5 h6;have h7:=W3 h'.ok;have h8:=v7 h'.ok;rw [h'.len,h.len] at h7;have h9:=K6 w.length;have e:val out'+pw w.length*(c' - c)=val w - g*val v+val v:=zg;rcases a36 (c' - c) 0 with hc|hc|hc
 ·have:=lbX (a:=c' - c) (b:=-1) (c:=pw w.length) om om;omega
 ·rw [hc] at e;omega
 ·have:=lbX (a:=1) (b:=c' - c) (c:=pw w.length) om om;omega
structure Win (P V W v1 v2 top u2:Int):Prop where
 P0:0<P
 v1l:524288<=v1
 v1u:v1<1048576
 v20:0<=v2
 v2u:v2<1048576
 u20:0<=u2
 u2u:u2<1048576
 t0:0<=top
 tu:top<1048576*1048576
 Vl:P*(v1*1048576+v2)<=V
 Vu:V<P*(v1*1048576+v2)+P
 Wl:P*(top*1048576+u2)<=W
 Wu:W<P*(top*1048576+u2)+P
 lt:W<V*1048576
def Win.V0 {P V W v1 v2 top u2:Int} (h:Win P V W v1 v2 top u2):0<V:=by
 have h1:=h.Vl;have h2:=h.P0;have h3:=h.v1l;have h4:=h.v20;have:=a9r h2 (b:=v1*1048576+v2) om;omega
structure a0p (V W v1 top g r:Int):Prop where
 g0:0<=g
 gu:g<=2097152
 r0:0<=r
 ru:r<2097152
 eq:g*v1+r=top
 hi:W<(g+1)*V
def a0p.init {P V W v1 v2 top u2:Int} (h:Win P V W v1 v2 top u2):a0p V W v1 top (top / v1) (top % v1):=by
 have h1:=h.v1l;have h2:=h.v1u;have h3:=h.t0;have h4:=h.tu;have h5:=am0 top (b:=v1) om;have h6:=aM0 top (b:=v1) om;have h7:=Int.mul_ediv_add_emod top v1;have h8:0<=top / v1:=au1 h3 om;have hq:top / v1*v1+top % v1=top:=by rw [a78];exact h7
 refine ⟨h8,?_,h5,om,hq,?_⟩
 ·have h9:=lbX (a:=524288) (b:=v1) (c:=top / v1) h1 h8;omega
 ·have hW:=h.Wu;have hV:=h.Vl;have hP:=h.P0;have h20:=h.v20;have hu:=h.u2u;have e1:(top / v1+1)*(P*(v1*1048576+v2))<=(top / v1+1)*V:=lbX hV om;have e2:top*1048576+u2+1<=(top / v1+1)*(v1*1048576+v2):=by
   have:0<=(top / v1+1)*v2:=lb1 om h20;have e3:(top / v1+1)*v1≥top+1:=zg;grind
  have e4:=lbX (c:=P) e2 om;grind
def a0p.dec {P V W v1 v2 top u2 g r:Int} (h:Win P V W v1 v2 top u2) (hg:a0p V W v1 top g r) (hc:1048576<=g∨(r<1048576∧r*1048576+u2<g*v2)):
 W<g*V:=by
 have hV0:=h.V0;rcases hc with hc|⟨hr,hc⟩
 ·have:=lbY (a:=1048576) (b:=g) (c:=V) hc om;have:=h.lt;omega
 ·have hW:=h.Wu;have e1:g*(P*(v1*1048576+v2))<=g*V:=lbX h.Vl hg.g0;have e2:top*1048576+u2+1<=g*(v1*1048576+v2):=by
   have:=hg.eq;grind
  have e4:=lbX (c:=P) e2 (R0 h.P0);grind
def a0p.small {P V W v1 v2 top u2 g r:Int} (h:Win P V W v1 v2 top u2) (hg:a0p V W v1 top g r) (hc:1048576<=g):r<1048576:=by
 have h1:=h.Wl;have h2:=h.lt;have h3:=h.Vu;have hP:=h.P0;have e1:P*(top*1048576+u2)<P*((v1*1048576+v2+1)*1048576):=zg;have e2:top*1048576+u2<(v1*1048576+v2+1)*1048576:=b1Z e1 (R0 hP);have h4:=h.u20;have h5:=hg.eq;have h6:=lbY (a:=1048576) (b:=g) (c:=v1) hc (by have:=h.v1l;omega);have h7:=h.v2u;omega
def a0p.step {P V W v1 v2 top u2 g r:Int} (h:Win P V W v1 v2 top u2) (hg:a0p V W v1 top g r) (hc:1048576<=g∨(r<1048576∧r*1048576+u2<g*v2))
 (hW0:0<=W):a0p V W v1 top (g - 1) (r+v1):=by
 have h1:=a0p.dec h hg hc;have hV0:=h.V0;have hg0:0<g:=by
  rcases a6m 0 g with h2|h2
  ·exact h2
  ·have:=hg.g0;have:g=0:=om;subst this;omega
 have h2:=hg.gu;have h3:=hg.r0;have h4:=h.v1l;have h5:=h.v1u;have h6:=hg.eq;have h7:r<1048576:=by
  rcases hc with hc|hc
  ·exact a0p.small h hg hc
  ·exact hc.1
 exact ⟨om,om,om,om,by grind,by grind⟩
def a0p.fin {P V W v1 v2 top u2 g r:Int} (h:Win P V W v1 v2 top u2) (hg:a0p V W v1 top g r) (hc:¬(1048576<=g∨(r<1048576∧r*1048576+u2<g*v2)))
 (hP:P*1048576<=V):g<1048576∧g*V<=W+V:=by
 have hg1:g<1048576:=om;refine ⟨hg1,?_⟩;have h0:=hg.g0;have h20:=h.v20;have h2u:=h.v2u;have hu0:=h.u20;have e1:g*v2<=r*1048576+u2:=by
  rcases a6m r 1048576 with hr|hr
  ·omega
  ·have:=a4B ⟨h0,hg1⟩ ⟨h20,h2u⟩;omega
 have e2:g*(v1*1048576+v2)<=top*1048576+u2:=by
  have:=hg.eq;grind
 have e3:=lbX (c:=P) e2 (R0 h.P0);have e4:g*V<=g*(P*(v1*1048576+v2)+P):=lbX (R0 h.Vu) h0;have e5:g*P<=1048576*P:=lbY (R0 hg1) (R0 h.P0);have hW:=h.Wl;grind
structure Bg where
 sg:Int
 dl:LI
def bz (z:Int):Bg:=⟨z.sign,dg z.natAbs⟩
def inD (d:Int):Bool:=decide (0<=d) && decide (d<=1048575)
def J6 (b:Bg):Bool:=b.dl.all inD && (if b.dl.length=0 then b.sg == 0 else (b.sg == 1 || b.sg == -1) && !(dat b.dl (b.dl.length - 1) == 0))
def bv (b:Bg):Int:=b.sg*val b.dl
def aH9 {l:LI}:l.all inD=true↔Okd l:=by
 simp only [lbw,inD,lbO,lbJ];exact ⟨fun h d hd=>by have:=h d hd;omega,fun h d hd=>by have:=h d hd;omega⟩
def a5k (z:Int):bv (bz z)=z:=by
 unfold bv bz;rw [p9];exact ar1 z
def bk8 {b:Bg} (h:J6 b=true):b=bz (bv b):=by
 unfold J6 at h;rw [lbO,aH9] at h;obtain ⟨h1,h2⟩:=h;obtain ⟨sg,dl⟩:=b;simp only at h1 h2;have hv:=v7 h1;by_cases hl:dl.length=0
 ·rw [if_pos hl] at h2;have:dl=[]:=lbG hl;subst this;have:sg=0:=by simpa using h2
  subst this
  rfl
 ·rw [if_neg hl,lbO] at h2;have hc:Can dl:=⟨h1,fun x hx=>by rw [a2x hx] at h2;simpa using h2.2⟩;have h3:=b2G hc;have hp:0<val dl:=by
   rcases a6m 0 (val dl) with h4|h4
   ·exact h4
   ·have:val dl=0:=by omega
    rw [this] at h3;rw [h3] at hl;exact absurd rfl hl
  have hs:sg=1∨sg=-1:=by simpa using h2.1
  have ha:(sg*val dl).natAbs=(val dl).toNat:=by
   rcases hs with rfl|rfl<;>omega
  have hg:(sg*val dl).sign=sg:=by
   rcases hs with rfl|rfl
   ·rw [a1S];exact O8 hp
   ·exact a1Y om
  unfold bz bv;simp only;rw [ha,hg,←h3]
def a0K (z:Int):J6 (bz z)=true:=by
 unfold J6;rw [lbO,aH9];refine ⟨v5 _,?_⟩;by_cases hl:(bz z).dl.length=0
 ·rw [if_pos hl];have h0:dg z.natAbs=[]:=lbG hl;have:z=0:=by have:=L1.1 h0;omega
  subst this;rfl
 ·rw [if_neg hl];have hz:z≠0:=by rintro rfl;exact hl rfl
  have hl0:(dg z.natAbs).length - 1<(dg z.natAbs).length:=by have:(dg z.natAbs).length≠0:=hl;omega
  have h1:=(U5 z.natAbs).2 _ (lbf hl0);have h2:dat (bz z).dl ((bz z).dl.length - 1)≠0:=by
   show dat (dg z.natAbs) ((dg z.natAbs).length - 1)≠0;rw [a2x (lbf hl0)];exact h1
  rw [lbO];refine ⟨?_,by simpa using h2⟩;show ((z.sign == 1) || (z.sign == -1))=true;rcases a36 z 0 with h|h|h
  ·rw [a1Y h];rfl
  ·exact absurd h hz
  ·rw [O8 h];rfl
def ab7 {z:Int}:(bz z).sg=z.sign:=rfl
structure Fr where
 p:Bg
 q:Bg
def fz (x:Rat):Fr:=⟨bz x.num,bz x.den⟩
def Q9 (f:Fr):Bool:=J6 f.p && J6 f.q && (f.q.sg == 1) && (Int.gcd (bv f.p) (bv f.q) == 1)
def fv (f:Fr):Rat:=mkRat (bv f.p) (bv f.q).toNat
def ak9 (x:Rat):Q9 (fz x)=true:=by
 unfold Q9 fz;simp only [a0K,a5k,H9,lbO];have hd:=x.den_pos;refine ⟨?_,?_⟩
 ·rw [ab7,O8 om];rfl
 ·have:=x.reduced;simp only [Int.gcd,aL4];rw [this];rfl
def bC3 (x:Rat):fv (fz x)=x:=by
 unfold fv fz;simp only [a5k,lbZ];exact Rat.mkRat_self x
def a9w {p q g:Int} (hq:0<q) (hg:g=Int.gcd p q):fz (Rat.divInt p q)=⟨bz (p / g),bz (q / g)⟩:=by
 unfold fz;rw [Rat.num_divInt,Rat.den_divInt,if_neg om,O8 hq,a1S,Int.gcd_comm q p,←hg]
 congr 2
 rw [hg];have:((q.natAbs / Int.gcd p q:Nat):Int)=(q.natAbs:Int) / (Int.gcd p q:Int):=zq;rw [this,show (q.natAbs:Int)=q by omega]
structure af3 (U V N L:Nat) (j:Nat) (u q:LI):Prop where
 lu:u.length=N
 oku:Okd u
 lq:q.length=N - L
 okq:Okd q
 le:j<=N - L
 eq:val (q.drop j)*pw j*V+val u=U
 lt:val u<V*pw j
def af3.init {U V:Nat} (hV:0<V) (hl:(dg V).length<=(dg U).length+1):af3 U V ((dg U).length+1) (dg V).length ((dg U).length+1 - (dg V).length) (dg U++[0]) (List.replicate ((dg U).length+1 - (dg V).length) 0):=by
 have h1:=ai6 hV;have h2:=Q4 U;have hv:val (dg U++[0])=U:=by rw [L4,p9];simp [val]
 have hL:(dg V).length≠0:=by rw [Ne,a0I,L1];omega
 refine ⟨zq,(v5 U).append (by intro x hx;simp at hx;omega),zq,.zeros _,lbS _,?_,?_⟩
 ·rw [lbo zq,hv];simp [val]
 ·rw [hv];have h3:=lbY (a:=pw ((dg V).length - 1)) (b:=V) (c:=pw ((dg U).length+1 - (dg V).length)) h1 (R0 (K6 _));rw [← a5K,show (dg V).length - 1+((dg U).length+1 - (dg V).length)=(dg U).length by omega] at h3;omega
def af3.window {U V N L j:Nat} {u q:LI} (h:af3 U V N L (j+1) u q) (hL:(dg V).length=L):
 u=u.take j++(u.drop j).take (L+1)++u.drop (j+(L+1))∧((u.drop j).take (L+1)).length=L+1∧(u.take j).length=j∧
 val u=val (u.take j)+pw j*val ((u.drop j).take (L+1))∧val (u.drop (j+(L+1)))=0∧val ((u.drop j).take (L+1))<V*1048576:=by
 have h1:=h.lu;have h2:=h.le;have h3:=h.lt;have hp:=K6 j;have e0:(u.take j).length=j:=zo;have e1:u.drop j=(u.drop j).take (L+1)++u.drop (j+(L+1)):=by rw [← a7y,lb8]
 have e2:((u.drop j).take (L+1)).length=L+1:=zo;have e3:u=u.take j++(u.drop j).take (L+1)++u.drop (j+(L+1)):=by rw [lbE,←e1,lb8]
 have hv:=a3K u j om;have hw:=L4 ((u.drop j).take (L+1)) (u.drop (j+(L+1)));rw [← e1,e2] at hw;have h4:=v7 (h.oku.take j);have h5:=v7 ((h.oku.drop j).take (L+1));have h6:=v7 (h.oku.drop (j+(L+1)));have hVp:=Q4 V;rw [hL] at hVp;have hz:val (u.drop (j+(L+1)))=0:=by
  rcases a6m 0 (val (u.drop (j+(L+1)))) with h7|h7
  ·exfalso;have a1:=lbX (a:=1) (b:=val (u.drop (j+(L+1)))) (c:=pw (L+1)) om (R0 (K6 _));have a2:=lbX (a:=pw (L+1)) (b:=val (u.drop j)) (c:=pw j) om (R0 hp);have a3:=lbY (a:=(V:Int)) (b:=pw L) (c:=pw (j+1)) (R0 hVp) (R0 (K6 _));have a4:pw j*pw (L+1)=pw L*pw (j+1):=by rw [← a5K,←a5K];congr 1;omega
   omega
  ·omega
 rw [hz,Int.mul_zero,a9N] at hw;rw [hw] at hv;refine ⟨e3,e2,e0,hv,hz,?_⟩;have a5:pw j*val ((u.drop j).take (L+1))<pw j*(V*1048576):=by
  rw [J2] at h3;have:(V:Int)*(pw j*1048576)=pw j*(V*1048576):=zg;omega
 exact b1Z a5 (R0 hp)
def aF0 (l:LI):K3 l++List.replicate (l.length - (K3 l).length) 0=l:=by
 induction l with
 |nil=>rfl
 |cons d r ih=>
  rw [K3];split
  ·rename_i h;rw [h.1] at ih;rw [h.2];simp only [aZ1,a5n,Nat.sub_zero,lbu,aN4] at ih ⊢;rw [ih]
  ·simp only [List.cons_append,lbu,Nat.add_sub_add_right];rw [ih]
def a17 (n:Nat) (l:LI):LI:=l++List.replicate (n - l.length) 0
def b3p {l:LI} (h:Okd l) {n:Nat} (hn:l.length=n):l=a17 n (dg (val l).toNat):=by
 subst hn;have:=aF0 l;rw [N7 h] at this;exact this.symm
def ba7 (n:Nat) (l:LI):val (a17 n l)=val l:=by unfold a17;rw [L4,a6J];simp
def aF5 {n:Nat} {l:LI} (h:l.length<=n):(a17 n l).length=n:=by unfold a17;simp;omega
def b79 {n:Nat} {l:LI} (h:Okd l):Okd (a17 n l):=h.append (.zeros _)
def Win.of {v w:LI} {L:Nat} (hv:Okd v) (hw:Okd w) (lv:v.length=L+2) (lw:w.length=L+3) (ht:524288<=dat v (L+1)) (hlt:val w<val v*1048576):
 Win (pw L) (val v) (val w) (dat v (L+1)) (dat v L) (dat w (L+2)*1048576+dat w (L+1)) (dat w L):=by
 have v1:=u5 v (L+1);have v2:=u5 v L;have w1:=u5 w (L+2);have w2:=u5 w (L+1);have w3:=u5 w L;rw [lbn om] at v1 w1;have a1:=v7 (hv.take L);have a2:=W3 (hv.take L);have a3:=v7 (hw.take L);have a4:=W3 (hw.take L);rw [lbs,a32 om] at a2 a4;have d1:=hv.dat (L+1);have d2:=hv.dat L;have d3:=hw.dat (L+2);have d4:=hw.dat (L+1);have d5:=hw.dat L;have p1:=J2 L;have p2:=J2 (L+1);have e1:val v=pw L*(dat v (L+1)*1048576+dat v L)+val (v.take L):=zg;have e2:val w=pw L*((dat w (L+2)*1048576+dat w (L+1))*1048576+dat w L)+val (w.take L):=zg;exact ⟨K6 L,ht,om,om,om,om,om,om,om,om,om,om,om,hlt⟩
def af3.step {U V N L j:Nat} {u q:LI} (h:af3 U V N L (j+1) u q) (hL:(dg V).length=L) (hV:0<V) {Q:Int} (hQ:0<=Q∧Q<1048576)
 (hr0:0<=val ((u.drop j).take (L+1)) - Q*V) (hr1:val ((u.drop j).take (L+1)) - Q*V<V):
 af3 U V N L j (u.take j++a17 (L+1) (dg (val ((u.drop j).take (L+1)) - Q*V).toNat)++u.drop (j+(L+1))) (q.set j Q):=by
 obtain ⟨e3,e2,e0,hv,hz,hW⟩:=h.window hL;have h1:=h.lu;have h2:=h.le;have h3:=h.lq;have hVp:=Q4 V;rw [hL] at hVp;have hmono:=a0W (Nat.le_succ L);have lp:(dg (val ((u.drop j).take (L+1)) - Q*V).toNat).length<=L+1:=N2 (by have:pw L<=pw (L+1):=hmono;omega);have hpl:=aF5 lp;have hvp:val (a17 (L+1) (dg (val ((u.drop j).take (L+1)) - Q*V).toNat))=val ((u.drop j).take (L+1)) - Q*V:=by
  rw [ba7,p9,lb0 hr0]
 have hu':val (u.take j++a17 (L+1) (dg (val ((u.drop j).take (L+1)) - Q*V).toNat)++u.drop (j+(L+1)))=val (u.take j)+pw j*(val ((u.drop j).take (L+1)) - Q*V):=by
  rw [L4,hz,L4,hvp,e0];simp
 have hp:=K6 j;have hlt:=W3 (h.oku.take j);rw [e0] at hlt;refine ⟨?_,((h.oku.take j).append (b79 (v5 _))).append (h.oku.drop _),by simp [h3],h.okq.set hQ,om,?_,?_⟩
 ·simp only [lbq,hpl,e0,a5r];omega
 ·rw [hu',a8C zo,a8i om,b2W om];have h4:=h.eq;rw [hv,J2] at h4;grind
 ·rw [hu'];have h5:=lbX (a:=val ((u.drop j).take (L+1)) - Q*V) (b:=(V:Int) - 1) (c:=pw j) om om;have h6:pw j*((V:Int) - 1)=V*pw j - pw j:=zg;omega
def af3.fin {U V N L:Nat} {u q:LI} (h:af3 U V N L 0 u q) (hV:0<V):val q=(U / V:Nat)∧val u=(U % V:Nat):=by
 have h1:=h.eq;have h2:=h.lt;simp only [a8y,aI9,al9] at h1 h2;have h3:=v7 h.oku;have h4:=v7 h.okq;obtain ⟨Q,hQ⟩:=a6s h4;obtain ⟨R,hR⟩:=a6s h3;rw [hQ,hR] at h1;rw [hR] at h2;have e:U=R+Q*V:=by
  have:((R+Q*V:Nat):Int)=(U:Int):=by rw [← h1];simp [ap8]
  omega
 have hlt:R<V:=om;rw [hQ,hR,e,Nat.add_mul_div_right _ _ hV,Nat.div_eq_of_lt hlt,Nat.add_mul_mod_self_right,b32 hlt];simp
end
section
open Go.RowKit
theorem St1.zd {p:Prop} [Decidable p] {k:S->Prop} (a:p->k (j8 true)) (b:¬p->k (j8 false)):aw7 p k:=aw7.mk a b
theorem St2.zd {b:Bool} {k:S->Prop} (a:b=true->k (j8 true)) (c:b=false->k (j8 false)):a3e b k:=a3e.mk a c
theorem St1.zz {x:Int} {K:Int->Prop} (k:K x) (h1:-9223372036854775808<=x:=by omega) (h2:x<=9223372036854775807:=by omega):∃n,J8 .i64 x n∧K n:=⟨_,a3n h1 h2,k⟩
theorem St2.zz {n m:Int} {K:Prop} (k:K) (h0:0<=n:=by omega) (h1:n<m:=by omega):(0<=n∧n<m)∧K:=⟨⟨h0,h1⟩,k⟩
theorem St3.zz {ops:List Oper} {K:List Oper->Prop} (k:K ops) (h:ad3 ops=true:=by decide +kernel):b5e ops K:=b6K h k
theorem St4.zz {P:Program} {τ:Tab} {env:Env} {H':Hp} {ops:List Oper} {i:Nat} {K:Prop} (k:K) (h:K4 ops i=true:=by decide +kernel) (h2:a0z ops i=[]:=by decide +kernel):K4 ops i=true∧∃L,a0z ops i=L∧a38 P τ ops env H' K L:=b8T h h2 k
theorem St5.zz {s:S} {B:List Blk} {s':S} {K:Prop} (k:K) (h1:B=[]:=by exact rfl) (h2:s=s':=by exact rfl):(B=[]∧s=s')∧K:=b31 h1 h2 k
theorem St6.zz {α:Type} {xs:List α} {a b:Nat} {K:Prop} (k:K) (h:a=b:=by exact rfl):(xs.length=0∨a=b)∧K:=b7i h k
def bl0 {P:Program} {τ:Tab} {env:Env} {H':Hp} {ops:List Oper} {i:Nat} {K:Prop} (L:List Nat) (k:a38 P τ ops env H' K L) (h:K4 ops i=true:=by decide +kernel) (h2:a0z ops i=L:=by decide +kernel):K4 ops i=true∧∃L,a0z ops i=L∧a38 P τ ops env H' K L:=b5P L h h2 k
theorem qp {P:Program} {g:FuncId} {args:List S} {H:Hp} {r:S} {K:S->List Blk->Prop} {Q:Prop} (c:d6 P g args [] r []) (k:K r []) (h1:args.all S.isT=true:=by exact rfl) (h2:r.isT=true:=by exact rfl):(∃ r B,a02 P g args H r B∧K r B)∨Q:=.inl ⟨_,_,D7 c h1 h2,k⟩
def ac {f:FuncId} {fn:Func} {c:Code} {args:List S} {H:Hp} {s:S} {H':Hp} (hf:Go.Proofs.Tryz.prog.funcs[f]? =some fn) (h:a3g Go.Proofs.Tryz.prog tab H.length c (args++List.replicate (fn.ntmps - args.length) .junk) H fun x env' H1=>match x with
 |.exit _=>False
 | _ => a8M tab fn env' H1 fun r => Fin H.length r H1 s H') (hb : fn.body = some c := by exact rfl) (hn : fn.name ≠ "runtime.NumGoroutine" := by decide) : d6 Go.Proofs.Tryz.prog f args H s H' := b7d d9 hf hb hn h
def Jn (n:Nat):Env:=List.replicate n J
theorem St1.zy {a b c:Prop} (h:a):a4d a b c:=a4d.data h
theorem St2.zy {a b:Prop} (h:b):at6 a b:=at6.own h
def b0x {a b:Prop} (h:a):at6 a b:=at6.data h
theorem St7.zz {k:S->Prop} (h:k (j8 true)):a3e true k:=⟨fun _=>h,fun e=>(by cases e)⟩
theorem St8.zz {k:S->Prop} (h:k (j8 false)):a3e false k:=⟨fun e=>(by cases e),fun _=>h⟩
def lg0 {α:Type} {l:List α} {i:Nat} (h:i<l.length):l[i]? =some l[i]:=lbf h
def lg1 {α:Type} {l:List α} {i:Nat} {a:α} (h:l[i]? =some a):∃h:i<l.length,l[i]=a:=lbe.1 h
def lg2 {α:Type} {l:List α} {i:Nat} {a:α} (h:l[i]? =some a):a ∈ l:=lbm h
def lg3 {α:Type} (l:List α) (i:Nat) (a:α):l.getD i a=l[i]?.getD a:=lbl
def lg4 {α:Type} {l:List α} {i:Nat} (h:l.length<=i):l.take i=l:=lbn h
def lg5 {α:Type} {a:α} {l:List α}:a ∈ a::l:=a2T ..
theorem St1.zx {x:Int} {K:Int->Prop} (k:K x) (h1:-9223372036854775808<=x:=by omega) (h2:x<=9223372036854775807:=by omega):∃n,J8 .i64 x n∧K n:=⟨_,a3n h1 h2,k⟩
theorem St2.zx {n m:Int} {K:Prop} (k:K) (h0:0<=n:=by omega) (h1:n<m:=by omega):(0<=n∧n<m)∧K:=⟨⟨h0,h1⟩,k⟩
theorem St3.zx {ops:List Oper} {K:List Oper->Prop} (k:K ops) (h:ad3 ops=true:=by decide +kernel):b5e ops K:=b6K h k
theorem St4.zx {P:Program} {τ:Tab} {env:Env} {H':Hp} {ops:List Oper} {i:Nat} {K:Prop} (k:K) (h:K4 ops i=true:=by decide +kernel) (h2:a0z ops i=[]:=by decide +kernel):K4 ops i=true∧∃L,a0z ops i=L∧a38 P τ ops env H' K L:=b8T h h2 k
theorem St5.zx {s:S} {B:List Blk} {s':S} {K:Prop} (k:K) (h1:B=[]:=by exact rfl) (h2:s=s':=by exact rfl):(B=[]∧s=s')∧K:=b31 h1 h2 k
theorem St6.zx {α:Type} {xs:List α} {a b:Nat} {K:Prop} (k:K) (h:a=b:=by exact rfl):(xs.length=0∨a=b)∧K:=b7i h k
theorem St7.zx {k:S->Prop} (h:k (j8 true)):a3e true k:=⟨fun _=>h,fun e=>(by cases e)⟩
theorem St8.zx {k:S->Prop} (h:k (j8 false)):a3e false k:=⟨fun e=>(by cases e),fun _=>h⟩
theorem StA.zx {a b c:Prop} (h:a):a4d a b c:=a4d.data h
theorem StB.zx {a b:Prop} (h:b):at6 a b:=at6.own h
theorem StC.zx {P:Program} {g:FuncId} {args:List S} {H:Hp} {r:S} {K:S->List Blk->Prop} {Q:Prop} (k:K r []) (c:d6 P g args [] r []:=by assumption) (h1:args.all S.isT=true:=by exact rfl) (h2:r.isT=true:=by exact rfl):(∃ r B,a02 P g args H r B∧K r B)∨Q:=qp c k h1 h2
class ZD (p:Prop) (a b:outParam Prop):Prop where
 ou:a->b->p
instance {p:Prop} [Decidable p] {k:S->Prop}:ZD (aw7 p k) (p->k (j8 true)) (¬p->k (j8 false)):=⟨aw7.mk⟩
instance {b:Bool} {k:S->Prop}:ZD (a3e b k) (b=true->k (j8 true)) (b=false->k (j8 false)):=⟨a3e.mk⟩
theorem zD {p a b:Prop} [i:ZD p a b] (h:a) (g:b):p:=i.ou h g
abbrev ec:=d6 Go.Proofs.Tryz.prog
abbrev tT:Nat->Prop:=fun _=>True
abbrev eI:=c9 .i64
abbrev sP (i j k:Nat):S:=S.c (C.ptr i j k)
end
open St1 St2 St3 St4 St5 St6 St7 St8 StA StB StC
set_option maxRecDepth 100000
abbrev bgC (b:Bg):List C:=[.t (ti b.sg),.t (w7 b.dl)]
abbrev bgS (b:Bg):S:=.agg (bgC b)
abbrev bgB (b:Bg):Blk:={ mode:=.live,elem:=84,size:=2,rows:=[bgC b],box:=true }
def a66 (b:Bg):J9 [bgC b]:=by
 intro r hr c hc;simp at hr;subst hr;simp [bgC] at hc;rcases hc with rfl|rfl<;>rfl
def w6 {l:LI} {i:Nat} (h:i<l.length):l[i]? =some (dat l i):=by
 unfold dat;rw [lbl,lbf h];rfl
def a81 {l:LI} (h:0<l.length):l[((l.length:Int) - 1).toNat]? =some (dat l (l.length - 1)):=by
 rw [show ((l.length:Int) - 1).toNat=l.length - 1 by omega];exact w6 om
def a2w {l:LI} {n:Nat} (h:0<n) (hn:n<=l.length):l[((n:Int) - 1).toNat]? =some (dat l (n - 1)):=by
 rw [show ((n:Int) - 1).toNat=n - 1 by omega];exact w6 om
def a41 (b:Bg) (hl:b.dl.length<=1000000):ec 181 [bgS b] [] (j8 (J6 b)) []:=by
 have l2:(b.dl.map j0).length=b.dl.length:=zq;refine ac Tryz.func181 ?_;conv=>whnf
 repeat' (first|refine zx ?_|apply zD<;>intro<;>try omega)<;>conv=>whnf
 refine i7 d9 (fun k=>([J,sP 0 0 0,J,eI b.dl.length,J,J,J,J,J,J,j3 b.dl,eI b.dl.length,eI k]++Jn 32,[bgB b])) b.dl.length (fun k=>(b.dl.take k).all inD=true) [some 0] rfl
  ⟨rfl,rfl,⟨⟨rfl,rfl,rfl,.inl ⟨rfl,a66 b⟩⟩,trivial⟩,⟨rz,d7 zq,k8 rfl,d7 zq,d7 rfl,trivial⟩⟩ ?_
 intro k hk hI;conv=>whnf
 repeat' (first|refine zx ?_|refine f7 (w6 om) ?_|refine x5 om (a81 om) ?_|apply zD<;>intro<;>try omega)<;>conv=>whnf
 all_goals first
  |(have hlt:k<b.dl.length:=by omega
    refine ⟨hlt,?_,[some 0],rfl,rfl,⟨⟨rfl,rfl,rfl,.inl ⟨rfl,a66 b⟩⟩,trivial⟩,rz⟩;rw [y9 (w6 hlt),hI];simp [inD];omega)
  |(have hlt:k<b.dl.length:=by omega
    refine g9 ?_;unfold J6;rw [C5 (w6 hlt) (by simp [inD];omega)];rfl)
  |(have ha:b.dl.all inD=true:=by rw [← hI,lbn om]
    refine g9 ?_;unfold J6;rw [ha];simp_all;done)
def a4V (l:LI) (hl:l.length<=1000000):ec 265 [j3 l] [] (j3 (K3 l)) []:=by
 have l2:(l.map j0).length=l.length:=zq;refine ac Tryz.func265 ?_;conv=>whnf
 repeat' (first|refine zx ?_|apply zD<;>intro<;>try omega)<;>conv=>whnf
 refine o9 d9 (σ:=Nat) (fun n=>([j3 l,J,J,eI n]++Jn 17,[])) (fun n=>n<=l.length∧∀j x,n<=j->l[j]? =some x->x=0) (fun n=>n) l.length []
  ⟨lbS _,fun j x hj hx=>by rw [lbd hj] at hx;cases hx⟩ ⟨rfl,rfl,trivial,⟨k8 rfl,d7 zq,trivial⟩⟩ ?_
 rintro n ⟨hn,hz⟩;have hn:n<=l.length:=hn;conv=>whnf
 repeat' (first|refine zx ?_|refine x5 om (a2w om hn) ?_|refine a63 om om om ?_|apply zD<;>intro<;>try omega)<;>conv=>whnf
 ·have h0:dat l (n - 1)=0:=by assumption
  have h1:0<n:=om;refine ⟨[],n - 1,⟨rfl,rfl,trivial,⟨rfl,d7 om,trivial⟩⟩,⟨om,fun j x hj hxj=>?_⟩,by show n - 1<n;omega⟩;by_cases hj2:j=n - 1
  ·subst hj2;rw [w6 om] at hxj;injection hxj with hx;rw [← hx];exact h0
  ·exact hz j x om hxj
 all_goals
  have e:l.take n=K3 l:=a4O hz (fun x h0 hx=>by
   first|omega|(rw [w6 om] at hx;injection hx with hx;rw [← hx];assumption)) hn
  refine bp5 ?_ rfl;rw [← e];simp [aA6]
open St1 St2 St3 St4 St5 St6 St7 St8 StA StB StC
set_option maxRecDepth 100000
def be1 (l:LI) (hl:l.length<=1000000):ec 265 [a1U 0 l] [o8 l] (.c (.own 0 0 (K3 l).length true)) [o8 l]:=by
 refine ac Tryz.func265 ?_;conv=>whnf
 repeat' (first|refine zx ?_|apply zD<;>intro h<;>try omega)<;>conv=>whnf
 refine o9 d9 (σ:=Nat) (fun n=>([a1U 0 l,J,J,eI n]++Jn 17,[o8 l])) (fun n=>n<=l.length∧∀j x,n<=j->l[j]? =some x->x=0) (fun n=>n) l.length [some 0]
  ⟨lbS _,fun j x hj hx=>by rw [lbd hj] at hx;cases hx⟩ ⟨rfl,rfl,⟨d8 rfl rfl rfl rfl rfl,trivial⟩,⟨q9 rfl rfl,d7 rfl,trivial⟩⟩ ?_
 rintro n ⟨hn,hz⟩;have hn:n<=l.length:=hn;have hg:0<n->l[0+((n:Int) - 1).toNat]? =some (dat l (n - 1)):=fun h=>by rw [O5];exact a2w h hn
 conv=>whnf
 repeat' (first|refine zx ?_|refine p8 (hg om) ?_|refine a63 om om om ?_|apply zD<;>intro h<;>try omega)<;>conv=>whnf
 ·have h0:dat l (n - 1)=0:=by assumption
  have h1:0<n:=om;refine ⟨[some 0],n - 1,⟨rfl,rfl,⟨d8 rfl rfl rfl rfl rfl,trivial⟩,⟨q9 rfl rfl,d7 om,trivial⟩⟩,⟨om,fun j x hj hxj=>?_⟩,by show n - 1<n;omega⟩;by_cases hj2:j=n - 1
  ·subst hj2;rw [w6 om] at hxj;injection hxj with hx;rw [← hx];exact h0
  ·exact hz j x om hxj
 all_goals
  have e:l.take n=K3 l:=a4O hz (fun x h0 hx=>by
   first|omega|(rw [w6 om] at hx;injection hx with hx;rw [← hx];assumption)) hn
  have e2:(K3 l).length=n:=by rw [← e];simp;omega
  exact ⟨⟨[some 0],rfl,rfl,⟨d8 rfl rfl rfl rfl rfl,trivial⟩,⟨rfl,rfl,by rw [e2];omega,fun h=>h⟩⟩⟩
def aL8 {n:Nat} {K:Prop} (h:0<n) (k:K):0<n∧K:=⟨h,k⟩
def ag2 (l:LI) (hl:l.length<=1000000):ec 201 [j3 l] [] (j3 l) []:=by
 have l2:(l.map j0).length=l.length:=zq;cases l with
 |nil=>
  refine aG2 0 rfl ?_ ?_
  ·refine ac Tryz.func201 ?_;conv=>whnf
   repeat' (first|refine zx ?_|apply zD<;>intro h<;>try omega)<;>conv=>whnf
   exact n9 (show a9K [] _ _ _ from rfl)
  ·refine ac Tryz.func201 ?_;conv=>whnf
   repeat' (first|refine zx ?_|refine aL8 zq ?_|refine sl3_ok om om rfl om ?_|refine a8D rfl zt ?_|apply zD<;>intro h<;>try omega)<;>conv=>whnf
   exact I4 rfl zi rfl rfl zt
 |cons a r=>
  refine ac Tryz.func201 ?_;conv=>whnf
  repeat' (first|refine zx ?_|refine aL8 zq ?_|refine sl3_ok om om rfl om ?_|refine a8D rfl (by simp [toC] at *;omega) ?_|apply zD<;>intro h<;>try omega)<;>conv=>whnf
  exact I4 rfl zi rfl rfl zt
def b5G (l:LI) (hl:l.length<=1000000):ec 201 [j3 l] [] (a1U 0 l) [o8 l]:=by
 have l2:(l.map j0).length=l.length:=zq;cases l with
 |nil=>
  refine aG2 0 rfl ?_ ?_
  ·refine ac Tryz.func201 ?_;conv=>whnf
   repeat' (first|refine zx ?_|apply zD<;>intro h<;>try omega)<;>conv=>whnf
   exact ⟨⟨[none],rz⟩⟩
  ·refine ac Tryz.func201 ?_;conv=>whnf
   repeat' (first|refine zx ?_|refine aL8 zq ?_|refine sl3_ok om om rfl om ?_|refine a8D rfl zt ?_|apply zD<;>intro h<;>try omega)<;>conv=>whnf
   exact ⟨⟨[some 0],rfl,rfl,⟨d8 rfl rfl rfl rfl rfl,trivial⟩,⟨rfl,rfl,zt,fun h=>h⟩⟩⟩
 |cons a r=>
  refine ac Tryz.func201 ?_;conv=>whnf
  repeat' (first|refine zx ?_|refine aL8 zq ?_|refine sl3_ok om om rfl om ?_|refine a8D rfl (by simp [toC] at *;omega) ?_|apply zD<;>intro h<;>try omega)<;>conv=>whnf
  exact ⟨⟨[some 0],rfl,rfl,⟨d8 rfl rfl rfl rfl rfl,trivial⟩,⟨rfl,rfl,zt,fun h=>h⟩⟩⟩
def b9E (x:Int):ec 263 [eI x] [] (j8 false) []:=by
 refine ac Tryz.func263 ?_;conv=>whnf
 repeat' (first|refine zx ?_|apply zD<;>intro<;>try omega)<;>conv=>whnf
 all_goals first|omega|exact g9 rfl
def M6 (x y:Int):Int:=if x<y then -1 else if x > y then 1 else 0
def a5c (x y:Int):ec 188 [eI x,eI y] [] (eI (M6 x y)) []:=by
 refine ac Tryz.func188 ?_;conv=>whnf
 repeat' (first|refine zx ?_|refine qp (b9E _) ?_|apply zD<;>intro<;>try omega)<;>conv=>whnf
 all_goals first
  |(exfalso;simp_all;done)
  |(refine o4 ?_;unfold M6;split<;>first|omega|(split<;>omega))
def a4r (x y:Int):ec 259 [.c (.t (.sl 1 .full ([x,y].map j0)))] [] (eI (if x=0 then y else x)) []:=by
 refine ac Tryz.func259 ?_;conv=>whnf
 repeat' (first|refine zx ?_|apply zD<;>intro<;>try omega)<;>conv=>whnf
 refine i7 d9 (fun k=>([J,J,J,eI 0,J,J,S.c (C.t (T.sl 1 .full ([x,y].map j0))),eI 2,eI k]++Jn 9,[])) 2 (fun k=>∀v ∈ [x,y].take k,v=0) [] zq
  ⟨rfl,rfl,trivial,⟨rfl,k8 rfl,d7 rfl,d7 rfl,trivial⟩⟩ ?_
 intro k hk hI;conv=>whnf
 repeat' (first|refine zx ?_|apply zD<;>intro<;>try omega)<;>conv=>whnf
 ·have hlt:k<2:=by omega
  obtain ⟨v,hv⟩:∃v,[x,y][k]? =some v:=⟨_,lbf (by simpa using hlt)⟩;refine f7 hv ?_;conv=>whnf
  repeat' (first|refine zx ?_|apply zD<;>intro<;>try omega)<;>conv=>whnf
  ·refine o4 ?_
   match k,hlt with
   |0,_=>simp at hv;subst hv;rw [if_neg (by assumption)]
   |1,_=>simp at hv;subst hv;rw [if_pos (hI x zq)]
  ·refine ⟨hlt,?_,[],rz⟩;intro u hu;rw [lbH,hv] at hu;rcases lbA.1 hu with hu|hu
   ·exact hI u hu
   ·simp at hu;subst hu;omega
 ·have h1:=hI x (by rw [lbn zo];simp);have h2:=hI y (by rw [lbn zo];simp);refine o4 ?_;rw [if_pos h1,h2]
def sgn (s:Int) (l:LI):Bg:=if (K3 l).length=0 then ⟨0,[]⟩ else ⟨s,K3 l⟩
def b0K (s:Int) (l:LI) (hl:l.length<=1000000):ec 191 [eI s,j3 l] [] (bgS (sgn s l)) []:=by
 refine ac Tryz.func191 ?_;conv=>whnf
 repeat' (first|refine zx ?_|refine qp (a4V l hl) ?_|apply zD<;>intro<;>try omega)<;>conv=>whnf
 ·have h0:(K3 l).length=0:=by simp at *;assumption
  unfold sgn;rw [if_pos h0];exact n9 rz
 ·have h0:¬(K3 l).length=0:=by simp at *;assumption
  unfold sgn;rw [if_neg h0];exact n9 rz
def K9 (r:Bool) (b:Bg):ec 252 [j8 r,bgS b] [] (.tup [bgS (if r then b else ⟨0,[]⟩),eI (if r then 0 else 1)]) []:=by
 cases r<;>
 ·refine ac Tryz.func252 ?_;conv=>whnf
  repeat' (first|refine zx ?_|apply zD<;>intro<;>try omega)<;>conv=>whnf
  exact n9 rz
open St1 St2 St3 St4 St5 St6 St7 St8 StA StB StC
set_option maxRecDepth 100000
def a4i {x y:Int} (h:x<y):M6 x y=-1:=by unfold M6;rw [if_pos h]
def ai0 {x y:Int} (h:y<x):M6 x y=1:=by unfold M6;rw [if_neg om,if_pos h]
def ba4 {x y:Int} (h:x=y):M6 x y=0:=by unfold M6;rw [if_neg om,if_neg om]
def b1e {s:Int} {l:LI} (h:Okd l) (hs:s=1∨s=-1∨val l=0):sgn s l=bz (s*val l):=by
 have hv:=v7 h;unfold sgn bz;rw [N7 h];by_cases h0:val l=0
 ·rw [h0,Int.mul_zero];rfl
 ·have h1:(dg (val l).toNat).length≠0:=by rw [Ne,a0I,L1];omega
  rw [if_neg h1];rcases hs with rfl|rfl|h2
  ·rw [O8 om]
   congr 2;omega
  ·rw [a1Y om]
   congr 2;omega
  ·exact absurd h2 h0
def a3M (a b:LI) (ha:Can a) (hb:Can b) (la:a.length<=1000000) (lb:b.length<=1000000):
 ec 189 [j3 a,j3 b] [] (eI (M6 (val a) (val b))) []:=by
 have l1:(a.map j0).length=a.length:=zq;have l2:(b.map j0).length=b.length:=zq;have key:∀{x y:LI},Can x->Can y->x.length<y.length->val x<val y:=fun {x y} hx hy h=>by
  rw [b2G hx,b2G hy] at h;have:=aI4 h;have:=v7 hx.1;omega
 by_cases hl:a.length=b.length
 ·refine ac Tryz.func189 ?_;conv=>whnf
  repeat' (first|refine zx ?_|apply zD<;>intro h<;>try omega)<;>conv=>whnf
  refine o9 d9 (σ:=Nat) (fun k=>([j3 a,j3 b,J,J,J,eI ((k:Int) - 1)]++Jn 35,[])) (fun k=>k<=a.length∧a.drop k=b.drop k) (fun k=>k) a.length []
   ⟨lbS _,by rw [lbo (lbS _),lbo om]⟩ ⟨rfl,rfl,trivial,⟨k8 rfl,k8 rfl,d7 zq,trivial⟩⟩ ?_
  rintro k ⟨hk,hd⟩;have hk:k<=a.length:=hk;have hd:a.drop k=b.drop k:=hd;conv=>whnf
  repeat' (first|refine zx ?_|refine qp (a5c _ _) ?_|refine x5 om (a2w om hk) ?_|refine x5 om (a2w om (hl ▸ hk)) ?_|apply zD<;>intro h<;>try omega)<;>conv=>whnf
  all_goals first
   |(have hp:0<k:=by omega
     have e:k - 1+1=k:=om;have gx:=w6 (l:=a) (i:=k - 1) om;have gy:=w6 (l:=b) (i:=k - 1) om;refine o4 ?_;rcases a36 (dat a (k - 1)) (dat b (k - 1)) with h|h|h
     ·rw [a4i h,a4i (ab2 ha.1 hb.1 hl gx gy (by rw [e];exact hd) h)]
     ·exfalso;simp_all;done
     ·rw [ai0 h,ai0 (ab2 hb.1 ha.1 hl.symm gy gx (by rw [e];exact hd.symm) h)])
   |(have hp:0<k:=by omega
     have hq:dat a (k - 1)=dat b (k - 1):=om;refine ⟨[],k - 1,⟨rfl,rfl,trivial,⟨rfl,rfl,d7 om,trivial⟩⟩,⟨om,?_⟩,by show k - 1<k;omega⟩;rw [a3y (by omega:k - 1<a.length),a3y (by omega:k - 1<b.length),show k - 1+1=k by omega,hd]
     congr 1
     have gx:=w6 (l:=a) (i:=k - 1) om;have gy:=w6 (l:=b) (i:=k - 1) om;rw [lbf om] at gx gy;injection gx with gx;injection gy with gy;rw [gx,gy,hq])
   |(have:k=0:=by omega
     subst this;simp only [a8y] at hd;refine o4 ?_;rw [hd,ba4 rfl])
 ·refine ac Tryz.func189 ?_;conv=>whnf
  repeat' (first|refine zx ?_|refine qp (a5c _ _) ?_|apply zD<;>intro h<;>try omega)<;>conv=>whnf
  all_goals first
   |omega
   |(refine o4 ?_
     rcases an9 hl with h|h
     ·rw [a4i om,a4i (key ha hb h)]
     ·rw [ai0 om,ai0 (key hb ha h)])
def b4O (a b:Bg):Int:=if J6 a && J6 b then M6 (bv a) (bv b) else 0
def b2P (x:Int):Can (bz x).dl:=U5 _
def aQ7 (x:Int):val (bz x).dl=x.natAbs:=p9 _
def C8 (x:Int):x.sign=0∧x=0∨x.sign=1∧0<x∨x.sign=-1∧x<0:=by
 rcases a36 x 0 with h|h|h
 ·exact .inr (.inr ⟨a1Y h,h⟩)
 ·subst h;exact .inl rz
 ·exact .inr (.inl ⟨O8 h,h⟩)
def b5r {x y:Int} (h:x.sign≠y.sign):M6 x.sign y.sign=M6 x y:=by
 rcases C8 x with ⟨e,h1⟩|⟨e,h1⟩|⟨e,h1⟩<;>rcases C8 y with ⟨f,h2⟩|⟨f,h2⟩|⟨f,h2⟩<;>rw [e,f] at h ⊢<;>unfold M6<;>(repeat' split)<;>omega
def b7o {x y:Int} (h:x.sign=y.sign):x.sign*M6 x.natAbs y.natAbs=M6 x y:=by
 rcases C8 x with ⟨e,h1⟩|⟨e,h1⟩|⟨e,h1⟩<;>rcases C8 y with ⟨f,h2⟩|⟨f,h2⟩|⟨f,h2⟩<;>rw [e,f] at h<;>try omega
 all_goals (rw [e];unfold M6;(repeat' split)<;>omega)
def b7p (x y:Int):-1<=M6 x y∧M6 x y<=1:=by unfold M6;split<;>(try split)<;>omega
def as9 {b:Bg} (h:J6 b=true):∃z,b=bz z:=⟨_,bk8 h⟩
def b2J (a b:Bg) (la:a.dl.length<=1000000) (lb:b.dl.length<=1000000):
 ec 120 [bgS a,bgS b] [] (eI (b4O a b)) []:=by
 have r1:=a41 a la;have r2:=a41 b lb;cases ha:J6 a with
 |false=>
  rw [ha] at r1;refine ac Tryz.func120 ?_;conv=>whnf
  repeat' (first|refine zx ?_|apply zD<;>intro<;>try omega)<;>conv=>whnf
  all_goals (first|(exfalso;simp_all;done)|(refine o4 ?_;unfold b4O;rw [ha];rfl))
 |true=>
  rw [ha] at r1;cases hb:J6 b with
  |false=>
   rw [hb] at r2;refine ac Tryz.func120 ?_;conv=>whnf
   repeat' (first|refine zx ?_|apply zD<;>intro<;>try omega)<;>conv=>whnf
   all_goals (first|(exfalso;simp_all;done)|(refine o4 ?_;unfold b4O;rw [ha,hb];rfl))
  |true=>
   rw [hb] at r2;obtain ⟨x,rfl⟩:=as9 ha;obtain ⟨y,rfl⟩:=as9 hb;have c:=a3M (bz x).dl (bz y).dl (b2P x) (b2P y) la lb;rw [aQ7,aQ7] at c;have e:b4O (bz x) (bz y)=M6 x y:=by unfold b4O;rw [ha,hb,a5k,a5k];rfl
   rw [e];have hr:=b7p x y;by_cases hs:x.sign=y.sign
   ·have hs':(bz x).sg=(bz y).sg:=hs;have e2:=b7o hs;refine ac Tryz.func120 ?_;conv=>whnf
    repeat' (first|refine zx ?_|refine ⟨_,E5 e2 om om,?_⟩|apply zD<;>intro<;>try omega)<;>conv=>whnf
    all_goals first|omega|(exfalso;simp_all;done)|exact o4 rfl
   ·have hs':(bz x).sg≠(bz y).sg:=hs;refine ac Tryz.func120 ?_;conv=>whnf
    repeat' (first|refine zx ?_|refine qp (a5c _ _) ?_|apply zD<;>intro<;>try omega)<;>conv=>whnf
    all_goals first|omega|(exfalso;simp_all;done)|exact o4 (b5r hs)
def b4i (a:Bg):Bg:=if J6 a then bz (-bv a) else ⟨0,[]⟩
def br5 (a:Bg) (la:a.dl.length<=1000000):ec 185 [bgS a] [] (bgS (b4i a)) []:=by
 have r1:=a41 a la;cases ha:J6 a with
 |false=>
  rw [ha] at r1;have e:b4i a=⟨0,[]⟩:=by unfold b4i;rw [ha];rfl
  rw [e];refine ac Tryz.func185 ?_;conv=>whnf
  repeat' (first|refine zx ?_|apply zD<;>intro h<;>try omega)<;>conv=>whnf
  all_goals (first|(exfalso;simp_all;done)|exact n9 rz)
 |true=>
  rw [ha] at r1;obtain ⟨x,rfl⟩:=as9 ha;have e:b4i (bz x)=sgn (0 - (bz x).sg) (bz x).dl:=by
   rw [Int.zero_sub];unfold b4i;rw [ha,b1e (b2P x).1 (by rcases C8 x with ⟨h,h1⟩|⟨h,h1⟩|⟨h,h1⟩<;>rw [ab7,h]<;>simp [h1,aQ7]),a5k,aQ7,ab7];show bz (-x)=_
   congr 1
   rw [Int.neg_mul,ar1]
  rw [e];have hs:-1<=(bz x).sg∧(bz x).sg<=1:=by rcases C8 x with ⟨h,h1⟩|⟨h,h1⟩|⟨h,h1⟩<;>rw [ab7,h]<;>decide
  refine ac Tryz.func185 ?_;conv=>whnf
  repeat' (first|refine zx ?_|refine qp (ag2 _ la) ?_|refine qp (b0K _ _ la) ?_|apply zD<;>intro h<;>try omega)<;>conv=>whnf
  all_goals (first|(exfalso;simp_all;done)|exact n9 rz)
open St1 St2 St3 St4 St5 St6 St7 St8 StA StB StC
set_option maxRecDepth 100000
def a80 {a:Int} (j:Nat) (hj:j<=62):IntKind.wrap .i64 (BitVec.ofInt (IntKind.bits .i64) a &&& BitVec.ofInt (IntKind.bits .i64) ((2 ^ j - 1:Nat):Int)).toNat=a % ((2 ^ j:Nat):Int):=by
 rw [aY9 rfl a j hj];have hp:(2:Nat) ^ j<=2 ^ 62:=at4 de hj;have h0:0<(2:Nat) ^ j:=Nat.pow_pos de;have h1:0<=a % ((2 ^ j:Nat):Int):=am0 _ om;have h2:a % ((2 ^ j:Nat):Int)<((2 ^ j:Nat):Int):=aM0 _ om;rw [lb0 h1];exact (show J8 .i64 _ _ from a3n om om).symm
structure aJ7 (m n:Int):Prop where
 ok:∀a:Int,a0m .and .i64 a m (a % n)
def a7K:aJ7 1048575 1048576:=⟨fun a=>(a80 (a:=a) 20 de).symm⟩
def an1:aJ7 1 2:=⟨fun a=>(a80 (a:=a) 1 de).symm⟩
def ap3 (a:Int):b39 .i64 a 20 (a / 1048576):=by
 show a / 1048576=a.fdiv 1048576;exact (Int.fdiv_eq_ediv_of_nonneg _ de).symm
def O6 {l:LI} {i:Nat} {n:Int} {v:Int} (h:0+n.toNat=i):(toC (l.map j0)).set (0+n.toNat) [C.t (ti v)]=toC ((l.set i v).map j0):=by
 rw [h];simp [toC,j0,a1R]
def R9 {l:LI} {n:Int} {i:Nat} (h:n.toNat=i) (hi:i<l.length):l[0+n.toNat]? =some (dat l i):=by rw [O5,h];exact w6 hi
def bq5 (a b:LI) (ha:Okd a) (hb:Okd b) (la:a.length<=400000) (lb:b.length<=400000) (hab:b.length<=a.length):
 ec 260 [j3 a,j3 b] [] (j3 (dg (val a+val b).toNat)) []:=by
 have l1:(a.map j0).length=a.length:=zq;have l2:(b.map j0).length=b.length:=zq;refine ac Tryz.func260 ?_;conv=>whnf
 repeat' (first|refine zx ?_|refine a0x om om om de ?_|apply zD<;>intro h<;>try omega)<;>conv=>whnf
 refine o9 d9 (σ:=Nat × LI × Int) (fun|(k,out,c)=>([j3 a,j3 b,J,J,J,a1U 0 out,eI c]++Jn 13++[j3 a,eI a.length,eI k]++Jn 32,[o8 out])) (fun x=>a9B a b x.1 x.2.1 x.2.2) (fun x=>a.length - x.1) (0,List.replicate (a.length+1) 0,0) [some 0]
  (a9B.init _ _) ⟨rfl,rfl,⟨d8 rfl rfl rfl ?_ rfl,trivial⟩,⟨k8 rfl,k8 rfl,q9 rfl zq,rfl,k8 rfl,d7 zq,rz⟩⟩ ?_
 ·show List.replicate _ _=_;simp [toC,j0,B6]
 rintro ⟨k,out,c⟩ hI;have hI:a9B a b k out c:=hI;have hlen:=hI.len;have hle:=hI.le;have hc0:=hI.c0;have hc1:=hI.c1;conv=>whnf
 have hda:=ha.dat k;have hdb:=hb.dat k
 repeat' (first|refine zx ?_|refine f7 (w6 om) ?_|refine U9 om (by show _<((out.length:Nat):Int);omega) ?_|refine p8 (R9 rfl om) ?_|refine ⟨_,aJ7.ok (by first|exact a7K|exact an1) _,?_⟩|refine ⟨de,_,ap3 _,?_⟩|apply zD<;>intro h<;>try omega)<;>conv=>whnf
 ·refine ⟨[some 0],(k+1,out.set k ((c+dat a k+dat b k) % 1048576),(c+dat a k+dat b k) / 1048576),⟨rfl,rfl,⟨d8 rfl rfl rfl (O6 om) rfl,trivial⟩,⟨rfl,rfl,q9 rfl zq,rfl,rfl,rfl,d7 om,trivial⟩⟩,hI.step ha hb om,?_⟩;show a.length - (k+1)<a.length - k;omega
 ·have e:dat b k=0:=T7 om;have hst:=hI.step ha hb om;rw [e,a9N] at hst;refine ⟨[some 0],(k+1,out.set k ((c+dat a k) % 1048576),(c+dat a k) / 1048576),⟨rfl,rfl,⟨d8 rfl rfl rfl (O6 om) rfl,trivial⟩,⟨rfl,rfl,q9 rfl zq,rfl,rfl,rfl,d7 om,trivial⟩⟩,hst,?_⟩;show a.length - (k+1)<a.length - k;omega
 ·have hk:k=a.length:=by omega
  subst hk;have hf:=hI.fin om;have t:=a4V (out.set a.length c) zo;rw [hf] at t;refine .inr ⟨_,_,z6 [0] t ⟨a1X (s6 zq rfl zi rfl (O6 om) zq),trivial⟩ rfl,?_⟩;conv=>whnf
  exact as7 (by rw [ap8])
def bw5 (a b:LI) (ha:Okd a) (hb:Okd b) (la:a.length<=400000) (lb:b.length<=400000) (hab:a.length<b.length):
 ec 260 [j3 a,j3 b] [] (j3 (dg (val a+val b).toNat)) []:=by
 have l1:(a.map j0).length=a.length:=zq;have l2:(b.map j0).length=b.length:=zq;refine ac Tryz.func260 ?_;conv=>whnf
 repeat' (first|refine zx ?_|refine a0x om om om de ?_|apply zD<;>intro h<;>try omega)<;>conv=>whnf
 refine o9 d9 (σ:=Nat × LI × Int) (fun|(k,out,c)=>([j3 b,j3 a,J,J,J,a1U 0 out,eI c]++Jn 13++[j3 b,eI b.length,eI k]++Jn 32,[o8 out])) (fun x=>a9B b a x.1 x.2.1 x.2.2) (fun x=>b.length - x.1) (0,List.replicate (b.length+1) 0,0) [some 0]
  (a9B.init _ _) ⟨rfl,rfl,⟨d8 rfl rfl rfl ?_ rfl,trivial⟩,⟨k8 rfl,k8 rfl,q9 rfl zq,rfl,k8 rfl,d7 zq,rz⟩⟩ ?_
 ·show List.replicate _ _=_;simp [toC,j0,B6]
 rintro ⟨k,out,c⟩ hI;have hI:a9B b a k out c:=hI;have hlen:=hI.len;have hle:=hI.le;have hc0:=hI.c0;have hc1:=hI.c1;conv=>whnf
 have hda:=hb.dat k;have hdb:=ha.dat k
 repeat' (first|refine zx ?_|refine f7 (w6 om) ?_|refine U9 om (by show _<((out.length:Nat):Int);omega) ?_|refine p8 (R9 rfl om) ?_|refine ⟨_,aJ7.ok (by first|exact a7K|exact an1) _,?_⟩|refine ⟨de,_,ap3 _,?_⟩|apply zD<;>intro h<;>try omega)<;>conv=>whnf
 ·refine ⟨[some 0],(k+1,out.set k ((c+dat b k+dat a k) % 1048576),(c+dat b k+dat a k) / 1048576),⟨rfl,rfl,⟨d8 rfl rfl rfl (O6 om) rfl,trivial⟩,⟨rfl,rfl,q9 rfl zq,rfl,rfl,rfl,d7 om,trivial⟩⟩,hI.step hb ha om,?_⟩;show b.length - (k+1)<b.length - k;omega
 ·have e:dat a k=0:=T7 om;have hst:=hI.step hb ha om;rw [e,a9N] at hst;refine ⟨[some 0],(k+1,out.set k ((c+dat b k) % 1048576),(c+dat b k) / 1048576),⟨rfl,rfl,⟨d8 rfl rfl rfl (O6 om) rfl,trivial⟩,⟨rfl,rfl,q9 rfl zq,rfl,rfl,rfl,d7 om,trivial⟩⟩,hst,?_⟩;show b.length - (k+1)<b.length - k;omega
 ·have hk:k=b.length:=by omega
  subst hk;have hf:=hI.fin om;have t:=a4V (out.set b.length c) zo;rw [hf] at t;refine .inr ⟨_,_,z6 [0] t ⟨a1X (s6 zq rfl zi rfl (O6 om) zq),trivial⟩ rfl,?_⟩;conv=>whnf
  exact as7 (by rw [ap8])
def bA9 (a b:LI) (ha:Okd a) (hb:Okd b) (la:a.length<=400000) (lb:b.length<=400000):
 ec 260 [j3 a,j3 b] [] (j3 (dg (val a+val b).toNat)) []:=by
 rcases F8 a.length b.length with h|h
 ·exact bw5 a b ha hb la lb h
 ·exact bq5 a b ha hb la lb h
open St1 St2 St3 St4 St5 St6 St7 St8 StA StB StC
set_option maxRecDepth 100000
def by9 (a b:LI) (ha:Okd a) (hb:Okd b) (la:a.length<=400000) (lb:b.length<=a.length) (hv:val b<=val a):
 ec 261 [j3 a,j3 b] [] (j3 (dg (val a - val b).toNat)) []:=by
 have l1:(a.map j0).length=a.length:=zq;have l2:(b.map j0).length=b.length:=zq;refine ac Tryz.func261 ?_;conv=>whnf
 repeat' (first|refine zx ?_|apply zD<;>intro h<;>try omega)<;>conv=>whnf
 refine .inr ⟨_,_,aA4 (b5G a om) rfl rfl rfl rfl,?_⟩;conv=>whnf
 repeat' (first|refine zx ?_|apply zD<;>intro h<;>try omega)<;>conv=>whnf
 refine o9 d9 (σ:=Nat × LI × Int) (fun|(k,out,c)=>([J,j3 b,J,J,J,a1U 0 out,eI c,J,J,J,J,J,eI a.length,eI k]++Jn 29,[o8 out])) (fun x=>aw8 a b x.1 x.2.1 x.2.2) (fun x=>a.length - x.1) (0,a,0) [some 0]
  (aw8.init ha) ⟨rfl,rfl,⟨d8 rfl rfl rfl rfl rfl,trivial⟩,⟨k8 rfl,q9 rfl rfl,rfl,d7 zq,rz⟩⟩ ?_
 rintro ⟨k,out,c⟩ hI;have hI:aw8 a b k out c:=hI;have hlen:=hI.len;have hle:=hI.le;have hc0:=hI.c0;have hc1:=hI.c1;conv=>whnf
 have hda:=hI.ok.dat k;have hdb:=hb.dat k
 repeat' (first|refine zx ?_|refine f7 (w6 om) ?_|refine U9 om (by show _<((out.length:Nat):Int);omega) ?_|refine p8 (R9 (i:=k) rfl om) ?_|refine ⟨_,aJ7.ok (by first|exact a7K|exact an1) _,?_⟩|refine ⟨de,_,ap3 _,?_⟩|apply zD<;>intro h<;>try omega)<;>conv=>whnf
 ·refine ⟨[some 0],(k+1,out.set k ((dat out k - c - dat b k) % 1048576),(dat out k - c - dat b k) / 1048576 % 2),⟨rfl,rfl,⟨d8 rfl rfl rfl (O6 om) rfl,trivial⟩,⟨rfl,q9 rfl zq,rfl,rfl,d7 om,trivial⟩⟩,hI.step ha hb om,?_⟩;show a.length - (k+1)<a.length - k;omega
 ·have e:dat b k=0:=T7 om;have hst:=hI.step ha hb om;rw [e,Int.sub_zero] at hst;refine ⟨[some 0],(k+1,out.set k ((dat out k - c) % 1048576),(dat out k - c) / 1048576 % 2),⟨rfl,rfl,⟨d8 rfl rfl rfl (O6 om) rfl,trivial⟩,⟨rfl,q9 rfl zq,rfl,rfl,d7 om,trivial⟩⟩,hst,?_⟩;show a.length - (k+1)<a.length - k;omega
 ·have hk:k=a.length:=by omega
  subst hk;have hf:=hI.fin om hv;have t:=a4V out om;rw [hf] at t;refine .inr ⟨_,_,z6 [0] t ⟨a1X (s6 zq rfl zi rfl rfl zq),trivial⟩ rfl,?_⟩;conv=>whnf
  exact as7 rfl
set_option maxHeartbeats 1000000 in
def bk5 (a b:LI) (ha:Okd a) (hb:Okd b) (la:a.length<=400000) (lb:b.length<=400000):
 ec 264 [j3 a,j3 b] [] (j3 (dg (val a*val b).toNat)) []:=by
 have l1:(a.map j0).length=a.length:=zq;have l2:(b.map j0).length=b.length:=zq;refine ac Tryz.func264 ?_;conv=>whnf
 repeat' (first|refine zx ?_|refine a0x om om om de ?_|apply zD<;>intro h<;>try omega)<;>conv=>whnf
 refine o9 d9 (σ:=Nat × LI) (fun|(i,out)=>([J,j3 b,J,J,J,a1U 0 out]++Jn 12++[j3 a,eI a.length,eI i]++Jn 46,[o8 out])) (fun x=>a5t a b x.1 x.2) (fun x=>a.length - x.1) (0,List.replicate (a.length+b.length) 0) [some 0]
  (a5t.init a b) ⟨rfl,rfl,⟨d8 rfl rfl rfl ?_ rfl,trivial⟩,⟨k8 rfl,q9 rfl zo,k8 rfl,d7 zq,rz⟩⟩ ?_
 ·show List.replicate _ _=_;rw [show ((((a.map j0).length:Nat):Int)+((b.map j0).length:Nat)).toNat=a.length+b.length by omega];simp [toC,j0,B6]
 rintro ⟨i,out⟩ hI;have hI:a5t a b i out:=hI;have hlen:=hI.len;have hle:=hI.le;conv=>whnf
 repeat' (first|refine zx ?_|refine f7 (w6 om) ?_|apply zD<;>intro h<;>try omega)<;>conv=>whnf
 ·have hi:i<a.length:=by omega
  refine o9 d9 (σ:=Nat × LI × Int) (fun|(k,out,c)=>([J,j3 b,J,J,J,a1U 0 out,eI i,eI (dat a i),eI c,J,J,J,J,J,J,J,J,J,j3 a,eI a.length,eI i,J,J,J,J,j3 b,eI b.length,eI k]++Jn 39,[o8 out])) (fun x=>an4 a b i x.1 x.2.1 x.2.2) (fun x=>b.length - x.1) (0,out,0) [some 0]
   hI.start ⟨rfl,rfl,⟨d8 rfl rfl rfl rfl rfl,trivial⟩,⟨k8 rfl,q9 rfl rfl,rfl,rfl,rfl,k8 rfl,rfl,rfl,k8 rfl,d7 zq,rz⟩⟩ ?_
  rintro ⟨k,out,c⟩ hK;have hK:an4 a b i k out c:=hK;have hlen:=hK.len;have hle:=hK.le;have hc0:=hK.c0;have hc1:=hK.c1;conv=>whnf
  have hdo:=hK.ok.dat (i+k);have hm:=a4B (ha.dat i) (hb.dat k);have e1:((i:Int)+k).toNat=i+k:=om;have e2:((i:Int)+b.length).toNat=i+b.length:=om;have e3:((i:Int)+((b.map j0).length:Nat)).toNat=i+b.length:=om;have hz:=hK.zero (i+b.length) (lbS _)
  repeat' (first|refine zx ?_|refine f7 (w6 om) ?_|refine U9 om (by show _<((out.length:Nat):Int);omega) ?_|refine p8 (R9 e1 om) ?_|refine p8 (R9 e3 om) ?_|refine ⟨_,aJ7.ok (by first|exact a7K|exact an1) _,?_⟩|refine ⟨de,_,ap3 _,?_⟩|apply zD<;>intro h<;>try omega)<;>conv=>whnf
  ·refine ⟨[some 0],(k+1,out.set (i+k) ((dat out (i+k)+dat a i*dat b k+c) % 1048576),(dat out (i+k)+dat a i*dat b k+c) / 1048576),⟨rfl,rfl,⟨d8 rfl rfl rfl (O6 om) rfl,trivial⟩,⟨rfl,q9 rfl zq,rfl,rfl,rfl,rfl,rfl,rfl,rfl,rfl,d7 om,trivial⟩⟩,hK.step ha hb hi om,?_⟩;show b.length - (k+1)<b.length - k;omega
  ·have hk:k=b.length:=by omega
   subst hk;refine ⟨[some 0],(i+1,out.set (i+b.length) (dat out (i+b.length)+c)),⟨rfl,rfl,⟨d8 rfl rfl rfl (O6 om) rfl,trivial⟩,⟨rfl,q9 rfl zq,rfl,rfl,d7 om,trivial⟩⟩,hK.done ha hb hi,?_⟩;show a.length - (i+1)<a.length - i;omega
 ·have hi:i=a.length:=by omega
  subst hi;have hf:=hI.fin;have t:=a4V out om;rw [hf] at t;refine .inr ⟨_,_,z6 [0] t ⟨a1X (s6 zq rfl zi rfl rfl zq),trivial⟩ rfl,?_⟩;conv=>whnf
  exact as7 rfl
set_option maxHeartbeats 1000000 in
def bw0 (a b:LI) (ha:Okd a) (hb:Okd b) (la:a.length<=400000) (lb:b.length<=400000):
 ec 264 [j3 a,j3 b] [] (.c (.own 0 0 (dg (val a*val b).toNat).length true)) [o8 (a17 (a.length+b.length) (dg (val a*val b).toNat))]:=by
 have l1:(a.map j0).length=a.length:=zq;have l2:(b.map j0).length=b.length:=zq;refine ac Tryz.func264 ?_;conv=>whnf
 repeat' (first|refine zx ?_|refine a0x om om om de ?_|apply zD<;>intro h<;>try omega)<;>conv=>whnf
 refine o9 d9 (σ:=Nat × LI) (fun|(i,out)=>([J,j3 b,J,J,J,a1U 0 out]++Jn 12++[j3 a,eI a.length,eI i]++Jn 46,[o8 out])) (fun x=>a5t a b x.1 x.2) (fun x=>a.length - x.1) (0,List.replicate (a.length+b.length) 0) [some 0]
  (a5t.init a b) ⟨rfl,rfl,⟨d8 rfl rfl rfl ?_ rfl,trivial⟩,⟨k8 rfl,q9 rfl zo,k8 rfl,d7 zq,rz⟩⟩ ?_
 ·show List.replicate _ _=_;rw [show ((((a.map j0).length:Nat):Int)+((b.map j0).length:Nat)).toNat=a.length+b.length by omega];simp [toC,j0,B6]
 rintro ⟨i,out⟩ hI;have hI:a5t a b i out:=hI;have hlen:=hI.len;have hle:=hI.le;conv=>whnf
 repeat' (first|refine zx ?_|refine f7 (w6 om) ?_|apply zD<;>intro h<;>try omega)<;>conv=>whnf
 ·have hi:i<a.length:=by omega
  refine o9 d9 (σ:=Nat × LI × Int) (fun|(k,out,c)=>([J,j3 b,J,J,J,a1U 0 out,eI i,eI (dat a i),eI c,J,J,J,J,J,J,J,J,J,j3 a,eI a.length,eI i,J,J,J,J,j3 b,eI b.length,eI k]++Jn 39,[o8 out])) (fun x=>an4 a b i x.1 x.2.1 x.2.2) (fun x=>b.length - x.1) (0,out,0) [some 0]
   hI.start ⟨rfl,rfl,⟨d8 rfl rfl rfl rfl rfl,trivial⟩,⟨k8 rfl,q9 rfl rfl,rfl,rfl,rfl,k8 rfl,rfl,rfl,k8 rfl,d7 zq,rz⟩⟩ ?_
  rintro ⟨k,out,c⟩ hK;have hK:an4 a b i k out c:=hK;have hlen:=hK.len;have hle:=hK.le;have hc0:=hK.c0;have hc1:=hK.c1;conv=>whnf
  have hdo:=hK.ok.dat (i+k);have hm:=a4B (ha.dat i) (hb.dat k);have e1:((i:Int)+k).toNat=i+k:=om;have e2:((i:Int)+b.length).toNat=i+b.length:=om;have e3:((i:Int)+((b.map j0).length:Nat)).toNat=i+b.length:=om;have hz:=hK.zero (i+b.length) (lbS _)
  repeat' (first|refine zx ?_|refine f7 (w6 om) ?_|refine U9 om (by show _<((out.length:Nat):Int);omega) ?_|refine p8 (R9 e1 om) ?_|refine p8 (R9 e3 om) ?_|refine ⟨_,aJ7.ok (by first|exact a7K|exact an1) _,?_⟩|refine ⟨de,_,ap3 _,?_⟩|apply zD<;>intro h<;>try omega)<;>conv=>whnf
  ·refine ⟨[some 0],(k+1,out.set (i+k) ((dat out (i+k)+dat a i*dat b k+c) % 1048576),(dat out (i+k)+dat a i*dat b k+c) / 1048576),⟨rfl,rfl,⟨d8 rfl rfl rfl (O6 om) rfl,trivial⟩,⟨rfl,q9 rfl zq,rfl,rfl,rfl,rfl,rfl,rfl,rfl,rfl,d7 om,trivial⟩⟩,hK.step ha hb hi om,?_⟩;show b.length - (k+1)<b.length - k;omega
  ·have hk:k=b.length:=by omega
   subst hk;refine ⟨[some 0],(i+1,out.set (i+b.length) (dat out (i+b.length)+c)),⟨rfl,rfl,⟨d8 rfl rfl rfl (O6 om) rfl,trivial⟩,⟨rfl,q9 rfl zq,rfl,rfl,d7 om,trivial⟩⟩,hK.done ha hb hi,?_⟩;show a.length - (i+1)<a.length - i;omega
 ·have hi:i=a.length:=by omega
  subst hi;have hf:=hI.fin;have t:=be1 out om;have hp:=aF0 out;rw [hf] at t hp;refine .inr ⟨_,_,t,?_⟩;conv=>whnf
  have hq:a17 (a.length+b.length) (dg (val a*val b).toNat)=out:=by unfold a17;rw [← hlen];exact hp
  rw [hq];exact ⟨⟨[some 0],rfl,rfl,⟨d8 rfl rfl rfl rfl rfl,trivial⟩,⟨rfl,rfl,rfl,fun h=>h⟩⟩⟩
open St1 St2 St3 St4 St5 St6 St7 St8 StA StB StC
set_option maxRecDepth 100000
def b8q {r:Int} (h0:0<=r) (h1:r<4398046511104):J8 .i64 (r*2 ^ min (20:Int).toNat (IntKind.bits .i64)) (r*1048576):=by
 show J8 .i64 (r*1048576) (r*1048576);exact a3n om om
def bt6 {k:IntKind} (hk:k.bits=64) (R X:Nat) (h1:R<4398046511104) (hx:X<1048576):(BitVec.ofInt k.bits ((R:Int)*1048576) ||| BitVec.ofInt k.bits (X:Int)).toNat=R*1048576+X:=by
 rw [hk,BitVec.toNat_or,BitVec.toNat_ofInt,BitVec.toNat_ofInt];have e1:(((R:Int)*1048576) % ((2 ^ 64:Nat):Int)).toNat=R <<< 20:=by
  rw [Nat.shiftLeft_eq];omega
 have e2:((X:Int) % ((2 ^ 64:Nat):Int)).toNat=X:=om;rw [e1,e2,←Nat.shiftLeft_add_eq_or_of_lt om,Nat.shiftLeft_eq]
def bx3 {r x:Int} (h0:0<=r) (h1:r<4398046511104) (hx0:0<=x) (hx1:x<1048576):a0m .or .i64 (r*1048576) x (r*1048576+x):=by
 obtain ⟨R,rfl⟩:=a6s h0;obtain ⟨X,rfl⟩:=a6s hx0;unfold a0m;simp only;rw [bt6 rfl R X om om];have e:((R*1048576+X:Nat):Int)=(R:Int)*1048576+X:=zq;rw [e];exact (show J8 .i64 ((R:Int)*1048576+X) _ from a3n om om)
def b7C {a b:Int} (h0:0<=a) (h1:a<=9223372036854775807) (hb:0<b):J8 .i64 (a.tdiv b) (a / b):=by
 rw [a4K h0];have h2:0<=a / b:=au1 h0 om;have h3:a / b<=a:=Int.ediv_le_self _ h0;exact a3n om om
def b57 {l:LI} {n:Nat} (h:0<n) (hn:n<=l.length):l[0+((n:Int) - 1).toNat]? =some (dat l (n - 1)):=by rw [O5];exact a2w h hn
def b46 (a:LI) (d:Int) (ha:Okd a) (la:a.length<=1000000) (hd:0<d) (hd2:d<1048576):
 ec 307 [j3 a,eI d] [] (.tup [j3 (dg (val a / d).toNat),eI (val a % d)]) []:=by
 have l1:(a.map j0).length=a.length:=zq;refine ac Tryz.func307 ?_;conv=>whnf
 repeat' (first|refine zx ?_|refine a0x om om om de ?_|apply zD<;>intro h<;>try omega)<;>conv=>whnf
 refine o9 d9 (σ:=Nat × LI × Int) (fun|(j,out,r)=>([j3 a,eI d,J,J,J,J,a1U 0 out,eI r,eI ((j:Int) - 1)]++Jn 29,[o8 out])) (fun x=>a1j a d x.1 x.2.1 x.2.2) (fun x=>x.1) (a.length,List.replicate a.length 0,0) [some 0]
  (a1j.init a hd) ⟨rfl,rfl,⟨d8 rfl rfl rfl ?_ rfl,trivial⟩,⟨k8 rfl,rfl,q9 rfl zq,rfl,d7 zq,trivial⟩⟩ ?_
 ·show List.replicate _ _=_;simp [toC,j0,B6]
 rintro ⟨j,out,r⟩ hI;have hI:a1j a d j out r:=hI;have hlen:=hI.len;have hle:=hI.le;have hr0:=hI.r0;have hr1:=hI.r1;have hda:=ha.dat (j - 1);conv=>whnf
 repeat' (first|refine zx ?_|refine x5 om (a2w om hle) ?_|refine U9 om (by show _<((out.length:Nat):Int);omega) ?_|refine p8 (b57 om om) ?_|refine ⟨de,_,b8q om om,?_⟩|refine ⟨_,bx3 om om om om,?_⟩|refine ⟨om,_,b7C om om om,?_⟩|refine ak3 om ?_|apply zD<;>intro h<;>try omega)<;>conv=>whnf
 ·obtain ⟨j,rfl⟩:∃i,j=i+1:=⟨j - 1,om⟩;simp only [aM8] at *;have hst:=hI.step ha hd;rw [← a5A om] at hst;refine ⟨[some 0],(j,out.set j ((r*1048576+dat a j) / d),(r*1048576+dat a j).tmod d),⟨rfl,rfl,⟨d8 rfl rfl rfl (O6 om) rfl,trivial⟩,⟨rfl,rfl,q9 rfl zq,rfl,d7 om,trivial⟩⟩,hst,?_⟩;show j<j+1;omega
 ·have hj:j=0:=by omega
  subst hj;obtain ⟨hf,hr⟩:=hI.fin ha hd;have t:=a4V out om;rw [hf] at t;refine .inr ⟨_,_,z6 [0] t ⟨a1X (s6 zq rfl zi rfl rfl zq),trivial⟩ rfl,?_⟩;conv=>whnf
  repeat' (first|refine zx ?_|apply zD<;>intro h<;>try omega)<;>conv=>whnf
  exact n9 ⟨rfl,d7 hr,trivial⟩
open St1 St2 St3 St4 St5 St6 St7 St8 StA StB StC
set_option maxRecDepth 100000
def b3a {pre out post:LI} {k:Nat} (h:k<out.length):(pre++out++post)[pre.length+(k:Int).toNat]? =some (dat out k):=by
 rw [lbE,lbc om,show pre.length+(k:Int).toNat - pre.length=k by omega,lbb h];exact w6 h
def a8W {pre out post:LI} {k:Nat} {v:Int} (h:k<out.length):(toC ((pre++out++post).map j0)).set (pre.length+(k:Int).toNat) [C.t (ti v)]=toC ((pre++out.set k v++post).map j0):=by
 have e:(pre++out++post).set (pre.length+k) v=pre++out.set k v++post:=by
  rw [lbE,List.set_append_right _ _ om,show pre.length+k - pre.length=k by omega,b3y _ _ h,lbE]
 rw [← e];show (toC ((pre++out++post).map j0)).set (pre.length+k) _=_;simp [toC,j0,a1R]
def a07 (w v g:Int):Int:=if g*v<=w then g else g - 1
def b7x (pre w post v:LI) (g:Int) (hw:Okd w) (hv:Okd v) (lw:w.length<=1000000) (lv:v.length<=w.length) (hg:0<=g∧g<1048576) (hgv:g*val v<=val w+val v):
 ec 308 [.c (.own 0 pre.length w.length false),j3 v,eI g] [o8 (pre++w++post)] (eI (a07 (val w) (val v) g))
  [o8 (pre++a17 w.length (dg (val w - a07 (val w) (val v) g*val v).toNat)++post)]:=by
 have l1:(v.map j0).length=v.length:=zq;refine ac Tryz.func308 ?_;conv=>whnf
 repeat' (first|refine zx ?_|apply zD<;>intro h<;>try omega)<;>conv=>whnf
 refine o9 d9 (σ:=Nat × LI × Int) (fun|(k,out,c)=>([S.c (C.own 0 pre.length w.length false),j3 v,eI g,J,J,J,J,eI c,J,J,J,J,J,eI w.length,eI k]++Jn 63,[o8 (pre++out++post)])) (fun x=>af0 w v g x.1 x.2.1 x.2.2) (fun x=>w.length - x.1) (0,w,0) [some 0]
  (af0.init g hw) ⟨rfl,rfl,⟨d8 rfl rfl rfl rfl rfl,trivial⟩,⟨⟨rfl,rfl,rfl,fun h=>h⟩,k8 rfl,rz⟩⟩ ?_
 rintro ⟨k,out,c⟩ hI;have hI:af0 w v g k out c:=hI;have hlen:=hI.len;have hle:=hI.le;have hc0:=hI.c0;have hc1:=hI.c1;have hdo:=hI.ok.dat k;have hm:=a4B hg (hv.dat k);conv=>whnf
 repeat' (first|refine zx ?_|refine f7 (w6 om) ?_|refine p8 (b3a om) ?_|refine ⟨_,aJ7.ok (by first|exact a7K|exact an1) _,?_⟩|refine ⟨de,_,ap3 _,?_⟩|apply zD<;>intro h<;>try omega)<;>conv=>whnf
 ·have hst:=hI.step hv hg om;refine ⟨[some 0],(k+1,out.set k ((dat out k - c - g*dat v k) % 1048576),-((dat out k - c - g*dat v k) / 1048576)),⟨rfl,rfl,⟨d8 rfl rfl rfl (a8W om) rfl,trivial⟩,⟨⟨rfl,rfl,rfl,fun h=>h⟩,rfl,rfl,d7 (Int.zero_sub _),rfl,d7 om,trivial⟩⟩,hst,?_⟩;show w.length - (k+1)<w.length - k;omega
 ·have hst:=hI.step hv hg om;rw [T7 (l:=v) (i:=k) om,Int.mul_zero,Int.sub_zero] at hst;refine ⟨[some 0],(k+1,out.set k ((dat out k - c) % 1048576),-((dat out k - c) / 1048576)),⟨rfl,rfl,⟨d8 rfl rfl rfl (a8W om) rfl,trivial⟩,⟨⟨rfl,rfl,rfl,fun h=>h⟩,rfl,rfl,d7 (Int.zero_sub _),rfl,d7 om,trivial⟩⟩,hst,?_⟩;show w.length - (k+1)<w.length - k;omega
 ·have hk:k=w.length:=by omega
  subst hk;have hc:c=0:=by assumption
  obtain ⟨h1,h2⟩:=hI.zero lv hw hv hg.1;have hq:a07 (val w) (val v) g=g:=by unfold a07;rw [if_pos (h1.1 hc)]
  rw [hq,←h2 hc,←b3p hI.ok hlen];exact ⟨⟨[some 0],rfl,rfl,⟨d8 rfl rfl rfl rfl rfl,trivial⟩,rfl⟩⟩
 ·have hk:k=w.length:=by omega
  subst hk;have hc:¬c=0:=by assumption
  obtain ⟨h1,h2⟩:=hI.zero lv hw hv hg.1;have hlt:¬g*val v<=val w:=fun h=>hc (h1.2 h)
  have hq:a07 (val w) (val v) g=g - 1:=by unfold a07;rw [if_neg hlt]
  have hvl:=W3 hv;have hpw:=a0W lv;rw [hq];refine o9 d9 (σ:=Nat × LI × Int) (fun|(k,o,c)=>([S.c (C.own 0 pre.length w.length false),j3 v,eI g,J,J,J,J,J,J,J,eI c]++Jn 37++[eI w.length,eI k]++Jn 28,[o8 (pre++o++post)])) (fun x=>a87 out v x.1 x.2.1 x.2.2) (fun x=>w.length - x.1) (0,out,0) [some 0]
   (a87.init hI.ok) ⟨rfl,rfl,⟨d8 rfl rfl rfl rfl rfl,trivial⟩,⟨⟨rfl,rfl,rfl,fun h=>h⟩,k8 rfl,rz⟩⟩ ?_
  rintro ⟨k,o,c'⟩ hB;have hB:a87 out v k o c':=hB;have hlen2:=hB.len;have hle2:=hB.le;have hb0:=hB.c0;have hb1:=hB.c1;have hdo:=hB.ok.dat k;have hdv:=hv.dat k;conv=>whnf
  repeat' (first|refine zx ?_|refine f7 (w6 om) ?_|refine p8 (b3a om) ?_|refine ⟨_,aJ7.ok (by first|exact a7K|exact an1) _,?_⟩|refine ⟨de,_,ap3 _,?_⟩|apply zD<;>intro h<;>try omega)<;>conv=>whnf
  ·have hst:=hB.step hv om;refine ⟨[some 0],(k+1,o.set k ((c'+dat o k+dat v k) % 1048576),(c'+dat o k+dat v k) / 1048576),⟨rfl,rfl,⟨d8 rfl rfl rfl (a8W om) rfl,trivial⟩,⟨⟨rfl,rfl,rfl,fun h=>h⟩,rfl,rfl,rfl,rfl,d7 om,trivial⟩⟩,hst,?_⟩;show w.length - (k+1)<w.length - k;omega
  ·have hst:=hB.step hv om;rw [T7 (l:=v) (i:=k) om,a9N] at hst;refine ⟨[some 0],(k+1,o.set k ((c'+dat o k) % 1048576),(c'+dat o k) / 1048576),⟨rfl,rfl,⟨d8 rfl rfl rfl (a8W om) rfl,trivial⟩,⟨⟨rfl,rfl,rfl,fun h=>h⟩,rfl,rfl,rfl,rfl,d7 om,trivial⟩⟩,hst,?_⟩;show w.length - (k+1)<w.length - k;omega
  ·have hk:k=w.length:=by omega
   subst hk;have e:=hI.back hB lv om om;have e2:val w - (g - 1)*val v=val w - g*val v+val v:=by rw [Int.sub_mul];omega
   rw [e2,←e,←b3p hB.ok om];exact ⟨⟨[some 0],rfl,rfl,⟨d8 rfl rfl rfl rfl rfl,trivial⟩,rfl⟩⟩
open St1 St2 St3 St4 St5 St6 St7 St8 StA StB StC
set_option maxRecDepth 100000
abbrev b2m (m n:Nat):S:=.tup [j3 (dg (m / n)),j3 (dg (m % n))]
def bm0 (m n:Nat) (hn:0<n) (h:m<n) (lm:(dg m).length<=400000) (ln:(dg n).length<=400000):
 ec 253 [j3 (dg m),j3 (dg n)] [] (b2m m n) []:=by
 have c:=a3M (dg m) (dg n) (U5 m) (U5 n) om om;rw [p9,p9,a4i om] at c;have e1:m / n=0:=Nat.div_eq_of_lt h;have e2:m % n=m:=b32 h;unfold b2m;rw [e1,e2,a0b];refine ac Tryz.func253 ?_;conv=>whnf
 repeat' (first|refine zx ?_|refine qp (ag2 _ om) ?_|apply zD<;>intro h<;>try omega)<;>conv=>whnf
 exact n9 rz
def bo5 (m n:Nat) (hn:0<n) (h:n<=m) (hl:(dg n).length=1) (lm:(dg m).length<=400000):
 ec 253 [j3 (dg m),j3 (dg n)] [] (b2m m n) []:=by
 have l2:((dg n).map j0).length=(dg n).length:=zq;have c:=a3M (dg m) (dg n) (U5 m) (U5 n) om om;rw [p9,p9] at c;have hc:0<=M6 m n:=by unfold M6;split<;>(try split)<;>omega
 have hn2:=Q4 n;rw [hl] at hn2;have hn3:(n:Int)<1048576:=by simpa [pw] using hn2
 have hd:dg n=[(n:Int)]:=by
  rw [a7Y hn,show n / 1048576=0 by omega,show n % 1048576=n by omega];rfl
 have sh:=b46 (dg m) n (v5 m) om om hn3;rw [p9] at sh;have e1:((m:Int) / n).toNat=m / n:=by rw [← Int.natCast_ediv];rfl
 have e2:(m:Int) % n=((m % n:Nat):Int):=zq;rw [e1,e2] at sh;have hr:m % n<n:=a8T _ hn;have t:=a4V [((m % n:Nat):Int)] zq;rw [N7 (by intro x hx;simp at hx;omega)] at t;have e3:(val [((m % n:Nat):Int)]).toNat=m % n:=by simp only [val];omega
 rw [e3] at t;refine ac Tryz.func253 ?_;conv=>whnf
 repeat' (first|refine zx ?_|refine x5 (x:=(n:Int)) om (by rw [hd];rfl) ?_|refine .inl ⟨_,_,a1k t ⟨a1X (aY4 rfl),trivial⟩ rfl,?_⟩|apply zD<;>intro h<;>try omega)<;>conv=>whnf
 all_goals (first|omega|exact n9 rz)
open St1 St2 St3 St4 St5 St6 St7 St8 StA StB StC
def bp9 {n k:Nat} {top:Int} (hn:0<n) (ht:dat (dg n) ((dg n).length - 1)=top) (hk:k<=19) (h1:top*2 ^ k<1048576) (h2:¬top*2 ^ k<524288):
 (dg (n*2 ^ k)).length=(dg n).length∧524288<=dat (dg (n*2 ^ k)) ((dg n).length - 1):=by
 have hl:(dg n).length≠0:=by rw [Ne,a0I,L1];omega
 obtain ⟨l,hl'⟩:∃l,(dg n).length=l+1:=⟨(dg n).length - 1,om⟩;rw [hl',aM8] at ht ⊢;have e1:=u5 (dg n) l;rw [lbn om,p9,ht] at e1;have a1:=v7 ((v5 n).take l);have a2:=W3 ((v5 n).take l);rw [lbs,a32 om] at a2;have t0:=(v5 n).dat l;rw [ht] at t0;obtain ⟨T,rfl⟩:=a6s t0.1;have hp:(0:Int)<2 ^ k:=Int.pow_pos de;have hpp:=K6 l;have e2:(2:Int) ^ k*2 ^ (20 - k)=1048576:=by rw [← Int.pow_add,show k+(20 - k)=20 by omega];rfl
 have h3:(T:Int)<2 ^ (20 - k):=by
  refine b1Z (a:=(2:Int) ^ k) ?_ (R0 hp);rw [e2,a78];exact h1
 have h4:((T:Int)+1)*2 ^ k<=1048576:=by
  have:=lbX (a:=(T:Int)+1) (b:=2 ^ (20 - k)) (c:=2 ^ k) om (R0 hp);rw [e2,a78] at this;exact this
 have hV:(((n*2 ^ k:Nat)):Int)=n*2 ^ k:=zq;have h5:((n*2 ^ k:Nat):Int)<pw (l+1):=by
  rw [hV,J2];have b1:(n:Int)+1<=pw l*(T+1):=by rw [ao6];omega
  have b2:=lbY (c:=(2:Int) ^ k) b1 (R0 hp);have b3:=lbX (c:=pw l) h4 (R0 hpp);rw [← Int.mul_assoc] at b3;rw [Int.add_mul] at b2;omega
 have h6:pw l*524288<=((n*2 ^ k:Nat):Int):=by
  rw [hV];have b1:pw l*T<=(n:Int):=om;have b2:=lbY (c:=(2:Int) ^ k) b1 (R0 hp);have b3:=lbX (a:=524288) (b:=(T:Int)*2 ^ k) (c:=pw l) om (R0 hpp);rw [← Int.mul_assoc] at b3;omega
 have h7:(dg (n*2 ^ k)).length=l+1:=by
  have c1:=N2 h5;rcases F8 (dg (n*2 ^ k)).length (l+1) with c2|c2
  ·have c3:=Q4 (n*2 ^ k);have c4:=a0W (show (dg (n*2 ^ k)).length<=l by omega);omega
  ·omega
 refine ⟨h7,?_⟩;have f1:=u5 (dg (n*2 ^ k)) l;rw [lbn om,p9] at f1;have f2:=W3 ((v5 (n*2 ^ k)).take l);rw [lbs,a32 om] at f2;rcases a6m (dat (dg (n*2 ^ k)) l) 524288 with c|c
 ·exfalso;have:=lbX (a:=dat (dg (n*2 ^ k)) l+1) (b:=524288) (c:=pw l) om (R0 hpp);rw [ao6] at this;omega
 ·exact c
open St1 St2 St3 St4 St5 St6 St7 St8 StA StB StC
set_option maxRecDepth 100000
def b7P {a a' b b':Nat} {x y:S} (h1:a=a') (h2:b=b'):[S.c (.own 0 a b false),x,y]=[S.c (.own 0 a' b' false),x,y]:=by rw [h1,h2]
def b12 {V W v1 top g r:Int} (hG:a0p V W v1 top g r) (hV:0<V) (hW:0<=W) (h1:g<1048576) (h2:g*V<=W+V):
 0<=a07 W V g∧a07 W V g<1048576∧0<=W - a07 W V g*V∧W - a07 W V g*V<V:=by
 have h3:=hG.hi;have h4:=hG.g0;rw [Int.add_mul,a1S] at h3;unfold a07;by_cases hc:g*V<=W
 ·rw [if_pos hc];omega
 ·rw [if_neg hc,Int.sub_mul,a1S];have:g≠0:=by rintro rfl;simp at hc;omega
  omega
theorem zu {p:Prop} (h:p:=by simp [toC];omega):p:=h
set_option maxHeartbeats 4000000 in
def bn8 (m n:Nat) (hn:0<n) (hmn:n<=m) (hl:2<=(dg n).length) (lm:(dg m).length<=300000) (ln:(dg n).length<=300000):
 ec 253 [j3 (dg m),j3 (dg n)] [] (b2m m n) []:=by
 have l1:((dg m).map j0).length=(dg m).length:=zq;have l2:((dg n).map j0).length=(dg n).length:=zq;have c:=a3M (dg m) (dg n) (U5 m) (U5 n) om om;rw [p9,p9] at c;have hc:0<=M6 m n:=by unfold M6;split<;>(try split)<;>omega
 have ht0:=(v5 n).dat ((dg n).length - 1);have ht1:dat (dg n) ((dg n).length - 1)≠0:=(U5 n).2 _ (w6 om);generalize htop:dat (dg n) ((dg n).length - 1)=top at ht0 ht1;refine ac Tryz.func253 ?_;conv=>whnf
 repeat' (first|refine zx ?_|apply zD<;>intro h<;>try omega)<;>conv=>whnf
 refine o9 d9 (σ:=Nat) (fun k=>([j3 (dg m),j3 (dg n),J,J,J,J,J,J,eI (2 ^ k)]++Jn 161,[])) (fun k=>k<=19∧top*2 ^ k<1048576) (fun k=>20 - k) 0 []
  ⟨om,om⟩ ⟨rfl,rfl,trivial,⟨k8 rfl,k8 rfl,rz⟩⟩ ?_
 rintro k ⟨hk1,hk2⟩;have hk1:k<=19:=hk1;have hk2:top*2 ^ k<1048576:=hk2;have hp0:(0:Int)<2 ^ k:=Int.pow_pos de;have hpt:0<top*2 ^ k:=a9r om hp0;have hpk:(2:Int) ^ k<=524288:=by
  have:=at4 (n:=2) de hk1;have e:((2 ^ k:Nat):Int)=2 ^ k:=zq;omega
 have hgl:(dg n)[(((((dg n).map j0).length:Nat):Int) - 1).toNat]? =some top:=by rw [l2,←htop];exact a81 om
 conv=>whnf
 repeat' (first|refine zx ?_|refine x5 om hgl ?_|apply zD<;>intro h<;>try omega)<;>conv=>whnf
 ·have hlt:top*2 ^ k<524288:=by omega
  refine ⟨[],k+1,⟨rfl,rfl,trivial,⟨rfl,rfl,d7 (Int.pow_succ _ _).symm,trivial⟩⟩,⟨?_,?_⟩,?_⟩
  ·rcases F8 k 19 with h1|h1
   ·exact h1
   ·have:k=19:=by omega
    subst this;omega
  ·rw [Int.pow_succ,←Int.mul_assoc];omega
  ·show 20 - (k+1)<20 - k;omega
 ·have hsh:Okd [(2:Int) ^ k]:=by intro x hx;simp at hx;omega
  have mu:=bw0 (dg m) [2 ^ k] (v5 m) hsh om zq;have mv:=bk5 (dg n) [2 ^ k] (v5 n) hsh om zq;have ev:val [(2:Int) ^ k]=2 ^ k:=by simp [val]
  rw [ev,p9] at mu mv;generalize hU:((m:Int)*2 ^ k).toNat=U at mu;generalize hV:((n:Int)*2 ^ k).toNat=V at mv;refine .inr ⟨_,_,aA4 (b2L mu ⟨ay0,a1X (aY4 rfl),trivial⟩) rfl rfl rfl rfl,?_⟩;conv=>whnf
  have hVe:V=n*2 ^ k:=by
   have e:((n:Int)*2 ^ k)=((n*2 ^ k:Nat):Int):=zq;rw [← hV,e];exact lbZ _
  have hUe:U=m*2 ^ k:=by
   have e:((m:Int)*2 ^ k)=((m*2 ^ k:Nat):Int):=zq;rw [← hU,e];exact lbZ _
  obtain ⟨lV,hvt⟩:=bp9 hn htop hk1 hk2 h;rw [← hVe] at lV hvt;have hp1:0<2 ^ k:=Nat.pow_pos de;have lU3:(dg m).length<=(dg U).length:=p7 (by rw [hUe];exact aC0 m hp1);have lU2:(dg U).length<=(dg m).length+1:=N2 (by
   have h1:=Q4 m;rw [J2,hUe];have h2:=lbX (a:=2 ^ k) (b:=1048576) (c:=(m:Int)+1) om om;have h3:(((m*2 ^ k:Nat)):Int)=m*2 ^ k:=zq;rw [Int.add_mul] at h2;omega)
  have lU1:(a17 ((dg m).length+[(2:Int) ^ k].length) (dg U)).length<=300001:=by rw [aF5 (by simpa using lU2)];simp;omega
  have l3:((dg V).map j0).length=(dg V).length:=zq;have lmn:(dg n).length<=(dg m).length:=p7 hmn;have l4:(toC [[T.atm (Value.int .i64 0)]]).length=1:=rfl
  repeat' (first|refine zx ?_|refine o6 (by simp [toC,a17]) zu ?_|refine .inl ⟨_,_,a1k mv ⟨ay0,a1X (aY4 rfl),trivial⟩ rfl,?_⟩|refine a0x om om om de ?_|apply zD<;>intro h<;>try omega)<;>conv=>whnf
  have hV0:0<V:=by rw [hVe];exact Nat.mul_pos hn hp1
  refine o9 d9 (σ:=Nat × LI × LI) (fun|(j,u,q)=>(Jn 8++[eI (2 ^ k),a1U 0 u,j3 (dg V),eI (dg V).length,a1U 1 q,eI ((j:Int) - 1)]++Jn 156,[o8 u,o8 q])) (fun x=>af3 U V ((dg U).length+1) (dg V).length x.1 x.2.1 x.2.2) (fun x=>x.1)
   ((dg U).length+1 - (dg V).length,dg U++[0],List.replicate ((dg U).length+1 - (dg V).length) 0) [some 1,some 2]
   (af3.init hV0 om) ⟨rfl,rfl,⟨d8 rfl rfl rfl ?_ rfl,d8 rfl rfl rfl ?_ rfl,trivial⟩,⟨rfl,q9 rfl ?_,k8 rfl,d7 om,q9 rfl ?_,d7 ?_,trivial⟩⟩ ?_
  ·simp [toC,F5,a17,lbD,List.take_append,j0]
  ·show List.replicate _ _=_;simp [toC,j0,B6]
  ·simp [toC]
  ·simp [toC]
  ·simp [toC]
  rintro ⟨j,u,q⟩ hD;have hD:af3 U V ((dg U).length+1) (dg V).length j u q:=hD;have hlu:=hD.lu;have hlq:=hD.lq;have hle:=hD.le;have hdt:0<j->dat u (j - 1+(dg V).length)=dat u (j - 1+(dg V).length):=fun _=>rfl
  have gu0:0<j->u[0+(((j:Int) - 1)+(dg V).length).toNat]? =some (dat u (j - 1+(dg V).length)):=fun h=>R9 om om
  have gu1:0<j->u[0+(((j:Int) - 1)+(dg V).length - 1).toNat]? =some (dat u (j - 1+(dg V).length - 1)):=fun h=>R9 om om
  have d0:=hD.oku.dat (j - 1+(dg V).length);have d1:=hD.oku.dat (j - 1+(dg V).length - 1);have dv:=(v5 V).dat ((dg V).length - 1);have hvt2:524288<=dat (dg V) ((dg V).length - 1):=by rw [lV];exact hvt
  conv=>whnf
  repeat' (first|refine zx ?_|refine U9 om (by show _<((u.length:Nat):Int);omega) ?_|refine p8 (gu0 om) ?_|refine p8 (gu1 om) ?_|refine ⟨de,_,b8q om om,?_⟩|refine ⟨_,bx3 om om om om,?_⟩|refine x5 om (a81 om) ?_|refine ⟨om,_,b7C om om om,?_⟩|refine ak3 om ?_|apply zD<;>intro h<;>try omega)<;>conv=>whnf
  ·have hj:0<j:=by omega
   obtain ⟨i,rfl⟩:∃i,j=i+1:=⟨j - 1,om⟩;simp only [aM8] at *;obtain ⟨L,hL⟩:∃L,(dg V).length=L+2:=⟨(dg V).length - 2,om⟩;obtain ⟨w3,w2,w0,wv,wz,wlt⟩:=hD.window rfl;generalize hw:(u.drop i).take ((dg V).length+1)=w at w3 w2 wv wlt;have hwo:Okd w:=by rw [← hw];exact (hD.oku.drop i).take _
   have dw:∀t,t<=(dg V).length->dat w t=dat u (i+t):=fun t ht=>by
    rw [← hw];unfold dat;rw [lbl,lbi,if_pos om,lbj,←lbl]
   have win:=Win.of (v5 V) hwo hL om (by rw [hL] at hvt2;exact hvt2) (by rw [p9];exact wlt);rw [dw (L+2) om,dw (L+1) om,dw L om,p9] at win;have eL1:(dg V).length - 1=L+1:=om;have eu0:i+(L+2)=i+(dg V).length:=om;have eu1:i+(L+1)=i+(dg V).length - 1:=om;rw [eu0,eu1] at win;generalize ht:dat u (i+(dg V).length)*1048576+dat u (i+(dg V).length - 1)=top2 at win;have win':=win;have ht0:=win.t0;refine o9 d9 (σ:=Int × Int) (fun|(g,r)=>(Jn 8++[eI (2 ^ k),a1U 0 u,j3 (dg V),eI (dg V).length,a1U 1 q,eI i,J,eI g,eI r]++Jn 153,[o8 u,o8 q])) (fun x=>a0p V (val w) (dat (dg V) (L+1)) top2 x.1 x.2) (fun x=>x.1.toNat)
    (top2 / dat (dg V) (L+1),top2 % dat (dg V) (L+1)) [some 0,some 1]
    (a0p.init win) ⟨rfl,rfl,⟨d8 rfl rfl rfl rfl rfl,d8 rfl rfl rfl rfl rfl,trivial⟩,⟨rfl,q9 rfl rfl,k8 rfl,rfl,q9 rfl rfl,d7 om,d7 ?_,d7 ?_,trivial⟩⟩ ?_
   ·rw [eL1]
   ·rw [eL1,a5A ht0]
   rintro ⟨g,r⟩ hG;have hG:a0p V (val w) (dat (dg V) (L+1)) top2 g r:=hG;have hg0:=hG.g0;have hgu:=hG.gu;have hr0:=hG.r0;have hru:=hG.ru;have dv2:=(v5 V).dat L;have dv1:=(v5 V).dat (L+1);have du2:=hD.oku.dat (i+L);have hgm:0<=g*dat (dg V) L∧g*dat (dg V) L<=2097152*1048576:=⟨lb1 hg0 dv2.1,a7I hgu om dv2.1 om⟩;have gv2:(dg V)[((((dg V).length:Nat):Int) - 2).toNat]? =some (dat (dg V) L):=by rw [show ((((dg V).length:Nat):Int) - 2).toNat=L by omega];exact w6 om
   have gv1:(dg V)[((((dg V).length:Nat):Int) - 1).toNat]? =some (dat (dg V) (L+1)):=by rw [show ((((dg V).length:Nat):Int) - 1).toNat=L+1 by omega];exact w6 om
   have gu2:u[0+((i:Int)+((dg V).length:Nat) - 2).toNat]? =some (dat u (i+L)):=R9 om om;conv=>whnf
   repeat' (first|refine zx ?_|refine U9 om (by show _<((u.length:Nat):Int);omega) ?_|refine x5 om gv2 ?_|refine x5 om gv1 ?_|refine p8 gu2 ?_|refine ⟨de,_,b8q om om,?_⟩|refine ⟨_,bx3 om om om om,?_⟩|refine a63 om om (by show _<=((u.length:Nat):Int);omega) ?_|apply zD<;>intro h<;>try omega)<;>conv=>whnf
   ·have hgc:1048576<=g:=by omega
    have hst:=a0p.step win hG (.inl hgc) (v7 hwo);exact ⟨[some 0,some 1],(g - 1,r+dat (dg V) (L+1)),⟨rfl,rfl,⟨d8 rfl rfl rfl rfl rfl,d8 rfl rfl rfl rfl rfl,trivial⟩,⟨rfl,q9 rfl rfl,rfl,rfl,q9 rfl rfl,rz⟩⟩,hst,by have:=hst.g0;show (g - 1).toNat<g.toNat;omega⟩
   ·have hgc:r<1048576∧r*1048576+dat u (i+L)<g*dat (dg V) L:=by omega
    have hst:=a0p.step win hG (.inr hgc) (v7 hwo);exact ⟨[some 0,some 1],(g - 1,r+dat (dg V) (L+1)),⟨rfl,rfl,⟨d8 rfl rfl rfl rfl rfl,d8 rfl rfl rfl rfl rfl,trivial⟩,⟨rfl,q9 rfl rfl,rfl,rfl,q9 rfl rfl,rz⟩⟩,hst,by have:=hst.g0;show (g - 1).toNat<g.toNat;omega⟩
   all_goals
    have hgc:¬(1048576<=g∨(r<1048576∧r*1048576+dat u (i+L)<g*dat (dg V) L)):=om;obtain ⟨hg1,hgV⟩:=a0p.fin win hG hgc (by
     have h1:=win.Vl;have h3:=win.v1l;have h2:=lbX (a:=1048576) (b:=dat (dg V) (L+1)*1048576+dat (dg V) L) om (R0 win.P0);omega)
    have st:=b7x (u.take i) w (u.drop (i+((dg V).length+1))) (dg V) g hwo (v5 V) om om ⟨hg0,hg1⟩ (by rw [p9];exact hgV);rw [p9] at st;obtain ⟨q0,q1,q2,q3⟩:=b12 hG om (v7 hwo) hg1 hgV;have hds:=hD.step rfl hV0 ⟨q0,q1⟩ (by rw [hw];exact q2) (by rw [hw];exact q3);rw [hw] at hds;generalize a07 (val w) V g=Q at st q0 q1 q2 q3 hds;rw [← w3,w2] at st;generalize hu':u.take i++a17 ((dg V).length+1) (dg (val w - Q*V).toNat)++u.drop (i+((dg V).length+1))=u' at st hds;refine .inr ⟨_,_,W4 (H':=[o8 u',o8 q]) [0] st (b7P (by rw [w0];omega) om) rfl rfl de ?_ zq zq rfl rfl rfl ?_ ?_,?_⟩
    ·intro i k hk
     match i,hk with
     |0,hk=>
      injection hk with hk;subst hk;exact ⟨rfl,rfl,a57 _,_,rfl,B3 rfl⟩
    ·intro i k hk
     match i,hk with
     |0,hk=>
      injection hk with hk;subst hk;exact ⟨_,rfl,B3 rfl⟩
    ·intro j hj hn
     match j,hj with
     |0,_=>simp at hn
     |1,_=>rfl
    conv=>whnf
    have hlu':=hds.lu;refine zz ?_;conv=>whnf
    repeat' (first|refine zx ?_|refine p8 (R9 rfl om) ?_|apply zD<;>intro h<;>try omega)<;>conv=>whnf
    exact ⟨[some 0,some 1],(i,u',q.set i Q),⟨rfl,rfl,⟨d8 rfl rfl rfl rfl rfl,d8 rfl rfl rfl (O6 (i:=i) (n:=(i:Int)) zq) rfl,trivial⟩,⟨rfl,q9 rfl (hlu.trans hlu'.symm),rfl,rfl,q9 rfl zq,rz⟩⟩,hds,by show i<i+1;omega⟩
  ·have hj:j=0:=by omega
   subst hj;obtain ⟨fq,fu⟩:=hD.fin hV0;have tu:=a4V u om;rw [N7 hD.oku,fu,lbZ] at tu;have tq:=a4V q om;rw [N7 hD.okq,fq,lbZ] at tq;have lUV:(dg (U % V)).length<=(dg U).length:=p7 (Nat.mod_le _ _);have sh:=b46 (dg (U % V)) (2 ^ k) (v5 _) om om om;have e1:U % V / 2 ^ k=m % n:=by rw [hUe,hVe,Nat.mul_mod_mul_right,Nat.mul_div_cancel _ hp1]
   have e2:U / V=m / n:=by rw [hUe,hVe,Nat.mul_div_mul_right _ _ hp1]
   have e3:((U % V:Nat):Int) / 2 ^ k=((m % n:Nat):Int):=by rw [← e1];simp
   rw [p9,e3,lbZ] at sh;rw [e2] at tq;refine .inr ⟨_,_,z6 [0] tu ⟨a1X (s6 zq rfl zi rfl rfl zq),trivial⟩ rfl,?_⟩;conv=>whnf
   repeat' (first|refine zx ?_|apply zD<;>intro h<;>try omega)<;>conv=>whnf
   refine .inr ⟨_,_,z6 [1] tq ⟨a1X (s6 zq rfl zi rfl rfl zq),trivial⟩ rfl,?_⟩;conv=>whnf
   exact n9 rz
def bj9 (m n:Nat) (hn:0<n) (lm:(dg m).length<=300000) (ln:(dg n).length<=300000):
 ec 253 [j3 (dg m),j3 (dg n)] [] (b2m m n) []:=by
 rcases F8 m n with h|h
 ·exact bm0 m n hn h om om
 ·have h1:(dg n).length≠0:=by rw [Ne,a0I,L1];omega
  by_cases hl:(dg n).length=1
  ·exact bo5 m n hn h hl om
  ·exact bn8 m n hn h om lm ln
end Go.Proofs.YtikokmdpigploaaGreat
