/- Part 15. -/
import Derived.RangeFuncWrites
import Derived.RangeFuncBox
import Derived.RangeFuncLeaves
import Derived.Shelf.Abstract
import Derived.Shelf.RegionOpen
import Derived.OwnWalkIn
import Derived.TacticsInMore
import Derived.LoopNIn
import Derived.LoopIn
import Derived.Maps.AppendAt
import Derived.ArgAppend
import Derived.Test.YtikokmdpigploaaGreatProg
import Derived.OrdersIn
import Derived.TacticsIn
import Derived.Test.YtikokmdpigploaaGreatKl6
namespace Go.Proofs.YtikokmdpigploaaGreat
set_option linter.all false
set_option maxRecDepth 100000
set_option maxHeartbeats 8000000
open Go.RowKit
open St1 St2 St3 St4 St5 St6 St7 St8 StA StB StC
theorem b0g (e:Ev) (hs:e.Sized) (hh mat lo hi:Int):e8 Tryz.prog 80 [evS e,e7 .i64 hh,e7 .i64 mat,e7 .i64 lo,e7 .i64 hi] [] (j7 (J2 e hh mat lo hi)) []:=by
 have l1:=hs.s2
 have l2:(e.moves.map C6.row).length=e.moves.length:=by simp
 have l3:(e.places.map a0l.row).length=e.places.length:=by simp
 have ck:=b1F e hs
 by_cases h0:I1 e=0
 ·have e1:J2 e hh mat lo hi=B6 (fun _ m=>a5v e hh mat lo hi m) 0 e.moves:=iA h0
  rw [e1]
  let P:Nat->C6->Bool:=fun _ m=>a5v e hh mat lo hi m
  (refine ac Tryz.func80 ?_;(conv=>whnf);repeat ((first|refine b0x ?_|refine zy ?_);conv=>whnf))
  repeat' (first|refine zx ?_|refine qp ck ?_|refine zd ?_ ?_<;>intro h<;>try omega|fail)<;>conv=>whnf
  all_goals try omega
  refine k5 g8 (fun k=>([J,e7 .i64 hh,e7 .i64 mat,e7 .i64 lo,e7 .i64 hi,S.c (C.t (T.ptr (evT e))),J,J,J,J,J,a1D 0 (V7 P e.moves k),e7 .i64 k]++Jn 57,[w7 (V7 P e.moves k)])) e.moves.length (fun k=>True) [none] trivial
   ⟨rfl,rfl,⟨⟨rfl,rfl⟩,trivial⟩,⟨rfl,rfl,rfl,rfl,rfl,⟨rfl,rfl,rfl⟩,rfl,trivial⟩⟩ ?_
  intro k hk _
  by_cases hlt:k<e.moves.length
  ·obtain ⟨x,hx⟩:∃x,e.moves[k]? =some x:=⟨_,lbf hlt⟩
   have hmk:=R9 h0 (lbm hx)
   have h1:=a1t hmk
   obtain ⟨p,hp⟩:∃p,e.places[x.src.toNat]? =some p:=⟨_,lbf (by omega)⟩
   have ri:=a7W x.day lo hi
   have hpl:=a7E P e.moves k
   have eP:P k x=(decide (p.kind=0) && decide (p.hh=hh) && (decide (mat=-1) || decide (p.mat=mat)) && btw x.day lo hi):=by show a5v e hh mat lo hi x=_;unfold a5v;rw [hp]
   cases hP:P k x with
   |true=>
    rw [hP] at eP
    have eP:=eP.symm
    simp only [lbN,lbO,lbI] at eP
    obtain ⟨⟨⟨q1,q2⟩,q3⟩,q4⟩:=eP
    rw [q4] at ri
    conv=>whnf
    repeat' (first|refine zx ?_|refine qp ri ?_|refine qp toC ?_|refine qp toC ?_|refine j6 hx ?_|refine K3 h1.1 hp ?_|refine zz ?_|refine z6 (by simp [toC]) (by simp [toC];omega) ?_|refine zd ?_ ?_<;>intro h<;>try omega|fail)<;>conv=>whnf
    all_goals first
     |omega
     |(refine ⟨hlt,trivial,[some 2],rfl,rfl,⟨i6 rfl rfl rfl ?_ rfl,trivial⟩,⟨rfl,rfl,rfl,rfl,rfl,t5 rfl ?_,rfl,trivial⟩⟩
       ·rw [a5m P hx hP,lbC]
        exact (congrArg (fun n=>List.take n (toC ((V7 P e.moves k).map j4))++toC [[ti k]]) (by simp)).trans b0U
       ·rw [a5m P hx hP];simp [toC])
   |false=>
    rw [hP] at eP
    have eP:¬(p.kind=0/\p.hh=hh/\(mat=-1\/p.mat=mat)/\btw x.day lo hi=true):=by
     intro h
     obtain ⟨a1,a2,a3,a4⟩:=h
     rw [a4] at eP
     have:(decide (p.kind=0) && decide (p.hh=hh) && (decide (mat=-1) || decide (p.mat=mat)) && true)=true:=by
      simp [a1,a2]
      omega
     rw [← eP] at this
     cases this
    cases hb:btw x.day lo hi with
    |true=>
     rw [hb] at ri eP
     have eP2:¬(p.kind=0/\p.hh=hh/\(mat=-1\/p.mat=mat)):=fun h=>eP ⟨h.1,h.2.1,h.2.2,rfl⟩
     conv=>whnf
     repeat' (first|refine zx ?_|refine qp ri ?_|refine j6 hx ?_|refine K3 h1.1 hp ?_|refine zz ?_|refine zd ?_ ?_<;>intro h<;>try omega|fail)<;>conv=>whnf
     all_goals first
      |omega
      |(exfalso;contradiction)
      |(refine ⟨hlt,trivial,[some 0],rfl,rfl,⟨i6 rfl rfl rfl ?_ rfl,trivial⟩,⟨rfl,rfl,rfl,rfl,rfl,t5 rfl ?_,rfl,trivial⟩⟩
        ·rw [a2F P hx hP]
        ·rw [a2F P hx hP])
    |false=>
     rw [hb] at ri
     clear eP
     conv=>whnf
     repeat' (first|refine zx ?_|refine qp ri ?_|refine j6 hx ?_|refine K3 h1.1 hp ?_|refine zz ?_|refine zd ?_ ?_<;>intro h<;>try omega|fail)<;>conv=>whnf
     all_goals first
      |omega
      |(exfalso;contradiction)
      |(refine ⟨hlt,trivial,[some 0],rfl,rfl,⟨i6 rfl rfl rfl ?_ rfl,trivial⟩,⟨rfl,rfl,rfl,rfl,rfl,t5 rfl ?_,rfl,trivial⟩⟩
        ·rw [a2F P hx hP]
        ·rw [a2F P hx hP])
  ·have hk':B6 P 0 e.moves=V7 P e.moves k:=(ar5 P (by omega)).symm
   conv=>whnf
   repeat' (first|refine zx ?_|refine zd ?_ ?_<;>intro h<;>try omega|fail)<;>conv=>whnf
   all_goals first
    |omega
    |(show Fin 0 _ _ (j7 (B6 P 0 e.moves)) []
      rw [hk']
      exact N3 rfl (by intro h;cases h) rfl rfl (by simp))
 ·have e1:J2 e hh mat lo hi=[]:=iB h0
  rw [e1]
  (refine ac Tryz.func80 ?_;(conv=>whnf);repeat ((first|refine b0x ?_|refine zy ?_);conv=>whnf))
  repeat' (first|refine zx ?_|refine qp ck ?_|refine zd ?_ ?_<;>intro h<;>try omega|fail)<;>conv=>whnf
  all_goals first
   |omega
   |exact p7 (show a9b [] _ (.c (.t (.sl 0 .nil []))) (j7 []) from rfl)
def bd7 (t:k8) (hs:t.Sized) (hh:Int) (hl:(J2 t.ev hh (-1) 0 100000).length<=100000):ec 32 [trS t,eI hh] [] (s6 (ah1 t hh)) []:=by
 have ck:=b0B t hs;have li:=b0g t.ev hs.ev hh (-1) 0 100000;have i1:=a5S 1 de de;by_cases hc:t9 t=0/\0<=hh/\hh<t.ev.hhs
 ·have e:ah1 t hh=H7 t hh:=iA hc;rw [e];obtain ⟨c1,c2,c3⟩:=hc;have m1:((J2 t.ev hh (-1) 0 100000).map j4).length=(J2 t.ev hh (-1) 0 100000).length:=zq;refine ac Tryz.func32 ?_;conv=>whnf
  repeat' (first|refine zx ?_|apply zD<;>intro h<;>try omega)<;>conv=>whnf
  all_goals try omega
  refine k5 g8 (fun k=>([J,J,J,J,J,j7 (J2 t.ev hh (-1) 0 100000),S.c (C.own 0 0 k true),eI k]++Jn 34,[a2e (a3s ((J2 t.ev hh (-1) 0 100000).take k))])) (J2 t.ev hh (-1) 0 100000).length tT [none] trivial
   ⟨rfl,rfl,rz,⟨m7 rfl,rz,g9 rfl,trivial⟩⟩ ?_
  intro k hk _;by_cases hlt:k<(J2 t.ev hh (-1) 0 100000).length
  ·obtain ⟨x,hx⟩:∃x,(J2 t.ev hh (-1) 0 100000)[k]? =some x:=⟨_,lbf hlt⟩;have lk:(a3s ((J2 t.ev hh (-1) 0 100000).take k)).length=k:=by unfold a3s;rw [lbr,lbs];omega
   have lA:k<=(a2e (a3s ((J2 t.ev hh (-1) 0 100000).take k))).rows.length:=by show k<=(toC _).length;rw [toC,lbr,lbr,lk];exact lbR _
   conv=>whnf
   repeat' (first|refine zx ?_|refine j6 hx ?_|refine z6 lA zu ?_|apply zD<;>intro h<;>try omega)<;>conv=>whnf
   all_goals first
    |omega
    |(refine ⟨hlt,trivial,[some 1],rfl,rfl,⟨i6 (rows:=(a3s ((J2 t.ev hh (-1) 0 100000).take (k+1))).map B8) rfl rfl rfl ?_ rfl,trivial⟩,⟨rfl,⟨rfl,rfl,rfl,fun h=>h⟩,g9 om,trivial⟩⟩
      rw [ac6 hx];exact S9 (f:=B8) (x:=(x,((1:Int):Rat))) lk.symm)
  ·have hke:k=(J2 t.ev hh (-1) 0 100000).length:=by omega
   subst hke;conv=>whnf
   repeat' (first|refine zx ?_|apply zD<;>intro h<;>try omega)<;>conv=>whnf
   all_goals first|omega|exact N3 rfl (fun h=>h) rfl (by rw [lbn (lbR _)];rfl) (by simp [H7,a3s])
 ·have e:ah1 t hh=[]:=iB hc;rw [e];refine ac Tryz.func32 ?_;conv=>whnf
  repeat' (first|refine zx ?_|apply zD<;>intro h<;>try omega)<;>conv=>whnf
  all_goals first|omega|exact b0M
def bL0 (x:Rat) (lx:rl x<=60000):ec 164 [frS (fz x)] [] (frS (fz (-x))) []:=by
 have r1:=aD7 x om;have x1:=K6 x;have n:=a5Z x.num om;have e:fz (-x)=⟨bz (-x.num),bz x.den⟩:=by unfold fz;rw [ax3,Rat.neg_den]
 rw [e];refine ac Tryz.func164 ?_;conv=>whnf
 repeat' (first|refine zx ?_|apply zD<;>intro<;>try omega)<;>conv=>whnf
 all_goals first|(exfalso;simp_all;done)|exact p7 rz
def b1u (l:List (Int × Rat)) (hl:l.length<=100000) (hb:∀t ∈ l,rl t.2<=200):ec 91 [s6 l] [] (s6 (E3 l)) []:=by
 have m1:(l.map B8).length=l.length:=zq;refine ac Tryz.func91 ?_;conv=>whnf
 repeat' (first|refine zx ?_|apply zD<;>intro h<;>try omega)<;>conv=>whnf
 refine k5 g8 (fun k=>([s6 l,J,J,S.c (C.own 0 0 k true),eI k]++Jn 22,[a2e ((E3 l).take k)])) l.length tT [none] trivial
  ⟨rfl,rfl,rz,⟨rfl,rz,g9 rfl,trivial⟩⟩ ?_
 intro k hk _;by_cases hlt:k<l.length
 ·obtain ⟨t,ht⟩:∃t,l[k]? =some t:=⟨_,lbf hlt⟩;have bt:=hb t (lbm ht);have ne:=bL0 t.2 om;have en:-t.2=t.2*((-1:Int):Rat):=by
   have e1:((-1:Int):Rat)=-1:=rfl;rw [e1];grind
  rw [en] at ne;have lk:((E3 l).take k).length=k:=by rw [lbs,a3w];omega
  have lA:k<=(a2e ((E3 l).take k)).rows.length:=by show k<=(toC _).length;simp [toC,a3w];omega
  conv=>whnf
  repeat' (first|refine zx ?_|refine j6 ht ?_|refine z6 lA zu ?_|apply zD<;>intro h<;>try omega)<;>conv=>whnf
  all_goals first
   |omega
   |(refine ⟨hlt,trivial,[some 1],rfl,rfl,⟨i6 (rows:=((E3 l).take (k+1)).map B8) rfl rfl rfl ?_ rfl,trivial⟩,⟨rfl,⟨rfl,rfl,rfl,fun h=>h⟩,g9 om,trivial⟩⟩
     rw [show (E3 l).take (k+1)=_ from a3N l _ ht];exact S9 (f:=B8) (x:=(t.1,t.2*((-1:Int):Rat))) lk.symm)
 ·have hke:k=l.length:=by omega
  subst hke;conv=>whnf
  repeat' (first|refine zx ?_|apply zD<;>intro h<;>try omega)<;>conv=>whnf
  all_goals first|omega|exact N3 rfl (fun h=>h) rfl (by rw [lbn (by rw [a3w];exact lbR _)]) (by simp [a3w])
def a6q (s:m8) (g:List (Int × Rat)):m8:=⟨s.n,s.rows++[⟨g,2,((0:Int):Rat)⟩]⟩
def b7W (s:m8) (g:List (Int × Rat)) (hl:s.rows.length<=100000):ec 89 [U9 s,s6 g] [] (U9 (a6q s g)) []:=by
 have m1:(s.rows.map v5).length=s.rows.length:=zq;have i0:=a5S 0 de de;refine ac Tryz.func89 ?_;conv=>whnf
 repeat' (first|refine zx ?_|refine a1e rfl zu ?_|refine z6 (by simp [toC,F8]) zu ?_|refine bl0 [0,1] ?_|apply zD<;>intro h<;>try omega)<;>conv=>whnf
 refine p7 ?_;refine ⟨rfl,?_,trivial⟩;show VC _ (fun id=>M3 [] id=true) (C.own 3 0 _ true) (a04 (a6q s g).rows);refine w6 (rows:=(s.rows++[(⟨g,2,((0:Int):Rat)⟩:C5)]).map v5) rfl rfl (fun h=>h) rfl ?_ ?_
 ·show List.take ([].length+(toC (s.rows.map v5)).length) (toC []++toC (s.rows.map v5))++toC [v5 ⟨g,2,((0:Int):Rat)⟩]=_;rw [lbn zt,lbC];simp [toC]
 ·simp [toC]
def ag9 {s:m8} {g:List (Int × Rat)} (hr:q9 s=true) (hl:s.rows.length<6000) (hg:n7 (-1) s.n g=true):q9 (a6q s g)=true:=by
 unfold q9 at hr ⊢;simp only [lbN,lbI] at hr ⊢;refine ⟨⟨hr.1.1,by simp [a6q];omega⟩,?_⟩;show (s.rows++[_]).all (A6 s.n)=true;rw [a0n,hr.2];simp [A6,hg]
def a15 {s:m8} {g:List (Int × Rat)} (z:List Rat):∀l:List (Int × Rat),n8 (E3 l) z=-(n8 l z):=by
 intro l;have key:∀k,k<=l.length->n8 ((E3 l).take k) z=-(n8 (l.take k) z):=by
  intro k;induction k with
  |zero=>intro _;rw [a81,a81];show (0:Rat)=-0;grind
  |succ k ih=>
   intro hk;have ih:=ih om;have ht:l[k]? =some l[k]:=lbf om;rw [show (E3 l).take (k+1)=_ from a3N l _ ht,K8,aR1 (show k<l.length by omega),K8,show (a2b l ((-1:Int):Rat)).take k=(E3 l).take k from rfl,ih];have e1:((-1:Int):Rat)=-1:=rfl;rw [e1];simp only;grind
 have:=key l.length (lbR _);rwa [lbn (by rw [a3w];exact lbR _),lbn (lbR _)] at this
structure VdP (s:m8) (g:List (Int × Rat)):Prop where
 r:q9 s=true
 p:∀t ∈ g,0<=t.2
 z:H9 s []=.best
 g:n7 (-1) ((s.n.toNat:Nat):Int) g=true
def VdP.og {s:m8} {g:List (Int × Rat)} (h:VdP s g):n7 (-1) ((s.n.toNat:Nat):Int) (E3 g)=true:=a2C h.g
def VdP.pos {s:m8} {g:List (Int × Rat)} (h:VdP s g) {z:List Rat} (hz:k6 s z=true):0<=n8 g z:=a6g (ad7 hz) g h.p
def VdP.least {s:m8} {g:List (Int × Rat)} (h:VdP s g):k6 s (s8 s g)=true/\∀z,k6 s z=true->n8 g (s8 s g)<=n8 g z:=Z9 h.r h.g (aJ7 h.r h.g h.p h.z)
def VdP.has {s:m8} {g:List (Int × Rat)} (h:VdP s g):k6 s (s8 s [])=true:=(Z9 h.r rfl h.z).1
def VdP.ray {s:m8} {g:List (Int × Rat)} (h:VdP s g) {c:Nat} (hc:H9 s (E3 g)=.col c):k6 s (aa5 (s8 s []) (a6p s (E3 g) c))=true/\0<n8 g (aa5 (s8 s []) (a6p s (E3 g) c)):=by
 obtain ⟨h1,h2⟩:=a77 h.r h.og hc;refine ⟨ac0 h.has h1,?_⟩;have h3:=a0V h.has;have hn:=V4 h.r;rw [a4y (n:=s.n.toNat) om h1.len h.g];rw [a15 (s:=s) (g:=g)] at h2;have:=h.pos h.has;grind
def a2U {s:m8} {g:List (Int × Rat)} (h:VdP s g) (hh:Int):
 ((a25 s g hh).state=2/\(∀ z,k6 s z=true->0<n8 g z))\/((a25 s g hh).state=0/\(∀ z,k6 s z=true->n8 g z=0))\/((a25 s g hh).state=1/\(∃ z,k6 s z=true/\0<n8 g z)/\∃z,k6 s z=true/\n8 g z=0):=by
 obtain ⟨h1,h2⟩:=h.least;unfold a25;by_cases hp:0<n8 g (s8 s g)
 ·rw [iA hp];exact .inl ⟨rfl,fun z hz=>by have:=h2 z hz;grind⟩
 ·rw [iB hp];have hz0:n8 g (s8 s g)=0:=by have:=h.pos h1;grind
  rcases not_row (g:=E3 g) h.r h.z with ho|⟨c,ho⟩
  ·rw [ho];simp only;obtain ⟨p1,p2⟩:=Z9 h.r h.og ho;by_cases hn:n8 (E3 g) (s8 s (E3 g))<0
   ·rw [iA hn];rw [a15 (s:=s) (g:=g)] at hn;exact .inr (.inr ⟨rfl,⟨_,p1,by grind⟩,⟨_,h1,hz0⟩⟩)
   ·rw [iB hn];refine .inr (.inl ⟨rfl,fun z hz=>?_⟩);have:=p2 z hz;rw [a15 (s:=s) (g:=g),a15 (s:=s) (g:=g)] at this;rw [a15 (s:=s) (g:=g)] at hn;have:=h.pos p1;have:=h.pos hz;grind
  ·rw [ho];simp only;obtain ⟨r1,r2⟩:=h.ray ho;exact .inr (.inr ⟨rfl,⟨_,r1,r2⟩,⟨_,h1,hz0⟩⟩)
def bk5 {s:m8} {g:List (Int × Rat)} (hh:Int):(a25 s g hh).hh=hh:=by
 unfold a25;split
 ·rfl
 ·split
  ·rfl
  ·split<;>rfl
def bA6 {s:m8} {x:List Rat} {B:Nat} (hr:q9 s=true) (hI:∀w ∈ s.rows,b5r 11 w) (hB:B<=40000) (hn:s.n.toNat*(B+4)+1<=50000) (hl:x.length<=1000000) (hx:∀v ∈ x,rl v<=B):PtB s x:=by
 refine ⟨fun v hv=>lbS (hx v hv) hB,fun w hw k=>?_,hl⟩;obtain ⟨i,hi,rfl⟩:=a0r hw;have hrt:=(a1f hr (lbf hi)).1;have h1:=a61 (P3 (hI _ hw).1) hx k;have h2:=D9 hrt;have h3:s.rows[i].terms.length<=s.n.toNat:=om;have h4:=lbU (B+4) h3;omega
structure ExP (t:k8) (kind:Int) (n:Nat):Prop where
 s:t.Sized
 e:t9 t=0
 k0:0<=kind
 k1:kind<8
 m:t.ev.moves.length<=8
 h:t.ev.hhs=(n:Nat)
 z:H9 (p6 t kind) []=.best
def ExP.vd {t:k8} {kind:Int} {n:Nat} (h:ExP t kind n) (hh:Int):VdP (p6 t kind) (H7 t hh):=by
 have p:=Q2 (kind:=kind) h.e h.m (g:=[]) rfl (fun t ht=>by cases ht);exact ⟨p.o.r,a6Z t hh,h.z,a3G t hh⟩
def bg1 {t:k8} {kind:Int} (ht:t9 t=0) (hm:t.ev.moves.length<=8) {z:List Rat} (hz:k6 (p6 t kind) z=true):H9 (p6 t kind) []=.best:=by
 have p:=Q2 (kind:=kind) ht hm (g:=[]) rfl (fun t ht=>by cases ht);rcases aO4 p.o.r with h|⟨r,h⟩
 ·exact h
 ·rw [a5a h z] at hz;cases hz
def f22:List a1M:=[⟨2,0,5⟩]
def bj4 {t:k8} {kind:Int} {n:Nat} (h:ExP t kind n) (i:Nat) (hA:∀z,k6 (p6 t kind) z=true->0<n8 (H7 t (i:Int)) z):(a25 (p6 t kind) (H7 t (i:Int)) (i:Int)).state=2:=by
 rcases a2U (h.vd (i:Int)) (i:Int) with ⟨h2,_⟩|⟨_,h2⟩|⟨_,_,y,h3,h4⟩
 ·exact h2
 ·have h3:=(h.vd (i:Int)).has;have:=hA _ h3;rw [h2 _ h3] at this;exact absurd this zk
 ·have:=hA _ h3;rw [h4] at this;exact absurd this zk
def b8T {t:k8} {kind:Int} {n:Nat} (h:ExP t kind n) (i:Nat) (hA:∀z,k6 (p6 t kind) z=true->n8 (H7 t (i:Int)) z=0):(a25 (p6 t kind) (H7 t (i:Int)) (i:Int)).state=0:=by
 rcases a2U (h.vd (i:Int)) (i:Int) with ⟨_,h2⟩|⟨h2,_⟩|⟨_,⟨y,h3,h4⟩,_⟩
 ·have h3:=(h.vd (i:Int)).has;have:=h2 _ h3;rw [hA _ h3] at this;exact absurd this zk
 ·exact h2
 ·rw [hA _ h3] at h4;exact absurd h4 zk
def a8S (e:Ev) (m k:Int):Bool:=decide (e.mats<=k) && decide (e.hhs<=6) && decide (e.scs<=6) && decide (e.places.length<=12) && decide ((e.moves.length:Int)<=m) && decide (e.certs.length<=10) && decide (e.recalls.length<=4) && decide (e.purities.length<=6)
def b6E (e:Ev) (m k:Int):ec 73 [evS e,eI m,eI k] [] (m9 (a8S e m k)) []:=by
 have m1:(e.places.map a0l.row).length=e.places.length:=zq;have m2:(e.moves.map C6.row).length=e.moves.length:=zq;have m3:(e.certs.map P5.row).length=e.certs.length:=zq;have m4:(e.recalls.map J1.row).length=e.recalls.length:=zq;have m5:(e.purities.map a2j.row).length=e.purities.length:=zq;refine ac Tryz.func73 ?_;conv=>whnf
 repeat' (first|refine zx ?_|apply zD<;>intro<;>try omega)<;>conv=>whnf
 all_goals
  refine j1 ?_;unfold a8S;simp only [m1,m2,m3,m4,m5] at *;first|(symm;simp only [lbN,lbI];omega)|(symm;rw [← lbQ];simp only [lbN,lbI];omega)
def a5F (t:k8) (m:Int):Bool:=a8S t.ev m 3 && decide (t.ev.hhs<=4) && decide (t.finds.length<=6) && decide (t.cleans.length<=6)
def b8X (t:k8) (m:Int):ec 26 [trS t,eI m] [] (m9 (a5F t m)) []:=by
 have r:=b6E t.ev m 3;have m1:(t.finds.map a1M.row).length=t.finds.length:=zq;have m2:(t.cleans.map W9.row).length=t.cleans.length:=zq;unfold a5F;cases hq:a8S t.ev m 3<;>rw [hq] at r<;>
 ·refine ac Tryz.func26 ?_;conv=>whnf
  repeat' (first|refine zx ?_|apply zD<;>intro<;>try omega)<;>conv=>whnf
  all_goals
   refine j1 ?_;simp only [m1,m2] at *;first|rfl|(symm;simp only [K9,lbN,lbI];omega)|(symm;rw [← lbQ];simp only [lbN,lbI];omega)
def aD8 {t:k8} {m:Int} (hm:m<=100) (h:a5F t m=true):t.Sized/\(t.ev.moves.length:Int)<=m/\t.ev.hhs<=4:=by
 unfold a5F a8S at h;simp only [lbN,lbI] at h;exact ⟨⟨⟨om,om,om,om,om⟩,om,om⟩,om,om⟩
def b9D {Z:List Rat} (hZ:∀v ∈ Z,0<=v):∀l:LI,0<n8 (a3s l) Z↔∃i ∈ l,0<Z.getD i.toNat 0:=by
 have h0:∀i,0<=Z.getD i 0:=fun i=>by
  by_cases h:i<Z.length
  ·exact hZ _ (lbm (getD_some h))
  ·rw [lbl,lbd om];exact lb3
 intro l;have pos:∀l,0<=n8 (a3s l) Z:=fun l=>a6g hZ _ fun u hu=>by
  obtain ⟨i,_,rfl⟩:=lbx.1 hu;show (0:Rat)<=((1:Int):Rat);decide
 have key:∀k,k<=l.length->(0<n8 (a3s (l.take k)) Z↔∃i ∈ l.take k,0<Z.getD i.toNat 0):=by
  intro k;induction k with
  |zero=>
   intro _;rw [a81];constructor
   ·intro h;have:(0:Rat)<0:=h;exact absurd this zk
   ·rintro ⟨i,hi,_⟩;cases hi
  |succ k ih=>
   intro hk;have ih:=ih om;have hx:l[k]? =some l[k]:=lbf om;rw [ac6 hx,K8,K7 hx];have e1:((1:Int):Rat)=1:=rfl;have a1:=pos (l.take k);have a2:=h0 l[k].toNat;simp only [e1];constructor
   ·intro h;by_cases h2:0<Z.getD l[k].toNat 0
    ·exact ⟨_,List.mem_append_right _ (ax2.2 rfl),h2⟩
    ·obtain ⟨i,hi,hp⟩:=ih.1 zg;exact ⟨i,List.mem_append_left _ hi,hp⟩
   ·rintro ⟨i,hi,hp⟩;rcases lbz.1 hi with h|h
    ·have:=ih.2 ⟨i,h,hp⟩;grind
    ·rw [ax2.1 h] at hp;grind
 have:=key l.length (lbR _);rwa [W6] at this
def az3 {t:k8} {h i:Int} (hi:i ∈ J2 t.ev h (-1) 0 100000):0<=i/\i<t.ev.moves.length:=by
 obtain ⟨a1,_⟩:=aH9 t.ev h (-1) 0 100000;obtain ⟨k,hk,he⟩:=a0r hi;have:=a1 k i (by rw [lbf hk,he]);omega
def cnt (p:Nat->Bool):Nat->Nat
 |0=>0
 |k+1=>cnt p k+if p k then 1 else 0
noncomputable def N7 (t:k8) (kind:Int) (i:Nat):Int:=(a25 (p6 t kind) (H7 t (i:Int)) (i:Int)).state
def aK8 {t:Int × Rat} {r:List (Int × Rat)} (h:∀u ∈ r,u.1.toNat≠t.1.toNat) (v:Nat):∀k,k<=r.length->S1 (t::r) (k+1) v=if v=t.1.toNat then t.2 else S1 r k v
 |0,_=>by
  rw [Q0 (l:=t::r) (k:=0) (t:=t) rfl];simp only;by_cases h1:v=t.1.toNat
  ·rw [iA h1,iA h1]
  ·rw [iB h1,iB h1]
   rfl
 |k+1,hk=>by
  have hx:r[k]? =some r[k]:=lbf om;have hne:=h _ (lbm hx);rw [Q0 (l:=t::r) (k:=k+1) (t:=r[k]) zq,Q0 hx];have ih:=aK8 h v k om;simp only;rw [ih];by_cases h1:v=t.1.toNat
  ·rw [iA h1,iA h1,iB om]
  ·rw [iB h1,iB h1]
def a0b {last n:Int} {t:Int × Rat} {r:List (Int × Rat)} (h0:-1<=last) (h:n7 last n (t::r)=true) (v:Nat):L7 (t::r) v=if v=t.1.toNat then t.2 else L7 r v:=by
 refine aK8 (fun u hu=>?_) v r.length (lbR _);obtain ⟨j,hj,he⟩:=a0r hu;have h1:=a8A h 0 (j+1) t u om rfl (by simp [he,hj]);have h2:=L0 h t (at3 ..);omega
def a1B {last n:Int} {t:Int × Rat} {r:List (Int × Rat)} (h:n7 last n (t::r)=true):n7 t.1 n r=true:=by
 unfold n7 at h;simp only [lbN] at h;exact h.2
def b0r {last last' n:Int} (hl:last'<=last) {l:List (Int × Rat)} (h:n7 last n l=true):n7 last' n l=true:=by
 cases l with
 |nil=>rfl
 |cons t r=>
  unfold n7 at h ⊢;simp only [lbN,lbI] at h ⊢;exact ⟨⟨⟨om,h.1.1.2⟩,h.1.2⟩,h.2⟩
def ao3 {last n:Int} {l:List (Int × Rat)} (h0:-1<=last) (h:n7 last n l=true) {v:Nat} (hv:(v:Int)<=last):L7 l v=0:=by
 refine ad3 _ fun i t hi ht e=>?_
 have:=L0 h t (lbm ht);omega
def ae3 {P:Program} {g:FuncId} {n:Nat} {H H':Hp} {r:S} (h1:e8 P g [.c (.t (.sl n .nul []))] H r H') (h2:e8 P g [.c (.t (.sl n .non []))] H r H'):e8 P g [.c (.t (.sl n .any []))] H r H':=by
 refine ⟨h1.1,fun w ι M vals hl hv hH hM hf=>?_⟩;have h0:=hv 0 _ rfl;have key:RS w ι M (.c (.t (.sl n .nul []))) (vals.getD 0 undef)\/RS w ι M (.c (.t (.sl n .non []))) (vals.getD 0 undef):=by
  generalize vals.getD 0 undef=v at h0;cases h0 with
  |c h=>cases h with
   |t h=>cases h with
    |@sl _ _ _ b off cap A f hrow hcap hmax hk hn hA hc hr hx=>
     cases A with
     |none=>exact .inl (.c (.t (.sl (b:=b) (off:=off) f hrow hcap hmax (fun h=>nomatch h) (fun h=>nomatch h) hA hc hr ⟨fun _=>rz,fun h=>nomatch h⟩)))
     |some a=>exact .inr (.c (.t (.sl (b:=b) (off:=off) f hrow hcap hmax (fun h=>nomatch h) (fun h=>nomatch h) hA hc hr ⟨(fun h=>nomatch h),fun _=>(fun h=>nomatch h)⟩)))
 have one:∀s,RS w ι M s (vals.getD 0 undef)->∀j s',[s][j]? =some s'->RS w ι M s' (vals.getD j undef):=fun s hs j s' hj=>by
  cases j with
  |zero=>injection hj with hj;subst hj;exact hs
  |succ j=>simp at hj
 rcases key with k|k
 ·exact h1.2 w ι M vals hl (one _ k) hH hM hf
 ·exact h2.2 w ι M vals hl (one _ k) hH hM hf
def b5Y:ec 134 [.c (.t (.sl 6 .any []))] [] (.c (.own 0 0 0 true)) [V6 []]:=by
 refine ae3 ?_ ?_
 ·refine ac Tryz.func134 ?_;conv=>whnf
  repeat' (first|refine zx ?_|apply zD<;>intro h<;>try omega)<;>conv=>whnf
  all_goals exact ⟨[none],rz⟩
 ·refine ac Tryz.func134 ?_;conv=>whnf
  repeat' (first|refine zx ?_|refine a1e rfl de ?_|apply zD<;>intro h<;>try omega)<;>conv=>whnf
  all_goals exact ⟨[some 0],rfl,rfl,⟨i6 (rows:=([]:List C5).map v5) rfl rfl rfl rfl rfl,trivial⟩,⟨rfl,rfl,rfl,fun h=>h⟩⟩
def b9g (l:List C5) (h1:l.length<=100000):ec 134 [.c (.t (a04 l))] [] (.c (.own 0 0 l.length true)) [V6 l]:=by
 have m1:(l.map v5).length=l.length:=zq;by_cases h0:l.length=0
 ·have:l=[]:=a1C.1 h0;subst this;exact b5Y
 have hl:0<(l.map v5).length:=om;refine ac Tryz.func134 ?_;conv=>whnf
 repeat' (first|refine zx ?_|refine ⟨hl,?_⟩|refine zz ?_|refine a1e rfl (by simp only [toC,lbr,a2l];omega) ?_|refine z6 (G6 _) (by simp only [toC,lbr];omega) ?_|apply zD<;>intro h<;>try omega)<;>conv=>whnf
 all_goals first|omega|exact ⟨[some 0],rfl,rfl,⟨i6 (rows:=l.map v5) rfl rfl rfl rfl rfl,trivial⟩,⟨rfl,rfl,by simp [toC],fun h=>h⟩⟩
structure bK7 where
 hh:Int
 state:Int
 w:List Fr
 wo:List Fr
 pr:List Fr
def bK7.row (v:bK7):List T:=[ti v.hh,ti v.state,U4 v.w,U4 v.wo,U4 v.pr]
def b5b {s:m8} {g:List (Int × Rat)} {Y:List Rat} (hr:q9 s=true) (h:b7F s g Y=true):bN2 s (L7 g) (yN Y) (b6t s (yN Y)):=by
 unfold b7F bt1 at h;simp only [lbN,lbI,lbv] at h;obtain ⟨⟨⟨h1,h2⟩,h3⟩,h4⟩:=h;refine ⟨fun i w hw=>?_,fun l hl=>?_,rfl⟩
 ·have:=h2 i (lbB.2 (lbe.1 hw).1);unfold sgB at this;rw [b2y hw] at this;simp only [a6P,a2f,lbP,lbK] at this;obtain ⟨a,b⟩:=this;exact ⟨fun hk=>by
   rcases a with a|a
   ·exact absurd hk a
   ·exact lb4.1 a,fun hk=>by
   rcases b with b|b
   ·exact absurd hk b
   ·exact lb4.1 b⟩
 ·exact h4 l (lbB.2 hl)
theorem never_holds {s:m8} {g:List (Int × Rat)} {z:List Rat} (hr:q9 s=true) (hl:s.rows.length<6000) (hg:n7 (-1) s.n g=true) (hz:k6 s z=true) (h0:n8 g z=0):k6 (a6q s g) z=true:=by
 obtain ⟨h1,h2,h3,h4⟩:=X7.1 hz;refine X7.2 ⟨ag9 hr hl hg,h2,h3,fun w hw=>?_⟩;rcases lbz.1 hw with h|h
 ·exact h4 w h
 ·have h:=ax2.1 h;subst h;have e1:((0:Int):Rat)=0:=rfl;simp only;rw [h0,e1];exact ⟨fun _=>lb3,fun _=>lb3⟩
def b7U {s:m8} {Y:List Rat} (hr:q9 s=true) (h:bA7 s Y=true) (z:List Rat):k6 s z=false:=by
 cases hz:k6 s z with
 |false=>rfl
 |true=>
  exfalso;unfold bA7 at h;rw [lbN,lbI] at h;have hb:=aF4 (g:=[]) (b5b hr h.1) hz;rw [D5 fun j hj=>by show (0:Rat)*_=0;grind] at hb;have:=h.2;grind
def A9:LI->Nat->List LI
 |_,0=>[[]]
 |[],_+1=>[]
 |x::r,n+1=>(A9 r n).map (x::·)++A9 r (n+1)
def D6 (a b:LI):Bool:=a.all fun x=>b.any fun y=>decide (y=x)
def a4j {a b:LI}:D6 a b=true↔∀x ∈ a,x ∈ b:=by
 unfold D6;rw [lbv];constructor
 ·intro h x hx;obtain ⟨y,hy,e⟩:=lbw.1 (h x hx);rw [← lbL e];exact hy
 ·intro h x hx;exact lbw.2 ⟨x,h x hx,lbH rfl⟩
def I8:∀{l:LI} {n:Nat} {s:LI},s ∈ A9 l n↔s.Sublist l/\s.length=n
 |l,0,s=>by
  simp only [A9,ax2];constructor
  ·rintro rfl;exact ⟨List.nil_sublist _,rfl⟩
  ·rintro ⟨_,h⟩;exact lbF h
 |[],n+1,s=>by
  simp only [A9];constructor
  ·intro h;cases h
  ·rintro ⟨h1,h2⟩;rw [List.sublist_nil.1 h1] at h2;cases h2
 |x::r,n+1,s=>by
  simp only [A9,lbz,lbx];constructor
  ·rintro (⟨q,hq,rfl⟩|h)
   ·obtain ⟨h1,h2⟩:=I8.1 hq;exact ⟨h1.cons_cons x,by simp [h2]⟩
   ·obtain ⟨h1,h2⟩:=I8.1 h;exact ⟨h1.cons x,h2⟩
  ·rintro ⟨h1,h2⟩;cases h1 with
   |cons _ h1=>exact .inr (I8.2 ⟨h1,h2⟩)
   |cons_cons _ h1=>exact .inl ⟨_,I8.2 ⟨h1,by simpa using h2⟩,rfl⟩
def b5A:LI->LI->Bool
 |a::p,b::q=>decide (a<b) || (decide (a=b) && b5A p q)
 |_,_=>false
def a9P:∀{l:LI} {n:Nat},l.Pairwise (·<·)->(A9 l n).Pairwise fun a b=>b5A a b=true
 |l,0,_=>by simp [A9]
 |[],n+1,_=>by simp [A9]
 |x::r,n+1,h=>by
  obtain ⟨h1,h2⟩:=aw5.1 h;simp only [A9];rw [List.pairwise_append];refine ⟨?_,a9P h2,fun a ha b hb=>?_⟩
  ·rw [List.pairwise_map];refine (a9P (n:=n) h2).imp fun {a b} hab=>?_
   simp [b5A,hab]
  ·obtain ⟨q,hq,rfl⟩:=lbx.1 ha;obtain ⟨h3,h4⟩:=I8.1 hb;cases b with
   |nil=>simp at h4
   |cons y b=>
    have:x<y:=h1 y (h3.subset zq);simp [b5A,this]
def J5 (p:LI->Bool) (l:LI) (short:Bool):Nat->List LI
 |0=>[]
 |n+1=>if short=true/\J5 p l short n≠[] then J5 p l short n
  else J5 p l short n++(A9 l n).filter fun s=>!((J5 p l short n).any fun a=>D6 a s) && p s
def aB9 (p:LI->Bool) (l:LI) (short:Bool):List LI:=J5 p l short (l.length+1)
def ad6 {p:LI->Bool} {l:LI} {n:Nat}:J5 p l false (n+1)=J5 p l false n++(A9 l n).filter fun s=>!((J5 p l false n).any fun a=>D6 a s) && p s:=by
 rw [J5,iB zq]
def a11 {p:LI->Bool} {l:LI}:∀{n:Nat} {s:LI},s ∈ J5 p l false n↔s.Sublist l/\s.length<n/\p s=true/\∀a ∈ J5 p l false s.length,D6 a s=false
 |0,s=>by simp [J5]
 |n+1,s=>by
  have ih:=a11 (p:=p) (l:=l) (n:=n) (s:=s);rw [ad6,lbz,ih,lby,I8];simp only [lbN,a6P,←lbQ];constructor
  ·rintro (⟨h1,h2,h3⟩|⟨⟨h1,h2⟩,h3,h4⟩)
   ·exact ⟨h1,om,h3⟩
   ·refine ⟨h1,om,h4,fun a ha h=>h3 ?_⟩;rw [← h2];exact lbw.2 ⟨a,ha,h⟩
  ·rintro ⟨h1,h2,h3,h4⟩;by_cases hn:s.length<n
   ·exact .inl ⟨h1,hn,h3,h4⟩
   ·have hn:s.length=n:=by omega
    refine .inr ⟨⟨h1,hn⟩,fun h=>?_,h3⟩;obtain ⟨a,ha,hp⟩:=lbw.1 h;rw [← hn] at ha;exact h4 a ha hp
def ak7 {l s:LI} (hl:l.Pairwise (·<·)) (h:s.Sublist l):s.Pairwise (·<·):=hl.sublist h
def a9s:∀{a b:LI},a.Pairwise (·<·)->b.Pairwise (·<·)->(∀ x ∈ a,x ∈ b)->a.Sublist b
 |[],b,_,_,_=>List.nil_sublist b
 |x::a,[],_,_,h=>by have:=h x zq;cases this
 |x::a,y::b,ha,hb,h=>by
  obtain ⟨a1,a2⟩:=aw5.1 ha;obtain ⟨b1,b2⟩:=aw5.1 hb;rcases lbA.1 (h x zq) with rfl|hx
  ·refine (a9s a2 b2 fun z hz=>?_).cons_cons x;rcases lbA.1 (h z (by simp [hz])) with rfl|hz2
   ·exact absurd (a1 z hz) om
   ·exact hz2
  ·refine (a9s ha b2 fun z hz=>?_).cons y;rcases lbA.1 (h z hz) with rfl|hz2
   ·rcases lbA.1 hz with rfl|hz3
    ·exact hx
    ·have:=a1 z hz3;have:=b1 x hx;omega
   ·exact hz2
def bh0 {p:LI->Bool} {l:LI} (hl:l.Pairwise (·<·)) {s:LI}:s ∈ aB9 p l false↔s.Sublist l/\p s=true/\∀a,a.Sublist s->a≠s->p a=false:=by
 have key:∀(n:Nat) (s:LI),s.length=n->s.Sublist l->(s ∈ aB9 p l false↔p s=true/\∀a,a.Sublist s->a≠s->p a=false):=by
  intro n;induction n using Nat.strongRecOn with
  |ind n ih=>
   intro s hn hs;unfold aB9;rw [a11];constructor
   ·rintro ⟨_,h2,h3,h4⟩;refine ⟨h3,fun a ha hne=>?_⟩;rw [← lbQ];intro hp;have hlt:a.length<s.length:=by
     rcases H6 a.length s.length with h|h
     ·exact h
     ·exact absurd (ha.eq_of_length_le h) hne
    have ex:∀(k:Nat) (b:LI),b.length=k->b.Sublist s->b.length<s.length->p b=true->∃c,c.Sublist b/\c ∈ aB9 p l false:=by
     intro k;induction k using Nat.strongRecOn with
     |ind k ihk=>
      intro b hb hbs hbl hpb;by_cases hm:∀a,a.Sublist b->a≠b->p a=false
      ·exact ⟨b,List.Sublist.refl _,(ih b.length om b rfl (hbs.trans hs)).2 ⟨hpb,hm⟩⟩
      ·have ⟨c,hc⟩:∃c,c.Sublist b/\c≠b/\p c=true:=by
        apply Y9;intro hno;exact hm fun a h1 h2=>by
         rw [← lbQ];intro h3;exact hno ⟨a,h1,h2,h3⟩
       obtain ⟨c1,c2,c3⟩:=hc;have hcl:c.length<b.length:=by
        rcases H6 c.length b.length with h|h
        ·exact h
        ·exact absurd (c1.eq_of_length_le h) c2
       obtain ⟨d,d1,d2⟩:=ihk c.length om c rfl (c1.trans hbs) om c3;exact ⟨d,d1.trans c1,d2⟩
    obtain ⟨c,c1,c2⟩:=ex a.length a rfl ha hlt hp;obtain ⟨m1,m2,m3,m4⟩:=a11.1 c2;have hc3:c ∈ J5 p l false s.length:=a11.2 ⟨m1,by have:=c1.length_le;omega,m3,m4⟩;have:=h4 c hc3;rw [a4j.2 fun x hx=>ha.subset (c1.subset hx)] at this;cases this
   ·rintro ⟨h1,h2⟩;refine ⟨hs,by have:=hs.length_le;omega,h1,fun a ha=>?_⟩;obtain ⟨m1,m2,m3,m4⟩:=a11.1 ha;rw [← lbQ];intro hp;have hsub:=a9s (ak7 hl m1) (ak7 hl hs) (a4j.1 hp);have:=h2 a hsub (by intro e;rw [e] at m2;omega);rw [this] at m3;cases m3
 constructor
 ·intro h;have h1:=(a11.1 h).1;exact ⟨h1,(key _ s rfl h1).1 h⟩
 ·rintro ⟨h1,h2⟩;exact (key _ s rfl h1).2 h2
def b93 {p:LI->Bool} {l:LI} (hl:l.Pairwise (·<·)):∀(n:Nat) (s:LI),s.length=n->s.Sublist l->p s=true->∃c,c.Sublist s/\c ∈ aB9 p l false:=by
 intro n;induction n using Nat.strongRecOn with
 |ind n ih=>
  intro s hn hs hp;by_cases hm:∀a,a.Sublist s->a≠s->p a=false
  ·exact ⟨s,List.Sublist.refl _,(bh0 hl).2 ⟨hs,hp,hm⟩⟩
  ·have ⟨c,hc⟩:∃c,c.Sublist s/\c≠s/\p c=true:=by
    apply Y9;intro hno;exact hm fun a h1 h2=>by
     rw [← lbQ];intro h3;exact hno ⟨a,h1,h2,h3⟩
   obtain ⟨c1,c2,c3⟩:=hc;have hcl:c.length<s.length:=by
    rcases H6 c.length s.length with h|h
    ·exact h
    ·exact absurd (c1.eq_of_length_le h) c2
   obtain ⟨d,d1,d2⟩:=ih c.length om c rfl (c1.trans hs) c3;exact ⟨d,d1.trans c1,d2⟩
def b0f {p:LI->Bool} {l:LI}:∀n,∃rest,J5 p l false n=J5 p l true n++rest/\(J5 p l true n=[]->rest=[])/\(∀ a ∈ J5 p l true n,∀b ∈ J5 p l true n,a.length=b.length)/\(∀ a ∈ J5 p l true n,∀b ∈ rest,a.length<b.length)
 |0=>⟨[],rfl,fun _=>rfl,by simp [J5],by simp [J5]⟩
 |n+1=>by
  obtain ⟨rest,h1,h2,h3,h4⟩:=b0f (p:=p) (l:=l) n;by_cases hs:J5 p l true n=[]
  ·have hr:=h2 hs;rw [hs,hr] at h1;have e1:J5 p l true (n+1)=(A9 l n).filter fun s=>!((([]:List LI)).any fun a=>D6 a s) && p s:=by
    rw [J5,iB (by rw [hs];simp),hs];rfl
   have e2:J5 p l false (n+1)=(A9 l n).filter fun s=>!((([]:List LI)).any fun a=>D6 a s) && p s:=by
    rw [J5,iB zq,h1];rfl
   refine ⟨[],by rw [e1,e2,Z3],fun _=>rfl,fun a ha b hb=>?_,fun _ _ b hb=>by cases hb⟩;rw [e1] at ha hb;rw [(I8.1 (lby.1 ha).1).2,(I8.1 (lby.1 hb).1).2]
  ·have e1:J5 p l true (n+1)=J5 p l true n:=by rw [J5,iA ⟨rfl,hs⟩]
   refine ⟨rest++(A9 l n).filter fun s=>!((J5 p l false n).any fun a=>D6 a s) && p s,?_,fun h=>absurd (e1 ▸ h) hs,by rw [e1];exact h3,?_⟩
   ·rw [e1];conv=>lhs;rw [J5,iB zq]
    rw [h1,lbD]
   ·rw [e1];intro a ha b hb;rcases lbz.1 hb with hb|hb
    ·exact h4 a ha b hb
    ·have q1:a ∈ J5 p l false n:=by rw [h1];exact lbz.2 (.inl ha)
     have:=(a11.1 q1).2.1;rw [(I8.1 (lby.1 hb).1).2];exact this
def a1V (e:Ev):Nat->List Nat
 |0=>[]
 |k+1=>match e.moves[k]? with
  |some m=>if N9 e m.src=0 then a1V e k++[k] else a1V e k
  |none=>a1V e k
def a5r (e:Ev):List Nat:=a1V e e.moves.length
def b2s (e:Ev) (i:Nat):Prop:=∃m,e.moves[i]? =some m/\N9 e m.src=0
def a6Q {e:Ev} {i:Nat}:∀{k:Nat},i ∈ a1V e k↔i<k/\b2s e i
 |0=>by simp [a1V]
 |k+1=>by
  have ih:=a6Q (e:=e) (i:=i) (k:=k);unfold a1V;cases hm:e.moves[k]? with
  |none=>
   simp only;rw [ih];constructor
   ·rintro ⟨h1,h2⟩;exact ⟨om,h2⟩
   ·rintro ⟨h1,h2⟩;refine ⟨?_,h2⟩;obtain ⟨m,h3,_⟩:=h2;by_cases h:i=k
    ·subst h;rw [hm] at h3;cases h3
    ·omega
  |some m=>
   simp only;by_cases hk:N9 e m.src=0
   ·rw [iA hk,lbz,ih,ax2];constructor
    ·rintro (⟨h1,h2⟩|h)
     ·exact ⟨om,h2⟩
     ·subst h;exact ⟨om,m,hm,hk⟩
    ·rintro ⟨h1,h2⟩;by_cases h:i=k
     ·exact .inr h
     ·exact .inl ⟨om,h2⟩
   ·rw [iB hk,ih];constructor
    ·rintro ⟨h1,h2⟩;exact ⟨om,h2⟩
    ·rintro ⟨h1,h2⟩;refine ⟨?_,h2⟩;obtain ⟨m',h3,h4⟩:=h2;by_cases h:i=k
     ·subst h;rw [hm] at h3;injection h3 with h3;subst h3;exact absurd h4 hk
     ·omega
def aq4 {e:Ev} {i:Nat}:i ∈ a5r e↔b2s e i:=by
 unfold a5r;rw [a6Q];constructor
 ·exact fun h=>h.2
 ·intro h;have h':=h;obtain ⟨m,h1,_⟩:=h';exact ⟨(lbe.1 h1).1,h⟩
def ae9 {e:Ev}:∀k,(a1V e k).length<=k
 |0=>by simp [a1V]
 |k+1=>by
  have ih:=ae9 (e:=e) k;unfold a1V;split
  ·split
   ·simp;omega
   ·omega
  ·omega
def a4M (l:List Nat) (i:Nat):List C5:=(l.filter fun j=>decide (j≠i)).map fun j=>E1 j 2 ((0:Int):Rat)
def b24 (t:k8) (kind:Int) (i:Nat):m8:=⟨t.ev.moves.length,(p6 (a1W t) kind).rows++a4M (a5r t.ev) i⟩
def b1E (l:List Nat) (i:Nat):(a4M l i).length<=l.length:=by unfold a4M;rw [lbr];exact lbt _ _
structure bJ2 (t:k8) (kind:Int) (i:Nat) (z:List Rat):Prop where
 p:bI5 (a1W t) kind z
 o:∀j,b2s t.ev j->j≠i->z.getD j 0=0
def b1y {t:k8} {kind:Int} {i:Nat} (hm:t.ev.moves.length<=14) (hc:t.cleans.length<=50):q9 (b24 t kind i)=true:=by
 have h:=a2A (t:=a1W t) (kind:=kind) hm (by simp [a1W]) hc;unfold q9 at h ⊢;simp only [lbN,lbI] at h ⊢;obtain ⟨⟨⟨h1,h2⟩,h3⟩,h4⟩:=h;have hl:=O1 (t:=a1W t) (kind:=kind) t.ev.moves.length;have hl2:t.ev.moves.length*(2+(a1W t).finds.length+(a1W t).cleans.length)<=14*52:=lbT hm (by show 2+0+t.cleans.length<=52;omega);have hl3:=b1E (a5r t.ev) i;have hl4:=ae9 (e:=t.ev) t.ev.moves.length;refine ⟨⟨⟨h1,h2⟩,?_⟩,?_⟩
 ·show ((v7 (a1W t) kind t.ev.moves.length++a4M (a5r t.ev) i).length)<=6000;rw [lbq];have:(a5r t.ev).length<=t.ev.moves.length:=hl4;omega
 ·show ((p6 (a1W t) kind).rows++a4M (a5r t.ev) i).all (A6 (t.ev.moves.length:Nat))=true;rw [a0n];have h5:(p6 (a1W t) kind).rows.all (A6 (t.ev.moves.length:Nat))=true:=h4;rw [h5,K9,lbv];intro w hw;obtain ⟨j,hj,rfl⟩:=lbx.1 hw;have hj:=(a6Q.1 (lby.1 hj).1).1;unfold A6 E1;simp only [lbN,lbI];exact ⟨⟨a5k om om a5G,de⟩,de⟩
theorem alone_holds {t:k8} {kind:Int} {i:Nat} {z:List Rat} (ht:t9 t=0) (k0:0<=kind) (k1:kind<8) (hm:t.ev.moves.length<=14):k6 (b24 t kind i) z=true↔bJ2 t kind i z:=by
 have hc:=(F3 ht).2.2.1;have hb:=sys_holds (t:=a1W t) (kind:=kind) (z:=z) (b5Z ht) k0 k1 hm;have hr1:=b1y (t:=t) (kind:=kind) (i:=i) hm hc;have hr2:=a2A (t:=a1W t) (kind:=kind) hm (by simp [a1W]) hc;have e:k6 (b24 t kind i) z=(k6 (p6 (a1W t) kind) z && (a4M (a5r t.ev) i).all fun w=>a0j w z):=by
  unfold k6;rw [hr1,hr2];show (true && decide ((z.length:Int)=(t.ev.moves.length:Nat)) && _ && ((p6 (a1W t) kind).rows++a4M (a5r t.ev) i).all _)=_;rw [a0n];simp only [K9,Bool.and_assoc]
  rfl
 rw [e,lbN,hb];constructor
 ·rintro ⟨h1,h2⟩;refine ⟨h1,fun j hj hji=>?_⟩;exact a48.1 (lbv.1 h2 (E1 j 2 ((0:Int):Rat)) (lbx.2 ⟨j,lby.2 ⟨aq4.2 hj,lbH hji⟩,rfl⟩))
 ·rintro ⟨h1,h2⟩;refine ⟨h1,lbv.2 fun w hw=>?_⟩;obtain ⟨j,hj,rfl⟩:=lbx.1 hw;have hj:=lby.1 hj;exact a48.2 (h2 j (aq4.1 hj.1) (lbL hj.2))
section
open Go.RowKit
def bs4 (t:k8) (kind:Int) (n:Nat) (set:LI):Prop:=∃z,k6 (p6 t kind) z=true/\∀h:Nat,h<n->(h:Int) ∉ set->n8 (H7 t h) z=0
noncomputable def pX (t:k8) (kind:Int) (n:Nat) (set:LI):Bool:=
 open Classical in decide (bs4 t kind n set)
def aN5 {t:k8} {kind:Int} {n:Nat} {set:LI}:pX t kind n set=true↔bs4 t kind n set:=by unfold pX;exact @decide_eq_true_iff _ (Classical.propDecidable _)
def al4 {t:k8} {kind:Int} {n:Nat} {a b:LI} (h:∀x ∈ a,x ∈ b) (ha:pX t kind n a=true):pX t kind n b=true:=by
 obtain ⟨z,h1,h2⟩:=aN5.1 ha;exact aN5.2 ⟨z,h1,fun i hi hn=>h2 i hi fun hc=>hn (h _ hc)⟩
noncomputable def F7 (t:k8) (kind:Int) (n:Nat):LI:=((List.range n).filter fun i=>decide (N7 t kind i≠0)).map fun i=>((i:Nat):Int)
def b1I {t:k8} {kind:Int} {n:Nat} {x:Int}:x ∈ F7 t kind n↔∃i:Nat,x=i/\i<n/\N7 t kind i≠0:=by
 unfold F7;rw [lbx];constructor
 ·rintro ⟨i,hi,rfl⟩;obtain ⟨h1,h2⟩:=lby.1 hi;exact ⟨i,rfl,lbB.1 h1,lbL h2⟩
 ·rintro ⟨i,rfl,h1,h2⟩;exact ⟨i,lby.2 ⟨lbB.2 h1,lbH h2⟩,rfl⟩
def a9E (t:k8) (kind:Int) (n:Nat):(F7 t kind n).Pairwise (·<·):=by
 unfold F7;rw [List.pairwise_map];refine (List.Pairwise.filter _ List.pairwise_lt_range).imp fun {a b} h=>?_
 show ((a:Nat):Int)<((b:Nat):Int);omega
def a3e (t:k8) (kind:Int) (n:Nat):(F7 t kind n).length<=n:=by
 unfold F7;rw [lbr];have:=lbt (fun i=>decide (N7 t kind i≠0)) (List.range n);rwa [List.length_range] at this
section
variable {t:k8} {kind:Int} {n:Nat}
def ax4 (h:ExP t kind n) {i:Nat} (h0:N7 t kind i=0) {z:List Rat} (hz:k6 (p6 t kind) z=true):n8 (H7 t (i:Int)) z=0:=by
 rcases a2U (h.vd (i:Int)) (i:Int) with ⟨h2,_⟩|⟨_,h2⟩|⟨h2,_⟩
 ·unfold N7 at h0;omega
 ·exact h2 z hz
 ·unfold N7 at h0;omega
def b20 (h:ExP t kind n) {i:Nat}:N7 t kind i=2↔∀z,k6 (p6 t kind) z=true->0<n8 (H7 t (i:Int)) z:=by
 constructor
 ·intro h2 z hz;rcases a2U (h.vd (i:Int)) (i:Int) with ⟨_,h3⟩|⟨h3,_⟩|⟨h3,_⟩
  ·exact h3 z hz
  ·unfold N7 at h2;omega
  ·unfold N7 at h2;omega
 ·intro hA;exact bj4 h i hA
noncomputable def b2Q (t:k8) (n:Nat) (z:List Rat):LI:=((List.range n).filter fun i=>open Classical in decide (0<n8 (H7 t ((i:Nat):Int)) z)).map fun i=>((i:Nat):Int)
def b1L {z:List Rat} {x:Int}:x ∈ b2Q t n z↔∃i:Nat,x=i/\i<n/\0<n8 (H7 t ((i:Nat):Int)) z:=by
 unfold b2Q;rw [lbx];constructor
 ·rintro ⟨i,hi,rfl⟩;obtain ⟨h1,h2⟩:=lby.1 hi;exact ⟨i,rfl,lbB.1 h1,lbL h2⟩
 ·rintro ⟨i,rfl,h1,h2⟩;exact ⟨i,lby.2 ⟨lbB.2 h1,lbH h2⟩,rfl⟩
def b9K (z:List Rat):(b2Q t n z).Pairwise (·<·):=by
 unfold b2Q;rw [List.pairwise_map];refine (List.Pairwise.filter _ List.pairwise_lt_range).imp fun {a b} h=>?_
 show ((a:Nat):Int)<((b:Nat):Int);omega
def b67 (h:ExP t kind n) {z:List Rat} (hz:k6 (p6 t kind) z=true):pX t kind n (b2Q t n z)=true:=by
 refine aN5.2 ⟨z,hz,fun i hi hn=>?_⟩;have h1:=(h.vd (i:Int)).pos hz;have h2:¬0<n8 (H7 t (i:Int)) z:=fun hp=>hn (b1L.2 ⟨i,rfl,hi,hp⟩)
 grind
def b8z (h:ExP t kind n) {z:List Rat} (hz:k6 (p6 t kind) z=true):(b2Q t n z).Sublist (F7 t kind n):=by
 refine a9s (b9K z) (a9E t kind n) fun x hx=>?_
 obtain ⟨i,rfl,h1,h2⟩:=b1L.1 hx;refine b1I.2 ⟨i,rfl,h1,fun h0=>?_⟩;rw [ax4 h h0 hz] at h2;exact absurd h2 zk
noncomputable def Z1 (t:k8) (kind:Int) (n:Nat) (short:Bool):List LI:=aB9 (pX t kind n) (F7 t kind n) short
def b9S (h:ExP t kind n) {z:List Rat} (hz:k6 (p6 t kind) z=true):∃c ∈ Z1 t kind n false,c.Sublist (b2Q t n z):=by
 obtain ⟨c,h1,h2⟩:=b93 (a9E t kind n) _ _ rfl (b8z h hz) (b67 h hz);exact ⟨c,h2,h1⟩
def bb2 (h:ExP t kind n):Z1 t kind n false≠[]:=by
 obtain ⟨c,hc,_⟩:=b9S h (h.vd 0).has;exact List.ne_nil_of_mem hc
def b0V:∀a:LI,b5A a a=false
 |[]=>rfl
 |x::r=>by simp [b5A,b0V r]
def bO8 (h:ExP t kind n):∃rest,Z1 t kind n false=Z1 t kind n true++rest/\Z1 t kind n true≠[]/\(∀ a ∈ Z1 t kind n true,∀b ∈ Z1 t kind n true,a.length=b.length)/\(∀ a ∈ Z1 t kind n true,∀b ∈ rest,a.length<b.length):=by
 obtain ⟨rest,h1,h2,h3,h4⟩:=b0f (p:=pX t kind n) (l:=F7 t kind n) ((F7 t kind n).length+1);refine ⟨rest,h1,fun he=>?_,h3,h4⟩;have hr:=h2 he;have hne:=bb2 h;have:Z1 t kind n false=Z1 t kind n true++rest:=h1;rw [he,hr] at this;exact hne this
end
end
def aG6 {t:k8} {kind:Int} (ht:t9 t=0) (hm:t.ev.moves.length<=8):M5 (p6 t kind):=by
 have p:=Q2 (kind:=kind) ht hm (g:=[]) rfl (fun t ht=>by cases ht);obtain ⟨q1,q2,q3,q4,q5⟩:=F3 ht;refine ⟨p.o.r,bs1 ht,by show ((t.ev.moves.length:Nat):Int)<=9;omega,?_⟩;have h1:=O1 (t:=t) (kind:=kind) t.ev.moves.length;have h2:t.ev.moves.length*(2+t.finds.length+t.cleans.length)<=8*72:=lbT hm om;show (v7 t kind t.ev.moves.length).length<=_;omega
def b1d {s:m8} {g:List (Int × Rat)} (h:M5 s) (hl:s.rows.length<=998) (hg:n7 (-1) s.n g=true) (hw:I5 g):M5 (a6q s g):=by
 refine ⟨ag9 h.r om hg,fun w hw'=>?_,h.n,by show (s.rows++[_]).length<=999;simp;omega⟩;rcases lbz.1 hw' with h1|h1
 ·exact h.i w h1
 ·simp at h1;subst h1;exact ⟨hw,a5y⟩
def aK0 {s:m8} {g:List (Int × Rat)} {z:List Rat} (hr:q9 s=true) (hl:s.rows.length<6000) (hg:n7 (-1) s.n g=true):k6 (a6q s g) z=true↔k6 s z=true/\n8 g z=0:=by
 constructor
 ·intro h;obtain ⟨h1,h2,h3,h4⟩:=X7.1 h;refine ⟨X7.2 ⟨hr,h2,h3,fun w hw=>h4 w (lbz.2 (.inl hw))⟩,?_⟩;have h5:=h4 ⟨g,2,((0:Int):Rat)⟩ (lbz.2 (.inr zq));have a:=h5.1 (show (2:Int)≠1 by decide);have b:=h5.2 (show (2:Int)≠0 by decide);have a:(0:Rat)<=n8 g z:=a;have b:n8 g z<=(0:Rat):=b;grind
 ·rintro ⟨h1,h2⟩;exact never_holds hr hl hg h1 h2
def ad4 (g:List (Int × Rat)) (z:List Rat):n8 (E3 g) z=-(n8 g z):=by
 have key:∀k,k<=g.length->n8 ((E3 g).take k) z=-(n8 (g.take k) z):=by
  intro k;induction k with
  |zero=>intro _;show ((0:Int):Rat)=-((0:Int):Rat);decide
  |succ k ih=>
   intro hk;obtain ⟨t,ht⟩:∃t,g[k]? =some t:=⟨_,lbf om⟩;rw [show (E3 g).take (k+1)=_ from a3N g _ ht,K7 ht,K8,K8];show n8 ((E3 g).take k) z+_=_;rw [ih om];have e1:((-1:Int):Rat)=-1:=rfl;simp only [e1];grind
 have:=key g.length (lbR _);rw [lbn (by rw [a3w];exact lbR _),W6] at this;exact this
noncomputable def stP (s:m8) (g:List (Int × Rat)):Int:=open Classical in if ∀z,k6 s z=true->0<n8 g z then 2 else if ∀z,k6 s z=true->n8 g z=0 then 0 else 1
def b7p (s:m8) (g:List (Int × Rat)) (h:M5 s) (hl:s.rows.length<=998) (hg:n7 (-1) s.n g=true) (hw:I5 g) (hp:∀t ∈ g,0<=t.2) (hz:∃z,k6 s z=true):
 ec 76 [U9 s,s6 g] [] (eI (stP s g)) []:=by
 have hn:=V4 h.r;have hn9:=h.n;have hgl:=D9 hg;have hpos:∀z,k6 s z=true->0<=n8 g z:=fun z hz=>a6g (ad7 hz) g hp
 obtain ⟨b,hb,pc⟩:=a2r (a6q s g) (b1d h hl hg hw);have ne:=b7W s g om;have op:=b1u g om (fun t ht=>lbS (P3 hw t ht) de);obtain ⟨o,ho,lc⟩:=aH3 s (E3 g) ⟨h,a78 hw,by rw [hn];exact a2C hg⟩;have hB:b=true↔∃z,k6 s z=true/\n8 g z=0:=by
  rw [hb];constructor
  ·rintro ⟨z,hz⟩;exact ⟨z,(aK0 h.r om hg).1 hz⟩
  ·rintro ⟨z,hz⟩;exact ⟨z,(aK0 h.r om hg).2 hz⟩
 have hAll:(∀ z,k6 s z=true->0<n8 g z)↔b=false:=by
  rw [← lbQ,hB];constructor
  ·rintro h1 ⟨z,h2,h3⟩;have:=h1 z h2;rw [h3] at this;exact absurd this de
  ·intro h1 z hz;have:=hpos z hz;have:n8 g z≠0:=fun e=>h1 ⟨z,hz,e⟩
   grind
 cases b with
 |false=>
  have e:stP s g=2:=by unfold stP;rw [iA (hAll.2 rfl)]
  rw [e];refine ac Tryz.func76 ?_;conv=>whnf
  repeat' (first|refine zx ?_|apply zD<;>intro h<;>try omega)<;>conv=>whnf
  all_goals first
   |(exfalso;simp_all;done)
   |exact p9 rfl
 |true=>
  have hna:¬∀z,k6 s z=true->0<n8 g z:=fun e=>by have:=hAll.1 e;cases this
  by_cases hk:o.kind=0
  ·obtain ⟨f1,f2,f3⟩:=ho.found hk;have hx:=hpos _ f1;have lb:rl (n8 (E3 g) o.X)<=60000:=by
    have:=a61 (P3 (a78 hw)) ho.bx (E3 g).length;rw [W6] at this;have h2:(E3 g).length*(100+4)<=9*104:=lbT (by rw [a3w];omega) (lbR _);omega
   have sg:=b9e (n8 (E3 g) o.X) lb;rw [← f2] at sg;have hzero:n8 (E3 g) o.X=0↔∀z,k6 s z=true->n8 g z=0:=by
    constructor
    ·intro e z hz;have:=f3 z hz;rw [e,ad4] at this;have:=hpos z hz;grind
    ·intro e;rw [ad4,e _ f1];decide
   have hs0:sgR (n8 (E3 g) o.X)=0↔n8 (E3 g) o.X=0:=by
    unfold sgR;split
    ·constructor
     ·intro h;cases h
     ·intro h;grind
    ·split
     ·constructor
      ·intro h;cases h
      ·intro h;grind
     ·constructor
      ·intro _;grind
      ·intro _;rfl
   by_cases he:n8 (E3 g) o.X=0
   ·have e:stP s g=0:=by unfold stP;rw [iB hna,iA (hzero.1 he)]
    rw [hs0.2 he] at sg;rw [e];refine ac Tryz.func76 ?_;conv=>whnf
    repeat' (first|refine zx ?_|refine bl0 [5] ?_|refine bl0 [6] ?_|apply zD<;>intro h<;>try omega)<;>conv=>whnf
    all_goals first|omega|(exfalso;simp_all;done)|exact p9 rfl
   ·have e:stP s g=1:=by unfold stP;rw [iB hna,iB (fun h=>he (hzero.2 h))]
    have hs1:sgR (n8 (E3 g) o.X)≠0:=fun h=>he (hs0.1 h)
    rw [e];refine ac Tryz.func76 ?_;conv=>whnf
    repeat' (first|refine zx ?_|refine bl0 [5] ?_|refine bl0 [6] ?_|apply zD<;>intro h<;>try omega)<;>conv=>whnf
    all_goals first|omega|(exfalso;simp_all;done)|exact p9 rfl
  ·have e:stP s g=1:=by
    unfold stP;rw [iB hna,iB];intro hall;rcases ho.k with k|k|k
    ·exact hk k
    ·obtain ⟨z,hz⟩:=hz;rw [ho.none k z] at hz;cases hz
    ·obtain ⟨f1,f2,f3⟩:=ho.free k;have h1:=ac0 f1 f2;have h2:=hall _ h1;have h3:=hall _ f1;have hxl:o.X.length=s.n.toNat:=by have:=(a0V f1).2;omega
     rw [a4y hxl f2.len (by rw [hn];exact hg),h3] at h2;rw [ad4] at f3;grind
   rw [e];refine ac Tryz.func76 ?_;conv=>whnf
   repeat' (first|refine zx ?_|refine bl0 [5] ?_|refine bl0 [6] ?_|apply zD<;>intro h<;>try omega)<;>conv=>whnf
   all_goals first|omega|(exfalso;simp_all;done)|exact p9 rfl
def b6i {t:k8} {kind:Int} {n:Nat} (h:ExP t kind n) (i:Nat):stP (p6 t kind) (H7 t (i:Int))=N7 t kind i:=by
 unfold stP;by_cases h1:∀z,k6 (p6 t kind) z=true->0<n8 (H7 t (i:Int)) z
 ·rw [iA h1];exact ((b20 h).2 h1).symm
 ·rw [iB h1];by_cases h2:∀z,k6 (p6 t kind) z=true->n8 (H7 t (i:Int)) z=0
  ·rw [iA h2];exact (b8T h i h2).symm
  ·rw [iB h2];rcases a2U (h.vd (i:Int)) (i:Int) with ⟨_,h3⟩|⟨_,h3⟩|⟨h3,_⟩
   ·exact absurd h3 h1
   ·exact absurd h3 h2
   ·exact h3.symm
noncomputable def stL (t:k8) (kind:Int) (k:Nat):LI:=(List.range k).map fun i=>N7 t kind i
def ak4 (t:k8) (kind:Int) (k:Nat):(stL t kind k).length=k:=by simp [stL]
def b8C (t:k8) (kind:Int) (k:Nat):stL t kind (k+1)=stL t kind k++[N7 t kind k]:=by simp [stL,a8z]
def bf6 {t:k8} {kind:Int} {k i:Nat} (h:i<k):(stL t kind k)[i]? =some (N7 t kind i):=by simp [stL,h]
def aE0 (t:k8) (kind:Int) (hs:t.Sized) (h:a0o t kind≠0):ec 29 [trS t,eI kind] [] (.tup [j7 [],eI 1]) []:=by
 have sy:=a4F t kind hs;refine ac Tryz.func29 ?_;conv=>whnf
 repeat' (first|refine zx ?_|refine bl0 [5] ?_|apply zD<;>intro h<;>try omega)<;>conv=>whnf
 all_goals first|omega|exact p7 rz
def ah9 (t:k8) (kind:Int) (hs:t.Sized) (ht:t9 t=0) (k0:0<=kind) (k1:kind<8) (hm:t.ev.moves.length<=8) (hz:∀z,k6 (p6 t kind) z=false):ec 29 [trS t,eI kind] [] (.tup [j7 [],eI 15]) []:=by
 have sy:=a4F t kind hs;have hc:¬(t9 t≠0\/kind<0\/8<=kind):=om;have e1:a0o t kind=0:=iB hc;have e2:a6J t kind=p6 t kind:=iB hc;rw [e1,e2] at sy;obtain ⟨b,hb,pc⟩:=a2r (p6 t kind) (aG6 ht hm);have hbf:b=false:=by
  cases b with
  |false=>rfl
  |true=>obtain ⟨z,h⟩:=hb.1 rfl;rw [hz z] at h;cases h
 subst hbf;refine ac Tryz.func29 ?_;conv=>whnf
 repeat' (first|refine zx ?_|refine bl0 [5] ?_|apply zD<;>intro h<;>try omega)<;>conv=>whnf
 all_goals first|omega|exact p7 rz
def aO8 (t:k8) (kind:Int) (n:Nat) (hx:ExP t kind n) (hn:n<=100):ec 29 [trS t,eI kind] [] (.tup [j7 (stL t kind n),eI 0]) []:=by
 have hs:=hx.s;have hhs:=hx.h;have hsm:=aG6 (kind:=kind) hx.e hx.m;have sy:=a4F t kind hx.s;have k0:=hx.k0;have k1:=hx.k1;have ht:=hx.e;have hc:¬(t9 t≠0\/kind<0\/8<=kind):=om;have e1:a0o t kind=0:=iB hc;have e2:a6J t kind=p6 t kind:=iB hc;rw [e1,e2] at sy;have hrows:(p6 t kind).rows.length<=998:=by
  have h1:=O1 (t:=t) (kind:=kind) t.ev.moves.length;obtain ⟨q1,q2,q3,q4,q5⟩:=F3 hx.e;have h2:t.ev.moves.length*(2+t.finds.length+t.cleans.length)<=8*72:=lbT hx.m om;show (v7 t kind t.ev.moves.length).length<=_;omega
 have hex:∃z,k6 (p6 t kind) z=true:=⟨_,(hx.vd 0).has⟩;obtain ⟨b,hb,pc⟩:=a2r (p6 t kind) hsm;have hbt:b=true:=hb.2 hex;subst hbt
 (refine ac Tryz.func29 ?_;(conv=>whnf);repeat ((first|refine b0x ?_|refine zy ?_);conv=>whnf))
 repeat' (first|refine zx ?_|refine bl0 [5] ?_|apply zD<;>intro h<;>try omega)<;>conv=>whnf
 all_goals try omega
 refine k5 g8 (fun k=>([J,J,S.c (C.t (T.ptr (trT t))),J,J,J,sP 0 0 0,J,S.c (C.own 1 0 k true),eI k]++Jn 27,[b8U (p6 t kind),w7 (stL t kind k)])) n tT [some 0,none] trivial
  ⟨rfl,rfl,⟨j8 (am0 _),rz⟩,⟨m7 rfl,rz,rz,g9 rfl,trivial⟩⟩ ?_
 intro k hk _;by_cases hlt:k<n
 ·have go:=bd7 t hs k (by have:=a3i (t:=t) (h:=k);have:=hx.m;omega);have eg:ah1 t k=H7 t k:=iA ⟨hx.e,om,om⟩;rw [eg] at go;have st:=b7p (p6 t kind) (H7 t k) hsm hrows (a3G t k) (ah6 t k) (a6Z t k) hex;rw [b6i hx k] at st;have lA:k<=(w7 (stL t kind k)).rows.length:=by show k<=(toC _).length;simp [toC,ak4]
  conv=>whnf
  repeat' (first|refine zx ?_|refine z6 lA zu ?_|apply zD<;>intro h<;>try omega)<;>conv=>whnf
  all_goals first
   |omega
   |(refine ⟨hlt,trivial,[some 0,some 2],rfl,rfl,⟨j8 (am0 _),i6 (rows:=(stL t kind (k+1)).map j4) rfl rfl rfl ?_ rfl,trivial⟩,⟨rfl,rz,⟨rfl,rfl,rfl,fun h=>h⟩,g9 om,trivial⟩⟩
     rw [b8C];exact S9 (f:=j4) (x:=N7 t kind k) (ak4 t kind k).symm)
 ·have hke:k=n:=by omega
  subst hke;conv=>whnf
  repeat' (first|refine zx ?_|apply zD<;>intro h<;>try omega)<;>conv=>whnf
  all_goals first|omega|exact p7 ⟨(show VC _ (fun id=>M3 [] id=true) (C.own 1 0 k true) _ from w6 (k:=w7 (stL t kind k)) rfl rfl (fun h=>h) rfl rfl (by simp [ak4])),rz⟩
def bH4 {α:Type} (F:Fence) (n:Nat) (P:Program) (g:Nat) (lb:Array Value) (encs:α->Array Value) (G:α->World->Prop) (Kp:World->World->Prop) (S:List α->Prop) (N:Nat) (w:World):Prop:=
 ∀(l:Nat) (J:List α->World->Prop) (W:World),Below w.heap.size w W->AbidesFrom W.heap.size J->
  (∀ pre x W1,J pre W1->G x W1->pre.length<N->YieldAt F (n - 1) P l (encs x) W1 fun e W'=>e=.returned (.bool true)/\J (pre++[x]) W'/\Kp W1 W')->
  J [] W->CallsIn F n P g (#[.func (.yield l) #[] #[]]++lb) W fun e W'=>(∃ v,e=.returned v)/\∃xs,S xs/\J xs W'
def ae4 (w:World) (ι:Io) (M:Ms):v4 w ι M []:=
 ⟨fun id k h=>by simp at h,fun id k h=>by simp at h,fun id k h=>by simp at h,fun id id' k k' h=>by simp at h,fun id id' k k' h=>by simp at h⟩
def aS2 {P:Program} {g:FuncId} {args:List S} {r:S} (h:e8 P g args [] r []) {w:World} {ι:Io} {M:Ms} {vals:List Value} (hl:vals.length=args.length)
 (hv:∀j s,args[j]? =some s->RS w ι M s (vals.getD j undef)) (hMB:MB w M) (hF:a0S ι 0):
 Calls P g vals.toArray w fun e w'=>∃v,e=.returned v/\(∃ ι' M',RS w' ι' M' r v/\(∀ b,M b->M' b))/\Below w.heap.size w w':=by
 have:=h.2 w ι M vals hl hv (ae4 _ _ _) hMB hF;refine Calls.mono this ?_;rintro e w' ⟨v,rfl,ι',M',h1,h2,h3,h4,h5⟩;have nl:∀b,¬a4c ι [] b:=by rintro b ⟨id,k,c,s,hk,_⟩;simp at hk
 refine ⟨v,rfl,⟨ι',M',h1,fun b hb=>?_⟩,⟨h5.os,h5.tape,h5.output,h5.size,fun b hb=>h5.keep b hb (nl b)⟩⟩;rcases h5.mold b hb with h|h
 ·exact h
 ·exact absurd h (nl b)
def b0s {w w':World} {ι:Io} {M:Ms} {s:S} {v:Value} (h:RS w' ι M s v) (hb:Below w.heap.size w w') (hMB:MB w M) (hF:a0S ι 0):K4 w ι M [] s [] v w':=
 ⟨ι,M,h,ae4 _ _ _,fun b hm=>a6H (hMB b hm) hb.size,hF,
   ⟨hb.os,hb.tape,hb.output,hb.size,fun b hb' _=>hb.block b hb',fun _ _=>rfl,fun b h=>.inl h,fun b h=>.inl h,fun b h=>by obtain ⟨id,k,c,s,hk,_⟩:=h;simp at hk,lbR _⟩⟩
def a4C {w w':World} {ι:Io} {M:Ms} (hb:Below w.heap.size w w') {s:S} {v:Value} (h:RS w ι M s v):RS w' ι M s v:=
 h.keep (fun b hb' _=>hb.block b hb') (fun b h=>.inl h) (fun _ _ h=>h)
section
open Go.RowKit Go.Shelf
attribute [local go_sem] Oper.semAt_some
def aU0 {F:Fence} (hd:F.depth=none) (k:Nat):F.room k:=fun d h=>by rw [hd] at h;cases h
def RoundIn.anyDepth {F:Fence} (hd:F.depth=none) {m m':Nat} {P:Program} {l:Nat} {f:FuncId} {tmps:Array Value} {assign body:Code} {w:World} {R:Ending->World->Prop}
 (h:RoundIn F m P l f tmps assign body w R):RoundIn F m' P l f tmps assign body w R:=⟨h.1,fun c cs _=>h.2 c cs (aU0 hd _)⟩
def YieldAt.anyDepth {F:Fence} (hd:F.depth=none) {m:Nat} (m':Nat) {P:Program} {l:Nat} {args:Array Value} {W:World} {R:Ending->World->Prop} (h:YieldAt F m P l args W R):YieldAt F m' P l args W R:=by
 obtain ⟨fn,tmps,assign,body,hy,hR⟩:=h;exact ⟨fn,tmps,assign,body,hy,RoundIn.anyDepth hd hR⟩
def aH8 {F:Fence} {n:Nat} {P:Program} {c:Code} {K:Act->World->Prop} {Q:Exit->Act->World->Prop} {a:Act} {w:World} (h:c.wpIn F n P (Exit.then K (fun _ _ _=>False)) a w):c.wpIn F n P (Exit.then K Q) a w:=
 wpIn_mono h (fun e a w h=>by cases e<;>first|exact h|exact h.elim)
abbrev tI:TypeId:=3
abbrev tIs:TypeId:=33
abbrev a3W:TypeId:=36
def b8o (l:LI):List Value:=l.map fun x=>.int .i64 x
def ba3 (l:LI):(b8o l).length=l.length:=by simp [b8o]
def b0u {l:LI} {i:Nat} {x:Int} (h:l[i]? =some x):(b8o l)[i]? =some (.int .i64 x):=by simp [b8o,h]
structure KpX (X ns:Nat) (A B:World):Prop where
 size:A.heap.size<=B.heap.size
 keep:∀(b:Nat) (vs:Array Value) (t:TypeId) (fl:Nat × Nat),A.heap[b]? =some (.cells vs t fl)->b≠X->(b<ns\/t≠tIs)->B.heap[b]? =some (.cells vs t fl)
def KpX.refl (X ns:Nat) (A:World):KpX X ns A A:=⟨lbR _,fun _ _ _ _ h _ _=>h⟩
def KpX.trans {X ns:Nat} {A B C:World} (h:KpX X ns A B) (k:KpX X ns B C):KpX X ns A C:=⟨lbS h.size k.size,fun b vs t fl h1 h2 h3=>k.keep b vs t fl (h.keep b vs t fl h1 h2 h3) h2 h3⟩
def KpX.below {X ns:Nat} {A B:World} (h:Below A.heap.size A B):KpX X ns A B:=⟨h.size,fun b vs t fl h1 _ _=>(h.block b (C1 h1)).trans h1⟩
def KpX.grown {X ns:Nat} {A B:World} (h:A.grownBy B none):KpX X ns A B:=⟨h.size,fun b vs t fl h1 _ _=>(h.block b (C1 h1) zq).trans h1⟩
def KpX.drew (X ns:Nat) (A:World):KpX X ns A A.drew:=⟨lbR _,fun _ _ _ _ h _ _=>h⟩
def KpX.alloc (X ns:Nat) (A:World) (o:Obj):KpX X ns A (A.alloc o):=KpX.grown (World.grownBy_alloc A o none)
def KpX.boxed {X ns:Nat} {A B:World} (h:KpX X ns A B) {b:Nat} {t:TypeId} {v:Value} (hb:Boxed A b t v) (hX:b≠X) (ht:b<ns\/t≠tIs):Boxed B b t v:=h.keep _ _ _ _ hb hX ht
def b18 {W:World} {a:Addr} {v:Value} (h:W.cell? a=some v):∃vs t fl,W.heap[a.block]? =some (.cells vs t fl):=by
 obtain ⟨o,ho,hc⟩:=cells_of_cell h;cases o with
 |cells vs t fl=>exact ⟨vs,t,fl,ho⟩
 |_=>cases hc
def KpX.cell {X ns:Nat} {A B:World} (h:KpX X ns A B) {a:Addr} {v:Value} (hb:A.cell? a=some v) (hX:a.block≠X) (ht:a.block<ns):B.cell? a=some v:=by
 obtain ⟨vs,t,fl,ho⟩:=b18 hb;exact (World.cell?_of_block ((h.keep _ _ _ _ ho hX (.inl ht)).trans ho.symm)).trans hb
structure DnC (X ns Bn By Bl Bd lp n:Nat) (l:LI) (A:Option Addr) (cap:Nat) (W:World):Prop where
 bn:Boxed W Bn tI (.int .i64 (n:Int))
 yd:Boxed W By 166 (.func (.yield lp) #[] #[])
 bl:Boxed W Bl tIs (.slice A l.length cap)
 bd:Boxed W Bd 219 (.func (.func 200) #[] #[.pointer (some ⟨Bn,0,none⟩),.pointer (some ⟨By,0,none⟩),.pointer (some ⟨Bl,0,none⟩),.pointer (some ⟨Bd,0,none⟩)])
 row:∀i x,l[i]? =some x->∃b off,A=some ⟨b,off,none⟩/\W.cell? ⟨b,off+i,none⟩=some (.int .i64 x)/\b<ns/\b≠X
 nX:Bn≠X/\By≠X/\Bl≠X/\Bd≠X/\Bl<ns/\X<ns
 lc:l.length<=cap/\cap<=maxLen
def DnC.keep {X ns Bn By Bl Bd lp n:Nat} {l:LI} {A:Option Addr} {cap:Nat} {W W':World} (h:DnC X ns Bn By Bl Bd lp n l A cap W) (k:KpX X ns W W'):DnC X ns Bn By Bl Bd lp n l A cap W':=by
 obtain ⟨n1,n2,n3,n4,n5,n6⟩:=h.nX;refine ⟨k.boxed h.bn n1 (.inr de),k.boxed h.yd n2 (.inr de),k.boxed h.bl n3 (.inl n5),k.boxed h.bd n4 (.inr de),fun i x hx=>?_,h.nX,h.lc⟩;obtain ⟨b,off,h1,h2,h3,h4⟩:=h.row i x hx;exact ⟨b,off,h1,k.cell h2 h4 h3,h3,h4⟩
def DnC.rt {X ns Bn By Bl Bd lp n:Nat} {l:LI} {A:Option Addr} {cap:Nat} {W:World} (h:DnC X ns Bn By Bl Bd lp n l A cap W):RT W (fun _=>False) (v6 l) (.slice A l.length cap):=by
 have hl:(l.map j4).length=l.length:=zq;have at1:∀i j t,at2 (l.map j4) i j=some t->∃x,l[i]? =some x/\j=0/\t=ti x:=by
  intro i j t h;unfold at2 at h;rw [lba] at h;cases hx:l[i]? with
  |none=>rw [hx] at h;cases h
  |some x=>
   rw [hx] at h;cases j with
   |zero=>refine ⟨x,rfl,rfl,?_⟩;simp [j4] at h;exact h.symm
   |succ j=>simp [j4] at h
 obtain ⟨b,off,hA,hr⟩:∃b off,(l≠[]->A=some ⟨b,off,none⟩)/\∀i x,l[i]? =some x->W.cell? ⟨b,off+i,none⟩=some (.int .i64 x):=by
  cases hl0:l with
  |nil=>exact ⟨0,0,fun h=>absurd rfl h,fun i x h=>by simp at h⟩
  |cons x0 r=>
   obtain ⟨b,off,h1,h2,_⟩:=h.row 0 x0 (by rw [hl0];rfl);refine ⟨b,off,fun _=>h1,fun i x hx=>?_⟩;obtain ⟨b2,off2,h3,h4,_⟩:=h.row i x (by rw [hl0];exact hx);rw [h1] at h3;injection h3 with h3;injection h3 with h5 h6;subst h5;subst h6;exact h4
 rw [← hl];refine .sl (size:=1) (k:=.any) (b:=b) (off:=off) (fun i j=>.int .i64 (l.getD i 0)) (fun r hr=>by obtain ⟨x,_,rfl⟩:=lbx.1 hr;rfl) (by rw [hl];exact h.lc.1) h.lc.2 (fun h=>nomatch h) (fun h=>nomatch h) (fun hne=>hA (by simpa using hne)) (fun i j t ht=>?_) (fun i j t ht=>?_)
 ·obtain ⟨x,hx,rfl,rfl⟩:=at1 i j t ht;refine ⟨?_,fun h=>h⟩;have:=hr i x hx;rw [lbl,hx];simpa using this
 ·obtain ⟨x,hx,rfl,rfl⟩:=at1 i j t ht;rw [lbl,hx];exact .atm rfl
def a2s (n0:Nat) (W:World) (s:LI) (v:Value):Prop:=
 (s=[]/\∃A,v=.slice A 0 0)\/∃g cap cur,v=.slice (some ⟨g,0,none⟩) s.length cap/\n0<=g/\W.heap[g]? =some (.cells cur tI (0,0))/\s.length<=cap/\cap<=maxLen/\cur.toList.take s.length=b8o s
def KpX.irow {X ns n0:Nat} {A B:World} (h:KpX X ns A B) {s:LI} {v:Value} (hX:X<n0) (hr:a2s n0 A s v):a2s n0 B s v:=by
 rcases hr with hr|⟨g,cap,cur,h1,h2,h3,h4⟩
 ·exact .inl hr
 ·exact .inr ⟨g,cap,cur,h1,h2,h.keep _ _ _ _ h3 om (.inr de),h4⟩
def a2s.below {n0:Nat} {A B:World} (h:Below A.heap.size A B) {s:LI} {v:Value} (hr:a2s n0 A s v):a2s n0 B s v:=by
 rcases hr with hr|⟨g,cap,cur,h1,h2,h3,h4⟩
 ·exact .inl hr
 ·exact .inr ⟨g,cap,cur,h1,h2,(h.block g (C1 h3)).trans h3,h4⟩
def a2s.mono {n0 m0:Nat} {A:World} (h:m0<=n0) {s:LI} {v:Value} (hr:a2s n0 A s v):a2s m0 A s v:=by
 rcases hr with hr|⟨g,cap,cur,h1,h2,h3,h4⟩
 ·exact .inl hr
 ·exact .inr ⟨g,cap,cur,h1,om,h3,h4⟩
def a2s.one {n0:Nat} {A:World} {s:LI} {v:Value} (hr:a2s n0 A s v):v.oneCell'=true:=by
 rcases hr with ⟨_,A,rfl⟩|⟨g,cap,cur,rfl,_⟩<;>rfl
def a2s.rt {n0:Nat} {W:World} {M:Ms} {s:LI} {v:Value} (hr:a2s n0 W s v) (hM:∀b,M b->b<n0):RT W M (v6 s) v:=by
 rcases hr with ⟨rfl,A,rfl⟩|⟨g,cap,cur,rfl,h2,h3,h4,h5,h6⟩
 ·exact .sl (size:=1) (k:=.any) (rows:=[]) (b:=0) (off:=0) (cap:=0) (fun _ _=>undef) (fun r hr=>by cases hr) (G6 _) (G6 _) (fun h=>nomatch h) (fun h=>nomatch h) (fun h=>absurd rfl h) (fun i j c h=>by simp [at2] at h) (fun i j c h=>by simp [at2] at h)
 ·have hl:(s.map j4).length=s.length:=by simp
  have at1:∀i j t,at2 (s.map j4) i j=some t->∃x,s[i]? =some x/\j=0/\t=ti x:=by
   intro i j t h;unfold at2 at h;rw [lba] at h;cases hx:s[i]? with
   |none=>rw [hx] at h;cases h
   |some x=>
    rw [hx] at h;cases j with
    |zero=>refine ⟨x,rfl,rfl,?_⟩;simp [j4] at h;exact h.symm
    |succ j=>simp [j4] at h
  have hc:∀i x,s[i]? =some x->W.cell? ⟨g,0+(i*1+0),none⟩=some (.int .i64 x):=by
   intro i x hx;have e:(cur.toList.take s.length)[i]? =some (.int .i64 x):=by rw [h6];exact b0u hx
   have hi:=(lbe.1 hx).1;rw [lbi,iA hi] at e;have e2:cur[i]? =some (.int .i64 x):=by simpa using e
   simp [World.cell?,h3,e2]
  rw [← hl];refine .sl (size:=1) (k:=.any) (b:=g) (off:=0) (fun i j=>.int .i64 (s.getD i 0)) (fun r hr=>by obtain ⟨x,_,rfl⟩:=lbx.1 hr;rfl) om h5 (fun h=>nomatch h) (fun h=>nomatch h) (fun _=>rfl) (fun i j t h=>?_) (fun i j t h=>?_)
  ·obtain ⟨x,hx,rfl,rfl⟩:=at1 i j t h;refine ⟨?_,fun hm=>by have:=hM _ hm;omega⟩;rw [hc i x hx,lbl,hx];rfl
  ·obtain ⟨x,hx,rfl,rfl⟩:=at1 i j t h;rw [lbl,hx];exact .atm rfl
def b1G {n0:Nat} {w:World} {ι:Io} {M:Ms} {H:Hp} {id:Nat} {s:LI} {v:Value} (hH:v4 w ι M H) (hk:H[id]? =some (w7 s)) (hv:RS w ι M (.c (.own id 0 s.length true)) v)
 (hb:∀b cap size,ι id=some (.blk b cap size)->n0<=b):a2s n0 w s v:=by
 generalize hlen:s.length=len at hv;cases hv with|c hv=>
 cases hv with
 |nil h=>exact .inl ⟨lbF hlen,_,rfl⟩
 |@own _ _ _ _ b cap size A cap' h h1 h2 h3 h4 h5=>
  obtain ⟨_,hA,hc⟩:=h5 rfl;subst hA hc;obtain ⟨q1,q2,q3,q4,q5,cur,q6,q7,q8⟩:=hH.blk id _ hk zi _ h;have q1:1=size:=q1;subst q1;refine .inr ⟨b,cap',cur,by rw [hlen],hb _ _ _ h,q6,om,h4,?_⟩;refine a0R fun i=>?_
  rw [lbi];by_cases hi:i<s.length
  ·rw [iA hi];have hx:s[i]? =some s[i]:=lbf hi;rw [b0u hx];obtain ⟨u,hu,hr⟩:=q8 i 0 (.t (ti s[i])) (by show at2 (toC (s.map j4)) i 0=_;simp [at2,toC,j4,hx]);cases hr with|t hr=>cases hr with|atm=>
   simpa using hu
  ·rw [iB hi,lbd (by rw [ba3];omega)]
end
def b0y (ops:List Oper) (k:Nat):Bool:=a1J ops && ((List.range ops.length).all fun i=>Nat.blt i k || (List.range k).all fun j=>((a1s ops).getD i 0).testBit j) && ((ops.take k).all fun o=>o.guard.isNone) && Nat.ble k ops.length
def b5f {n:Nat} {P:Program} {row:String} {args:Array Value} {w:World} {R:Value->World->Prop} (h:Rows P row args w R):RowsIn Fence.wide n P row args w R:=fun c cs _=>by
 obtain ⟨v,w',h1,h2⟩:=h c cs;exact ⟨v,w',h1,stepsIn_wide.2 h2⟩
def b5P {n:Nat} {P:Program} {o:Oper} {a:Act} {w:World} {K K':Act->World->Prop} {Q Q':Exit->Act->World->Prop} (hK:∀a' w',K a' w'->(∀ t,o.dst≠some t->a'.tmps.getD t undef=a.tmps.getD t undef)->K' a' w') (hQ:∀e a w,e≠.normal->¬Q e a w)
 (h:o.wp P a w K Q):o.wpIn Fence.wide n P a w K' Q':=by
 have hput:∀(b:Act) (v:Value),b.tmps=a.tmps->∀t,o.dst≠some t->(b.put o.dst v).tmps.getD t undef=a.tmps.getD t undef:=fun b v hb t ht=>by
  cases hd:o.dst with
  |none=>show b.tmps.getD t undef=_;rw [hb]
  |some d=>
   have hdt:d≠t:=fun e=>ht (by rw [hd,e])
   show (b.tmps.setIfInBounds d v).getD t undef=_;rw [hb,S0,Array.getElem?_setIfInBounds_ne hdt,←S0]
 unfold Oper.wp at h;unfold Oper.wpIn;refine ⟨fun _ _=>trivial,?_⟩;show o.uponIn Fence.wide n P a K' Q' ((execOp a.eval o).run P w);generalize (execOp a.eval o).run P w=r at h;have hout:¬LetsOut Q:=fun ⟨a,w,h⟩=>hQ _ a w zi h
 cases r with
 |ok x w'=>
  cases x<;>simp only [Oper.upon,Oper.uponIn] at h ⊢<;>
   first
    |exact hK _ _ h (hput _ _ rfl)
    |exact ⟨fun h=>by simp [Fence.wide] at h,callsIn_wide.2 (Calls.mono h fun e w'' he=>by
      cases e with
      |returned v=>exact hK _ _ he (hput _ _ rfl)
      |panicked c=>exact absurd he (hQ _ _ _ zi)
      |outgrown=>exact absurd he hout)⟩
    |exact ⟨fun h=>by simp [Fence.wide] at h,b5f (Rows.mono h fun _ _ he=>hK _ _ he (hput _ _ rfl))⟩
    |exact h.elim
 |halt x w'=>
  cases x<;>simp only [Oper.upon,Oper.uponIn] at h ⊢<;>
   first|exact absurd h (hQ _ _ _ zi)|exact h
def a9j {F:Fence} {n:Nat} {P:Program} {md:Region.Mode} {ops:Array Oper} {Q:Exit->Act->World->Prop}:∀(f:Nat) (listed:Array Bool) (a:Act) (w:World),wpAnyIn F n P md ops Q f listed a w->wpAnyIn F n P md ops Q (f+1) listed a w
 |0,listed,a,w,h=>⟨fun _=>h.2,fun i hi=>by rw [h.1] at hi;cases hi⟩
 |f+1,listed,a,w,h=>⟨h.1,fun i hi=>wpOpIn_mono (fun a w h=>a9j f _ a w h) (h.2 i hi)⟩
def a93 {F:Fence} {n:Nat} {P:Program} {md:Region.Mode} {ops:Array Oper} {Q:Exit->Act->World->Prop} {f:Nat} {listed:Array Bool} {a:Act} {w:World} (h:wpAnyIn F n P md ops Q f listed a w):∀m,wpAnyIn F n P md ops Q (f+m) listed a w
 |0=>h
 |m+1=>a9j _ _ _ _ (a93 h m)
def U6 (k n:Nat):Array Bool:=((List.range n).map fun i=>Nat.blt i k).toArray
def a3E (k n:Nat):(U6 k n).size=n:=by simp [U6]
def a3m {k n i:Nat} (h:i<n):(U6 k n)[i]? =some (Nat.blt i k):=by simp [U6,h]
def b1P {l:Array Bool} {i:Nat} (h:i<l.size):l[i]? =some (l.getD i false):=by simp [h]
def bd1 {P:Program} {n k m:Nat} {ops:Array Oper} {Q:Exit->Act->World->Prop} {K:Act->World->Prop} (hc:b0y ops.toList k=true) {a0:Act}
 (hK:∀a w,K a w->(∀ t,(∀ o ∈ ops.toList.take k,o.dst≠some t)->a.tmps.getD t undef=a0.tmps.getD t undef)->wpAnyIn Fence.wide n P .any ops Q m (U6 k ops.size) a w):
 ∀(fuel:Nat) (listed l':Array Bool) (a:Act) (w:World),listed.size=ops.size->l'.size=k->(∀ i,i<k->l'.getD i false=listed.getD i false)->(∀ i,k<=i->listed.getD i false=false)->
  (∀ i o,ops.toList[i]? =some o->listed.getD i false=true->∀e ∈ o.after.toList,Region.binds .any e=true->listed.getD e.on false=true)->
  (∀ t,(∀ o ∈ ops.toList.take k,o.dst≠some t)->a.tmps.getD t undef=a0.tmps.getD t undef)->
  wpAny P .any (ops.toList.take k).toArray (fun e a w=>e=.normal/\K a w) fuel l' a w->wpAnyIn Fence.wide n P .any ops Q (fuel+m) listed a w:=by
 unfold b0y at hc;simp only [lbN] at hc;obtain ⟨⟨⟨hb,hm⟩,hg⟩,hkn⟩:=hc;have hkn:k<=ops.size:=by simpa using Nat.le_of_ble_eq_true hkn
 have hsz:((ops.toList.take k).toArray).size=k:=zo;have hget:∀i,i<k->((ops.toList.take k).toArray)[i]? =ops[i]?:=fun i hi=>by simp [lbi,hi]
 have hb':a1J ((ops.toList.take k).toArray).toList=true:=by
  unfold a1J at hb ⊢;rw [lbv] at hb ⊢;rintro ⟨o,i⟩ hx;rw [a52] at hx;simp only [lbi] at hx;split at hx
  ·exact hb (o,i) (by rw [a52];exact hx)
  ·cases hx
 intro fuel;induction fuel with
 |zero=>
  rintro listed l' a w hls hl's hag hhi hcl hfr ⟨hr,_,hKk⟩;have hall:=a08 hb' (by rw [hl's,hsz]) hr;have e:listed=U6 k ops.size:=by
   refine Array.ext (by rw [hls,a3E]) fun i h1 h2=>?_
   have h3:=a3m (k:=k) (n:=ops.size) (i:=i) om;rw [Array.getElem?_eq_getElem h2] at h3;injection h3 with h3;rw [h3];have h4:=b1P h1;rw [Array.getElem?_eq_getElem h1] at h4;injection h4 with h4;rw [h4];by_cases hik:i<k
   ·rw [← hag i hik,hall i (by rw [hsz];exact hik)];symm;simpa using hik
   ·rw [hhi i om];symm;rw [← lbQ];simpa using hik
  rw [e,U8];exact hK a w hKk hfr
 |succ fuel ih=>
  rintro listed l' a w hls hl's hag hhi hcl hfr ⟨hnil,hstep⟩;by_cases hall:∀i,i<k->listed.getD i false=true
  ·have e:listed=U6 k ops.size:=by
    refine Array.ext (by rw [hls,a3E]) fun i h1 h2=>?_
    have h3:=a3m (k:=k) (n:=ops.size) (i:=i) om;rw [Array.getElem?_eq_getElem h2] at h3;injection h3 with h3;rw [h3];have h4:=b1P h1;rw [Array.getElem?_eq_getElem h1] at h4;injection h4 with h4;rw [h4];by_cases hik:i<k
    ·rw [hall i hik];symm;simpa using hik
    ·rw [hhi i om];symm;rw [← lbQ];simpa using hik
   have hr:Region.ready .any (ops.toList.take k).toArray l'=[]:=by
    cases hr:Region.ready .any (ops.toList.take k).toArray l' with
    |nil=>rfl
    |cons i r=>
     have hi:i ∈ Region.ready .any (ops.toList.take k).toArray l':=by rw [hr];simp
     rw [mem_ready] at hi;obtain ⟨h1,o,ho,_⟩:=hi;have hlt:=(lb6.1 ho).1;rw [hsz] at hlt;have h2:=hall i hlt;rw [← hag i hlt] at h2;simp [hl's,hlt] at h1 h2;rw [h1] at h2;cases h2
   rw [e,show fuel+1+m=m+(fuel+1) by omega];exact a93 (hK a w (hnil hr).2 hfr) _
  ·rw [show fuel+1+m=(fuel+m)+1 by omega];refine ⟨fun hr=>absurd (fun i hi=>a08 hb hls hr i om) hall,fun i hi=>?_⟩;have hi0:=hi;rw [mem_ready] at hi;obtain ⟨hl,o,ho,hready⟩:=hi;have hlt:=(lb6.1 ho).1;have ho':ops.toList[i]? =some o:=by simpa using ho
   have hready':∀e ∈ o.after.toList,Region.binds .any e=true->listed.getD e.on false=true:=fun e he=>hready e (by simpa using he)
   have hun:listed.getD i false=false:=by simp [hls,hlt] at hl ⊢;exact hl
   have hik:i<k:=by
    apply Y9;intro hge;refine hall fun j hj=>?_
    have h1:=lbv.1 hm i (lbB.2 (by simpa using hlt));have h2:Nat.blt i k=false:=by rw [← lbQ];simpa using hge
    rw [h2,a8y] at h1;have h3:=lbv.1 h1 j (lbB.2 hj);exact a0I hb (S:=fun j=>listed.getD j false=true) hcl ho' hready' h3
   have hmem:i ∈ Region.ready .any (ops.toList.take k).toArray l':=by
    rw [mem_ready];refine ⟨?_,o,(hget i hik).trans ho,fun e he hbi=>?_⟩
    ·have:=hag i hik;rw [hun] at this;simp [hl's,hik] at this ⊢;exact this
    ·have h1:=hready' e (by simpa using he) hbi;have h2:=a8I hb ho' (e:=e) (by simpa using he) hbi;rw [← hag e.on om] at h1;exact h1
   have h:=hstep i hmem;unfold wpOp at h;unfold wpOpIn;rw [hget i hik,ho] at h;rw [ho];simp only at h ⊢;have hog:o.guard=none:=by
    have:=lbv.1 hg o (lbm (i:=i) (by rw [lbi,iA hik];exact ho'));cases hq:o.guard with
    |none=>rfl
    |some x=>rw [hq] at this;cases this
   have hw:∀y,Region.wanted o y=true:=fun y=>by unfold Region.wanted;rw [hog]
   rw [hw] at h ⊢;simp only [if_true] at h ⊢;rcases h with h|⟨_,a',w',h,_⟩
   ·refine b5P (fun a w h hfa=>ih (listed.setIfInBounds i true) (l'.setIfInBounds i true) a w (by simpa using hls) (by simpa using hl's) (fun j hj=>?_) (fun j hj=>?_) (fun j oj hoj hl e he hbi=>?_) (fun t ht=>(hfa t (ht o (lbm (i:=i) (by rw [lbi,iA hik];exact ho')))).trans (hfr t ht)) h) (fun e a w he hq=>he hq.1) h
    ·by_cases hji:i=j
     ·subst hji;rw [a0y om,a0y om]
     ·rw [getD_set_ne false hji,getD_set_ne false hji];exact hag j hj
    ·rw [getD_set_ne false om];exact hhi j hj
    ·rcases a02 hl with rfl|hl
     ·rw [ho'] at hoj;injection hoj with hoj;subst hoj;exact getD_set_true (hready' e he hbi)
     ·exact getD_set_true (hcl j oj hoj hl e he hbi)
   ·cases h
def a95 (n i:Nat):(Array.replicate n false).getD i false=false:=by
 rw [S0,Array.getElem?_replicate];split<;>rfl
def br8 (ops:List Oper) (k:Nat):Bool:=(List.range ops.length).all fun i=>Nat.blt i k || ((List.range i).all fun j=>((a1s ops).getD i 0).testBit j) && (match ops[i]? with|some o=>o.guard.isNone|none=>true)
def bj5 {P:Program} {n k:Nat} {ops:Array Oper} {Q:Exit->Act->World->Prop} (hb:a1J ops.toList=true) (hs:br8 ops.toList k=true):∀(m j:Nat) (a:Act) (w:World),j+m=ops.size->k<=j->
 wpListIn Fence.wide n P ops Q (ops.toList.drop j) a w->wpAnyIn Fence.wide n P .any ops Q m (U6 j ops.size) a w:=by
 have hget:∀j i,i<ops.size->(U6 j ops.size).getD i false=Nat.blt i j:=fun j i hi=>by
  rw [S0,a3m hi];rfl
 have hnr:∀j i,j<=ops.size->k<=j->i ∈ Region.ready .any ops (U6 j ops.size)->i=j:=fun j i hj hk hi=>by
  rw [mem_ready] at hi;obtain ⟨hl,o,ho,hready⟩:=hi;have hlt:=(lb6.1 ho).1;have ho':ops.toList[i]? =some o:=by simpa using ho
  have h1:(U6 j ops.size).getD i false=false:=by
   have:=a3E j ops.size;simp [this,hlt] at hl ⊢;exact hl
  rw [hget j i hlt] at h1;have hge:j<=i:=by
   apply Y9;intro h;have:Nat.blt i j=true:=zo;rw [this] at h1;cases h1
  apply Y9;intro hne;have h2:=lbv.1 hs i (lbB.2 (by simpa using hlt));have h3:Nat.blt i k=false:=by rw [← lbQ];simp;omega
  rw [h3,a8y,lbN] at h2;have h4:=lbv.1 h2.1 j (lbB.2 om);have h5:=a0I hb (S:=fun i=>(U6 j ops.size).getD i false=true) (fun i2 o2 ho2 hi2 e he hbi=>by
   have hl2:=(lbe.1 ho2).1;have hl3:i2<ops.size:=by simpa using hl2
   rw [hget j i2 hl3] at hi2;have h6:=a8I hb ho2 he hbi;rw [hget j e.on om];simp at hi2 ⊢;omega) ho' (fun e he=>hready e (by simpa using he)) h4
  rw [hget j j om] at h5;simp at h5
 intro m;induction m with
 |zero=>
  intro j a w hj hk h;have hd:ops.toList.drop j=[]:=by rw [List.drop_eq_nil_iff];simp;omega
  rw [hd] at h;refine ⟨?_,h⟩;cases hr:Region.ready .any ops (U6 j ops.size) with
  |nil=>rfl
  |cons i r=>
   have hi:=hnr j i om hk (by rw [hr];simp);have hm:i ∈ Region.ready .any ops (U6 j ops.size):=by rw [hr];simp
   rw [mem_ready] at hm;obtain ⟨_,o,ho,_⟩:=hm;have:=(lb6.1 ho).1;omega
 |succ m ih=>
  intro j a w hj hk h;have hjl:j<ops.size:=om;have hd:ops.toList.drop j=ops[j]::ops.toList.drop (j+1):=by rw [a3k (by simpa using hjl)];simp
  rw [hd] at h;have h2:=lbv.1 hs j (lbB.2 (by simpa using hjl));have h3:Nat.blt j k=false:=by rw [← lbQ];simp;omega
  have hoj:ops.toList[j]? =some ops[j]:=by simp [hjl]
  rw [h3,a8y,lbN,hoj] at h2;have hgn:ops[j].guard=none:=by
   have:=h2.2;simp only at this;cases hq:ops[j].guard with
   |none=>rfl
   |some x=>rw [hq] at this;cases this
  have hw:∀y,Region.wanted ops[j] y=true:=fun y=>by unfold Region.wanted;rw [hgn]
  refine ⟨fun hr=>?_,fun i hi=>?_⟩
  ·have:=a08 hb (a3E _ _) hr j hjl;rw [hget j j hjl] at this;simp at this
  ·obtain rfl:=hnr j i om hk hi;unfold wpOpIn;rw [Array.getElem?_eq_getElem hjl];simp only [hw,if_true];unfold wpListIn at h;simp only [hw,if_true] at h;have e:(U6 i ops.size).setIfInBounds i true=U6 (i+1) ops.size:=by
    refine Array.ext (by simp [U6]) fun x h1 h2=>?_
    have hx:x<ops.size:=by simpa [U6] using h1
    have a1:=a3m (k:=i+1) (n:=ops.size) hx;rw [Array.getElem?_eq_getElem h2] at a1;injection a1 with a1;rw [a1];by_cases hix:i=x
    ·subst hix;simp
    ·rw [Array.getElem_setIfInBounds_ne (by simpa [U6] using hx) hix];have a2:=a3m (k:=i) (n:=ops.size) hx;rw [Array.getElem?_eq_getElem (by simpa [U6] using hx)] at a2;injection a2 with a2;rw [a2];rw [Bool.eq_iff_iff];simp;omega
   rw [e];exact Oper.wpIn_mono (fun a w h=>ih (i+1) a w om om h) h
def b1B {P:Program} {τ:Tab} (hτ:G5 P τ) {n k id:Nat} {opl:List Oper} {Q:Exit->Act->World->Prop} {K:Env->Hp->Prop} {env:Env} {a0:Act} {w0:World} (hmx:P.follows .mixedOrders=true)
 (hr:a97 (opl.take k)=true) (hc:b0y opl k=true) (hsq:br8 opl k=true) (h:a8Q P τ (opl.take k) true 0 (opl.take k) env [] K) (hs:Sim w0 (fun _=>none) (fun _=>False) [] a0 w0 env [])
 (hK:∀env' H' a' w',K env' H'->Sim w0 (fun _=>none) (fun _=>False) [] a' w' env' H'->(∀ t,(∀ o ∈ opl.take k,o.dst≠some t)->a'.tmps.getD t undef=a0.tmps.getD t undef)->wpListIn Fence.wide n P opl.toArray Q (opl.drop k) a' w'):
 (Code.region id opl.toArray true).wpIn Fence.wide n P Q a0 w0:=by
 refine wpIn_region_any hmx ?_;have hb:a1J opl=true:=by
  unfold b0y at hc;simp only [lbN] at hc;exact hc.1.1.1
 have hkn:k<=opl.length:=by
  unfold b0y at hc;simp only [lbN] at hc;exact Nat.le_of_ble_eq_true hc.2
 have e:opl.toArray.size=k+(opl.length - k):=zo;have hd:=a6n (H0:=[]) (ι0:=fun _=>none) hτ (ops:=(opl.take k).toArray) (Q:=fun e a w=>e=.normal/\∃env' H',K env' H'/\Sim w0 (fun _=>none) (fun _=>False) [] a w env' H') (w0:=w0) (M0:=fun _=>False) (fun b hb=>hb.elim) (fun env H a w h1 h2=>⟨rfl,env,H,h1,h2⟩) hr h hs;have hsz:((opl.take k).toArray).size=k:=zo;rw [hsz] at hd;have key:=bd1 (k:=k) (m:=opl.length - k) (n:=n) (Q:=Q) (ops:=opl.toArray) (a0:=a0) (K:=fun a' w'=>∃env' H',K env' H'/\Sim w0 (fun _=>none) (fun _=>False) [] a' w' env' H') (by simpa using hc)
  (fun a w ⟨env',H',h1,h2⟩ hfr=>bj5 (ops:=opl.toArray) (by simpa using hb) (by simpa using hsq) (opl.length - k) k a w zo (lbR _) (by simpa using hK env' H' a w h1 h2 (by simpa using hfr))) k (Array.replicate (k+(opl.length - k)) false) (Array.replicate k false) a0 _ zo zq (fun i hi=>by rw [a95,a95]) (fun i hi=>a95 _ _) (fun i o _ hl=>by rw [a95] at hl;cases hl) (fun _ _=>rfl) (by simpa using hd)
 rw [e];exact key
section
open Go.RowKit Go.Shelf
attribute [local go_sem] Oper.semAt_some
def bx2 (l:LI):ec 202 [j7 l] [] (.c (.t (.sl 1 .full (l.map j4)))) []:=by
 have m1:(l.map j4).length=l.length:=zq;refine ac Tryz.func202 ?_;conv=>whnf
 repeat' (first|refine zx ?_|refine ⟨⟨om,om,om,om⟩,?_⟩|apply zD<;>intro<;>try omega)<;>conv=>whnf
 all_goals exact p7 (show a9b [] _ _ _ from by rw [lbY,lbn (lbR _)];rfl)
def aF3 {w:World} {a:Act} {env:Env} (hd:a.defers=[]) (hs:a.tmps.size=env.length) (he:∀t s,env[t]? =some s->RS w (fun _=>none) (fun _=>False) s (a.tmps.getD t undef)):
 Sim w (fun _=>none) (fun _=>False) [] a w env []:=
 ⟨_,_,hd,hs,he,⟨fun id k h=>by simp at h,fun id k h=>by simp at h,fun id k h=>by simp at h,fun id id' k k' h=>by simp at h,fun id id' k k' h=>by simp at h⟩,fun b h=>h.elim,fun _ _=>rfl,a4f.refl _ _ _ _⟩
def b3d {w w':World} {ι':Io} {M':Ms} {H':Hp} (h:a4f w (fun _=>none) (fun _=>False) [] w' ι' M' H'):w.grownBy w' none:=
 ⟨h.os,h.tape,h.output,h.size,fun b hb _=>h.keep b hb (by rintro ⟨id,k,c,s,hk,_⟩;simp at hk)⟩
def b4m {w w':World} {a:Act} {env:Env} {H:Hp} (h:Sim w (fun _=>none) (fun _=>False) [] a w' env H):a.defers=[]/\a.tmps.size=env.length/\w.grownBy w' none/\
 ∃ι M,a3U w' ι M env a/\v4 w' ι M H/\∀id k b cap size,H[id]? =some k->k.mode=.live->ι id=some (.blk b cap size)->w.heap.size<=b:=by
 obtain ⟨ι,M,h1,h2,h3,h4,h5,h6,h7⟩:=h;refine ⟨h1,h2,b3d h7,ι,M,h3,h4,fun id k b cap size hk hm hi=>?_⟩;rcases h7.live b ⟨id,k,cap,size,hk,hm,hi⟩ with ⟨id',k',c,s,hk',_⟩|h
 ·simp at hk'
 ·exact h
def az2 {w:World} {ι:Io} {M:Ms} {v u:Value} (h:RS w ι M (.c (.t (.atm v))) u):u=v:=by
 cases h with|c h=>cases h with|t h=>cases h with|atm=>rfl
def bx5 (l:List Value) (h:l.length=38):l=(List.range 38).map fun i=>l.getD i undef:=by
 refine a0R fun i=>?_
 by_cases hi:i<38
 ·have hl:i<l.length:=by omega
  simp [hi,lbl,hl]
 ·rw [lbd om,lbd zo]
def S.isJunk:S->Bool
 |.junk=>true
 |_=>false
def b4l {l:List S} (ks:List Nat) (h:(l.zipIdx.all fun p=>ks.any (Nat.beq p.2) || p.1.isJunk)=true) {t:Nat} {x:S} (hx:l[t]? =some x):t ∈ ks\/x=J:=by
 have h1:=lbv.1 h (x,t) (by rw [a52];exact hx);rw [lbO] at h1;rcases h1 with h1|h1
 ·obtain ⟨k,hk,he⟩:=lbw.1 h1;have:t=k:=a1m he;subst this;exact .inl hk
 ·right
  cases x with
  |junk=>rfl
  |_=>cases h1
def bu3 (a:Act) (h:a.tmps.size=38) (hd:a.defers=[]):a=⟨((List.range 38).map fun i=>a.tmps.getD i undef).toArray,[]⟩:=by
 obtain ⟨tm,ds⟩:=a;have hd:ds=[]:=hd;subst hd
 congr 1
 have:=bx5 tm.toList (by simpa using h);obtain ⟨l⟩:=tm;simpa using congrArg List.toArray this
section
variable {X ns Bn By Bl Bd lp n:Nat} {l:List Int} {A:Option Addr} {cap:Nat}
abbrev b7n (Bn By Bl Bd:Nat):List Value:=[.pointer (some ⟨Bn,0,none⟩),.pointer (some ⟨By,0,none⟩),.pointer (some ⟨Bl,0,none⟩),.pointer (some ⟨Bd,0,none⟩)]
abbrev dnF (Bn By Bl Bd:Nat):Value:=.func (.func 200) #[] #[.pointer (some ⟨Bn,0,none⟩),.pointer (some ⟨By,0,none⟩),.pointer (some ⟨Bl,0,none⟩),.pointer (some ⟨Bd,0,none⟩)]
abbrev XE:=LI × Value
def GX (n0:Nat) (x:XE) (W:World):Prop:=a2s n0 W x.1 x.2/\x.1.length<=1000
def a4W {n0:Nat} {W:World} {s:LI} {v:Value} (h:a2s n0 W s v):∃A cap,v=.slice A s.length cap:=by
 rcases h with ⟨rfl,A,rfl⟩|⟨g,cap,cur,rfl,_⟩
 ·exact ⟨A,0,rfl⟩
 ·exact ⟨_,cap,rfl⟩
def b3z {W:World} {b:Nat} {t:TypeId} {v:Value} {x:T} (h:Boxed W b t v) (hx:RT W (fun _=>False) x v):RT W (fun _=>False) (.ptr [x]) (.pointer (some ⟨b,0,none⟩)):=by
 refine .ptr (b:=b) (off:=0) (fun _=>v) (fun j c hj=>?_) (fun j c hj=>?_)
 ·cases j with
  |zero=>exact ⟨h.cell,fun h=>h⟩
  |succ j=>simp at hj
 ·cases j with
  |zero=>injection hj with hj;subst hj;exact hx
  |succ j=>simp at hj
def b5M (hCl:∀l:LI,l.length<=100000->ec 201 [j7 l] [] (.c (.own 0 0 l.length true)) [w7 l])
 (JJ:List XE->World->Prop) (hJk:∀pre A B,JJ pre A->A.grownBy B none->JJ pre B) (n0 N:Nat)
 (hY:∀m pre x W,JJ pre W->GX n0 x W->pre.length<N->YieldAt Fence.wide m Tryz.prog lp #[x.2] W fun e W'=>e=.returned (.bool true)/\JJ (pre++[x]) W'/\KpX X ns W W')
 (m:Nat) (s:LI) (sv:Value) (i:Int) (pre:List XE) (W:World) (hs:s.length=n) (h1000:s.length<=1000) (hD:DnC X ns Bn By Bl Bd lp n l A cap W) (hsv:a2s ns W s sv) (hJ:JJ pre W) (hN:pre.length<N) (hW:n0<=W.heap.size):
 CallsIn Fence.wide m Tryz.prog 200 (#[.int .i64 i,sv]++(b7n Bn By Bl Bd).toArray) W fun e W'=>e=.returned (.bool true)/\∃v,JJ (pre++[(s,v)]) W'/\KpX X ns W W':=by
 obtain ⟨As,cs,hsv2⟩:=a4W hsv;have hrt:RT W (fun _=>False) (v6 s) sv:=hsv.rt fun b h=>h.elim
 subst hsv2;have c1:=hD.bn.cell;have hcl:=fun H:Hp=>a1x (H:=H) (hCl s om) rfl rfl (j3 _)
 have hmx:Tryz.prog.follows .mixedOrders=true:=zr;refine callsIn_of_wp Tryz.func200 rfl trivial ?_ rfl;simp only [Tryz.ntmps200,a6B,lbu,a2l,Nat.reduceAdd,Nat.reduceSub,an0,aB0,at8,ay5,a6s,a3Z]
 gi_wp2
 all_goals try omega
 refine aH8 ?_;refine b1B (k:=3) (env:=[J,j7 s,J,S.c (C.t (T.ptr [T.atm (.func (.yield lp) #[] #[])]))]++Jn 34) g8 hmx zk zk zk (K:=fun env' H'=>env'[14]? =some (.c (.t (.atm (.func (.yield lp) #[] #[]))))/\env'[16]? =some (.c (.own 0 0 s.length true))/\H'=[w7 s]/\env'.length=38) ?h ?s ?k
 case h=>
  conv=>whnf
  repeat' (first|refine zx ?_|refine .inl ⟨_,_,hcl _,?_⟩|apply zD<;>intro h<;>try omega)<;>conv=>whnf
  all_goals exact rz
 case s=>
  refine aF3 rfl rfl fun t x hx=>?_
  rcases b4l [1,3] rfl hx with ht|rfl
  ·have ht:t=1\/t=3:=by simpa using ht
   rcases ht with rfl|rfl
   ·injection hx with hx;subst hx;exact .c (.t hrt)
   ·injection hx with hx;subst hx;exact .c (.t (b3z hD.yd (.atm rfl)))
  ·exact .junk
 case k=>
  rintro env' H' a' w' ⟨k1,k2,rfl,k4⟩ hS hfr;clear hfr;obtain ⟨e1,e2,e3,ι,M,e4,e5,e6⟩:=b4m hS;have e14:=az2 (e4 14 _ k1);have e16:=b1G (n0:=n0) e5 rfl (e4 16 _ k2) (fun b c z hb=>by have:=e6 0 _ b c z rfl rfl hb;omega);rw [bu3 a' om e1];simp only [List.range,List.range.loop,List.map];rw [e14];generalize a'.tmps.getD 16 undef=v at e16;generalize a'.tmps.getD 0 undef=x0;generalize a'.tmps.getD 1 undef=x1;generalize a'.tmps.getD 2 undef=x2;generalize a'.tmps.getD 3 undef=x3;generalize a'.tmps.getD 4 undef=x4;generalize a'.tmps.getD 5 undef=x5;generalize a'.tmps.getD 6 undef=x6;generalize a'.tmps.getD 7 undef=x7;generalize a'.tmps.getD 8 undef=x8;generalize a'.tmps.getD 9 undef=x9;generalize a'.tmps.getD 10 undef=x10;generalize a'.tmps.getD 11 undef=x11;generalize a'.tmps.getD 12 undef=x12;generalize a'.tmps.getD 13 undef=x13;generalize a'.tmps.getD 15 undef=x15;generalize a'.tmps.getD 17 undef=x17;generalize a'.tmps.getD 18 undef=x18;generalize a'.tmps.getD 19 undef=x19;generalize a'.tmps.getD 20 undef=x20;generalize a'.tmps.getD 21 undef=x21;generalize a'.tmps.getD 22 undef=x22;generalize a'.tmps.getD 23 undef=x23;generalize a'.tmps.getD 24 undef=x24;generalize a'.tmps.getD 25 undef=x25;generalize a'.tmps.getD 26 undef=x26;generalize a'.tmps.getD 27 undef=x27;generalize a'.tmps.getD 28 undef=x28;generalize a'.tmps.getD 29 undef=x29;generalize a'.tmps.getD 30 undef=x30;generalize a'.tmps.getD 31 undef=x31;generalize a'.tmps.getD 32 undef=x32;generalize a'.tmps.getD 33 undef=x33;generalize a'.tmps.getD 34 undef=x34;generalize a'.tmps.getD 35 undef=x35;generalize a'.tmps.getD 36 undef=x36;generalize a'.tmps.getD 37 undef=x37;obtain ⟨fn,tmps,assign,body,hy,hR⟩:=hY (m - 1) pre (s,v) w' (hJk _ _ _ hJ e3) ⟨e16,h1000⟩ hN
  gi_wp2
  refine ⟨fun h=>by simp [Fence.wide] at h,?_⟩;refine hR.mono ?_;rintro e W3 ⟨rfl,hJ3,hk3⟩
  gi_wp2
  go_ret
  exact ⟨rfl,v,hJ3,(KpX.grown e3).trans hk3⟩
def au7 {l:LI} {j k:Nat} {x:Int} (h:l[j]? =some x):A9 (l.drop j) (k+1)=(A9 (l.drop (j+1)) k).map (x::·)++A9 (l.drop (j+1)) (k+1):=by
 have hlt:=(lbe.1 h).1;rw [lbf hlt] at h;injection h with h;rw [a3k hlt,A9,h]
def bj7 (hCl:∀l:LI,l.length<=100000->ec 201 [j7 l] [] (.c (.own 0 0 l.length true)) [w7 l])
 (JJ:List XE->World->Prop) (hJk:∀pre A B,JJ pre A->A.grownBy B none->JJ pre B) (n0 N:Nat) (hl:l.length<=1000) (h1000:n<=1000)
 (hY:∀m pre x W,JJ pre W->GX n0 x W->pre.length<N->YieldAt Fence.wide m Tryz.prog lp #[x.2] W fun e W'=>e=.returned (.bool true)/\JJ (pre++[x]) W'/\KpX X ns W W') (hn0:n0<=ns):
 ∀(k m:Nat) (s:LI) (sv:Value) (i:Nat) (pre:List XE) (W:World),s.length+k=n->i<=l.length->DnC X ns Bn By Bl Bd lp n l A cap W->a2s ns W s sv->JJ pre W->pre.length+(A9 (l.drop i) k).length<=N->ns<=W.heap.size->
 CallsIn Fence.wide m Tryz.prog 200 (#[.int .i64 (i:Int),sv]++(b7n Bn By Bl Bd).toArray) W fun e W'=>e=.returned (.bool true)/\∃xs:List XE,xs.map Prod.fst=(A9 (l.drop i) k).map (s++·)/\JJ (pre++xs) W'/\KpX X ns W W':=by
 intro k;induction k with
 |zero=>
  intro m s sv i pre W hs hi hD hsv hJ hN hW;refine (b5M hCl JJ hJk n0 N hY m s sv i pre W om om hD hsv hJ (by simp [A9] at hN;omega) om).mono ?_;rintro e W' ⟨rfl,v,h1,h2⟩;exact ⟨rfl,[(s,v)],by simp [A9],h1,h2⟩
 |succ k ih=>
  intro m s sv i pre W hs hi hD hsv hJ hN hW;obtain ⟨As,cs,hsv2⟩:=a4W hsv;subst hsv2;have c1:=hD.bn.cell;have hmx:Tryz.prog.follows .mixedOrders=true:=zr;have hsn:¬(s.length:Int)=(n:Int):=om;refine callsIn_of_wp Tryz.func200 rfl trivial ?_ rfl;simp only [Tryz.ntmps200,a6B,lbu,a2l,Nat.reduceAdd,Nat.reduceSub,an0,aB0,at8,ay5,a6s,a3Z]
  gi_wp2
  all_goals try omega
  gi_loopw [9] (fun iv wr=>∃j:Nat,i<=j/\j<=l.length/\iv=.int .i64 (j:Int)/\∃xs:List XE,xs.map Prod.fst++(A9 (l.drop j) (k+1)).map (s++·)=(A9 (l.drop i) (k+1)).map (s++·)/\JJ (pre++xs) wr/\KpX X ns W wr) (fun iv _=>l.length - (intOf iv).toNat)
  case atStart=>exact ⟨i,lbR _,hi,rfl,[],zq,by simpa using hJ,KpX.refl _ _ _⟩
  case round=>
   obtain ⟨j,hij,hjl,rfl,xs,hxs,hJj,hkj⟩:=hrel;have hDr:=hD.keep hkj;have hXn:=hD.nX.2.2.2.2.2;have hsr:=hkj.irow hXn hsv;have d2:=hDr.bl.cell;by_cases hlt:j<l.length
   ·obtain ⟨x,hx⟩:∃x,l[j]? =some x:=⟨_,lbf hlt⟩;have hrt:RT wr (fun _=>False) (v6 s) (.slice As s.length cs):=hsr.rt fun b h=>h.elim
    have hrl:=hDr.rt;have hcp:=bx2 s
    gi_wp2
    all_goals try omega
    refine aH8 ?_;refine b1B (k:=11) (env:=[J,j7 s,J,J,S.c (C.t (T.ptr [v6 l])),S.c (C.t (T.ptr [T.atm (dnF Bn By Bl Bd)])),J,J,J,eI j]++Jn 28) g8 hmx zk zk zk (K:=fun env' H'=>env'[25]? =some (.c (.t (.atm (dnF Bn By Bl Bd))))/\env'[27]? =some (eI ((j+1:Nat):Int))/\env'[35]? =some (.c (.own 0 0 (s++[x]).length true))/\H'=[w7 (s++[x])]/\env'.length=38) ?h ?s ?k
    case h=>
     conv=>whnf
     repeat' (first|refine zx ?_|refine j6 hx ?_|refine b70 zt rfl zu ?_|apply zD<;>intro h<;>try omega)<;>conv=>whnf
     all_goals first|omega|skip
     refine ⟨rfl,?_,?_,?_,rfl⟩
     ·show some (eI ((j:Int)+1))=_;rw [show ((j+1:Nat):Int)=(j:Int)+1 by omega]
     ·show some (S.c (C.own 0 0 ((s.map j4).length+(toC [[T.atm (Value.int .i64 x)]]).length) true))=_;rw [show (s.map j4).length+(toC [[T.atm (Value.int .i64 x)]]).length=(s++[x]).length by simp [toC]]
     ·show [F8 _ _ _ _]=[w7 _];unfold F8
      congr 2
      simp [toC,j4]
    case s=>
     refine aF3 rfl rfl fun t x hx=>?_
     rcases b4l [1,4,5,9] rfl hx with ht|rfl
     ·have ht:t=1\/t=4\/t=5\/t=9:=by simpa using ht
      rcases ht with rfl|rfl|rfl|rfl
      ·injection hx with hx;subst hx;exact .c (.t hrt)
      ·injection hx with hx;subst hx;exact .c (.t (b3z hDr.bl hrl))
      ·injection hx with hx;subst hx;exact .c (.t (b3z hDr.bd (.atm rfl)))
      ·injection hx with hx;subst hx;exact .c (.t (.atm rfl))
     ·exact .junk
    case k=>
     rintro env' H' a' w' ⟨k1,k2,k3,rfl,k4⟩ hS hfr;have f0:=hfr 0 zk;have f1:=hfr 1 zk;have f2:=hfr 2 zk;have f3:=hfr 3 zk;have f4:=hfr 4 zk;have f5:=hfr 5 zk;have f6:=hfr 6 zk;have f7:=hfr 7 zk;have f8:=hfr 8 zk;have f9:=hfr 9 zk;have f10:=hfr 10 zk;have f11:=hfr 11 zk;have f12:=hfr 12 zk;have f13:=hfr 13 zk;have f14:=hfr 14 zk;have f15:=hfr 15 zk;have f16:=hfr 16 zk;have f17:=hfr 17 zk;have f18:=hfr 18 zk;have f19:=hfr 19 zk;have f20:=hfr 20 zk;have f21:=hfr 21 zk;have f22:=hfr 22 zk;have f23:=hfr 23 zk;have f24:=hfr 24 zk;have f36:=hfr 36 zk;have f37:=hfr 37 zk;clear hfr;simp only [S0,List.getElem?_toArray,List.getElem?_cons_zero,List.getElem?_cons_succ,ax5] at f0 f1 f2 f3 f4 f5 f6 f7 f8 f9 f10 f11 f12 f13 f14 f15 f16 f17 f18 f19 f20 f21 f22 f23 f24 f36 f37;obtain ⟨e1,e2,e3,ι,M,e4,e5,e6⟩:=b4m hS;have e25:=az2 (e4 25 _ k1);have e27:=az2 (e4 27 _ k2);have e35:=b1G (n0:=ns) e5 rfl (e4 35 _ k3) (fun b c z hb=>by have:=e6 0 _ b c z rfl rfl hb;have:=hkj.size;omega);rw [bu3 a' om e1];simp only [List.range,List.range.loop,List.map];generalize a'.tmps.getD 35 undef=v35 at e35 ⊢;generalize a'.tmps.getD 26 undef=x26;generalize a'.tmps.getD 28 undef=x28;generalize a'.tmps.getD 29 undef=x29;generalize a'.tmps.getD 30 undef=x30;generalize a'.tmps.getD 31 undef=x31;generalize a'.tmps.getD 32 undef=x32;generalize a'.tmps.getD 33 undef=x33;generalize a'.tmps.getD 34 undef=x34;simp only [S0] at e25 e27 ⊢;rw [e25,e27,f0,f1,f2,f3,f4,f5,f6,f7,f8,f9,f10,f11,f12,f13,f14,f15,f16,f17,f18,f19,f20,f21,f22,f23,f24,f36,f37];have hdd:∀k:Nat,(Fence.wide.depth.isSome=true->1<=k):=fun k h=>by simp [Fence.wide] at h
     have hJ':=hJk _ _ _ hJj e3;have hN':(pre++xs).length+(A9 (l.drop (j+1)) k).length<=N:=by
      have q:=congrArg List.length hxs;rw [au7 hx] at q;simp only [lbq,lbr] at q ⊢;omega
     have hk':=hkj.trans (KpX.grown e3);have hD':=hD.keep hk'
     gi_wp2_with (refine ⟨trivial,hdd _,?_⟩;refine (ih (m - 1) (s++[x]) _ (j+1) (pre++xs) w' zo om hD' e35 hJ' hN' (by have:=hk'.size;omega)).mono ?_;rintro e W3 ⟨rfl,ys,hys,hJ3,hk3⟩)
     have hbq:((s.length:Int) == (n:Int))=false:=by simpa using hsn
     simp only [hbq];refine ⟨⟨_,_,_,_,_,_,_,_,_,_,_,_,_,_,_,_,_,_,_,_,_,⟨j+1,om,om,?_,xs++ys,?_,by rw [← lbD];exact hJ3,hk'.trans hk3⟩,rfl⟩,?_⟩
     ·rw [show ((j+1:Nat):Int)=(j:Int)+1 by omega]
     ·rw [← hxs,au7 hx,lbC,lbC,lbD,hys,a6W]
      congr 2
      refine lbp fun q _=>?_
      simp
     ·simp [intOf];omega
   ·have hje:j=l.length:=by omega
    subst hje
    gi_wp2
    all_goals try omega
    go_ret
    refine ⟨rfl,xs,?_,hJj,hkj⟩;rw [List.drop_length] at hxs;simpa [A9] using hxs
end
end
section
open Go.RowKit Go.Shelf
attribute [local go_sem] Oper.semAt_some
def aS7 {P:Program} {w:World} {a:Addr} {m:Mode} (fn:Fn) (first captured:Array Value):(store a (.func fn first captured) m).run P w=stored P w a (.func fn first captured) m:=run_store P w a _ m rfl
attribute [local go_sem] aS7
section
variable {X ns Bn Bl n:Nat} {l:List Int} {A:Option Addr} {cap:Nat}
def b7w (hCl:∀l:LI,l.length<=100000->ec 201 [j7 l] [] (.c (.own 0 0 l.length true)) [w7 l])
 (JJ:List XE->World->Prop) (hJk:∀pre A B,JJ pre A->A.grownBy B none->JJ pre B) (lp m N:Nat) (hN:(A9 l n).length<=N) (hl:l.length<=1000) (h1000:n<=1000)
 (hY:∀m pre x W,JJ pre W->GX ns x W->pre.length<N->YieldAt Fence.wide m Tryz.prog lp #[x.2] W fun e W'=>e=.returned (.bool true)/\JJ (pre++[x]) W'/\KpX X ns W W')
 (W:World) (hW:ns<=W.heap.size) (hbn:Boxed W Bn tI (.int .i64 (n:Int))) (hbl:Boxed W Bl tIs (.slice A l.length cap)) (row:∀i x,l[i]? =some x->∃b off,A=some ⟨b,off,none⟩/\W.cell? ⟨b,off+i,none⟩=some (.int .i64 x)/\b<ns/\b≠X)
 (nX:Bn≠X/\Bl≠X/\Bl<ns/\X<ns) (lc:l.length<=cap/\cap<=maxLen) (hJ:JJ [] W):
 CallsIn Fence.wide m Tryz.prog 199 (#[.func (.yield lp) #[] #[]]++#[.pointer (some ⟨Bn,0,none⟩),.pointer (some ⟨Bl,0,none⟩)]) W fun e W'=>(∃ v,e=.returned v)/\∃xs:List XE,xs.map Prod.fst=A9 l n/\JJ xs W':=by
 have g1:W.grownBy (W.alloc (.cells #[.func (.yield lp) #[] #[]] 166)) none:=World.grownBy_alloc W _ none;have bD0:=Boxed.new (W.alloc (.cells #[.func (.yield lp) #[] #[]] 166)) 219 .nilFunc;rw [World.size_alloc] at bD0;have cD:=bD0.cell;have fD:=bD0.frozen;have bD:=Boxed.new (W.alloc (.cells #[.func (.yield lp) #[] #[]] 166)) 219 (dnF Bn W.heap.size Bl (W.heap.size+1));have bY:=(Boxed.new W 166 (.func (.yield lp) #[] #[])).alloc (.cells #[dnF Bn W.heap.size Bl (W.heap.size+1)] 219);rw [World.size_alloc] at bD;have g2:W.grownBy ((W.alloc (.cells #[.func (.yield lp) #[] #[]] 166)).alloc (.cells #[dnF Bn W.heap.size Bl (W.heap.size+1)] 219)) none:=by
  refine ⟨rfl,rfl,rfl,zo,fun k hk _=>?_⟩;exact (Below.heap_alloc _ _ _ zo).trans (Below.heap_alloc _ _ _ hk)
 have hJ2:=hJk _ _ _ hJ g2;have k2:=KpX.grown (X:=X) (ns:=ns) g2;have s2:ns<=((W.alloc (.cells #[.func (.yield lp) #[] #[]] 166)).alloc (.cells #[dnF Bn W.heap.size Bl (W.heap.size+1)] 219)).heap.size:=by have:=k2.size;omega
 obtain ⟨n1,n2,n3,n4⟩:=nX;have hD:DnC X ns Bn W.heap.size Bl (W.heap.size+1) lp n l A cap ((W.alloc (.cells #[.func (.yield lp) #[] #[]] 166)).alloc (.cells #[dnF Bn W.heap.size Bl (W.heap.size+1)] 219)):=
  ⟨k2.boxed hbn n1 (.inr de),bY,k2.boxed hbl n2 (.inl n3),bD,fun i x hx=>by
    obtain ⟨b,off,h1,h2,h3,h4⟩:=row i x hx;exact ⟨b,off,h1,k2.cell h2 h4 h3,h3,h4⟩,⟨n1,om,n2,om,n3,n4⟩,lc⟩
 have hdd:∀k:Nat,(Fence.wide.depth.isSome=true->1<=k):=fun k h=>by simp [Fence.wide] at h
 refine callsIn_of_wp Tryz.func199 rfl trivial ?_ rfl;simp only [Tryz.ntmps199,a6B,lbu,a2l,Nat.reduceAdd,Nat.reduceSub,an0,aB0,at8,ay5,a6s,a3Z]
 gi_wp2_with (refine ⟨trivial,hdd _,?_⟩;refine (bj7 hCl JJ hJk ns N hl h1000 hY (lbR _) n (m - 1) [] (.slice none 0 0) 0 [] _ zq (G6 _) hD (.inl ⟨rfl,none,rfl⟩) hJ2 (by simpa using hN) s2).mono ?_;rintro e W3 ⟨rfl,ys,hys,hJ3,hk3⟩)
 go_end0
 exact ⟨⟨_,rfl⟩,ys,by simpa using hys,by simpa using hJ3⟩
def b8d (hCl:∀l:LI,l.length<=100000->ec 201 [j7 l] [] (.c (.own 0 0 l.length true)) [w7 l]) (m:Nat) (hl:l.length<=1000) (h1000:n<=1000)
 (w:World) (hw:ns<=w.heap.size) (hbn:Boxed w Bn tI (.int .i64 (n:Int))) (hbl:Boxed w Bl tIs (.slice A l.length cap)) (row:∀i x,l[i]? =some x->∃b off,A=some ⟨b,off,none⟩/\w.cell? ⟨b,off+i,none⟩=some (.int .i64 x)/\b<ns/\b≠X)
 (nX:Bn≠X/\Bl≠X/\Bn<ns/\Bl<ns/\X<ns) (lc:l.length<=cap/\cap<=maxLen):
 bH4 Fence.wide m Tryz.prog 199 #[.pointer (some ⟨Bn,0,none⟩),.pointer (some ⟨Bl,0,none⟩)] (fun x:XE=>#[x.2]) (GX ns) (KpX X ns) (fun xs=>xs.map Prod.fst=A9 l n) (A9 l n).length w:=by
 intro lp JJ W hW hJ hY h0;obtain ⟨n1,n2,n3,n4,n5⟩:=nX;refine b7w hCl JJ (fun pre A B h hg=>hJ pre A B none h hg (fun r e=>by cases e)) lp m _ (lbR _) hl h1000 (fun m' pre x W1 h1 h2 h3=>YieldAt.anyDepth rfl m' (hY pre x W1 h1 h2 h3)) W (by have:=hW.size;omega)
  ((hW.block Bn om).trans hbn) ((hW.block Bl om).trans hbl) (fun i x hx=>?_) ⟨n1,n2,n4,n5⟩ lc h0
 obtain ⟨b,off,h1,h2,h3,h4⟩:=row i x hx;exact ⟨b,off,h1,(hW.cell (p:=⟨b,off+i,none⟩) (by show b<_;omega)).trans h2,h3,h4⟩
def b64 (m:Nat) (A:Option Addr) (len cap:Nat) (n:Int) (w:World):
 CallsIn Fence.wide m Tryz.prog 128 #[.slice A len cap,.int .i64 n] w fun e w'=>e=.returned (.func (.func 199) #[] #[.pointer (some ⟨w.heap.size+1,0,none⟩),.pointer (some ⟨w.heap.size,0,none⟩)])/\
  w'=(w.alloc (.cells #[.slice A len cap] tIs)).alloc (.cells #[.int .i64 n] tI):=by
 refine callsIn_of_wp Tryz.func128 rfl trivial ?_ rfl;simp only [Tryz.ntmps128,a6B,lbu,a2l,Nat.reduceAdd,Nat.reduceSub,an0,aB0,at8,ay5,a6s,a3Z]
 gi_wp2
 go_ret
 exact rz
end
end
def a5R:List (Int × Rat)->List (Int × Rat)->List (Int × Rat)
 |[],b=>b
 |t::r,[]=>t::r
 |t::r,u::q=>if t.1<u.1 then t::a5R r (u::q) else if u.1<t.1 then u::a5R (t::r) q else if t.2+u.2=0 then a5R r q else (t.1,t.2+u.2)::a5R r q
termination_by a b=>a.length+b.length
def a2K {last n:Int} {t:Int × Rat} {r:List (Int × Rat)} (h1:last<t.1) (h2:t.1<n) (h3:t.2≠0) (h4:n7 t.1 n r=true):n7 last n (t::r)=true:=by
 unfold n7;simp only [lbN,lbI];exact ⟨⟨⟨h1,h2⟩,h3⟩,h4⟩
def ap4 {n:Int}:∀(k:Nat) {last:Int} {a b:List (Int × Rat)},a.length+b.length<=k->-1<=last->n7 last n a=true->n7 last n b=true->
 n7 last n (a5R a b)=true/\∀v,L7 (a5R a b) v=L7 a v+L7 b v:=by
 intro k;induction k with
 |zero=>
  intro last a b hk h0 ha hb;have:a=[]:=a1C.1 om;have:b=[]:=a1C.1 om;subst a b;rw [a5R];exact ⟨rfl,fun v=>by show (0:Rat)=0+0;grind⟩
 |succ k ih=>
  intro last a b hk h0 ha hb
  match a,b with
  |[],b=>rw [a5R];exact ⟨hb,fun v=>by show _=(0:Rat)+_;grind⟩
  |t::r,[]=>rw [a5R];exact ⟨ha,fun v=>by show _=_+(0:Rat);grind⟩
  |t::r,u::q=>
   have mt:=L0 ha t (at3 ..);have mu:=L0 hb u (at3 ..);simp only [lbu] at hk;rw [a5R];by_cases h1:t.1<u.1
   ·rw [iA h1];have hb':n7 t.1 n (u::q)=true:=a2K h1 mu.2.1 mu.2.2 (a1B hb);obtain ⟨i1,i2⟩:=ih (last:=t.1) (a:=r) (b:=u::q) (by simp only [lbu];omega) om (a1B ha) hb';have hr:=a2K mt.1 mt.2.1 mt.2.2 i1;refine ⟨hr,fun v=>?_⟩;rw [a0b h0 hr,a0b h0 ha,i2];by_cases hv:v=t.1.toNat
    ·rw [iA hv,iA hv,ao3 (v:=v) om hb' om];grind
    ·rw [iB hv,iB hv]
   ·rw [iB h1];by_cases h2:u.1<t.1
    ·rw [iA h2];have ha':n7 u.1 n (t::r)=true:=a2K h2 mt.2.1 mt.2.2 (a1B ha);obtain ⟨i1,i2⟩:=ih (last:=u.1) (a:=t::r) (b:=q) (by simp only [lbu];omega) om ha' (a1B hb);have hr:=a2K mu.1 mu.2.1 mu.2.2 i1;refine ⟨hr,fun v=>?_⟩;rw [a0b h0 hr,a0b h0 hb,i2];by_cases hv:v=u.1.toNat
     ·rw [iA hv,iA hv,ao3 (v:=v) om ha' om];grind
     ·rw [iB hv,iB hv]
    ·rw [iB h2];have he:t.1=u.1:=om;have hq':=a1B hb;rw [← he] at hq';obtain ⟨i1,i2⟩:=ih (last:=t.1) (a:=r) (b:=q) om om (a1B ha) hq';by_cases h3:t.2+u.2=0
     ·rw [iA h3];refine ⟨b0r om i1,fun v=>?_⟩;rw [a0b h0 ha,a0b h0 hb,←he];by_cases hv:v=t.1.toNat
      ·rw [iA hv,iA hv,ao3 (v:=v) om i1 om];grind
      ·rw [iB hv,iB hv,i2]
     ·rw [iB h3];have hr:=a2K (t:=(t.1,t.2+u.2)) mt.1 mt.2.1 h3 i1;refine ⟨hr,fun v=>?_⟩;rw [a0b h0 hr,a0b h0 ha,a0b h0 hb,←he,i2];by_cases hv:v=t.1.toNat
      ·simp only [iA hv]
      ·simp only [iB hv]
def b8u {n:Nat} {a b:List (Int × Rat)} (ha:n7 (-1) (n:Int) a=true) (hb:n7 (-1) (n:Int) b=true) (z:List Rat):n8 (a5R a b) z=n8 a z+n8 b z:=by
 obtain ⟨h1,h2⟩:=ap4 (a.length+b.length) (lbR _) (ap1 _) ha hb;rw [Z4 h1,Z4 ha,Z4 hb,←a2t];exact p4 fun j hj=>by rw [h2];grind
noncomputable def b3P (s:m8) (g:List (Int × Rat)):List Rat:=match H9 s (E3 g) with
 |.col c=>aa5 (s8 s []) (a6p s (E3 g) c)
 |_=>s8 s (E3 g)
structure b4M (s:m8) (g:List (Int × Rat)):Prop where
 r:q9 s=true
 z:H9 s []=.best
 t:n7 (-1) ((s.n.toNat:Nat):Int) g=true
 p:∀z,k6 s z=true->0<=n8 g z
def b4M.og {s:m8} {g:List (Int × Rat)} (h:b4M s g):n7 (-1) ((s.n.toNat:Nat):Int) (E3 g)=true:=a2C h.t
def b7y {s:m8} {g:List (Int × Rat)} (h:b4M s g):k6 s (b3P s g)=true/\((∃ z,k6 s z=true/\0<n8 g z)->0<n8 g (b3P s g)):=by
 have h0:=(Z9 h.r rfl h.z).1;unfold b3P;rcases not_row (g:=E3 g) h.r h.z with ho|⟨c,ho⟩
 ·rw [ho];simp only;obtain ⟨p1,p2⟩:=Z9 h.r h.og ho;refine ⟨p1,fun ⟨z,hz,hp⟩=>?_⟩;have:=p2 z hz;rw [a15 (s:=s) (g:=g),a15 (s:=s) (g:=g)] at this;grind
 ·rw [ho];simp only;obtain ⟨h1,h2⟩:=a77 h.r h.og ho;refine ⟨ac0 h0 h1,fun _=>?_⟩;have h3:=a0V h0;have hn:=V4 h.r;rw [a4y (n:=s.n.toNat) om h1.len h.t];rw [a15 (s:=s) (g:=g)] at h2;have:=h.p _ h0;grind
def a6z (gL:List (List (Int × Rat))) (out:List Bool):Nat->List (Int × Rat)
 |0=>[]
 |k+1=>if out.getD k false=true then a6z gL out k else a5R (a6z gL out k) (gL.getD k [])
noncomputable def br2 (s:m8) (gL:List (List (Int × Rat))) (out:List Bool):List Rat:=b3P s (a6z gL out gL.length)
def bO9 (g:List (Int × Rat)) (x:List Rat):Bool:=decide (0<n8 g x)
noncomputable def bN6 (s:m8) (gL:List (List (Int × Rat))) (out:List Bool):List Bool:=(List.range gL.length).map fun i=>out.getD i false || bO9 (gL.getD i []) (br2 s gL out)
noncomputable def bm3 (s:m8) (gL:List (List (Int × Rat))):Nat->List Bool
 |0=>List.replicate gL.length false
 |k+1=>bN6 s gL (bm3 s gL k)
noncomputable def bM7 (s:m8) (gL:List (List (Int × Rat))):Nat->List Rat
 |0=>br2 s gL (bm3 s gL 0)
 |k+1=>aa5 (bM7 s gL k) (br2 s gL (bm3 s gL (k+1)))
structure ao4 (s:m8) (gL:List (List (Int × Rat))):Prop where
 r:q9 s=true
 z:H9 s []=.best
 g:∀g ∈ gL,n7 (-1) ((s.n.toNat:Nat):Int) g=true
 p:∀g ∈ gL,∀z,k6 s z=true->0<=n8 g z
def aa4 {gL:List (List (Int × Rat))} {k:Nat} (h:k<gL.length):gL.getD k [] ∈ gL:=by
 rw [lbl,lbf h];exact lbE h
def a8j {s:m8} {gL:List (List (Int × Rat))} (h:ao4 s gL) (out:List Bool):∀k,k<=gL.length->n7 (-1) ((s.n.toNat:Nat):Int) (a6z gL out k)=true
 |0,_=>rfl
 |k+1,hk=>by
  have ih:=a8j h out k om;unfold a6z;split
  ·exact ih
  ·exact (ap4 _ (lbR _) (ap1 _) ih (h.g _ (aa4 om))).1
def b4b {s:m8} {gL:List (List (Int × Rat))} (h:ao4 s gL) (out:List Bool) (z:List Rat):∀k,k<=gL.length->n8 (a6z gL out k) z=p5 (fun i=>if out.getD i false=true then 0 else n8 (gL.getD i []) z) k
 |0,_=>rfl
 |k+1,hk=>by
  have ih:=b4b h out z k om;show _=p5 _ k+(if out.getD k false=true then 0 else n8 (gL.getD k []) z);unfold a6z;by_cases ho:out.getD k false=true
  ·rw [iA ho,iA ho,ih];grind
  ·rw [iB ho,iB ho,b8u (a8j h out k om) (h.g _ (aa4 om)),ih]
def b6M {s:m8} {gL:List (List (Int × Rat))} (h:ao4 s gL) (out:List Bool):b4M s (a6z gL out gL.length):=
 ⟨h.r,h.z,a8j h out _ (lbR _),fun z hz=>by
   rw [b4b h out z _ (lbR _)];exact a4d fun i hi=>by
    split
    ·exact lb3
    ·exact h.p _ (aa4 hi) z hz⟩
def b4n {s:m8} {gL:List (List (Int × Rat))} (h:ao4 s gL) (out:List Bool):k6 s (br2 s gL out)=true:=(b7y (b6M h out)).1
structure av1 (s:m8) (c:Rat) (z:List Rat):Prop where
 r:q9 s=true
 l:(z.length:Int)=s.n
 p:∀v ∈ z,0<=v
 w:∀w ∈ s.rows,(w.kind≠1->c*w.value<=n8 w.terms z)/\(w.kind≠0->n8 w.terms z<=c*w.value)
def aw9 {s:m8} {z:List Rat} (h:k6 s z=true):av1 s 1 z:=by
 obtain ⟨h1,h2,h3,h4⟩:=X7.1 h;exact ⟨h1,h2,h3,fun w hw=>by
  obtain ⟨a,b⟩:=h4 w hw;have e:(1:Rat)*w.value=w.value:=zg;rw [e];exact ⟨a,b⟩⟩
def b36 {s:m8} {c d:Rat} {x y:List Rat} (hx:av1 s c x) (hy:av1 s d y):av1 s (c+d) (aa5 x y):=by
 have hn:=V4 hx.r;have lx:x.length=s.n.toNat:=by have:=hx.l;omega
 have ly:y.length=s.n.toNat:=by have:=hy.l;omega
 have ll:=au1 lx ly;refine ⟨hx.r,om,fun v hv=>?_,fun w hw=>?_⟩
 ·obtain ⟨j,hj,rfl⟩:=a0r hv;have e:=aM3 lx ly (j:=j) om;rw [lbl,lbf hj] at e;have e:(aa5 x y)[j]=x.getD j 0+y.getD j 0:=e;rw [e];have h1:0<=x.getD j 0:=by rw [lbl,lbf om];exact hx.p _ (lbE _)
  have h2:0<=y.getD j 0:=by rw [lbl,lbf om];exact hy.p _ (lbE _)
  grind
 ·obtain ⟨i,hi,rfl⟩:=a0r hw;have hrt:=(a1f hx.r (lbf hi)).1;rw [a4y lx ly hrt];obtain ⟨a1,a2⟩:=hx.w _ (lbE hi);obtain ⟨b1,b2⟩:=hy.w _ (lbE hi);have e:(c+d)*s.rows[i].value=c*s.rows[i].value+d*s.rows[i].value:=zg;rw [e];exact ⟨fun h=>by have:=a1 h;have:=b1 h;grind,fun h=>by have:=a2 h;have:=b2 h;grind⟩
theorem sumX_holds {s:m8} {gL:List (List (Int × Rat))} (h:ao4 s gL):∀k,av1 s ((k+1:Nat):Rat) (bM7 s gL k)
 |0=>aw9 (b4n h _)
 |k+1=>by
  have:=b36 (sumX_holds h k) (aw9 (b4n h (bm3 s gL (k+1))));have e:(((k+1+1:Nat)):Rat)=((k+1:Nat):Rat)+1:=by push_cast;rfl
  rw [e];exact this
def ay2 {v:Rat} (h:ah3 v):rl v<=4:=by
 obtain ⟨z,h1,h2⟩:=h;have:=al7 (x:=v) (p:=z) (q:=1000) de (by rw [← h1];rfl);have b1:bl z<=4:=a2N h2 de;have b2:bl 1000<=4:=by have:=w5 (x:=1000) de de;omega
 omega
def aZ6 {s:m8} {g:List (Int × Rat)} (h:M5 s) (hg:n7 (-1) ((s.n.toNat:Nat):Int) g=true) (hw:I5 g):I3 s g s.n.toNat 15:=by
 have hn:=V4 h.r;have h9:=h.n;have hl:=h.l;have hwr:=P3 hw;have rows:∀w ∈ s.rows,w.terms.length<=100/\(∀ t ∈ w.terms,rl t.2<=200)/\rl w.value<=200:=fun w hw=>by
  obtain ⟨i,hi,rfl⟩:=a0r hw;have hrt:=(a1f h.r (lbf hi)).1;have h1:=D9 hrt;have h2:=h.i _ (lbE hi);exact ⟨om,fun t ht=>by have:=P3 h2.1 t ht;omega,by have:=ay2 h2.2;omega⟩
 refine ⟨⟨h.r,hg,hn.symm,om,fun w hw=>?_,fun t ht=>by have:=hwr t ht;omega,om⟩,⟨om,rows⟩,fun t ht=>by have:=hwr t ht;omega,b76 h hw,de,?_,om⟩
 ·obtain ⟨a1,a2,a3⟩:=rows w hw;exact ⟨om,fun t ht=>by have:=a2 t ht;omega⟩
 ·have:s.n.toNat<=9:=by omega
  have:=lbU (15+2) (show s.n.toNat+3<=12 by omega);omega
def bQ2 {s:m8} {g:List (Int × Rat)} (h:M5 s) (hg:n7 (-1) ((s.n.toNat:Nat):Int) g=true) (hw:I5 g):∀v ∈ s8 s g,rl v<=15:=a9Q (aZ6 h hg hw)
def ab5 {ρ:List (Option Nat)} {H:Hp} {x y:C} (h:b6b ρ H x y):∀{A:List (List T)},a4R ρ H (toC A++[[x]]) (toC A++[[y]])
 |[]=>⟨⟨h,trivial⟩,trivial⟩
 |a::A=>⟨T3 a,ab5 h⟩
structure QT (t:k8):Prop where
 h:t9 t=0
 m:t.ev.moves.length<=8
 p:t.ev.places.length<=20
def QT.c {t:k8} (h:QT t):t.cleans.length<=50:=(F3 h.h).2.2.1
def L6 (n:Int):Int->LI->Bool
 |_,[]=>true
 |a,h::r=>decide (a<h) && decide (h<n) && L6 n h r
def a0m (n:Int) (l:LI):Bool:=L6 n (-1) l
def a6f {n x:Int}:∀{a:Int} {l:LI},L6 n a (l++[x])=(L6 n a l && decide (l.getLastD a<x) && decide (x<n))
 |a,[]=>by simp [L6]
 |a,h::r=>by
  rw [a3Z,L6,L6,a6f (a:=h) (l:=r)];have:(h::r).getLastD a=r.getLastD h:=by cases r<;>rfl
  rw [this];simp only [Bool.and_assoc]
def an5 {n:Int}:∀{a:Int} {l r:LI},L6 n a (l++r)=true->L6 n a l=true
 |a,[],r,_=>rfl
 |a,h::l,r,hs=>by
  rw [a3Z,L6,lbN] at hs;rw [L6,hs.1,an5 hs.2];rfl
def am6 {n:Int}:∀{a:Int} {l:LI},L6 n a l=true↔l.Pairwise (·<·)/\∀x ∈ l,a<x/\x<n
 |a,[]=>by simp [L6]
 |a,h::r=>by
  rw [L6,lbN,lbN,lbI,lbI,am6 (a:=h) (l:=r),aw5];constructor
  ·rintro ⟨⟨h1,h2⟩,h3,h4⟩;exact ⟨⟨fun x hx=>(h4 x hx).1,h3⟩,fun x hx=>by
    rcases lbA.1 hx with rfl|hx
    ·exact ⟨h1,h2⟩
    ·have:=h4 x hx;omega⟩
  ·rintro ⟨⟨h1,h2⟩,h3⟩;have h0:=h3 h zq;exact ⟨⟨h0.1,h0.2⟩,h2,fun x hx=>⟨h1 x hx,(h3 x (by simp [hx])).2⟩⟩
def b2G {n:Int} {l:LI}:a0m n l=true↔l.Pairwise (·<·)/\∀x ∈ l,0<=x/\x<n:=by
 unfold a0m;rw [am6];constructor
 ·rintro ⟨h1,h2⟩;exact ⟨h1,fun x hx=>by have:=h2 x hx;omega⟩
 ·rintro ⟨h1,h2⟩;exact ⟨h1,fun x hx=>by have:=h2 x hx;omega⟩
def C9 (l:LI):List C5:=l.map fun i=>⟨[(i,((1:Int):Rat))],2,((0:Int):Rat)⟩
def a1l (t:k8) (h:Int):LI:=J2 t.ev h (-1) 0 100000
def T8 (set:LI) (h:Int):Bool:=set.any fun x=>decide (x=h)
def aB1 {set:LI} {h:Int}:T8 set h=true↔h ∈ set:=by
 unfold T8;rw [lbw];constructor
 ·rintro ⟨x,hx,e⟩;rw [← lbL e];exact hx
 ·intro hx;exact ⟨h,hx,lbH rfl⟩
def C7 (t:k8) (set:LI):Nat->List C5
 |0=>[]
 |h+1=>if T8 set (h:Int)=true then C7 t set h else C7 t set h++C9 (a1l t (h:Int))
def a29 {t:k8} {set:LI} {w:C5}:∀{n:Nat},w ∈ C7 t set n↔∃h:Nat,h<n/\(h:Int) ∉ set/\∃i ∈ a1l t (h:Int),w=⟨[(i,((1:Int):Rat))],2,((0:Int):Rat)⟩
 |0=>by simp [C7]
 |n+1=>by
  have ih:=a29 (t:=t) (set:=set) (w:=w) (n:=n);unfold C7;by_cases hs:T8 set (n:Int)=true
  ·rw [iA hs,ih];constructor
   ·rintro ⟨h,h1,h2⟩;exact ⟨h,om,h2⟩
   ·rintro ⟨h,h1,h2,h3⟩;refine ⟨h,?_,h2,h3⟩;by_cases e:h=n
    ·subst e;exact absurd (aB1.1 hs) h2
    ·omega
  ·rw [iB hs,lbz,ih];have hns:(n:Int) ∉ set:=fun h=>hs (aB1.2 h)
   constructor
   ·rintro (⟨h,h1,h2⟩|h)
    ·exact ⟨h,om,h2⟩
    ·obtain ⟨i,hi,rfl⟩:=lbx.1 h;exact ⟨n,om,hns,i,hi,rfl⟩
   ·rintro ⟨h,h1,h2,i,hi,rfl⟩;by_cases e:h=n
    ·subst e;exact .inr (lbx.2 ⟨i,hi,rfl⟩)
    ·exact .inl ⟨h,om,h2,i,hi,rfl⟩
def a3C {t:k8} {set:LI}:∀n,(C7 t set n).length<=n*t.ev.moves.length
 |0=>by simp [C7]
 |n+1=>by
  have ih:=a3C (t:=t) (set:=set) n;have hl:(a1l t (n:Int)).length<=t.ev.moves.length:=a3i;unfold C7;rw [lbV];split
  ·omega
  ·rw [lbq];have:(C9 (a1l t (n:Int))).length=(a1l t (n:Int)).length:=by simp [C9]
   omega
def a3x (t:k8) (kind:Int) (n:Nat) (set:LI):List C5:=(p6 t kind).rows++C7 t set n
def a22 (t:k8) (kind:Int) (n:Nat) (set:LI):m8:=⟨t.ev.moves.length,a3x t kind n set⟩
structure XT (t:k8) (kind:Int) (n:Nat):Prop where
 s:t.Sized
 e:t9 t=0
 k0:0<=kind
 k1:kind<8
 m:t.ev.moves.length<=8
 h:t.ev.hhs=(n:Nat)
 h4:n<=6
 f:t.finds.length<=20
def XT.c {t:k8} {kind:Int} {n:Nat} (h:XT t kind n):t.cleans.length<=50:=(F3 h.e).2.2.1
def XT.len {t:k8} {kind:Int} {n:Nat} (h:XT t kind n) (set:LI):(a3x t kind n set).length<=700:=by
 have h1:=O1 (t:=t) (kind:=kind) t.ev.moves.length;have h2:=a3C (t:=t) (set:=set) n;have h3:t.ev.moves.length*(2+t.finds.length+t.cleans.length)<=8*72:=lbT h.m (by have:=h.f;have:=h.c;omega);have h4:n*t.ev.moves.length<=6*8:=lbT h.h4 h.m;have h5:(p6 t kind).rows.length<=8*72:=lbS h1 h3;show ((p6 t kind).rows++C7 t set n).length<=_;rw [lbq];omega
def XT.right {t:k8} {kind:Int} {n:Nat} (h:XT t kind n) (set:LI):q9 (a22 t kind n set)=true:=by
 have hs:=a2A (t:=t) (kind:=kind) (by have:=h.m;omega) h.f h.c;have hl:=h.len set;unfold q9 at hs ⊢;simp only [lbN,lbI] at hs ⊢;obtain ⟨⟨⟨h1,h2⟩,h3⟩,h4⟩:=hs;refine ⟨⟨⟨h1,h2⟩,?_⟩,?_⟩
 ·show (a3x t kind n set).length<=6000;omega
 ·show ((p6 t kind).rows++C7 t set n).all (A6 (t.ev.moves.length:Nat))=true;rw [a0n];have h5:(p6 t kind).rows.all (A6 (t.ev.moves.length:Nat))=true:=h4;rw [h5,K9,lbv];intro w hw;obtain ⟨hh,_,_,i,hi,rfl⟩:=a29.1 hw;have hi:=az3 hi;unfold A6;simp only [lbN,lbI];exact ⟨⟨a5k om om a5G,de⟩,de⟩
def ah2 {i:Int} (h:0<=i) {z:List Rat}:a0j ⟨[(i,((1:Int):Rat))],2,((0:Int):Rat)⟩ z=true↔z.getD i.toNat 0=0:=by
 have:=a48 (i:=i.toNat) (v:=((0:Int):Rat)) (z:=z);unfold E1 at this;rw [lbZ h] at this;exact this
def XT.holds {t:k8} {kind:Int} {n:Nat} (h:XT t kind n) (set:LI) {z:List Rat}:k6 (a22 t kind n set) z=true↔k6 (p6 t kind) z=true/\∀i:Nat,i<n->(i:Int) ∉ set->n8 (H7 t i) z=0:=by
 have hr1:=h.right set;have hr2:=a2A (t:=t) (kind:=kind) (by have:=h.m;omega) h.f h.c;have e:k6 (a22 t kind n set) z=(k6 (p6 t kind) z && (C7 t set n).all fun w=>a0j w z):=by
  unfold k6;rw [hr1,hr2];show (true && decide ((z.length:Int)=(t.ev.moves.length:Nat)) && _ && ((p6 t kind).rows++C7 t set n).all _)=_;rw [a0n];simp only [K9,Bool.and_assoc]
  rfl
 rw [e,lbN];refine and_congr_right fun hz=>?_
 have hp:=ad7 hz;rw [lbv];have key:∀i:Nat,n8 (H7 t (i:Int)) z=0↔∀j ∈ a1l t (i:Int),z.getD j.toNat 0=0:=fun i=>by
  have h0:∀j,0<=z.getD j 0:=fun j=>by
   by_cases hj:j<z.length
   ·exact hp _ (lbm (getD_some hj))
   ·rw [lbl,lbd om];exact lb3
  have h1:0<=n8 (H7 t (i:Int)) z:=a6g hp _ (a6Z t _);have h2:=b9D hp (a1l t (i:Int));have h2:0<n8 (H7 t (i:Int)) z↔_:=h2;constructor
  ·intro h3 j hj;have h4:=h0 j.toNat;apply Y9;intro hne;have:0<n8 (H7 t (i:Int)) z:=h2.2 ⟨j,hj,by grind⟩;grind
  ·intro h3;have:¬0<n8 (H7 t (i:Int)) z:=fun h4=>by
    obtain ⟨j,hj,h5⟩:=h2.1 h4;rw [h3 j hj] at h5;exact absurd h5 zk
   grind
 constructor
 ·intro hw i hi hn;refine (key i).2 fun j hj=>?_
  exact (ah2 (az3 hj).1).1 (hw _ (a29.2 ⟨i,hi,hn,j,hj,rfl⟩))
 ·intro hg w hw;obtain ⟨i,hi,hn,j,hj,rfl⟩:=a29.1 hw;exact (ah2 (az3 hj).1).2 ((key i).1 (hg i hi hn) j hj)
def XT.expl {t:k8} {kind:Int} {n:Nat} (h:XT t kind n) (set:LI):pX t kind n set=true↔∃z,k6 (a22 t kind n set) z=true:=by
 rw [aN5];constructor
 ·rintro ⟨z,h1,h2⟩;exact ⟨z,(h.holds set).2 ⟨h1,h2⟩⟩
 ·rintro ⟨z,hz⟩;exact ⟨z,(h.holds set).1 hz⟩
def XT.small {t:k8} {kind:Int} {n:Nat} (h:XT t kind n) (set:LI):M5 (a22 t kind n set):=by
 refine ⟨h.right set,fun w hw=>?_,by have:=h.m;show ((t.ev.moves.length:Nat):Int)<=9;omega,by have:=h.len set;show (a3x t kind n set).length<=999;omega⟩;rcases lbz.1 hw with hw|hw
 ·exact bs1 h.e w hw
 ·obtain ⟨hh,_,_,i,hi,rfl⟩:=a29.1 hw;exact ⟨S7 de de,a5y⟩
def XT.best {t:k8} {kind:Int} {n:Nat} (h:XT t kind n) (set:LI):(pX t kind n set=true/\H9 (a22 t kind n set) []=.best)\/(pX t kind n set=false/\∃r,H9 (a22 t kind n set) []=.row r):=by
 have hr:=h.right set;rcases aO4 hr with ho|⟨r,ho⟩
 ·exact .inl ⟨(h.expl set).2 ⟨_,(Z9 hr rfl ho).1⟩,ho⟩
 ·refine .inr ⟨?_,r,ho⟩;rw [← lbQ];intro hp;obtain ⟨z,hz⟩:=(h.expl set).1 hp;rw [a5a ho z] at hz;cases hz
def b2A (xs:LI) (hl:xs.length<=1000000) (fg:FuncId) (caps:List T) (q:Int->Bool) (hg:∀x ∈ xs,ec fg (eI x::caps.map fun x=>.c (.t x)) [] (m9 (q x)) []):
 ec 245 [j7 xs,.c (.t (.fn (.func fg) caps))] [] (eI (N6 q xs 0)) []:=by
 have l1:(xs.map j4).length=xs.length:=zq;refine ac Tryz.func245 ?_;conv=>whnf
 repeat' (first|refine zx ?_|apply zD<;>intro<;>try omega)<;>conv=>whnf
 refine k5 g8 (fun k=>([j7 xs,S.c (C.t (T.fn (.func fg) caps)),J,J,J,J,J,eI xs.length,eI k]++Jn 10,[])) xs.length (fun k=>N6 q (xs.drop k) k=N6 q xs 0) [] rfl
  ⟨rfl,rfl,trivial,⟨m7 rfl,m7 rfl,g9 zq,rz⟩⟩ ?_
 intro k hk hI;by_cases hlt:k<xs.length
 ·obtain ⟨r,hr⟩:∃r,xs[k]? =some r:=⟨_,lbf hlt⟩;have hd:xs.drop k=r::xs.drop (k+1):=by
   rw [a3k hlt];rw [lbf hlt] at hr;injection hr with hr;rw [hr]
  have hgr:=hg r (lbm hr);have ha:(eI r::caps.map fun x=>S.c (C.t x)).all S.isT=true:=by simp [S.isT,C.isT,e7]
  rw [hd] at hI;have hI:(if q r then (k:Int) else N6 q (xs.drop (k+1)) (k+1))=N6 q xs 0:=hI;cases hq:q r with
  |true=>
   rw [hq] at hgr hI;conv=>whnf
   repeat' (first|refine zx ?_|refine .inl ⟨_,_,I4 hgr ha rfl,?_⟩|refine j6 hr ?_|apply zD<;>intro<;>try omega)<;>conv=>whnf
   all_goals first
    |omega
    |exact p9 hI
  |false=>
   rw [hq] at hgr hI;conv=>whnf
   repeat' (first|refine zx ?_|refine .inl ⟨_,_,I4 hgr ha rfl,?_⟩|refine j6 hr ?_|apply zD<;>intro<;>try omega)<;>conv=>whnf
   all_goals first|omega|exact ⟨hlt,by simpa using hI,[],rz⟩
 ·have hke:k=xs.length:=by omega
  subst hke;rw [lbo (lbR _)] at hI;conv=>whnf
  repeat' (first|refine zx ?_|apply zD<;>intro<;>try omega)<;>conv=>whnf
  all_goals first|omega|exact p9 hI
def a1z {α:Type} {l:List α} {k:Nat} {x:α} (h:l[k]? =some x):l.take (k+1)=l.take k++[x]:=by
 rw [lbG,h];rfl
def b3g (a b:LI) (ha:a.length<=1000000) (hb:b.length<=1000000):ec 24 [j7 a,j7 b] [] (m9 (decide (a=b))) []:=by
 have l1:(a.map j4).length=a.length:=zq;have l2:(b.map j4).length=b.length:=zq;refine ac Tryz.func24 ?_;conv=>whnf
 repeat' (first|refine zx ?_|apply zD<;>intro h<;>try omega)<;>conv=>whnf
 ·refine j1 (lbJ ?_).symm;intro hab;subst hab;exact h rfl
 have hab:a.length=b.length:=om;refine k5 g8 (fun k=>([j7 a,j7 b,J,J,J,eI k]++Jn 20,[])) a.length (fun k=>a.take k=b.take k) [] rfl
  ⟨rfl,rfl,trivial,⟨m7 rfl,m7 rfl,g9 rfl,trivial⟩⟩ ?_
 intro k hk hI;conv=>whnf
 repeat' (first|refine zx ?_|apply zD<;>intro h<;>try omega)<;>conv=>whnf
 ·have hlt:k<a.length:=by omega
  obtain ⟨x,hx⟩:∃x,a[k]? =some x:=⟨_,lbf hlt⟩;obtain ⟨y,hy⟩:∃y,b[k]? =some y:=⟨_,lbf om⟩
  repeat' (first|refine zx ?_|refine j6 hx ?_|refine j6 hy ?_|apply zD<;>intro h<;>try omega)<;>conv=>whnf
  ·have hne:x≠y:=‹x≠y›;refine j1 (lbJ ?_).symm;intro hq;subst hq;rw [hx] at hy;injection hy with hy;exact hne hy
  ·have hxy:x=y:=by omega
   refine ⟨hlt,?_,[],rfl,rfl,trivial,⟨m7 rfl,m7 rfl,rz⟩⟩;rw [a1z hx,a1z hy,hI,hxy]
 ·refine j1 (lbH ?_).symm;rw [lbn om,lbn om] at hI;exact hI
def a5I (e:Ev) (d:Int) (m i:Nat):Bool:=((e.moves.take i).drop (m+1)).all fun x=>!(decide (x.src=d) && x.all)
def aN9 (e:Ev) (bl:List Bool) (d:Int) (m i:Nat) (x:C6):Bool:=decide (m<i) && decide (x.src=d) && a5I e d m i && !(bl.getD i true)
def a8X {e:Ev} {d:Int} {m:Nat}:a5I e d m (m+1)=true:=by
 unfold a5I;rw [b31 zo];rfl
def af6 {e:Ev} {d:Int} {m k:Nat} {x:C6} (h:e.moves[k]? =some x) (hm:m<k):a5I e d m (k+1)=(a5I e d m k && !(decide (x.src=d) && x.all)):=by
 unfold a5I;have hlt:=(lbe.1 h).1;rw [a1z h,List.drop_append_of_le_length zo,a0n];simp
def b7o (l:LI) (n:Int) (ha:l.length<=1000000):ec 175 [j7 l,eI n] [] (eI (if (l.any fun x=>decide (x=n)) then (l.findIdx fun x=>decide (x=n)) else -1)) []:=by
 have l1:(l.map j4).length=l.length:=zq;refine ac Tryz.func175 ?_;conv=>whnf
 refine k5 g8 (fun k=>([j7 l,eI n,J,J,J,J,j7 l,eI l.length,eI k]++Jn 10,[])) l.length (fun k=>(l.take k).any (fun x=>decide (x=n))=false) [] rfl
  ⟨rfl,rfl,trivial,⟨m7 rfl,rfl,m7 rfl,g9 zq,g9 rfl,trivial⟩⟩ ?_
 intro k hk hI;conv=>whnf
 repeat' (first|refine zx ?_|apply zD<;>intro<;>try omega)<;>conv=>whnf
 ·have hlt:k<l.length:=by omega
  obtain ⟨x,hx⟩:∃x,l[k]? =some x:=⟨_,lbf hlt⟩;have hxg:l[k]=x:=(lbe.1 hx).2
  repeat' (first|refine zx ?_|refine j6 hx ?_|apply zD<;>intro<;>try omega)<;>conv=>whnf
  ·have hxn:x=n:=by omega
   refine p9 ?_;rw [iA (a5d hx (by simpa using hxn)),(List.findIdx_eq hlt).2 ⟨by simp [hxg,hxn],fun j hj=>?_⟩];rw [List.any_eq_false] at hI;have:=hI l[j] (List.mem_take_iff_getElem.2 ⟨j,om,rfl⟩);simpa using this
  ·have hne:¬x=n:=by omega
   refine ⟨hlt,?_,[],rz⟩;rw [a1S hx,hI];simpa using hne
 ·refine p9 ?_;rw [lbn om] at hI;rw [hI];rfl
def ag0 (l:LI) (n:Int) (ha:l.length<=1000000):ec 104 [j7 l,eI n] [] (m9 (l.any fun x=>decide (x=n))) []:=by
 refine ac Tryz.func104 ?_;conv=>whnf
 repeat' (first|refine zx ?_|refine qp (b7o _ _ ha) ?_|apply zD<;>intro<;>try omega)<;>conv=>whnf
 all_goals
  refine j1 ?_;cases hb:(l.any fun x=>decide (x=n)) with
  |true=>simp_all
  |false=>simp_all
def b3e {s:m8} (h:M5 s):b23 s:=by
 have hn:=V4 h.r;have h9:=h.n;refine ⟨by have:=h.l;omega,fun w hw=>?_⟩;obtain ⟨i,hi,rfl⟩:=a0r hw;have h1:=D9 (a1f h.r (lbf hi)).1;have h2:=h.i _ (lbE hi);exact ⟨om,fun t ht=>by have:=P3 h2.1 t ht;omega,by have:=ay2 h2.2;omega⟩
def b62 {s:m8} {g:List (Int × Rat)} {Y:List Rat} (hr:q9 s=true) (hg:n7 (-1) ((s.n.toNat:Nat):Int) g=true) (h:b7F s (E3 g) Y=true) (h0:b6t s (yN Y)=0) {z:List Rat} (hz:k6 s z=true):n8 g z<=0:=by
 have hb:=aF4 (g:=E3 g) (b5b hr h) hz;have e:p5 (fun l=>L7 (E3 g) l*z.getD l 0) s.n.toNat=n8 (E3 g) z:=(Z4 (a2C hg) z).symm;rw [e,a15 (s:=s) (g:=g),h0] at hb;grind
def bB2 {s:m8} (h:M5 s):∀w ∈ s.rows,b5r 11 w:=fun w hw=>by
 obtain ⟨a,b⟩:=h.i w hw;exact ⟨a,by have:=ay2 b;omega⟩
def b6e {s:m8} {x:List Rat} {B:Nat} (h:M5 s) (hB:B<=2000) (hl:x.length<=1000000) (hx:∀v ∈ x,rl v<=B):PtB s x:=by
 have h9:=h.n;have:=lbT (show s.n.toNat<=9 by omega) (show B+4<=2004 by omega);exact bA6 h.r (bB2 h) (B:=B) om om hl hx
def a75 {n:Int} {l:LI} {k:Nat} (h:L6 n (-1) (l.take k)=false):a0m n l=false:=by
 unfold a0m;cases hb:L6 n (-1) l with
 |false=>rfl
 |true=>
  have e:l=l.take k++l.drop k:=(lb9 k l).symm;rw [e] at hb;rw [an5 hb] at h;cases h
def bk0 (e:Ev) (set:LI) (hl:set.length<=1000000):ec 65 [evS e,j7 set] [] (m9 (a0m e.hhs set)) []:=by
 have m1:(set.map j4).length=set.length:=zq
 (refine ac Tryz.func65 ?_;(conv=>whnf);repeat ((first|refine b0x ?_|refine zy ?_);conv=>whnf))
 repeat' (first|refine zx ?_|apply zD<;>intro<;>try omega)<;>conv=>whnf
 refine k5 g8 (fun k=>([J,J,S.c (C.t (T.ptr (evT e))),J,J,eI ((set.take k).getLastD (-1)),J,J,j7 set,eI set.length,eI k]++Jn 14,[])) set.length (fun k=>L6 e.hhs (-1) (set.take k)=true) [] (by simp [L6])
  ⟨rfl,rfl,trivial,⟨rfl,g9 zq,rfl,g9 zq,rz⟩⟩ ?_
 intro k hk hI;by_cases hlt:k<set.length
 ·obtain ⟨x,hx⟩:∃x,set[k]? =some x:=⟨_,lbf hlt⟩;have hs:=K7 hx;have hn:L6 e.hhs (-1) (set.take (k+1))=(decide ((set.take k).getLastD (-1)<x) && decide (x<e.hhs)):=by rw [hs,a6f,hI,K9]
  have hg:(set.take (k+1)).getLastD (-1)=x:=by rw [hs];simp
  rw [hg];generalize (set.take k).getLastD (-1)=a at hn;by_cases h1:a<x
  ·by_cases h2:x<e.hhs
   ·rw [lbH h1,lbH h2] at hn;conv=>whnf
    repeat' (first|refine zx ?_|refine j6 hx ?_|apply zD<;>intro<;>try omega)<;>conv=>whnf
    all_goals first|omega|exact ⟨hlt,hn,[],rfl,rfl,trivial,⟨rfl,rfl,rfl,rfl,g9 om,trivial⟩⟩
   ·rw [lbJ h2,aT7] at hn;rw [a75 hn];conv=>whnf
    repeat' (first|refine zx ?_|refine j6 hx ?_|apply zD<;>intro<;>try omega)<;>conv=>whnf
    all_goals first|omega|exact j1 rfl
  ·rw [lbJ h1,a2i] at hn;rw [a75 hn];conv=>whnf
   repeat' (first|refine zx ?_|refine j6 hx ?_|apply zD<;>intro<;>try omega)<;>conv=>whnf
   all_goals first|omega|exact j1 rfl
 ·rw [lbn om] at hI;have:a0m e.hhs set=true:=hI;rw [this];conv=>whnf
  repeat' (first|refine zx ?_|apply zD<;>intro<;>try omega)<;>conv=>whnf
  all_goals first|omega|exact j1 rfl
def as9 {t:k8} {set:LI} {h:Nat} (hs:T8 set (h:Int)=true):C7 t set (h+1)=C7 t set h:=by rw [C7,iA hs]
def ag7 {t:k8} {set:LI} {h:Nat} (hs:T8 set (h:Int)=false):C7 t set (h+1)=C7 t set h++C9 (a1l t (h:Int)):=by rw [C7,iB (by rw [hs];decide)]
def a7I {l:LI} {k:Nat} {i:Int} (h:l[k]? =some i):C9 (l.take (k+1))=C9 (l.take k)++[⟨[(i,((1:Int):Rat))],2,((0:Int):Rat)⟩]:=by
 rw [K7 h];simp [C9]
def av9 (t:k8) (kind:Int) (n:Nat) (hx:XT t kind n) (set:LI) (hl:set.length<=1000000):
 ec 66 [trS t,U9 (p6 t kind),j7 set] [] (m9 (pX t kind n set)) []:=by
 have hs:=hx.s;have hh:=hx.h;have hn4:=hx.h4;have hm:=hx.m;have hlen:=hx.len set;have i0:=U1 0 de de;have i1:=U1 1 de de;have rl0:(p6 t kind).rows.length<=700:=by
  have:(p6 t kind).rows.length<=(a3x t kind n set).length:=by unfold a3x;rw [lbq];omega
  omega
 have cl:=fun H:Hp=>a1x (H:=H) (b9g (p6 t kind).rows om) rfl rfl (j3 _)
 have e9:(p6 t kind).rows++C7 t set n=a3x t kind n set:=rfl;have e0:(p6 t kind).rows++C7 t set 0=(p6 t kind).rows:=by simp [C7]
 refine O3 g8 Tryz.func66 rfl de ?_;refine w8 g8 ?_;conv=>whnf
 refine b0x ?_;conv=>whnf
 refine zy ?_;conv=>whnf
 (refine w8 g8 ?_;conv=>whnf)
 repeat' (first|refine zx ?_|refine .inl ⟨_,_,cl _,?_⟩|refine bl0 [0,1] ?_|apply zD<;>intro h<;>try omega)<;>conv=>whnf
 refine b7s g8 ([J,J,J,J,S.c (C.t (T.ptr [ti t.ev.moves.length,a04 (a3x t kind n set)]))]++Jn 55) ?_ ?_
 ·conv=>whnf
  repeat' (first|refine zx ?_|apply zD<;>intro h<;>try omega)<;>conv=>whnf
  refine k5 g8 (fun q=>([J,J,j7 set,S.c (C.t (T.ptr (trT t))),sP 0 0 0]++Jn 14++[eI n,eI q]++Jn 39,[a6O t.ev.moves.length 1 ((p6 t kind).rows++C7 t set q).length,V6 ((p6 t kind).rows++C7 t set q)])) n tT [some 0,some 1] trivial
   ⟨rfl,rfl,⟨⟨rfl,rfl,rfl,.inr ⟨⟨rfl,⟨rfl,rfl,by rw [e0],fun h=>h⟩,trivial⟩,trivial⟩⟩,i6 (rows:=((p6 t kind).rows++C7 t set 0).map v5) rfl rfl rfl (by rw [e0]) rfl,trivial⟩,⟨rfl,rfl,rz,g9 hh,rz⟩⟩ ?_
  intro q hk _;by_cases hlt:q<n
  ·have sc:=ag0 set (q:Int) hl;have li:=b3Q t.ev hs.ev (q:Int) (-1) 0 100000;cases hin:T8 set (q:Int) with
   |true=>
    have hin':=hin;unfold T8 at hin';rw [hin'] at sc;rw [as9 hin];conv=>whnf
    repeat' (first|refine zx ?_|apply zD<;>intro h<;>try omega)<;>conv=>whnf
    all_goals first
     |omega
     |exact ⟨hlt,trivial,[some 0,some 1],rfl,rfl,⟨⟨rfl,rfl,rfl,.inr ⟨⟨rfl,⟨rfl,rfl,rfl,fun h=>h⟩,trivial⟩,trivial⟩⟩,j8 (j3 _),trivial⟩,⟨rfl,rfl,rz,rfl,g9 om,trivial⟩⟩
   |false=>
    have hin':=hin;unfold T8 at hin';rw [hin'] at sc;rw [ag7 hin,←lbD];have hll:(a1l t (q:Int)).length<=t.ev.moves.length:=a3i;have hrl:((p6 t kind).rows++C7 t set q).length<=700:=by
     have h1:=a3C (t:=t) (set:=set) q;have h2:=O1 (t:=t) (kind:=kind) t.ev.moves.length;have h3:t.ev.moves.length*(2+t.finds.length+t.cleans.length)<=8*72:=lbT hx.m (by have:=hx.f;have:=hx.c;omega);have h4:q*t.ev.moves.length<=6*8:=lbT om hx.m;have h5:(p6 t kind).rows.length<=8*72:=lbS h2 h3;rw [lbq];omega
    have li:ec 78 [evS t.ev,eI (q:Int),eI (-1),eI 0,eI 100000] [] (j7 (a1l t (q:Int))) []:=li;generalize a1l t (q:Int)=l at li hll;have m2:(l.map j4).length=l.length:=zq;generalize hR:(p6 t kind).rows++C7 t set q=R at hrl;conv=>whnf
    repeat' (first|refine zx ?_|apply zD<;>intro h<;>try omega)<;>conv=>whnf
    all_goals try omega
    refine k5 g8 (fun i=>([J,J,j7 set,S.c (C.t (T.ptr (trT t))),sP 0 0 0]++Jn 14++[eI n,eI q,J,J,J,J,J,J,J,J,j7 l,eI l.length,eI i]++Jn 28,[a6O t.ev.moves.length 1 (R++C9 (l.take i)).length,V6 (R++C9 (l.take i))])) l.length tT [some 0,some 1] trivial
     ⟨rfl,rfl,⟨⟨rfl,rfl,rfl,.inr ⟨⟨rfl,⟨rfl,rfl,by simp [C9],fun h=>h⟩,trivial⟩,trivial⟩⟩,i6 (rows:=(R++C9 (l.take 0)).map v5) rfl rfl rfl (by simp [C9]) rfl,trivial⟩,⟨rfl,rfl,rz,rfl,rfl,rfl,g9 (by rw [m2]),rz⟩⟩ ?_
    intro i hik _;have hzl:(C9 (l.take i)).length<=l.length:=by simp [C9];omega
    by_cases hil:i<l.length
    ·obtain ⟨x,hxi⟩:∃x,l[i]? =some x:=⟨_,lbf hil⟩;rw [a7I hxi,←lbD];have lA:(R++C9 (l.take i)).length<=(V6 (R++C9 (l.take i))).rows.length:=by show _<=(toC _).length;simp [toC]
     have lB:(R++C9 (l.take i)).length<=800:=by rw [lbq];omega
     generalize R++C9 (l.take i)=R2 at lA lB;conv=>whnf
     repeat' (first|refine zz ?_|refine qp i0 ?_|refine qp i1 ?_|refine a43.weak ?_|refine j6 hxi ?_|refine z6 lA zu ?_|refine bl0 [0,1] ?_|apply zD<;>intro h<;>try omega|refine zy ?_|fail)<;>conv=>whnf
     all_goals first|omega|skip
     all_goals
      (refine ⟨hil,trivial,[some 0,some 2],rfl,rfl,⟨⟨rfl,rfl,rfl,.inr ⟨⟨rfl,⟨rfl,rfl,?_,fun h=>h⟩,trivial⟩,trivial⟩⟩,i6 (rows:=(R2++[(⟨[(x,((1:Int):Rat))],2,((0:Int):Rat)⟩:C5)]).map v5) rfl rfl rfl ?_ rfl,trivial⟩,⟨rfl,rfl,rz,rfl,rfl,rfl,rfl,g9 om,trivial⟩⟩
       ·simp [toC]
       ·exact S9 (f:=v5) (x:=(⟨[(x,((1:Int):Rat))],2,((0:Int):Rat)⟩:C5)) rfl)
    ·have hie:i=l.length:=by omega
     subst hie;rw [lbn (lbR _)];conv=>whnf
     repeat' (first|refine zx ?_|apply zD<;>intro h<;>try omega)<;>conv=>whnf
     all_goals first|omega|exact ⟨hlt,trivial,[some 0,some 1],rfl,rfl,⟨⟨rfl,rfl,rfl,.inr ⟨⟨rfl,⟨rfl,rfl,rfl,fun h=>h⟩,trivial⟩,trivial⟩⟩,j8 (j3 _),trivial⟩,⟨rfl,rfl,rz,rfl,g9 om,trivial⟩⟩
  ·have hqe:q=n:=by omega
   subst hqe;rw [e9];generalize a3x t kind q set=R;conv=>whnf
   repeat' (first|refine zx ?_|apply zD<;>intro h<;>try omega)<;>conv=>whnf
   all_goals first
    |omega
    |(refine ⟨trivial,trivial,trivial,trivial,?_,?_⟩
      ·exact ac9 (k:=a6O t.ev.moves.length 1 R.length) trivial rfl (fun h=>h) rfl ⟨aE2,.vc (w6 (k:=V6 R) trivial rfl (fun h=>h) rfl rfl zq),trivial⟩
      ·simp only [a0N,VYS];repeat (first|exact trivial|refine ⟨trivial,?_⟩))
 ·have ss:=hx.small set;have lz:=aZ6 ss (g:=[]) rfl (fun t ht=>by cases ht);have nT:(a22 t kind n set).n=t.ev.moves.length:=rfl;have rT:(a22 t kind n set).rows=a3x t kind n set:=rfl;rcases hx.best set with ⟨hp,ho⟩|⟨hp,r,ho⟩
  ·rw [hp];have hb15:=bQ2 ss (g:=[]) rfl (fun t ht=>by cases ht);have so:=a62 _ _ _ lz ho (fun v hv=>by have:=hb15 v hv;omega);have sl:=(Z9 (hx.right set) rfl ho).1;have hd:=b7d _ (b3e ss) (hx.right set) (s8 (a22 t kind n set) []) (b6e (B:=15) ss de (by rw [a8m lz];have:(a22 t kind n set).n.toNat=t.ev.moves.length:=rfl;omega) hb15);rw [sl] at hd;refine t4 g8 _ ?_;conv=>whnf
   repeat' (first|refine zx ?_|refine bl0 [4,6] ?_|refine bl0 [4] ?_|apply zD<;>intro h<;>try omega)<;>conv=>whnf
   all_goals exact j1 rfl
  ·rw [hp];have so:=a7U _ _ _ r lz ho;refine t4 g8 _ ?_;conv=>whnf
   repeat' (first|refine zx ?_|apply zD<;>intro h<;>try omega)<;>conv=>whnf
   all_goals exact j1 rfl
def T6 {t:k8} {kind:Int}:a0o t kind=0↔t9 t=0/\0<=kind/\kind<8:=by
 unfold a0o;split<;>omega
def b30 (t:k8) (kind:Int) (n:Nat) (hx:XT t kind n) (set:List Int) (hl:set.length<=1000000):
 e8 Tryz.prog 20 [trS t,e7 .i64 kind,j7 set] [] (m9 (a0m n set && pX t kind n set)) []:=by
 have sy:=a4k t kind hx.s
 have e1:a0o t kind=0:=T6.2 ⟨hx.e,hx.k0,hx.k1⟩
 have hc:¬(t9 t≠0\/kind<0\/8<=kind):=by have:=T6.1 e1;omega
 have e2:a6J t kind=p6 t kind:=iB hc
 rw [e1,e2] at sy
 have is:=bk0 t.ev set hl
 rw [hx.h] at is
 have ex:=av9 t kind n hx set hl
 cases hi:a0m n set<;>rw [hi] at is
 ·rw [a2i]
  (refine ac Tryz.func20 ?_;(conv=>whnf);repeat ((first|refine b0x ?_|refine zy ?_);conv=>whnf))
  repeat' (first|refine zz ?_|refine qp sy ?_|refine qp is ?_|refine bl0 [5] ?_|refine b0x ?_|refine zd ?_ ?_<;>intro h<;>try omega|refine zy ?_|fail)<;>conv=>whnf
  all_goals first
   |omega
   |exact j1 rfl
 ·rw [K9]
  generalize pX t kind n set=b at ex
  cases b<;>
  (refine ac Tryz.func20 ?_;(conv=>whnf);repeat ((first|refine b0x ?_|refine zy ?_);conv=>whnf))<;>
  repeat' (first|refine zz ?_|refine qp sy ?_|refine qp is ?_|refine qp ex ?_|refine bl0 [5] ?_|refine b0x ?_|refine zd ?_ ?_<;>intro h<;>try omega|refine zy ?_|fail)<;>conv=>whnf
  all_goals first
   |omega
   |(exfalso;contradiction)
   |exact j1 rfl
def aD2 (t:k8) (kind:Int) (hs:t.Sized) (h:a0o t kind≠0) (set:LI):
 ec 20 [trS t,eI kind,j7 set] [] (m9 false) []:=by
 have sy:=a4k t kind hs;refine ac Tryz.func20 ?_;conv=>whnf
 repeat' (first|refine zz ?_|refine qp sy ?_|refine bl0 [5] ?_|refine b0x ?_|apply zD<;>intro h<;>try omega|refine zy ?_|fail)<;>conv=>whnf
 all_goals first|omega|exact j1 rfl
def F2 (s:LI):List T:=[v6 s]
abbrev b27 (l:List LI):T:=.sl 1 .any (l.map F2)
abbrev a1o (l:List LI):S:=.c (.t (b27 l))
def aD9 (xs:LI) (hl:xs.length<=1000000) (fg:FuncId) (caps:List T) (q:Int->Bool) (hg:∀x ∈ xs,ec fg (eI x::caps.map fun x=>.c (.t x)) [] (m9 (q x)) []):
 ec 204 [j7 xs,.c (.t (.fn (.func fg) caps))] [] (m9 (xs.any q)) []:=by
 have ix:=b2A xs hl fg caps q hg;refine ac Tryz.func204 ?_;conv=>whnf
 repeat' (first|refine zx ?_|apply zD<;>intro<;>try omega)<;>conv=>whnf
 all_goals (refine j1 ?_;rw [← a3f q xs 0];simp;omega)
def bc9 (b:LI) (hl:b.length<=1000000) (x:Int):ec 205 (eI x::[T.ptr [v6 b]].map fun x=>.c (.t x)) [] (m9 (!(T8 b x))) []:=by
 have sc:=ag0 b x hl;unfold T8;cases hq:b.any fun y=>decide (y=x)<;>rw [hq] at sc<;>
 ·refine ac Tryz.func205 ?_;conv=>whnf
  repeat' (first|refine zx ?_|apply zD<;>intro<;>try omega)<;>conv=>whnf
  all_goals exact j1 rfl
def b5y (a b:LI):D6 a b=!(a.any fun x=>!(T8 b x)):=by
 unfold D6 T8;rw [List.not_any_eq_all_not];simp
def bF3 (a b:LI) (ha:a.length<=1000000) (hb:b.length<=1000000):ec 131 [j7 a,j7 b] [] (m9 (D6 a b)) []:=by
 have ct:=aD9 a ha 205 [T.ptr [v6 b]] _ (fun x _=>bc9 b hb x);rw [b5y];cases hq:a.any fun x=>!(T8 b x)<;>rw [hq] at ct<;>
 ·(refine ac Tryz.func131 ?_;(conv=>whnf);repeat ((first|refine b0x ?_|refine zy ?_);conv=>whnf))
  repeat' (first|refine zx ?_|apply zD<;>intro<;>try omega)<;>conv=>whnf
  all_goals exact j1 rfl
def b21 (rs:List LI) (hl:rs.length<=1000000) (g:FuncId) (caps:List T) (q:LI->Bool) (hg:∀r ∈ rs,ec g (j7 r::caps.map fun x=>.c (.t x)) [] (m9 (q r)) []):
 ec 203 [a1o rs,.c (.t (.fn (.func g) caps))] [] (eI (N6 q rs 0)) []:=by
 have l1:(rs.map F2).length=rs.length:=zq;refine ac Tryz.func203 ?_;conv=>whnf
 repeat' (first|refine zx ?_|apply zD<;>intro<;>try omega)<;>conv=>whnf
 refine k5 g8 (fun k=>([a1o rs,S.c (C.t (T.fn (.func g) caps)),J,J,J,J,J,eI rs.length,eI k]++Jn 10,[])) rs.length (fun k=>N6 q (rs.drop k) k=N6 q rs 0) [] rfl
  ⟨rfl,rfl,trivial,⟨m7 rfl,m7 rfl,g9 zq,rz⟩⟩ ?_
 intro k hk hI;by_cases hlt:k<rs.length
 ·obtain ⟨r,hr⟩:∃r,rs[k]? =some r:=⟨_,lbf hlt⟩;have hd:rs.drop k=r::rs.drop (k+1):=by
   rw [a3k hlt];rw [lbf hlt] at hr;injection hr with hr;rw [hr]
  have hgr:=hg r (lbm hr);have ha:(j7 r::caps.map fun x=>S.c (C.t x)).all S.isT=true:=by simp [S.isT,C.isT]
  rw [hd] at hI;have hI:(if q r then (k:Int) else N6 q (rs.drop (k+1)) (k+1))=N6 q rs 0:=hI;cases hq:q r with
  |true=>
   rw [hq] at hgr hI;conv=>whnf
   repeat' (first|refine zx ?_|refine .inl ⟨_,_,I4 hgr ha rfl,?_⟩|refine j6 hr ?_|apply zD<;>intro<;>try omega)<;>conv=>whnf
   all_goals first
    |omega
    |exact p9 hI
  |false=>
   rw [hq] at hgr hI;conv=>whnf
   repeat' (first|refine zx ?_|refine .inl ⟨_,_,I4 hgr ha rfl,?_⟩|refine j6 hr ?_|apply zD<;>intro<;>try omega)<;>conv=>whnf
   all_goals first|omega|exact ⟨hlt,by simpa using hI,[],rz⟩
 ·have hke:k=rs.length:=by omega
  subst hke;rw [lbo (lbR _)] at hI;conv=>whnf
  repeat' (first|refine zx ?_|apply zD<;>intro<;>try omega)<;>conv=>whnf
  all_goals first|omega|exact p9 hI
def aC6 (rs:List LI) (hl:rs.length<=1000000) (g:FuncId) (caps:List T) (q:LI->Bool) (hg:∀r ∈ rs,ec g (j7 r::caps.map fun x=>.c (.t x)) [] (m9 (q r)) []):
 ec 129 [a1o rs,.c (.t (.fn (.func g) caps))] [] (m9 (rs.any q)) []:=by
 have ix:=b21 rs hl g caps q hg;refine ac Tryz.func129 ?_;conv=>whnf
 repeat' (first|refine zx ?_|apply zD<;>intro<;>try omega)<;>conv=>whnf
 all_goals (refine j1 ?_;rw [← a3f q rs 0];simp;omega)
def bd2 (set a:LI) (hs:set.length<=1000000) (ha:a.length<=1000000):ec 130 (j7 a::[T.ptr [v6 set]].map fun x=>.c (.t x)) [] (m9 (D6 a set)) []:=by
 have p:=bF3 a set ha hs;refine ac Tryz.func130 ?_;conv=>whnf
 repeat' (first|refine zx ?_|apply zD<;>intro<;>try omega)<;>conv=>whnf
 all_goals exact j1 (Eq.symm (by assumption))
def b5O (out:List LI) (hl:out.length<=1000000) (h2:∀a ∈ out,a.length<=1000000) (set:LI) (hs:set.length<=1000000):
 ec 129 [a1o out,.c (.t (.fn (.func 130) [T.ptr [v6 set]]))] [] (m9 (out.any fun a=>D6 a set)) []:=
 aC6 out hl _ _ _ fun a ha=>bd2 set a hs (h2 a ha)
def b5J:ec 201 [.c (.t (.sl 1 .any []))] [] (.c (.own 0 0 0 true)) [w7 []]:=by
 refine ae3 ?_ ?_
 ·refine ac Tryz.func201 ?_;conv=>whnf
  repeat' (first|refine zx ?_|apply zD<;>intro h<;>try omega)<;>conv=>whnf
  all_goals exact ⟨[none],rz⟩
 ·refine ac Tryz.func201 ?_;conv=>whnf
  repeat' (first|refine zx ?_|refine a1e rfl de ?_|apply zD<;>intro h<;>try omega)<;>conv=>whnf
  all_goals exact ⟨[some 0],rfl,rfl,⟨i6 (rows:=([]:LI).map j4) rfl rfl rfl rfl rfl,trivial⟩,⟨rfl,rfl,rfl,fun h=>h⟩⟩
def b5z (l:LI) (h1:l.length<=100000):ec 201 [j7 l] [] (.c (.own 0 0 l.length true)) [w7 l]:=by
 have m1:(l.map j4).length=l.length:=zq;by_cases h0:l.length=0
 ·have:l=[]:=a1C.1 h0;subst this;exact b5J
 have hl:0<(l.map j4).length:=om;refine ac Tryz.func201 ?_;conv=>whnf
 repeat' (first|refine zx ?_|refine ⟨hl,?_⟩|refine zz ?_|refine a1e rfl (by simp only [toC,lbr,a2l];omega) ?_|refine z6 (G6 _) (by simp only [toC,lbr];omega) ?_|apply zD<;>intro h<;>try omega)<;>conv=>whnf
 all_goals first|omega|exact ⟨[some 0],rfl,rfl,⟨i6 (rows:=l.map j4) rfl rfl rfl rfl rfl,trivial⟩,⟨rfl,rfl,by simp [toC],fun h=>h⟩⟩
def aG5 (t:k8) (kind:Int) (k:Nat):F7 t kind (k+1)=if N7 t kind k≠0 then F7 t kind k++[(k:Int)] else F7 t kind k:=by
 unfold F7;rw [a8z,a5O,lbC];by_cases h:N7 t kind k≠0
 ·rw [iA h];simp [h]
 ·rw [iB h];have:N7 t kind k=0:=Classical.not_not.1 h;simp [this]
def aC5 (t:k8) (kind:Int) (n:Nat) (h:ExP t kind n) (hn:n<=8):ec 127 [trS t,eI kind] [] (.tup [j7 (F7 t kind n),eI 0]) []:=by
 have ve:=aC7 t kind h.s h.e h.k0 h.k1 h.m n h.h om h.z;have vl:=a5p t kind n;have m1:((a18 t kind n).map a6m.row).length=n:=by simp [vl]
 have sl:=a3e t kind n;have m2:((F7 t kind n).map j4).length=(F7 t kind n).length:=zq
 (refine ac Tryz.func127 ?_;conv=>whnf)
 refine b0x ?_;conv=>whnf
 repeat' (first|refine zx ?_|apply zD<;>intro h<;>try omega)<;>conv=>whnf
 all_goals try omega
 refine k5 g8 (fun k=>(Jn 8++[S.c (C.own 0 0 (F7 t kind k).length true)]++Jn 11++[b4k (a18 t kind n),eI n,eI k]++Jn 16,[w7 (F7 t kind k)])) n tT [none] trivial
  ⟨rfl,rfl,rz,⟨rz,rfl,g9 om,rz⟩⟩ ?_
 intro k hk _;have slk:=a3e t kind k;have lA:(F7 t kind k).length<=(w7 (F7 t kind k)).rows.length:=by show _<=(toC _).length;simp [toC]
 by_cases hlt:k<n
 ·have hv:(a18 t kind n)[k]? =some (a25 (p6 t kind) (H7 t (k:Int)) (k:Int)):=by unfold a18;simp [hlt]
  have kh:(a25 (p6 t kind) (H7 t (k:Int)) (k:Int)).hh=k:=bk5 _;have e1:=aG5 t kind k;unfold N7 at e1;rw [e1];generalize a25 (p6 t kind) (H7 t (k:Int)) (k:Int)=v at hv kh e1;by_cases hst:v.state≠0
  ·rw [iA hst];conv=>whnf
   repeat' (first|refine zz ?_|refine j6 hv ?_|refine b0x ?_|refine z6 lA zu ?_|apply zD<;>intro h<;>try omega|refine zy ?_|fail)<;>conv=>whnf
   all_goals first
    |omega
    |(refine ⟨hlt,trivial,[some 2],rfl,rfl,⟨i6 (rows:=(F7 t kind k++[(k:Int)]).map j4) rfl rfl rfl ?_ rfl,trivial⟩,⟨⟨rfl,rfl,?_,fun h=>h⟩,rfl,rfl,g9 om,trivial⟩⟩
      ·rw [kh];exact S9 (f:=j4) (x:=(k:Int)) rfl
      ·simp [toC])
  ·rw [iB hst];conv=>whnf
   repeat' (first|refine zz ?_|refine j6 hv ?_|refine b0x ?_|apply zD<;>intro h<;>try omega|refine zy ?_|fail)<;>conv=>whnf
   all_goals first|omega|exact ⟨hlt,trivial,[some 0],rfl,rfl,⟨i6 (rows:=(F7 t kind k).map j4) rfl rfl rfl rfl rfl,trivial⟩,⟨⟨rfl,rfl,rfl,fun h=>h⟩,rfl,rfl,g9 om,trivial⟩⟩
 ·have hke:k=n:=by omega
  subst hke;conv=>whnf
  repeat' (first|refine zx ?_|apply zD<;>intro h<;>try omega)<;>conv=>whnf
  all_goals first|omega|exact p7 ⟨show VC _ (fun id=>M3 [] id=true) (C.own 0 0 _ true) _ from w6 (k:=w7 (F7 t kind k)) rfl rfl (fun h=>h) rfl rfl zq,rz⟩
def b0O {F:Fence} {n:Nat} {P:Program} {α:Type} {g:Operand} {ps:Array Tmp} {assign body:Code} {Q:Exit->Act->World->Prop} {a:Act} {w:World}
 (hro:F.round=none) (h1:1<=n) {gf:Nat} {lb:Array Value} (hg:a.eval g=.func (.func gf) #[] lb) (hFg:F.fn gf) (eg:∀args w,(callFunc gf args).run P w=.ok (.enter gf args) w)
 {encs:α->Array Value} {G:α->World->Prop} {Kp:World->World->Prop} {S:List α->Prop} {N:Nat} {w0:World} (hseq:bH4 F (n - 1) P gf lb encs G Kp S N w0)
 (hKt:∀{A B C:World},Kp A B->Kp B C->Kp A C) (hKb:∀(W:World) (l:Nat) (o o':Obj),w.heap.size<=l->W.heap[l]? =some o->o.isCells=false->o.isWalk=false->Kp W (W.putObj l o'))
 (hb0:Below w0.heap.size w0 w) (hps:∀x,(encs x).size=ps.size)
 (I:List α->World->Prop) (hI:OwnFrom w.heap.size I) (h0:I [] w) (A:List α->α->Act->World->Prop)
 (hAb:∀(pre:List α) (x:α) (a1:Act) (W:World) (l:Nat) (o o':Obj),w.heap.size<=l->W.heap[l]? =some o->o.isCells=false->A pre x a1 W->A pre x a1 (W.putObj l o'))
 (hassign:∀(l:Nat) (pre:List α) (x:α) (W:World) (K:Act->World->Prop),I pre W->G x W->pre.length<N->(∀ a1 W1,A pre x a1 W1->KeepsFrom w.heap.size W W1->Kp W W1->K a1 W1)->
   assign.wpIn (F.inRound l) (n - 1 - 1) P (Exit.then K (fun _ _ _=>False)) { tmps:=(ps.zip (encs x)).foldl (fun t (p,v)=>t.setIfInBounds p v) a.tmps,defers:=[] } W)
 (hbody:∀(l:Nat) (pre:List α) (x:α) (a1:Act) (W:World),A pre x a1 W->body.wpIn (F.inRound l) (n - 1 - 1) P (Exit.then (fun _ W'=>KeepsFrom w.heap.size W W'/\Kp W W'/\I (pre++[x]) W') (fun _ _ _=>False)) a1 W)
 (hdone:∀(D:Nat) (xs:List α) (W:World),w.heap.size<=D->S xs->I xs W->W.heap[D]? =some (.deferred (some []))->Q .normal { a with defers:={ target:=.collected D,args:=#[] }::a.defers } W):
 (Code.rangeFunc g ps assign body).wpIn F n P Q a w:=by
 refine wpIn_rangeFunc fun fn hfn=>?_
 rw [hro]
 let rec0:LoopState->Loop:=fun st=>{ state:=st,pending:=none,fn,tmps:=a.tmps,params:=ps,assign,body,defers:=w.heap.size }
 let W1:=(w.alloc (.deferred (some []))).alloc (.loop (rec0 .ready))
 have s1:W1.heap.size=w.heap.size+1+1:=by simp [W1]
 have hL:W1.heap[w.heap.size+1]? =some (.loop (rec0 .ready)):=by
  have:=World.alloc_heap_new (w.alloc (.deferred (some []))) (.loop (rec0 .ready));rwa [World.size_alloc] at this
 have hD:W1.heap[w.heap.size]? =some (.deferred (some [])):=(Below.heap_alloc _ _ _ zq).trans (World.alloc_heap_new w _);have hI1:I [] W1:=hI.alloc _ (hI.alloc _ h0);have hb1:Below w0.heap.size w0 W1:=hb0.trans ((((Below.refl _ w).alloc (lbR _) _).alloc zq _).mono hb0.size);refine ⟨w.heap.size+1,[{ target:=.collected w.heap.size,args:=#[] }],W1,{ target:=.fn (.func gf) lb,args:=#[.func (.yield (w.heap.size+1)) #[] #[]] },W1,gf,
  #[.func (.yield (w.heap.size+1)) #[] #[]]++lb,W1,run_enterLoop_outer _ _ _ _ _,?_,?_,?_,fun _=>h1,?_⟩
 ·simp only [resolve,hg];simp [go_sem]
 ·intro f' hf';simp [Target.leads] at hf';subst hf';exact hFg
 ·simp [invoke,go_sem,eg]
 ·have walk:∀{A:World} {row:Option Nat},(∀ r,row=some r->W1.heap.size<=r/\∃o:Obj,A.heap[r]? =some o/\o.isWalk=true)->∀r,row=some r->w.heap.size<=r/\∃o:Obj,A.heap[r]? =some o/\o.isCells=false:=by
   intro A row hr r e;obtain ⟨hB,o,ho,hw⟩:=hr r e;exact ⟨om,o,ho,Obj.not_cells_of_walk hw⟩
  refine (hseq (w.heap.size+1) (fun pre W=>I pre W/\W.heap[w.heap.size+1]? =some (.loop (rec0 .ready))/\W.heap[w.heap.size]? =some (.deferred (some []))) W1 hb1
   (fun s A B row hs hgr hr=>⟨hI s A B row hs.1 hgr (walk hr),(grownBy_keeps hgr (fun r e=>(hr r e).2) hs.2.1 rfl).trans hs.2.1,(grownBy_keeps hgr (fun r e=>(hr r e).2) hs.2.2 rfl).trans hs.2.2⟩)
   ?_ ⟨hI1,hL,hD⟩).mono ?_
  ·rintro pre x W ⟨hi,hl,hk⟩ hx hN;have hy:=run_yield (P:=P) (args:=encs x) hl (hps x);refine ⟨fn,_,assign,body,hy,roundIn_of_wpIn hfn (hassign _ pre x W _ hi hx hN fun a1 W2 hA hk1 hkp1=>?_)⟩;have hl1:=hk1.same _ _ om hl rfl;have hD1:=hk1.same _ _ (lbR _) hk rfl;have hlt:w.heap.size+1<W2.heap.size:=(lb6.1 hl1).1;refine ⟨_,run_beginRound hl1 rfl,?_⟩;have hl2:(W2.putObj (w.heap.size+1) (.loop { rec0 .ready with state:=.busy })).heap[w.heap.size+1]? =some (.loop { rec0 .ready with state:=.busy }):=World.putObj_heap_same hlt;have hk2:(W2.putObj (w.heap.size+1) (.loop { rec0 .ready with state:=.busy })).heap[w.heap.size]? =some (.deferred (some [])):=(World.putObj_heap_other om).trans hD1;refine wpIn_mono (hbody _ pre x a1 _ (hAb pre x a1 W2 _ _ _ om hl1 rfl hA)) ?_;rintro e a3 W3 hp;cases e with
   |normal=>
    obtain ⟨hk3,hkp3,hi3⟩:=hp;have hl3:=hk3.same _ _ om hl2 rfl;have hk4:=hk3.same _ _ (lbR _) hk2 rfl;refine ⟨_,_,run_endRound (P:=P) none hl3,rfl,⟨hI.putObj _ hi3 om hl3 rfl,World.putObj_heap_same (lb6.1 hl3).1,(World.putObj_heap_other om).trans hk4⟩,?_⟩;exact hKt hkp1 (hKt (hKt (hKb _ _ _ _ om hl1 rfl rfl) hkp3) (hKb _ _ _ _ om hl3 rfl rfl))
   |ret=>exact hp.elim
   |exit id=>exact hp.elim
   |goto t=>exact hp.elim
   |panic ch=>exact hp.elim
   |outgrown=>exact hp.elim
  ·rintro e W2 ⟨⟨v,rfl⟩,xs,hS,hi,hl,hk⟩;exact ⟨none,_,run_endLoop (P:=P) hl (by simp [rec0]),hdone _ xs _ (lbR _) hS (hI.putObj _ hi om hl rfl) ((World.putObj_heap_other om).trans hk)⟩
open Go.RowKit Go.Shelf
structure a2P (B n:Nat) (w w':World):Prop where
 os:w'.os=w.os
 tape:w'.tape=w.tape
 output:w'.output=w.output
 size:w.heap.size<=w'.heap.size
 block:∀k,k<n->k≠B->w'.heap[k]? =w.heap[k]?
def a2P.trans {B n:Nat} {a b c:World} (h:a2P B n a b) (k:a2P B n b c):a2P B n a c:=
 ⟨k.os.trans h.os,k.tape.trans h.tape,k.output.trans h.output,lbS h.size k.size,fun i hi hB=>(k.block i hi hB).trans (h.block i hi hB)⟩
def a2P.of {B n:Nat} {a b:World} (h:Below n a b):a2P B n a b:=⟨h.os,h.tape,h.output,h.size,fun k hk _=>h.block k hk⟩
def a2P.low {B n:Nat} {w w':World} (h:a2P B n w w') {m:Nat} (hm:m<=n) (hB:m<=B):Below m w w':=⟨h.os,h.tape,h.output,h.size,fun k hk=>h.block k om om⟩
def b52 {W:World} {base:Nat} {e:TypeId} {size:Nat} {v:Value} {k:Nat} {xs:List Value} (h:W.ownsRow base e size v k xs):W.ownsRow 0 e size v k xs:=
 ⟨h.1,h.2.imp id fun ⟨g,cap,cur,h1,_,h2⟩=>⟨g,cap,cur,h1,G6 _,h2⟩⟩
def b6W {A B:World} (hb:Below A.heap.size A B) {base:Nat} {e:TypeId} {size:Nat} {v:Value} {k:Nat} {xs:List Value} (h:A.ownsRow base e size v k xs):B.ownsRow base e size v k xs:=
 ⟨h.1,h.2.imp id fun ⟨g,cap,cur,h1,h3,h4,h2⟩=>⟨g,cap,cur,h1,h3,(hb.block g (C1 h4)).trans h4,h2⟩⟩
def ap2 {A B:World} (hb:Below A.heap.size A B) {b:Nat} {t:TypeId} {v:Value} (h:Boxed A b t v):Boxed B b t v:=(hb.block b h.lt).trans h
def b5n {W w1:World} {n₀ B:Nat} {v v':Value} {k m:Nat} {xs ys:List Value} {tmp:Obj}
 (hv:Boxed W B a3W v) (hrow:W.ownsRow n₀ tIs 1 v k xs) (hn₀:n₀<=W.heap.size)
 (hown':w1.ownsRow n₀ tIs 1 v' m ys) (hgrow:(W.alloc tmp).grownBy w1 v.ownBlock):
 Boxed w1 B a3W v/\Boxed (w1.setCell ⟨B,0,none⟩ v') B a3W v'/\(w1.setCell ⟨B,0,none⟩ v').ownsRow n₀ tIs 1 v' m ys/\KeepsOthers W (w1.setCell ⟨B,0,none⟩ v')/\a2P B n₀ W (w1.setCell ⟨B,0,none⟩ v')/\KpX B n₀ W (w1.setCell ⟨B,0,none⟩ v'):=by
 obtain ⟨h1,h2,_,h4,_⟩:=hv.appended (n₀:=0) de (b52 hrow) (G6 _) (G6 _) (b52 hown') hgrow;have hrb:∀j,v.ownBlock=some j->n₀<=j/\∃cur,W.heap[j]? =some (.cells cur tIs (0,0)):=by
  intro j ej;rcases hrow.2 with ⟨rfl,_⟩|⟨g,cap,cur,rfl,hb,hc,_⟩
  ·simp [Value.ownBlock] at ej
  ·obtain rfl:g=j:=by simpa [Value.ownBlock] using ej
   exact ⟨hb,cur,hc⟩
 have hsz:W.heap.size<=(w1.setCell ⟨B,0,none⟩ v').heap.size:=h4.size;refine ⟨h1,h2,hown'.kept (grownBy_setCell' w1 B v') (.inr (h1.not_row de hown').symm),h4,?_,hsz,?_⟩
 ·exact (a2P.of (((Below.refl n₀ W).alloc hn₀ tmp).grown hgrow zo fun j ej=>(hrb j ej).1)).trans ⟨rfl,rfl,rfl,by simp [World.setCell],fun k _ hk=>Below.heap_setCell _ _ _ _ hk⟩
 ·intro b vs t fl hb hX ht;have hlt:=C1 hb;have e1:(W.alloc tmp).heap[b]? =W.heap[b]?:=Below.heap_alloc _ _ _ hlt;have hne:some b≠v.ownBlock:=fun e=>by
   obtain ⟨q1,cur,q2⟩:=hrb b e.symm;rw [hb] at q2;injection q2 with q2;injection q2 with _ q2 _;rcases ht with ht|ht
   ·omega
   ·exact ht q2
  have e2:=hgrow.block b zo hne;exact (Below.heap_setCell _ _ _ _ hX).trans (e2.trans (e1.trans hb))
def b97 {W:World} {base:Nat} {e:TypeId} {size:Nat} {v:Value} {k:Nat} {xs:List Value} (h:W.ownsRow base e size v k xs):∃A c,v=.slice A k c:=by
 rcases h.2 with ⟨rfl,rfl⟩|⟨g,cap,cur,rfl,_⟩
 ·exact ⟨none,0,rfl⟩
 ·exact ⟨_,cap,rfl⟩
def b5C {W w1:World} {n₀ B:Nat} {v v':Value} {k m:Nat} {xs ys:List Value}
 (hv:Boxed W B a3W v) (hrow:W.ownsRow n₀ tIs 1 v k xs)
 (hn₀:n₀<=W.heap.size) (hown':w1.ownsRow n₀ tIs 1 v' m ys) (hgrow:W.grownBy w1 v.ownBlock):
 Boxed w1 B a3W v/\Boxed (w1.setCell ⟨B,0,none⟩ v') B a3W v'/\(w1.setCell ⟨B,0,none⟩ v').ownsRow n₀ tIs 1 v' m ys/\KeepsOthers W (w1.setCell ⟨B,0,none⟩ v')/\a2P B n₀ W (w1.setCell ⟨B,0,none⟩ v')/\KpX B n₀ W (w1.setCell ⟨B,0,none⟩ v'):=by
 have hrb:∀j,v.ownBlock=some j->n₀<=j/\∃cur,W.heap[j]? =some (.cells cur tIs (0,0)):=by
  intro j ej;rcases hrow.2 with ⟨rfl,_⟩|⟨g,cap,cur,rfl,hb,hc,_⟩
  ·simp [Value.ownBlock] at ej
  ·obtain rfl:g=j:=by simpa [Value.ownBlock] using ej
   exact ⟨hb,cur,hc⟩
 have hB1:Boxed w1 B a3W v:=by
  refine (hgrow.block B hv.lt fun e=>?_).trans hv;obtain ⟨_,cur,hc⟩:=hrb B e.symm;have hv:W.heap[B]? =some (.cells #[v] a3W (0,0)):=hv;rw [hc] at hv;injection hv with hv;injection hv with _ hv;cases hv
 have hs:w1.heap.size=(w1.setCell ⟨B,0,none⟩ v').heap.size:=by simp [World.setCell]
 have hsz:W.heap.size<=(w1.setCell ⟨B,0,none⟩ v').heap.size:=by have:=hgrow.size;omega
 refine ⟨hB1,hB1.set v',hown'.kept (grownBy_setCell' w1 B v') (.inr (hB1.not_row de hown').symm),⟨hsz,fun j o hj ho=>?_⟩,⟨hgrow.os,hgrow.tape,hgrow.output,hsz,fun j hj hX=>?_⟩,hsz,?_⟩
 ·have h1:w1.heap[j]? =some o:=(hgrow.block j (C1 hj) fun e=>by
   obtain ⟨_,cur,hc⟩:=hrb j e.symm;rw [hj] at hc;injection hc with hc;subst hc;simp [Obj.isCells] at ho).trans hj
  refine (Below.heap_setCell _ _ _ _ fun e=>?_).trans h1;have e:j=B:=e;rw [e] at h1;have hB1:w1.heap[B]? =some (.cells #[v] a3W (0,0)):=hB1;rw [hB1] at h1;injection h1 with h1;subst h1;simp [Obj.isCells] at ho
 ·refine (Below.heap_setCell _ _ _ _ hX).trans ?_;exact hgrow.block j om fun e=>by have:=(hrb j e.symm).1;omega
 ·intro b vs t fl hb hX ht;refine (Below.heap_setCell _ _ _ _ hX).trans ((hgrow.block b (C1 hb) fun e=>?_).trans hb);obtain ⟨q1,cur,q2⟩:=hrb b e.symm;rw [hb] at q2;injection q2 with q2;injection q2 with _ q2 _;rcases ht with ht|ht
  ·omega
  ·exact ht q2
def RT.keepC {w w':World} {M M':Ms} (hk:∀b vs t fl,w.heap[b]? =some (.cells vs t fl)->¬M b->w'.heap[b]? =some (.cells vs t fl)) (hm:∀b,M' b->M b\/¬∃vs t fl,w.heap[b]? =some (.cells vs t fl))
 {x:T} {v:Value} (h:RT w M x v):RT w' M' x v:=by
 have key:∀(a:Addr) (u:Value),w.cell? a=some u->¬M a.block->w'.cell? a=some u/\¬M' a.block:=fun a u hc hM=>by
  obtain ⟨vs,t,fl,ho⟩:=b18 hc;refine ⟨(World.cell?_of_block ((hk _ _ _ _ ho hM).trans ho.symm)).trans hc,fun h2=>?_⟩;rcases hm _ h2 with h3|h3
  ·exact hM h3
  ·exact h3 ⟨vs,t,fl,ho⟩
 induction h with
 |atm h=>exact .atm h
 |sl f hrow hcap hmax hk1 hn hA hc hr hx ih=>exact .sl f hrow hcap hmax hk1 hn hA (fun i j c hc'=>key _ _ (hc i j c hc').1 (hc i j c hc').2) ih hx
 |ptr f hc hr ih=>exact .ptr f (fun j c hc'=>key _ _ (hc j c hc').1 (hc j c hc').2) ih
 |fn vs hl hr ih=>exact .fn vs hl ih
def b9C {W:World} {M:Ms} {n0:Nat} {l:List XE} {v:Value} (hrow:W.ownsRow n0 tIs 1 v l.length (l.map Prod.snd)) (hM:∀b,M b->b<n0) (hx:∀x ∈ l,RT W M (v6 x.1) x.2):RT W M (b27 (l.map Prod.fst)) v:=by
 have hl:((l.map Prod.fst).map F2).length=l.length:=zq;have at1:∀i j t,at2 ((l.map Prod.fst).map F2) i j=some t->∃x,l[i]? =some x/\j=0/\t=v6 x.1:=by
  intro i j t h;unfold at2 at h;rw [lba,lba] at h;cases hx:l[i]? with
  |none=>rw [hx] at h;cases h
  |some x=>
   rw [hx] at h;cases j with
   |zero=>refine ⟨x,rfl,rfl,?_⟩;simp [F2] at h;exact h.symm
   |succ j=>simp [F2] at h
 have sz:∀r ∈ (l.map Prod.fst).map F2,r.length=1:=fun r hr=>by
  obtain ⟨x,_,rfl⟩:=lbx.1 hr;rfl
 rcases hrow.2 with ⟨rfl,h0⟩|⟨g,cap,cur,rfl,hg,hcur,hcap,hcm,hcs,htake⟩
 ·have:l=[]:=lbF h0;subst this;exact .sl (size:=1) (k:=.any) (rows:=[]) (b:=0) (off:=0) (cap:=0) (fun _ _=>undef) (fun r hr=>by cases hr) (G6 _) (G6 _) (fun h=>nomatch h) (fun h=>nomatch h) (fun h=>absurd rfl h) (fun i j c h=>by simp [at2] at h) (fun i j c h=>by simp [at2] at h)
 ·have hcell:∀i x,l[i]? =some x->W.cell? ⟨g,0+(i*1+0),none⟩=some x.2:=fun i x hxi=>by
   have hlt:=(lbe.1 hxi).1;have e:(cur.toList.take (l.length*1))[i]? =some x.2:=by rw [htake,lba,hxi];rfl
   rw [lbi,iA om] at e;have e2:cur[i]? =some x.2:=by simpa using e
   simp [World.cell?,hcur,e2]
  rw [← hl];refine .sl (size:=1) (k:=.any) (b:=g) (off:=0) (fun i _=>(l[i]?.map Prod.snd).getD undef) sz om hcm (fun h=>nomatch h) (fun h=>nomatch h) (fun _=>rfl) (fun i j t h=>?_) (fun i j t h=>?_)
  ·obtain ⟨x,hxi,rfl,rfl⟩:=at1 i j t h;rw [hxi];exact ⟨hcell i x hxi,fun hm=>by have:=hM _ hm;omega⟩
  ·obtain ⟨x,hxi,rfl,rfl⟩:=at1 i j t h;rw [hxi];exact hx x (lbm hxi)
def b95 (D:Nat):Deferred:={ target:=.collected D,args:=#[] }
def a8Y {n:Nat} {P:Program} {fn:Func} {tmps:Array Value} {R:Ending->World->Prop}:∀(Ds:List Nat) (W:World),Ds.Nodup->(∀ D ∈ Ds,W.heap[D]? =some (.deferred (some [])))->
 (∀ W',W'.os=W.os->W'.tape=W.tape->W'.output=W.output->W.heap.size<=W'.heap.size->(∀ b,b ∉ Ds->W'.heap[b]? =W.heap[b]?)->LeavesIn Fence.wide n P fn tmps R [] .returning W')->
 LeavesInM Fence.wide n P fn tmps R (Ds.map b95) .returning W
 |[],W,_,_,h=>h W rfl rfl rfl (lbR _) fun _ _=>rfl
 |D::Ds,W,hn,hD,h=>by
  obtain ⟨hn1,hn2⟩:=List.nodup_cons.1 hn;have h1:=hD D zq;refine ⟨zq,.inl ⟨D,_,rfl,run_takeDeferred h1,a8Y Ds _ hn2 (fun D2 h2=>?_) fun W' a1 a2 a3 a4 a5=>?_⟩⟩
  ·exact (World.putObj_heap_other (by rintro rfl;exact hn1 h2)).trans (hD D2 (by simp [h2]))
  ·refine h W' a1 a2 a3 (by have e:(W.putObj D (.deferred none)).heap.size=W.heap.size:=(by simp [World.putObj]);omega) fun b hb=>?_
   have hb:b≠D/\b ∉ Ds:=by simpa using hb
   exact (a5 b hb.2).trans (World.putObj_heap_other hb.1)
structure FI (X1:Nat) (W4:World) (outs:List XE) (outv:Value) (Ds:List Nat) (W:World):Prop where
 bel:Below X1 W4 W
 bx:Boxed W X1 a3W outv
 row:W.ownsRow (X1+1) tIs 1 outv outs.length (outs.map Prod.snd)
 ir:∀x ∈ outs,a2s (X1+1) W x.1 x.2
 nd:Ds.Nodup
 dm:∀D ∈ Ds,X1<D/\W.heap[D]? =some (.deferred (some []))
def FI.below {X1:Nat} {W4:World} {outs:List XE} {outv:Value} {Ds:List Nat} {W W':World} (h:FI X1 W4 outs outv Ds W) (hb:Below W.heap.size W W'):FI X1 W4 outs outv Ds W':=
 ⟨h.bel.trans (hb.mono (a9M h.bx.lt)),ap2 hb h.bx,b6W hb h.row,fun x hx=>(h.ir x hx).below hb,h.nd,fun D hD=>⟨(h.dm D hD).1,(hb.block D (C1 (h.dm D hD).2)).trans (h.dm D hD).2⟩⟩
structure FP (X ns:Nat) (Wh:World) (q:LI->Bool) (pre:List XE) (W:World):Prop where
 bel:Below X Wh W
 sz:ns<=W.heap.size
 pr:∃fv,Boxed W X a3W fv/\W.ownsRow ns tIs 1 fv (pre.filter fun x=>q x.1).length ((pre.filter fun x=>q x.1).map Prod.snd)
 ir:∀x ∈ pre.filter (fun x=>q x.1),a2s ns W x.1 x.2
def FP.kept {X ns:Nat} {Wh:World} {q:LI->Bool} {pre:List XE} {W W':World} (h:FP X ns Wh q pre W) (hb:Below X W W') (hk:∀(b:Nat) (vs:Array Value) (t:TypeId) (fl:Nat × Nat),W.heap[b]? =some (Obj.cells vs t fl)->W'.heap[b]? =some (Obj.cells vs t fl)):FP X ns Wh q pre W':=by
 obtain ⟨fv,h1,h2⟩:=h.pr;refine ⟨h.bel.trans hb,lbS h.sz hb.size,⟨fv,hk _ _ _ _ h1,h2.1,h2.2.imp id fun ⟨g,cap,cur,a1,a2,a3,a4⟩=>⟨g,cap,cur,a1,a2,hk _ _ _ _ a3,a4⟩⟩,fun x hx=>?_⟩;rcases h.ir x hx with hr|⟨g,cap,cur,a1,a2,a3,a4⟩
 ·exact .inl hr
 ·exact .inr ⟨g,cap,cur,a1,a2,hk _ _ _ _ a3,a4⟩
def aM8 {o:Obj} {vs:Array Value} {t:TypeId} {fl:Nat × Nat} (h:o=Obj.cells vs t fl):o.isCells≠false:=by subst h;simp [Obj.isCells]
def FP.own {X ns:Nat} {Wh:World} {q:LI->Bool} (hX:X<=ns):OwnFrom ns (FP X ns Wh q):=by
 intro s A B row hs hg hr;refine hs.kept ⟨hg.os,hg.tape,hg.output,hg.size,fun k hk=>hg.block k (by have:=hs.sz;omega) fun e=>by have:=(hr k e.symm).1;omega⟩ fun b vs t fl hb=>?_
 refine (hg.block b (C1 hb) fun e=>?_).trans hb;obtain ⟨_,o,ho,hc⟩:=hr b e.symm;rw [hb] at ho;injection ho with ho;exact aM8 ho.symm hc
section
open Go.RowKit Go.Shelf
def a71 {P:Program} {g:FuncId} {args:List S} {r:S} (h:e8 P g args [] r []) (m:Nat) {W:World} {ι:Io} {M:Ms} {vals:List Value} (hl:vals.length=args.length)
 (hv:∀j s,args[j]? =some s->RS W ι M s (vals.getD j undef)) (hMB:MB W M) (hF:a0S ι 0):
 CallsIn Fence.wide m P g vals.toArray W fun e W'=>∃v,e=.returned v/\(∃ ι',RS W' ι' M r v)/\Below W.heap.size W W':=by
 refine callsIn_wide.2 ((aS2 h hl hv hMB hF).mono ?_);rintro e W' ⟨v,rfl,⟨ι',M',h1,h2⟩,h3⟩;exact ⟨v,rfl,⟨ι',h1.keep (fun _ _ _=>rfl) (fun b hb=>.inl (h2 b hb)) (fun _ _ h=>h)⟩,h3⟩
def b4L {w:World} {ι:Io} {M:Ms} {a b:S} {v:Value} (h:RS w ι M (.tup [a,b]) v):∃x y,v=.tuple #[x,y]/\RS w ι M a x/\RS w ι M b y:=by
 cases h with
 |tup vs hl hr=>
  match vs,hl,hr with
  |[x,y],_,hr=>exact ⟨x,y,rfl,hr 0 _ rfl,hr 1 _ rfl⟩
def b2d {w:World} {ι:Io} {M:Ms} {n:Int} {v:Value} (h:RS w ι M (eI n) v):v=.int .i64 n:=az2 h
def aT6 {w:World} {ι:Io} {M:Ms} {b:Bool} {v:Value} (h:RS w ι M (m9 b) v):v=.bool b:=az2 h
def b4f {w:World} {ι:Io} {M:Ms} {l:LI} {v:Value} (h:RS w ι M (j7 l) v):RT w M (v6 l) v:=by
 cases h with|c h=>cases h with|t h=>exact h
def b3N {w:World} {M:Ms} {l:LI} {v:Value} (h:RT w M (v6 l) v):∃A cap,v=.slice A l.length cap/\l.length<=cap/\cap<=maxLen/\∀i x,l[i]? =some x->∃b off,A=some ⟨b,off,none⟩/\w.cell? ⟨b,off+i,none⟩=some (.int .i64 x):=by
 have ml:(l.map j4).length=l.length:=zq;generalize hrows:l.map j4=rows at h;cases h with
 |@sl _ _ _ b off cap A f hrow hcap hmax hk hn hA hc hr hx=>
  subst hrows;refine ⟨A,cap,by rw [ml],om,hmax,fun i x hi=>?_⟩;have hne:l.map j4≠[]:=by intro h;rw [List.map_eq_nil_iff] at h;subst h;simp at hi
  have h2:at2 (l.map j4) i 0=some (ti x):=by simp [at2,hi,j4]
  have h3:=(hc i 0 _ h2).1;have h4:=hr i 0 _ h2;have h5:f i 0=.int .i64 x:=by
   generalize f i 0=u at h4;cases h4 with|atm=>rfl
  refine ⟨b,off,hA hne,?_⟩;rw [show off+i=off+(i*1+0) by omega,h3,h5]
def b9H {W:World} {ι:Io} {M:Ms} {a b:S} {x y:Value} (h1:RS W ι M a x) (h2:RS W ι M b y):∀j s,[a,b][j]? =some s->RS W ι M s ([x,y].getD j undef):=fun j s hj=>by
 match j,hj with
 |0,hj=>injection hj with hj;subst hj;exact h1
 |1,hj=>injection hj with hj;subst hj;exact h2
 |j+2,hj=>simp at hj
def bM0 {W:World} {ι:Io} {M:Ms} {a b c:S} {x y z:Value} (h1:RS W ι M a x) (h2:RS W ι M b y) (h3:RS W ι M c z):∀j s,[a,b,c][j]? =some s->RS W ι M s ([x,y,z].getD j undef):=fun j s hj=>by
 match j,hj with
 |0,hj=>injection hj with hj;subst hj;exact h1
 |1,hj=>injection hj with hj;subst hj;exact h2
 |2,hj=>injection hj with hj;subst hj;exact h3
 |j+3,hj=>simp at hj
def as3 {w W:World} {M:Ms} (h:MB w M) (hb:Below w.heap.size w W):MB W M:=fun b hm=>a6H (h b hm) hb.size
section
variable {w:World} {ι:Io} {M:Ms} {t:k8} {kind:Int} {n:Nat} {v0:Value}
def b8j (hMB:MB w M) (hF:a0S ι 0) (hE:ExP t kind n) (hn:n<=8) (h0:RS w ι M (trS t) v0) (m:Nat) {W:World} (hW:Below w.heap.size w W):
 CallsIn Fence.wide m Tryz.prog 127 #[v0,.int .i64 kind] W fun e W'=>∃lv,e=.returned (.tuple #[lv,.int .i64 0])/\RT W' M (v6 (F7 t kind n)) lv/\Below W.heap.size W W':=by
 refine (a71 (aC5 t kind n hE hn) m (vals:=[v0,.int .i64 kind]) rfl (b9H (a4C hW h0) (.c (.t (.atm rfl)))) (as3 hMB hW) hF).mono ?_;rintro e W' ⟨v,rfl,⟨ι',hr⟩,hb⟩;obtain ⟨x,y,rfl,h1,h2⟩:=b4L hr;rw [b2d h2];exact ⟨x,rfl,b4f h1,hb⟩
def b8w (hMB:MB w M) (hF:a0S ι 0) (hE:ExP t kind n) (h0:RS w ι M (trS t) v0) (m:Nat) {W:World} (hW:Below w.heap.size w W):
 CallsIn Fence.wide m Tryz.prog 64 #[v0,.int .i64 kind] W fun e W'=>∃(A:Option Addr) (len cap:Nat),e=.returned (.tuple #[.agg #[.int .i64 (t.ev.moves.length:Int),.slice A len cap],.int .i64 0])/\RS W' (fun _=>none) M (U9 (p6 t kind)) (.agg #[.int .i64 (t.ev.moves.length:Int),.slice A len cap])/\Below W.heap.size W W':=by
 have sy:=a4k t kind hE.s;have e1:a0o t kind=0:=T6.2 ⟨hE.e,hE.k0,hE.k1⟩;have hc:¬(t9 t≠0\/kind<0\/8<=kind):=by have:=T6.1 e1;omega
 have e2:a6J t kind=p6 t kind:=iB hc;rw [e1,e2] at sy;refine (a71 sy m (vals:=[v0,.int .i64 kind]) rfl (b9H (a4C hW h0) (.c (.t (.atm rfl)))) (as3 hMB hW) hF).mono ?_;rintro e W' ⟨v,rfl,⟨ι',hr⟩,hb⟩;obtain ⟨x,y,rfl,h1,h2⟩:=b4L hr;rw [b2d h2];cases h1 with
 |agg vs hl hq=>
  match vs,hl,hq with
  |[a,b],_,hq=>
   have g0:=hq 0 _ rfl;have g1:=hq 1 _ rfl;simp only [lb7,lb8] at g0 g1;cases g0 with|t g0=>cases g1 with|t g1=>
   cases g0 with|atm=>
   obtain ⟨A,len,cap,rfl⟩:∃(A:Option Addr) (len cap:Nat),b=.slice A len cap:=by
    cases g1 with|sl=>exact ⟨_,_,_,rfl⟩
   refine ⟨A,len,cap,rfl,?_,hb⟩;refine .agg [_,_] rfl fun j c hj=>?_
   match j,hj with
   |0,hj=>injection hj with hj;subst hj;exact .t (.atm rfl)
   |1,hj=>injection hj with hj;subst hj;exact .t g1
   |j+2,hj=>simp at hj
def b6y (hMB:MB w M) (hx:XT t kind n) (h0:RS w (fun _=>none) M (trS t) v0) (m:Nat) {W2 W:World} (hw2:Below w.heap.size w W2) {sv:Value} (hs:RS W2 (fun _=>none) M (U9 (p6 t kind)) sv) (hW:Below W2.heap.size W2 W) {set:LI} (hl:set.length<=1000) {v:Value} (hv:RT W M (v6 set) v):
 CallsIn Fence.wide m Tryz.prog 66 #[v0,sv,v] W fun e W'=>e=.returned (.bool (pX t kind n set))/\Below W.heap.size W W':=by
 have hwW:Below w.heap.size w W:=hw2.trans (hW.mono hw2.size);refine (a71 (av9 t kind n hx set om) m (vals:=[v0,sv,v]) rfl (bM0 (a4C hwW h0) (a4C hW hs) (.c (.t hv))) (as3 hMB hwW) (fun _ _=>rfl)).mono ?_;rintro e W' ⟨u,rfl,⟨ι',hr⟩,hb⟩;rw [aT6 hr];exact ⟨rfl,hb⟩
def b79 (m:Nat) {W:World} (hMB:MB W M) {outs:List XE} {outv:Value} (ho:RT W M (b27 (outs.map Prod.fst)) outv) (h1:outs.length<=1000000) (h2:∀a ∈ outs,a.1.length<=1000000) {set:LI} (hs:set.length<=1000000) {v:Value} (hv:RT W M (v6 set) v) {b:Nat} (hb:Boxed W b tIs v) (hbM:¬M b):
 CallsIn Fence.wide m Tryz.prog 129 #[outv,.func (.func 130) #[] #[.pointer (some ⟨b,0,none⟩)]] W fun e W'=>e=.returned (.bool (outs.any fun a=>D6 a.1 set))/\Below W.heap.size W W':=by
 have hc:=b5O (outs.map Prod.fst) (by simpa using h1) (fun a ha=>by obtain ⟨x,hx,rfl⟩:=lbx.1 ha;exact h2 x hx) set hs;rw [List.any_map] at hc;refine (a71 hc m (ι:=fun _=>none) (M:=M) (vals:=[outv,.func (.func 130) #[] #[.pointer (some ⟨b,0,none⟩)]]) rfl (b9H (.c (.t ho)) (.c (.t (.fn [_] rfl fun j c hj=>?_)))) hMB (fun _ _=>rfl)).mono ?_
 ·match j,hj with
  |0,hj=>
   injection hj with hj;subst hj
   refine .ptr (b:=b) (off:=0) (fun _=>v) (fun j c hj=>?_) (fun j c hj=>?_)
   ·match j,hj with
    |0,hj=>exact ⟨hb.cell,hbM⟩
    |j+1,hj=>simp at hj
   ·match j,hj with
    |0,hj=>injection hj with hj;subst hj;exact hv
    |j+1,hj=>simp at hj
  |j+1,hj=>simp at hj
 ·rintro e W' ⟨u,rfl,⟨ι',hr⟩,hb⟩;rw [aT6 hr];exact ⟨rfl,hb⟩
end
def bP6 {w:World} {ι:Io} {M:Ms} {t:k8} {v:Value} (h:RS w ι M (trS t) v):∃a0 a1 a2 a3 a4 a5 a6 a7 a8 a9,v=.agg #[a0,a1,a2,a3,a4,a5,a6,a7,a8,a9]/\
 a0.oneCell'=true/\a1.oneCell'=true/\a2.oneCell'=true/\a3.oneCell'=true/\a4.oneCell'=true/\a5.oneCell'=true/\a6.oneCell'=true/\a7.oneCell'=true/\a8.oneCell'=true/\a9.oneCell'=true:=by
 cases h with
 |agg vs hl hr=>
  match vs,hl,hr with
  |[u0,u1,u2,u3,u4,u5,u6,u7,u8,u9],_,hr=>
   have h0:=hr 0 _ rfl;have h1:=hr 1 _ rfl;have h2:=hr 2 _ rfl;have h3:=hr 3 _ rfl;have h4:=hr 4 _ rfl;have h5:=hr 5 _ rfl;have h6:=hr 6 _ rfl;have h7:=hr 7 _ rfl;have h8:=hr 8 _ rfl;have h9:=hr 9 _ rfl;simp only [lb7,lb8] at h0 h1 h2 h3 h4 h5 h6 h7 h8 h9;exact ⟨u0,u1,u2,u3,u4,u5,u6,u7,u8,u9,rfl,h0.one,h1.one,h2.one,h3.one,h4.one,h5.one,h6.one,h7.one,h8.one,h9.one⟩
def bw9 (l:List Value) (h:l.length=68):l=(List.range 68).map fun i=>l.getD i undef:=by
 refine a0R fun i=>?_
 by_cases hi:i<68
 ·have hl:i<l.length:=by omega
  simp [hi,lbl,hl]
 ·rw [lbd om,lbd zo]
def bI1 (a:Act) (h:a.tmps.size=68) (hd:a.defers=[]):a=⟨((List.range 68).map fun i=>a.tmps.getD i undef).toArray,[]⟩:=by
 obtain ⟨tm,ds⟩:=a;have hd:ds=[]:=hd;subst hd
 congr 1
 have:=bw9 tm.toList (by simpa using h);obtain ⟨l⟩:=tm;simpa using congrArg List.toArray this
def b2K {W:World} {b l:Nat} {vs:Array Value} {t:TypeId} {fl:Nat × Nat} {o:Obj} (hb:W.heap[b]? =some (Obj.cells vs t fl)) (hl:W.heap[l]? =some o) (ho:o.isCells=false):b≠l:=by
 rintro rfl;rw [hb] at hl;injection hl with hl;exact aM8 hl.symm ho
def KpX.putObj {X ns:Nat} {W:World} {l:Nat} {o o':Obj} (hl:W.heap[l]? =some o) (ho:o.isCells=false):KpX X ns W (W.putObj l o'):=
 ⟨by simp [World.putObj],fun b vs t fl hb _ _=>(World.putObj_heap_other (b2K hb hl ho)).trans hb⟩
def bF6 {W:World} {l b:Nat} {t:TypeId} {v:Value} {o o':Obj} (hb:Boxed W b t v) (hl:W.heap[l]? =some o) (ho:o.isCells=false):Boxed (W.putObj l o') b t v:=(World.putObj_heap_other (b2K hb hl ho)).trans hb
def a2s.put {n0:Nat} {W:World} {s:LI} {v:Value} {l:Nat} {o o':Obj} (h:a2s n0 W s v) (hl:W.heap[l]? =some o) (ho:o.isCells=false):a2s n0 (W.putObj l o') s v:=by
 rcases h with hr|⟨g,cap,cur,a1,a2,a3,a4⟩
 ·exact .inl hr
 ·exact .inr ⟨g,cap,cur,a1,a2,(World.putObj_heap_other (b2K a3 hl ho)).trans a3,a4⟩
end
end Go.Proofs.YtikokmdpigploaaGreat
