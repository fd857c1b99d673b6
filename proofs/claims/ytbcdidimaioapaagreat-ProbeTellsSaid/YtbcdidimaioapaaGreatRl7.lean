/- Part 15. -/
import Derived.RangeFuncWrites
import Derived.RangeFuncBox
import Derived.RangeFuncLeaves
import Derived.Shelf.Abstract
import Derived.Shelf.RegionOpen
import Derived.OwnWalkIn
import Derived.TacticsInMore
import Derived.LoopNIn
import Derived.LoopIn
import Derived.Maps.AppendAt
import Derived.ArgAppend
import Derived.Test.YtbcdidimaioapaaGreatProg
import Derived.OrdersIn
import Derived.TacticsIn
import Derived.Test.YtbcdidimaioapaaGreatRl6
namespace Go.Proofs.YtbcdidimaioapaaGreat
set_option linter.all false
set_option maxRecDepth 100000
set_option maxHeartbeats 8000000
open Go.RowKit
open St1 St2 St3 St4 St5 St6 St7 St8 StA StB StC
theorem b0z (e:Ev) (hs:e.Sized) (hh mat lo hi:Int):e8 Tryz.prog 108 [evS e,e7 .i64 hh,e7 .i64 mat,e7 .i64 lo,e7 .i64 hi] [] (j7 (J6 e hh mat lo hi)) []:=by
 have l1:=hs.s2
 have l2:(e.moves.map C6.row).length=e.moves.length:=by simp
 have l3:(e.places.map a0y.row).length=e.places.length:=by simp
 have ck:=b1Z e hs
 by_cases h0:I4 e=0
 ·have e1:J6 e hh mat lo hi=B7 (fun _ m=>a5D e hh mat lo hi m) 0 e.moves:=iB h0
  rw [e1]
  let P:Nat->C6->Bool:=fun _ m=>a5D e hh mat lo hi m
  (refine ac Tryz.func108 ?_;(conv=>whnf);repeat ((first|refine b0x ?_|refine zy ?_);conv=>whnf))
  repeat' (first|refine zx ?_|refine qp ck ?_|refine zd ?_ ?_<;>intro h<;>try omega|fail)<;>conv=>whnf
  all_goals try omega
  refine k6 g8 (fun k=>([J,e7 .i64 hh,e7 .i64 mat,e7 .i64 lo,e7 .i64 hi,S.c (C.t (T.ptr (evT e))),J,J,J,J,J,a1P 0 (X4 P e.moves k),e7 .i64 k]++Jn 57,[y3 (X4 P e.moves k)])) e.moves.length (fun k=>True) [none] trivial
   ⟨rfl,rfl,⟨⟨rfl,rfl⟩,trivial⟩,⟨rfl,rfl,rfl,rfl,rfl,⟨rfl,rfl,rfl⟩,rfl,trivial⟩⟩ ?_
  intro k hk _
  by_cases jj:k<e.moves.length
  ·have ⟨x,hx⟩:=iA jj
   have hmk:=T2 h0 (lbm hx)
   have h1:=a1H hmk
   obtain ⟨p,hp⟩:∃p,e.places[x.src.toNat]? =some p:=⟨_,lbf (by omega)⟩
   have ri:=a81 x.day lo hi
   have hpl:=a7K P e.moves k
   have eP:P k x=(decide (p.kind=0) && decide (p.hh=hh) && (decide (mat=-1) || decide (p.mat=mat)) && btw x.day lo hi):=by show a5D e hh mat lo hi x=_;unfold a5D;rw [hp]
   cases hP:P k x with
   |true=>
    rw [hP] at eP
    have eP:=eP.symm
    simp only [lbN,lbO,lbI] at eP
    have ⟨⟨⟨q1,q2⟩,q3⟩,q4⟩:=eP
    rw [q4] at ri
    conv=>whnf
    repeat' (first|refine zx ?_|refine qp ri ?_|refine qp toC ?_|refine qp toC ?_|refine j4 hx ?_|refine K6 h1.1 hp ?_|refine zz ?_|refine v8 (by simp [toC]) (by simp [toC];omega) ?_|refine zd ?_ ?_<;>intro h<;>try omega|fail)<;>conv=>whnf
    all_goals first
     |omega
     |(refine ⟨jj,trivial,[some 2],rfl,rfl,⟨i6 rfl rfl rfl ?_ rfl,trivial⟩,⟨rfl,rfl,rfl,rfl,rfl,t6 rfl ?_,rfl,trivial⟩⟩
       ·rw [a5u P hx hP,lbC]
        exact (congrArg (fun n=>List.take n (toC ((X4 P e.moves k).map j3))++toC [[ti k]]) (by simp)).trans b1h
       ·rw [a5u P hx hP];simp [toC])
   |false=>
    rw [hP] at eP
    have eP:¬(p.kind=0/\p.hh=hh/\(mat=-1\/p.mat=mat)/\btw x.day lo hi=true):=by
     intro h
     have ⟨a1,a2,a3,a4⟩:=h
     rw [a4] at eP
     have:(decide (p.kind=0) && decide (p.hh=hh) && (decide (mat=-1) || decide (p.mat=mat)) && true)=true:=by
      simp [a1,a2]
      omega
     rw [← eP] at this
     cases this
    cases hb:btw x.day lo hi with
    |true=>
     rw [hb] at ri eP
     have eP2:¬(p.kind=0/\p.hh=hh/\(mat=-1\/p.mat=mat)):=fun h=>eP ⟨h.1,h.2.1,h.2.2,rfl⟩
     conv=>whnf
     repeat' (first|refine zx ?_|refine qp ri ?_|refine j4 hx ?_|refine K6 h1.1 hp ?_|refine zz ?_|refine zd ?_ ?_<;>intro h<;>try omega|fail)<;>conv=>whnf
     all_goals first
      |omega
      |(exfalso;contradiction)
      |(refine ⟨jj,trivial,[some 0],rfl,rfl,⟨i6 rfl rfl rfl ?_ rfl,trivial⟩,⟨rfl,rfl,rfl,rfl,rfl,t6 rfl ?_,rfl,trivial⟩⟩
        ·rw [a2O P hx hP]
        ·rw [a2O P hx hP])
    |false=>
     rw [hb] at ri
     clear eP
     conv=>whnf
     repeat' (first|refine zx ?_|refine qp ri ?_|refine j4 hx ?_|refine K6 h1.1 hp ?_|refine zz ?_|refine zd ?_ ?_<;>intro h<;>try omega|fail)<;>conv=>whnf
     all_goals first
      |omega
      |(exfalso;contradiction)
      |(refine ⟨jj,trivial,[some 0],rfl,rfl,⟨i6 rfl rfl rfl ?_ rfl,trivial⟩,⟨rfl,rfl,rfl,rfl,rfl,t6 rfl ?_,rfl,trivial⟩⟩
        ·rw [a2O P hx hP]
        ·rw [a2O P hx hP])
  ·have hk':B7 P 0 e.moves=X4 P e.moves k:=(at9 P (by omega)).symm
   conv=>whnf
   repeat' (first|refine zx ?_|refine zd ?_ ?_<;>intro h<;>try omega|fail)<;>conv=>whnf
   all_goals first
    |omega
    |(show Fin 0 _ _ (j7 (B7 P 0 e.moves)) []
      rw [hk']
      exact N6 rfl (by intro h;cases h) rfl rfl (by simp))
 ·have e1:J6 e hh mat lo hi=[]:=iC h0
  rw [e1]
  (refine ac Tryz.func108 ?_;(conv=>whnf);repeat ((first|refine b0x ?_|refine zy ?_);conv=>whnf))
  repeat' (first|refine zx ?_|refine qp ck ?_|refine zd ?_ ?_<;>intro h<;>try omega|fail)<;>conv=>whnf
  all_goals first
   |omega
   |exact n8 (show a9j [] _ (.c (.t (.sl 0 .nil []))) (j7 []) from rfl)
def bk0 (t:j9) (hs:t.Sized) (hh:Int) (hl:(J6 t.ev hh (-1) 0 100000).length<=100000):ec 107 [trS t,eI hh] [] (s6 (ai7 t hh)) []:=by
 have ck:=au3 t hs;have li:=b0z t.ev hs.ev hh (-1) 0 100000;have i1:=a61 1 de de;by_cases hc:t5 t=0/\0<=hh/\hh<t.ev.hhs
 ·have e:ai7 t hh=I1 t hh:=iB hc;rw [e];have ⟨c1,c2,c3⟩:=hc;have m1:((J6 t.ev hh (-1) 0 100000).map j3).length=(J6 t.ev hh (-1) 0 100000).length:=zq;refine ac Tryz.func107 ?_;conv=>whnf
  repeat' (first|refine zx ?_|apply zD<;>intro h<;>try omega)<;>conv=>whnf
  all_goals try omega
  refine k6 g8 (fun k=>([J,J,J,J,J,j7 (J6 t.ev hh (-1) 0 100000),S.c (C.own 0 0 k true),eI k]++Jn 34,[a2s (a3z ((J6 t.ev hh (-1) 0 100000).take k))])) (J6 t.ev hh (-1) 0 100000).length tT [none] trivial
   ⟨rfl,rfl,rz,⟨m9 rfl,rz,g9 rfl,trivial⟩⟩ ?_
  intro k hk _;by_cases jj:k<(J6 t.ev hh (-1) 0 100000).length
  ·have ⟨x,hx⟩:=iA jj;have lk:(a3z ((J6 t.ev hh (-1) 0 100000).take k)).length=k:=by unfold a3z;rw [lbr,lbs];omega
   have lA:k<=(a2s (a3z ((J6 t.ev hh (-1) 0 100000).take k))).rows.length:=by show k<=(toC _).length;rw [toC,lbr,lbr,lk];exact lbR _
   conv=>whnf
   repeat' (first|refine zx ?_|refine j4 hx ?_|refine v8 lA zu ?_|apply zD<;>intro h<;>try omega)<;>conv=>whnf
   all_goals first
    |omega
    |(refine ⟨jj,trivial,[some 1],rfl,rfl,⟨i6 (rows:=(a3z ((J6 t.ev hh (-1) 0 100000).take (k+1))).map B9) rfl rfl rfl ?_ rfl,trivial⟩,⟨rfl,⟨rfl,rfl,rfl,fun h=>h⟩,g9 om,trivial⟩⟩
      rw [ae2 hx];exact O9 (f:=B9) (x:=(x,((1:Int):Rat))) lk.symm)
  ·have hke:k=(J6 t.ev hh (-1) 0 100000).length:=by omega
   subst hke;conv=>whnf
   repeat' (first|refine zx ?_|apply zD<;>intro h<;>try omega)<;>conv=>whnf
   all_goals first|omega|exact N6 rfl (fun h=>h) rfl (by rw [lbn (lbR _)];rfl) (by simp [I1,a3z])
 ·have e:ai7 t hh=[]:=iC hc;rw [e];refine ac Tryz.func107 ?_;conv=>whnf
  repeat' (first|refine zx ?_|apply zD<;>intro h<;>try omega)<;>conv=>whnf
  all_goals first|omega|exact b19
def bR9 (x:Rat) (lx:rl x<=60000):ec 202 [frS (fz x)] [] (frS (fz (-x))) []:=by
 have r1:=aF6 x om;have x1:=K9 x;have n:=a69 x.num om;have e:fz (-x)=⟨bz (-x.num),bz x.den⟩:=by unfold fz;rw [az5,Rat.neg_den]
 rw [e];refine ac Tryz.func202 ?_;conv=>whnf
 repeat' (first|refine zx ?_|apply zD<;>intro<;>try omega)<;>conv=>whnf
 all_goals first|(exfalso;simp_all;done)|exact n8 rz
def b1O (l:List (Int × Rat)) (hl:l.length<=100000) (hb:∀t ∈ l,rl t.2<=200):ec 160 [s6 l] [] (s6 (E8 l)) []:=by
 have m1:(l.map B9).length=l.length:=zq;refine ac Tryz.func160 ?_;conv=>whnf
 repeat' (first|refine zx ?_|apply zD<;>intro h<;>try omega)<;>conv=>whnf
 refine k6 g8 (fun k=>([s6 l,J,J,S.c (C.own 0 0 k true),eI k]++Jn 22,[a2s ((E8 l).take k)])) l.length tT [none] trivial
  ⟨rfl,rfl,rz,⟨rfl,rz,g9 rfl,trivial⟩⟩ ?_
 intro k hk _;by_cases jj:k<l.length
 ·have ⟨t,ht⟩:=iA jj;have bt:=hb t (lbm ht);have ne:=bR9 t.2 om;have en:-t.2=t.2*((-1:Int):Rat):=by
   have e1:((-1:Int):Rat)=-1:=rfl;rw [e1];grind
  rw [en] at ne;have lk:((E8 l).take k).length=k:=by rw [lbs,a3F];omega
  have lA:k<=(a2s ((E8 l).take k)).rows.length:=by show k<=(toC _).length;simp [toC,a3F];omega
  conv=>whnf
  repeat' (first|refine zx ?_|refine j4 ht ?_|refine v8 lA zu ?_|apply zD<;>intro h<;>try omega)<;>conv=>whnf
  all_goals first
   |omega
   |(refine ⟨jj,trivial,[some 1],rfl,rfl,⟨i6 (rows:=((E8 l).take (k+1)).map B9) rfl rfl rfl ?_ rfl,trivial⟩,⟨rfl,⟨rfl,rfl,rfl,fun h=>h⟩,g9 om,trivial⟩⟩
     rw [show (E8 l).take (k+1)=_ from a3V l _ ht];exact O9 (f:=B9) (x:=(t.1,t.2*((-1:Int):Rat))) lk.symm)
 ·have hke:k=l.length:=by omega
  subst hke;conv=>whnf
  repeat' (first|refine zx ?_|apply zD<;>intro h<;>try omega)<;>conv=>whnf
  all_goals first|omega|exact N6 rfl (fun h=>h) rfl (by rw [lbn (by rw [a3F];exact lbR _)]) (by simp [a3F])
def a6y (s:m7) (g:List (Int × Rat)):m7:=⟨s.n,s.rows++[⟨g,2,((0:Int):Rat)⟩]⟩
def b8I (s:m7) (g:List (Int × Rat)) (hl:s.rows.length<=100000):ec 159 [W8 s,s6 g] [] (W8 (a6y s g)) []:=by
 have m1:(s.rows.map v6).length=s.rows.length:=zq;have i0:=a61 0 de de;refine ac Tryz.func159 ?_;conv=>whnf
 repeat' (first|refine zx ?_|refine R9 rfl zu ?_|refine v8 (by simp [toC,D8]) zu ?_|refine bl0 [0,1] ?_|apply zD<;>intro h<;>try omega)<;>conv=>whnf
 refine n8 ?_;refine ⟨rfl,?_,trivial⟩;show VC _ (fun id=>L2 [] id=true) (C.own 3 0 _ true) (a0h (a6y s g).rows);refine v7 (rows:=(s.rows++[(⟨g,2,((0:Int):Rat)⟩:C7)]).map v6) rfl rfl (fun h=>h) rfl ?_ ?_
 ·show List.take ([].length+(toC (s.rows.map v6)).length) (toC []++toC (s.rows.map v6))++toC [v6 ⟨g,2,((0:Int):Rat)⟩]=_;rw [lbn zt,lbC];simp [toC]
 ·simp [toC]
def ai5 {s:m7} {g:List (Int × Rat)} (hr:q9 s=true) (hl:s.rows.length<6000) (hg:m8 (-1) s.n g=true):q9 (a6y s g)=true:=by
 unfold q9 at hr ⊢;simp only [lbN,lbI] at hr ⊢;refine ⟨⟨hr.1.1,by simp [a6y];omega⟩,?_⟩;show (s.rows++[_]).all (A7 s.n)=true;rw [a0z,hr.2];simp [A7,hg]
def a1j {s:m7} {g:List (Int × Rat)} (z:List Rat):∀l:List (Int × Rat),n9 (E8 l) z=-(n9 l z):=by
 intro l;have key:∀k,k<=l.length->n9 ((E8 l).take k) z=-(n9 (l.take k) z):=by
  intro k;induction k with
  |zero=>intro _;rw [a85,a85];show (0:Rat)=-0;grind
  |succ k ih=>
   intro hk;have ih:=ih om;have ht:l[k]? =some l[k]:=lbf om;rw [show (E8 l).take (k+1)=_ from a3V l _ ht,L0,aT0 (show k<l.length by omega),L0,show (a2p l ((-1:Int):Rat)).take k=(E8 l).take k from rfl,ih];have e1:((-1:Int):Rat)=-1:=rfl;rw [e1];simp only;grind
 have:=key l.length (lbR _);rwa [lbn (by rw [a3F];exact lbR _),lbn (lbR _)] at this
structure VdP (s:m7) (g:List (Int × Rat)):Prop where
 r:q9 s=true
 p:∀t ∈ g,0<=t.2
 z:H8 s []=.best
 g:m8 (-1) ((s.n.toNat:Nat):Int) g=true
def VdP.og {s:m7} {g:List (Int × Rat)} (h:VdP s g):m8 (-1) ((s.n.toNat:Nat):Int) (E8 g)=true:=a2M h.g
def VdP.pos {s:m7} {g:List (Int × Rat)} (h:VdP s g) {z:List Rat} (hz:k7 s z=true):0<=n9 g z:=a6p (af2 hz) g h.p
def VdP.least {s:m7} {g:List (Int × Rat)} (h:VdP s g):k7 s (s8 s g)=true/\∀z,k7 s z=true->n9 g (s8 s g)<=n9 g z:=Y1 h.r h.g (aL5 h.r h.g h.p h.z)
def VdP.has {s:m7} {g:List (Int × Rat)} (h:VdP s g):k7 s (s8 s [])=true:=(Y1 h.r rfl h.z).1
def VdP.ray {s:m7} {g:List (Int × Rat)} (h:VdP s g) {c:Nat} (hc:H8 s (E8 g)=.col c):k7 s (ab6 (s8 s []) (a6x s (E8 g) c))=true/\0<n9 g (ab6 (s8 s []) (a6x s (E8 g) c)):=by
 have ⟨h1,h2⟩:=a7g h.r h.og hc;refine ⟨ad4 h.has h1,?_⟩;have h3:=a1a h.has;have hn:=X0 h.r;rw [a4F (n:=s.n.toNat) om h1.len h.g];rw [a1j (s:=s) (g:=g)] at h2;have:=h.pos h.has;grind
def a34 {s:m7} {g:List (Int × Rat)} (h:VdP s g) (hh:Int):
 ((a2i s g hh).state=2/\(∀ z,k7 s z=true->0<n9 g z))\/((a2i s g hh).state=0/\(∀ z,k7 s z=true->n9 g z=0))\/((a2i s g hh).state=1/\(∃ z,k7 s z=true/\0<n9 g z)/\∃z,k7 s z=true/\n9 g z=0):=by
 have ⟨h1,h2⟩:=h.least;unfold a2i;by_cases hp:0<n9 g (s8 s g)
 ·rw [iB hp];exact .inl ⟨rfl,fun z hz=>by have:=h2 z hz;grind⟩
 ·rw [iC hp];have hz0:n9 g (s8 s g)=0:=by have:=h.pos h1;grind
  rcases not_row (g:=E8 g) h.r h.z with ho|⟨c,ho⟩
  ·rw [ho];simp only;have ⟨p1,p2⟩:=Y1 h.r h.og ho;by_cases hn:n9 (E8 g) (s8 s (E8 g))<0
   ·rw [iB hn];rw [a1j (s:=s) (g:=g)] at hn;exact .inr (.inr ⟨rfl,⟨_,p1,by grind⟩,⟨_,h1,hz0⟩⟩)
   ·rw [iC hn];refine .inr (.inl ⟨rfl,fun z hz=>?_⟩);have:=p2 z hz;rw [a1j (s:=s) (g:=g),a1j (s:=s) (g:=g)] at this;rw [a1j (s:=s) (g:=g)] at hn;have:=h.pos p1;have:=h.pos hz;grind
  ·rw [ho];simp only;have ⟨r1,r2⟩:=h.ray ho;exact .inr (.inr ⟨rfl,⟨_,r1,r2⟩,⟨_,h1,hz0⟩⟩)
def br6 {s:m7} {g:List (Int × Rat)} (hh:Int):(a2i s g hh).hh=hh:=by
 unfold a2i;split
 ·rfl
 ·split
  ·rfl
  ·split<;>rfl
def bH2 {s:m7} {x:List Rat} {B:Nat} (hr:q9 s=true) (hI:∀w ∈ s.rows,b61 11 w) (hB:B<=40000) (hn:s.n.toNat*(B+4)+1<=50000) (hl:x.length<=1000000) (hx:∀v ∈ x,rl v<=B):PtB s x:=by
 refine ⟨fun v hv=>lbS (hx v hv) hB,fun w hw k=>?_,hl⟩;obtain ⟨i,hi,rfl⟩:=a0D hw;have hrt:=(a1t hr (lbf hi)).1;have h1:=a6b (Q0 (hI _ hw).1) hx k;have h2:=E4 hrt;have h3:s.rows[i].terms.length<=s.n.toNat:=om;have h4:=lbU (B+4) h3;omega
structure ExP (t:j9) (kind:Int) (n:Nat):Prop where
 s:t.Sized
 e:t5 t=0
 k0:0<=kind
 k1:kind<8
 m:t.ev.moves.length<=8
 h:t.ev.hhs=(n:Nat)
 z:H8 (p7 t kind) []=.best
def ExP.vd {t:j9} {kind:Int} {n:Nat} (h:ExP t kind n) (hh:Int):VdP (p7 t kind) (I1 t hh):=by
 have p:=O4 (kind:=kind) h.e h.m (g:=[]) rfl (fun t ht=>by cases ht);exact ⟨p.o.r,a78 t hh,h.z,a3O t hh⟩
def bm8 {t:j9} {kind:Int} (ht:t5 t=0) (hm:t.ev.moves.length<=8) {z:List Rat} (hz:k7 (p7 t kind) z=true):H8 (p7 t kind) []=.best:=by
 have p:=O4 (kind:=kind) ht hm (g:=[]) rfl (fun t ht=>by cases ht);rcases ak9 p.o.r with h|⟨r,h⟩
 ·exact h
 ·rw [a5i h z] at hz;cases hz
def bM5 {t:j9} {kind:Int} (ht:t5 t=0) (hm:t.ev.moves.length<=8) (hz:∀z,k7 (p7 t kind) z=false):∃r,H8 (p7 t kind) []=.row r:=by
 have p:=O4 (kind:=kind) ht hm (g:=[]) rfl (fun t ht=>by cases ht);rcases ak9 p.o.r with h|h
 ·have:=(Y1 p.o.r rfl h).1;rw [hz] at this;cases this
 ·exact h
def f22:List Q4:=[⟨2,0,5⟩]
def bq5 {t:j9} {kind:Int} {n:Nat} (h:ExP t kind n) (i:Nat) (hA:∀z,k7 (p7 t kind) z=true->0<n9 (I1 t (i:Int)) z):(a2i (p7 t kind) (I1 t (i:Int)) (i:Int)).state=2:=by
 rcases a34 (h.vd (i:Int)) (i:Int) with ⟨h2,_⟩|⟨_,h2⟩|⟨_,_,y,h3,h4⟩
 ·exact h2
 ·have h3:=(h.vd (i:Int)).has;have:=hA _ h3;rw [h2 _ h3] at this;exact absurd this zk
 ·have:=hA _ h3;rw [h4] at this;exact absurd this zk
def b9L {t:j9} {kind:Int} {n:Nat} (h:ExP t kind n) (i:Nat) (hA:∀z,k7 (p7 t kind) z=true->n9 (I1 t (i:Int)) z=0):(a2i (p7 t kind) (I1 t (i:Int)) (i:Int)).state=0:=by
 rcases a34 (h.vd (i:Int)) (i:Int) with ⟨_,h2⟩|⟨h2,_⟩|⟨_,⟨y,h3,h4⟩,_⟩
 ·have h3:=(h.vd (i:Int)).has;have:=h2 _ h3;rw [hA _ h3] at this;exact absurd this zk
 ·exact h2
 ·rw [hA _ h3] at h4;exact absurd h4 zk
def a8Y (e:Ev) (m k:Int):Bool:=decide (e.mats<=k) && decide (e.hhs<=6) && decide (e.scs<=6) && decide (e.places.length<=12) && decide ((e.moves.length:Int)<=m) && decide (e.certs.length<=10) && decide (e.recalls.length<=4) && decide (e.purities.length<=6)
def b7h (e:Ev) (m k:Int):ec 19 [evS e,eI m,eI k] [] (n7 (a8Y e m k)) []:=by
 have m1:(e.places.map a0y.row).length=e.places.length:=zq;have m2:(e.moves.map C6.row).length=e.moves.length:=zq;have m3:(e.certs.map Q3.row).length=e.certs.length:=zq;have m4:(e.recalls.map J5.row).length=e.recalls.length:=zq;have m5:(e.purities.map a2w.row).length=e.purities.length:=zq;refine ac Tryz.func19 ?_;conv=>whnf
 repeat' (first|refine zx ?_|apply zD<;>intro<;>try omega)<;>conv=>whnf
 all_goals
  refine j6 ?_;unfold a8Y;simp only [m1,m2,m3,m4,m5] at *;first|(symm;simp only [lbN,lbI];omega)|(symm;rw [← lbQ];simp only [lbN,lbI];omega)
def a5O (t:j9) (m:Int):Bool:=a8Y t.ev m 3 && decide (t.ev.hhs<=4) && decide (t.finds.length<=6) && decide (t.cleans.length<=6)
def b9Q (t:j9) (m:Int):ec 11 [trS t,eI m] [] (n7 (a5O t m)) []:=by
 have r:=b7h t.ev m 3;have m1:(t.finds.map Q4.row).length=t.finds.length:=zq;have m2:(t.cleans.map H5.row).length=t.cleans.length:=zq;unfold a5O;cases hq:a8Y t.ev m 3<;>rw [hq] at r<;>
 ·refine ac Tryz.func11 ?_;conv=>whnf
  repeat' (first|refine zx ?_|apply zD<;>intro<;>try omega)<;>conv=>whnf
  all_goals
   refine j6 ?_;simp only [m1,m2] at *;first|rfl|(symm;simp only [P5,lbN,lbI];omega)|(symm;rw [← lbQ];simp only [lbN,lbI];omega)
def aF7 {t:j9} {m:Int} (hm:m<=100) (h:a5O t m=true):t.Sized/\(t.ev.moves.length:Int)<=m/\t.ev.hhs<=4:=by
 unfold a5O a8Y at h;simp only [lbN,lbI] at h;exact ⟨⟨⟨om,om,om,om,om⟩,om,om⟩,om,om⟩
def bd4 {Z:List Rat} (hZ:∀v ∈ Z,0<=v):∀l:LI,0<n9 (a3z l) Z↔∃i ∈ l,0<Z.getD i.toNat 0:=by
 have h0:∀i,0<=Z.getD i 0:=fun i=>by
  by_cases h:i<Z.length
  ·exact hZ _ (lbm (getD_some h))
  ·rw [lbl,lbd om];exact lb3
 intro l;have pos:∀l,0<=n9 (a3z l) Z:=fun l=>a6p hZ _ fun u hu=>by
  obtain ⟨i,_,rfl⟩:=lbx.1 hu;show (0:Rat)<=((1:Int):Rat);decide
 have key:∀k,k<=l.length->(0<n9 (a3z (l.take k)) Z↔∃i ∈ l.take k,0<Z.getD i.toNat 0):=by
  intro k;induction k with
  |zero=>
   intro _;rw [a85];constructor
   ·intro h;have:(0:Rat)<0:=h;exact absurd this zk
   ·rintro ⟨i,hi,_⟩;cases hi
  |succ k ih=>
   intro hk;have ih:=ih om;have hx:l[k]? =some l[k]:=lbf om;rw [ae2 hx,L0,N0 hx];have e1:((1:Int):Rat)=1:=rfl;have a1:=pos (l.take k);have a2:=h0 l[k].toNat;simp only [e1];constructor
   ·intro h;by_cases h2:0<Z.getD l[k].toNat 0
    ·exact ⟨_,List.mem_append_right _ (ar0.2 rfl),h2⟩
    ·have ⟨i,hi,hp⟩:=ih.1 zg;exact ⟨i,List.mem_append_left _ hi,hp⟩
   ·rintro ⟨i,hi,hp⟩;rcases lbz.1 hi with h|h
    ·have:=ih.2 ⟨i,h,hp⟩;grind
    ·rw [ar0.1 h] at hp;grind
 have:=key l.length (lbR _);rwa [X9] at this
def aB2 {t:j9} {h i:Int} (hi:i ∈ J6 t.ev h (-1) 0 100000):0<=i/\i<t.ev.moves.length:=by
 have ⟨a1,_⟩:=aJ7 t.ev h (-1) 0 100000;have ⟨k,hk,he⟩:=a0D hi;have:=a1 k i (by rw [lbf hk,he]);omega
def cnt (p:Nat->Bool):Nat->Nat
 |0=>0
 |k+1=>cnt p k+if p k then 1 else 0
noncomputable def O0 (t:j9) (kind:Int) (i:Nat):Int:=(a2i (p7 t kind) (I1 t (i:Int)) (i:Int)).state
def aM8 {t:Int × Rat} {r:List (Int × Rat)} (h:∀u ∈ r,u.1.toNat≠t.1.toNat) (v:Nat):∀k,k<=r.length->T4 (t::r) (k+1) v=if v=t.1.toNat then t.2 else T4 r k v
 |0,_=>by
  rw [Q9 (l:=t::r) (k:=0) (t:=t) rfl];simp only;by_cases h1:v=t.1.toNat
  ·rw [iB h1,iB h1]
  ·rw [iC h1,iC h1]
   rfl
 |k+1,hk=>by
  have hx:r[k]? =some r[k]:=lbf om;have hne:=h _ (lbm hx);rw [Q9 (l:=t::r) (k:=k+1) (t:=r[k]) zq,Q9 hx];have ih:=aM8 h v k om;simp only;rw [ih];by_cases h1:v=t.1.toNat
  ·rw [iB h1,iB h1,iC om]
  ·rw [iC h1,iC h1]
def a0o {last n:Int} {t:Int × Rat} {r:List (Int × Rat)} (h0:-1<=last) (h:m8 last n (t::r)=true) (v:Nat):L9 (t::r) v=if v=t.1.toNat then t.2 else L9 r v:=by
 refine aM8 (fun u hu=>?_) v r.length (lbR _);have ⟨j,hj,he⟩:=a0D hu;have h1:=a8D h 0 (j+1) t u om rfl (by simp [he,hj]);have h2:=L1 h t (av8 ..);omega
def a1O {last n:Int} {t:Int × Rat} {r:List (Int × Rat)} (h:m8 last n (t::r)=true):m8 t.1 n r=true:=by
 unfold m8 at h;simp only [lbN] at h;exact h.2
def b0K {last last' n:Int} (hl:last'<=last) {l:List (Int × Rat)} (h:m8 last n l=true):m8 last' n l=true:=by
 cases l with
 |nil=>rfl
 |cons t r=>
  unfold m8 at h ⊢;simp only [lbN,lbI] at h ⊢;exact ⟨⟨⟨om,h.1.1.2⟩,h.1.2⟩,h.2⟩
def aq1 {last n:Int} {l:List (Int × Rat)} (h0:-1<=last) (h:m8 last n l=true) {v:Nat} (hv:(v:Int)<=last):L9 l v=0:=by
 refine ae8 _ fun i t hi ht e=>?_
 have:=L1 h t (lbm ht);omega
def a3B {P:Program} {g:FuncId} {n:Nat} {H H':Hp} {r:S} (h1:e8 P g [.c (.t (.sl n .nul []))] H r H') (h2:e8 P g [.c (.t (.sl n .non []))] H r H'):e8 P g [.c (.t (.sl n .any []))] H r H':=by
 refine ⟨h1.1,fun w ι M vals hl hv hH hM hf=>?_⟩;have h0:=hv 0 _ rfl;have key:RS w ι M (.c (.t (.sl n .nul []))) (vals.getD 0 undef)\/RS w ι M (.c (.t (.sl n .non []))) (vals.getD 0 undef):=by
  generalize vals.getD 0 undef=v at h0;cases h0 with
  |c h=>cases h with
   |t h=>cases h with
    |@sl _ _ _ b off cap A f hrow hcap hmax hk hn hA hc hr hx=>
     cases A with
     |none=>exact .inl (.c (.t (.sl (b:=b) (off:=off) f hrow hcap hmax (fun h=>nomatch h) (fun h=>nomatch h) hA hc hr ⟨fun _=>rz,fun h=>nomatch h⟩)))
     |some a=>exact .inr (.c (.t (.sl (b:=b) (off:=off) f hrow hcap hmax (fun h=>nomatch h) (fun h=>nomatch h) hA hc hr ⟨(fun h=>nomatch h),fun _=>(fun h=>nomatch h)⟩)))
 have one:∀s,RS w ι M s (vals.getD 0 undef)->∀j s',[s][j]? =some s'->RS w ι M s' (vals.getD j undef):=fun s hs j s' hj=>by
  cases j with
  |zero=>injection hj with hj;subst hj;exact hs
  |succ j=>simp at hj
 rcases key with k|k
 ·exact h1.2 w ι M vals hl (one _ k) hH hM hf
 ·exact h2.2 w ι M vals hl (one _ k) hH hM hf
def b6x:ec 71 [.c (.t (.sl 6 .any []))] [] (.c (.own 0 0 0 true)) [X3 []]:=by
 refine a3B ?_ ?_
 ·refine ac Tryz.func71 ?_;conv=>whnf
  repeat' (first|refine zx ?_|apply zD<;>intro h<;>try omega)<;>conv=>whnf
  all_goals exact ⟨[none],rz⟩
 ·refine ac Tryz.func71 ?_;conv=>whnf
  repeat' (first|refine zx ?_|refine R9 rfl de ?_|apply zD<;>intro h<;>try omega)<;>conv=>whnf
  all_goals exact ⟨[some 0],rfl,rfl,⟨i6 (rows:=([]:List C7).map v6) rfl rfl rfl rfl rfl,trivial⟩,⟨rfl,rfl,rfl,fun h=>h⟩⟩
def ba9 (l:List C7) (h1:l.length<=100000):ec 71 [.c (.t (a0h l))] [] (.c (.own 0 0 l.length true)) [X3 l]:=by
 have m1:(l.map v6).length=l.length:=zq;by_cases h0:l.length=0
 ·have:l=[]:=a0B.1 h0;subst this;exact b6x
 have hl:0<(l.map v6).length:=om;refine ac Tryz.func71 ?_;conv=>whnf
 repeat' (first|refine zx ?_|refine ⟨hl,?_⟩|refine zz ?_|refine R9 rfl (by simp only [toC,lbr,a15];omega) ?_|refine v8 (G0 _) (by simp only [toC,lbr];omega) ?_|apply zD<;>intro h<;>try omega)<;>conv=>whnf
 all_goals first|omega|exact ⟨[some 0],rfl,rfl,⟨i6 (rows:=l.map v6) rfl rfl rfl rfl rfl,trivial⟩,⟨rfl,rfl,by simp [toC],fun h=>h⟩⟩
structure bR6 where
 hh:Int
 state:Int
 w:List Fr
 wo:List Fr
 pr:List Fr
def bR6.row (v:bR6):List T:=[ti v.hh,ti v.state,V7 v.w,V7 v.wo,V7 v.pr]
def b5L {s:m7} {g:List (Int × Rat)} {Y:List Rat} (hr:q9 s=true) (h:b8p s g Y=true):bU4 s (L9 g) (yN Y) (b72 s (yN Y)):=by
 unfold b8p bA3 at h;simp only [lbN,lbI,lbv] at h;have ⟨⟨⟨h1,h2⟩,h3⟩,h4⟩:=h;refine ⟨fun i w hw=>?_,fun l hl=>?_,rfl⟩
 ·have:=h2 i (lbB.2 (lbe.1 hw).1);unfold sgB at this;rw [b2R hw] at this;simp only [a6X,a2t,lbP,lbK] at this;have ⟨a,b⟩:=this;exact ⟨fun hk=>by
   rcases a with a|a
   ·exact absurd hk a
   ·exact lb4.1 a,fun hk=>by
   rcases b with b|b
   ·exact absurd hk b
   ·exact lb4.1 b⟩
 ·exact h4 l (lbB.2 hl)
theorem never_holds {s:m7} {g:List (Int × Rat)} {z:List Rat} (hr:q9 s=true) (hl:s.rows.length<6000) (hg:m8 (-1) s.n g=true) (hz:k7 s z=true) (h0:n9 g z=0):k7 (a6y s g) z=true:=by
 have ⟨h1,h2,h3,h4⟩:=Z0.1 hz;refine Z0.2 ⟨ai5 hr hl hg,h2,h3,fun w hw=>?_⟩;rcases lbz.1 hw with h|h
 ·exact h4 w h
 ·have h:=ar0.1 h;subst h;have e1:((0:Int):Rat)=0:=rfl;simp only;rw [h0,e1];exact ⟨fun _=>lb3,fun _=>lb3⟩
def b0X {s:m7} {Y:List Rat} (hr:q9 s=true) (h:bH3 s Y=true) (z:List Rat):k7 s z=false:=by
 cases hz:k7 s z with
 |false=>rfl
 |true=>
  exfalso;unfold bH3 at h;rw [lbN,lbI] at h;have hb:=aH2 (g:=[]) (b5L hr h.1) hz;rw [D7 fun j hj=>by show (0:Rat)*_=0;grind] at hb;have:=h.2;grind
def A9:LI->Nat->List LI
 |_,0=>[[]]
 |[],_+1=>[]
 |x::r,n+1=>(A9 r n).map (x::·)++A9 r (n+1)
def D4 (a b:LI):Bool:=a.all fun x=>b.any fun y=>decide (y=x)
def a4r {a b:LI}:D4 a b=true↔∀x ∈ a,x ∈ b:=by
 unfold D4;rw [lbv];constructor
 ·intro h x hx;have ⟨y,hy,e⟩:=lbw.1 (h x hx);rw [← lbL e];exact hy
 ·intro h x hx;exact lbw.2 ⟨x,h x hx,lbH rfl⟩
def J2:∀{l:LI} {n:Nat} {s:LI},s ∈ A9 l n↔s.Sublist l/\s.length=n
 |l,0,s=>by
  simp only [A9,ar0];constructor
  ·rintro rfl;exact ⟨List.nil_sublist _,rfl⟩
  ·rintro ⟨_,h⟩;exact lbF h
 |[],n+1,s=>by
  simp only [A9];constructor
  ·intro h;cases h
  ·rintro ⟨h1,h2⟩;rw [List.sublist_nil.1 h1] at h2;cases h2
 |x::r,n+1,s=>by
  simp only [A9,lbz,lbx];constructor
  ·rintro (⟨q,hq,rfl⟩|h)
   ·have ⟨h1,h2⟩:=J2.1 hq;exact ⟨h1.cons_cons x,by simp [h2]⟩
   ·have ⟨h1,h2⟩:=J2.1 h;exact ⟨h1.cons x,h2⟩
  ·rintro ⟨h1,h2⟩;cases h1 with
   |cons _ h1=>exact .inr (J2.2 ⟨h1,h2⟩)
   |cons_cons _ h1=>exact .inl ⟨_,J2.2 ⟨h1,by simpa using h2⟩,rfl⟩
def b2H:LI->LI->Bool
 |a::p,b::q=>decide (a<b) || (decide (a=b) && b2H p q)
 |_,_=>false
def bV4 (a b:LI):Bool:=if a.length≠b.length then decide (a.length<b.length) else b2H a b
def a9X:∀{l:LI} {n:Nat},l.Pairwise (·<·)->(A9 l n).Pairwise fun a b=>b2H a b=true
 |l,0,_=>by simp [A9]
 |[],n+1,_=>by simp [A9]
 |x::r,n+1,h=>by
  have ⟨h1,h2⟩:=ay6.1 h;simp only [A9];rw [List.pairwise_append];refine ⟨?_,a9X h2,fun a ha b hb=>?_⟩
  ·rw [List.pairwise_map];refine (a9X (n:=n) h2).imp fun {a b} hab=>?_
   simp [b2H,hab]
  ·obtain ⟨q,hq,rfl⟩:=lbx.1 ha;have ⟨h3,h4⟩:=J2.1 hb;cases b with
   |nil=>simp at h4
   |cons y b=>
    have:x<y:=h1 y (h3.subset zq);simp [b2H,this]
def I6 (p:LI->Bool) (l:LI) (short:Bool):Nat->List LI
 |0=>[]
 |n+1=>if short=true/\I6 p l short n≠[] then I6 p l short n
  else I6 p l short n++(A9 l n).filter fun s=>!((I6 p l short n).any fun a=>D4 a s) && p s
def aD8 (p:LI->Bool) (l:LI) (short:Bool):List LI:=I6 p l short (l.length+1)
def af1 {p:LI->Bool} {l:LI} {n:Nat}:I6 p l false (n+1)=I6 p l false n++(A9 l n).filter fun s=>!((I6 p l false n).any fun a=>D4 a s) && p s:=by
 rw [I6,iC zq]
def a1f {p:LI->Bool} {l:LI}:∀{n:Nat} {s:LI},s ∈ I6 p l false n↔s.Sublist l/\s.length<n/\p s=true/\∀a ∈ I6 p l false s.length,D4 a s=false
 |0,s=>by simp [I6]
 |n+1,s=>by
  have ih:=a1f (p:=p) (l:=l) (n:=n) (s:=s);rw [af1,lbz,ih,lby,J2];simp only [lbN,a6X,←lbQ];constructor
  ·rintro (⟨h1,h2,h3⟩|⟨⟨h1,h2⟩,h3,h4⟩)
   ·exact ⟨h1,om,h3⟩
   ·refine ⟨h1,om,h4,fun a ha h=>h3 ?_⟩;rw [← h2];exact lbw.2 ⟨a,ha,h⟩
  ·rintro ⟨h1,h2,h3,h4⟩;by_cases hn:s.length<n
   ·exact .inl ⟨h1,hn,h3,h4⟩
   ·have hn:s.length=n:=by omega
    refine .inr ⟨⟨h1,hn⟩,fun h=>?_,h3⟩;have ⟨a,ha,hp⟩:=lbw.1 h;rw [← hn] at ha;exact h4 a ha hp
def am5 {l s:LI} (hl:l.Pairwise (·<·)) (h:s.Sublist l):s.Pairwise (·<·):=hl.sublist h
def a9z:∀{a b:LI},a.Pairwise (·<·)->b.Pairwise (·<·)->(∀ x ∈ a,x ∈ b)->a.Sublist b
 |[],b,_,_,_=>List.nil_sublist b
 |x::a,[],_,_,h=>by have:=h x zq;cases this
 |x::a,y::b,ha,hb,h=>by
  have ⟨a1,a2⟩:=ay6.1 ha;have ⟨b1,b2⟩:=ay6.1 hb;rcases lbA.1 (h x zq) with rfl|hx
  ·refine (a9z a2 b2 fun z hz=>?_).cons_cons x;rcases lbA.1 (h z (by simp [hz])) with rfl|hz2
   ·exact absurd (a1 z hz) om
   ·exact hz2
  ·refine (a9z ha b2 fun z hz=>?_).cons y;rcases lbA.1 (h z hz) with rfl|hz2
   ·rcases lbA.1 hz with rfl|hz3
    ·exact hx
    ·have:=a1 z hz3;have:=b1 x hx;omega
   ·exact hz2
def bo0 {p:LI->Bool} {l:LI} (hl:l.Pairwise (·<·)) {s:LI}:s ∈ aD8 p l false↔s.Sublist l/\p s=true/\∀a,a.Sublist s->a≠s->p a=false:=by
 have key:∀(n:Nat) (s:LI),s.length=n->s.Sublist l->(s ∈ aD8 p l false↔p s=true/\∀a,a.Sublist s->a≠s->p a=false):=by
  intro n;induction n using Nat.strongRecOn with
  |ind n ih=>
   intro s hn hs;unfold aD8;rw [a1f];constructor
   ·rintro ⟨_,h2,h3,h4⟩;refine ⟨h3,fun a ha hne=>?_⟩;rw [← lbQ];intro hp;have jj:a.length<s.length:=by
     rcases I0 a.length s.length with h|h
     ·exact h
     ·exact absurd (ha.eq_of_length_le h) hne
    have ex:∀(k:Nat) (b:LI),b.length=k->b.Sublist s->b.length<s.length->p b=true->∃c,c.Sublist b/\c ∈ aD8 p l false:=by
     intro k;induction k using Nat.strongRecOn with
     |ind k ihk=>
      intro b hb hbs hbl hpb;by_cases hm:∀a,a.Sublist b->a≠b->p a=false
      ·exact ⟨b,List.Sublist.refl _,(ih b.length om b rfl (hbs.trans hs)).2 ⟨hpb,hm⟩⟩
      ·have ⟨c,hc⟩:∃c,c.Sublist b/\c≠b/\p c=true:=by
        apply a02;intro hno;exact hm fun a h1 h2=>by
         rw [← lbQ];intro h3;exact hno ⟨a,h1,h2,h3⟩
       have ⟨c1,c2,c3⟩:=hc;have hcl:c.length<b.length:=by
        rcases I0 c.length b.length with h|h
        ·exact h
        ·exact absurd (c1.eq_of_length_le h) c2
       have ⟨d,d1,d2⟩:=ihk c.length om c rfl (c1.trans hbs) om c3;exact ⟨d,d1.trans c1,d2⟩
    have ⟨c,c1,c2⟩:=ex a.length a rfl ha jj hp;have ⟨m1,m2,m3,m4⟩:=a1f.1 c2;have hc3:c ∈ I6 p l false s.length:=a1f.2 ⟨m1,by have:=c1.length_le;omega,m3,m4⟩;have:=h4 c hc3;rw [a4r.2 fun x hx=>ha.subset (c1.subset hx)] at this;cases this
   ·rintro ⟨h1,h2⟩;refine ⟨hs,by have:=hs.length_le;omega,h1,fun a ha=>?_⟩;have ⟨m1,m2,m3,m4⟩:=a1f.1 ha;rw [← lbQ];intro hp;have hsub:=a9z (am5 hl m1) (am5 hl hs) (a4r.1 hp);have:=h2 a hsub (by intro e;rw [e] at m2;omega);rw [this] at m3;cases m3
 constructor
 ·intro h;have h1:=(a1f.1 h).1;exact ⟨h1,(key _ s rfl h1).1 h⟩
 ·rintro ⟨h1,h2⟩;exact (key _ s rfl h1).2 h2
def b9W {p:LI->Bool} {l:LI} (hl:l.Pairwise (·<·)):∀(n:Nat) (s:LI),s.length=n->s.Sublist l->p s=true->∃c,c.Sublist s/\c ∈ aD8 p l false:=by
 intro n;induction n using Nat.strongRecOn with
 |ind n ih=>
  intro s hn hs hp;by_cases hm:∀a,a.Sublist s->a≠s->p a=false
  ·exact ⟨s,List.Sublist.refl _,(bo0 hl).2 ⟨hs,hp,hm⟩⟩
  ·have ⟨c,hc⟩:∃c,c.Sublist s/\c≠s/\p c=true:=by
    apply a02;intro hno;exact hm fun a h1 h2=>by
     rw [← lbQ];intro h3;exact hno ⟨a,h1,h2,h3⟩
   have ⟨c1,c2,c3⟩:=hc;have hcl:c.length<s.length:=by
    rcases I0 c.length s.length with h|h
    ·exact h
    ·exact absurd (c1.eq_of_length_le h) c2
   have ⟨d,d1,d2⟩:=ih c.length om c rfl (c1.trans hs) c3;exact ⟨d,d1.trans c1,d2⟩
def b0y {p:LI->Bool} {l:LI}:∀n,∃rest,I6 p l false n=I6 p l true n++rest/\(I6 p l true n=[]->rest=[])/\(∀ a ∈ I6 p l true n,∀b ∈ I6 p l true n,a.length=b.length)/\(∀ a ∈ I6 p l true n,∀b ∈ rest,a.length<b.length)
 |0=>⟨[],rfl,fun _=>rfl,by simp [I6],by simp [I6]⟩
 |n+1=>by
  have ⟨rest,h1,h2,h3,h4⟩:=b0y (p:=p) (l:=l) n;by_cases hs:I6 p l true n=[]
  ·have hr:=h2 hs;rw [hs,hr] at h1;have e1:I6 p l true (n+1)=(A9 l n).filter fun s=>!((([]:List LI)).any fun a=>D4 a s) && p s:=by
    rw [I6,iC (by rw [hs];simp),hs];rfl
   have e2:I6 p l false (n+1)=(A9 l n).filter fun s=>!((([]:List LI)).any fun a=>D4 a s) && p s:=by
    rw [I6,iC zq,h1];rfl
   refine ⟨[],by rw [e1,e2,a05],fun _=>rfl,fun a ha b hb=>?_,fun _ _ b hb=>by cases hb⟩;rw [e1] at ha hb;rw [(J2.1 (lby.1 ha).1).2,(J2.1 (lby.1 hb).1).2]
  ·have e1:I6 p l true (n+1)=I6 p l true n:=by rw [I6,iB ⟨rfl,hs⟩]
   refine ⟨rest++(A9 l n).filter fun s=>!((I6 p l false n).any fun a=>D4 a s) && p s,?_,fun h=>absurd (e1 ▸ h) hs,by rw [e1];exact h3,?_⟩
   ·rw [e1];conv=>lhs;rw [I6,iC zq]
    rw [h1,lbD]
   ·rw [e1];intro a ha b hb;rcases lbz.1 hb with hb|hb
    ·exact h4 a ha b hb
    ·have q1:a ∈ I6 p l false n:=by rw [h1];exact lbz.2 (.inl ha)
     have:=(a1f.1 q1).2.1;rw [(J2.1 (lby.1 hb).1).2];exact this
def a27 (e:Ev):Nat->List Nat
 |0=>[]
 |k+1=>match e.moves[k]? with
  |some m=>if O2 e m.src=0 then a27 e k++[k] else a27 e k
  |none=>a27 e k
def a5z (e:Ev):List Nat:=a27 e e.moves.length
def b2M (e:Ev) (i:Nat):Prop:=∃m,e.moves[i]? =some m/\O2 e m.src=0
def a6Y {e:Ev} {i:Nat}:∀{k:Nat},i ∈ a27 e k↔i<k/\b2M e i
 |0=>by simp [a27]
 |k+1=>by
  have ih:=a6Y (e:=e) (i:=i) (k:=k);unfold a27;cases hm:e.moves[k]? with
  |none=>
   simp only;rw [ih];constructor
   ·rintro ⟨h1,h2⟩;exact ⟨om,h2⟩
   ·rintro ⟨h1,h2⟩;refine ⟨?_,h2⟩;have ⟨m,h3,_⟩:=h2;by_cases h:i=k
    ·subst h;rw [hm] at h3;cases h3
    ·omega
  |some m=>
   simp only;by_cases hk:O2 e m.src=0
   ·rw [iB hk,lbz,ih,ar0];constructor
    ·rintro (⟨h1,h2⟩|h)
     ·exact ⟨om,h2⟩
     ·subst h;exact ⟨om,m,hm,hk⟩
    ·rintro ⟨h1,h2⟩;by_cases h:i=k
     ·exact .inr h
     ·exact .inl ⟨om,h2⟩
   ·rw [iC hk,ih];constructor
    ·rintro ⟨h1,h2⟩;exact ⟨om,h2⟩
    ·rintro ⟨h1,h2⟩;refine ⟨?_,h2⟩;have ⟨m',h3,h4⟩:=h2;by_cases h:i=k
     ·subst h;rw [hm] at h3;injection h3 with h3;subst h3;exact absurd h4 hk
     ·omega
def as5 {e:Ev} {i:Nat}:i ∈ a5z e↔b2M e i:=by
 unfold a5z;rw [a6Y];constructor
 ·exact fun h=>h.2
 ·intro h;have h':=h;have ⟨m,h1,_⟩:=h';exact ⟨(lbe.1 h1).1,h⟩
def ag3 {e:Ev}:∀k,(a27 e k).length<=k
 |0=>by simp [a27]
 |k+1=>by
  have ih:=ag3 (e:=e) k;unfold a27;split
  ·split
   ·simp;omega
   ·omega
  ·omega
def a4S (l:List Nat) (i:Nat):List C7:=(l.filter fun j=>decide (j≠i)).map fun j=>E7 j 2 ((0:Int):Rat)
def b2n (t:j9) (kind:Int) (i:Nat):m7:=⟨t.ev.moves.length,(p7 (a28 t) kind).rows++a4S (a5z t.ev) i⟩
def b1Y (l:List Nat) (i:Nat):(a4S l i).length<=l.length:=by unfold a4S;rw [lbr];exact lbt _ _
structure bQ0 (t:j9) (kind:Int) (i:Nat) (z:List Rat):Prop where
 p:bP2 (a28 t) kind z
 o:∀j,b2M t.ev j->j≠i->z.getD j 0=0
def b1R {t:j9} {kind:Int} {i:Nat} (hm:t.ev.moves.length<=14) (hc:t.cleans.length<=50):q9 (b2n t kind i)=true:=by
 have h:=a1M (t:=a28 t) (kind:=kind) hm (by simp [a28]) hc;unfold q9 at h ⊢;simp only [lbN,lbI] at h ⊢;have ⟨⟨⟨h1,h2⟩,h3⟩,h4⟩:=h;have hl:=O5 (t:=a28 t) (kind:=kind) t.ev.moves.length;have hl2:t.ev.moves.length*(2+(a28 t).finds.length+(a28 t).cleans.length)<=14*52:=lbT hm (by show 2+0+t.cleans.length<=52;omega);have hl3:=b1Y (a5z t.ev) i;have hl4:=ag3 (e:=t.ev) t.ev.moves.length;refine ⟨⟨⟨h1,h2⟩,?_⟩,?_⟩
 ·show ((w6 (a28 t) kind t.ev.moves.length++a4S (a5z t.ev) i).length)<=6000;rw [lbq];have:(a5z t.ev).length<=t.ev.moves.length:=hl4;omega
 ·show ((p7 (a28 t) kind).rows++a4S (a5z t.ev) i).all (A7 (t.ev.moves.length:Nat))=true;rw [a0z];have h5:(p7 (a28 t) kind).rows.all (A7 (t.ev.moves.length:Nat))=true:=h4;rw [h5,P5,lbv];intro w hw;obtain ⟨j,hj,rfl⟩:=lbx.1 hw;have hj:=(a6Y.1 (lby.1 hj).1).1;unfold A7 E7;simp only [lbN,lbI];exact ⟨⟨a5s om om a5P,de⟩,de⟩
theorem alone_holds {t:j9} {kind:Int} {i:Nat} {z:List Rat} (ht:t5 t=0) (k0:0<=kind) (k1:kind<8) (hm:t.ev.moves.length<=14):k7 (b2n t kind i) z=true↔bQ0 t kind i z:=by
 have hc:=(H6 ht).2.2.1;have hb:=sys_holds (t:=a28 t) (kind:=kind) (z:=z) (b6y ht) k0 k1 hm;have hr1:=b1R (t:=t) (kind:=kind) (i:=i) hm hc;have hr2:=a1M (t:=a28 t) (kind:=kind) hm (by simp [a28]) hc;have e:k7 (b2n t kind i) z=(k7 (p7 (a28 t) kind) z && (a4S (a5z t.ev) i).all fun w=>a0w w z):=by
  unfold k7;rw [hr1,hr2];show (true && decide ((z.length:Int)=(t.ev.moves.length:Nat)) && _ && ((p7 (a28 t) kind).rows++a4S (a5z t.ev) i).all _)=_;rw [a0z];simp only [P5,Bool.and_assoc]
  rfl
 rw [e,lbN,hb];constructor
 ·rintro ⟨h1,h2⟩;refine ⟨h1,fun j hj hji=>?_⟩;exact a4g.1 (lbv.1 h2 (E7 j 2 ((0:Int):Rat)) (lbx.2 ⟨j,lby.2 ⟨as5.2 hj,lbH hji⟩,rfl⟩))
 ·rintro ⟨h1,h2⟩;refine ⟨h1,lbv.2 fun w hw=>?_⟩;obtain ⟨j,hj,rfl⟩:=lbx.1 hw;have hj:=lby.1 hj;exact a4g.2 (h2 j (as5.1 hj.1) (lbL hj.2))
def bz5 (t:j9) (kind:Int) (n:Nat) (set:LI):Prop:=∃z,k7 (p7 t kind) z=true/\∀h:Nat,h<n->(h:Int) ∉ set->n9 (I1 t h) z=0
noncomputable def pX (t:j9) (kind:Int) (n:Nat) (set:LI):Bool:=
 open Classical in decide (bz5 t kind n set)
def aP6 {t:j9} {kind:Int} {n:Nat} {set:LI}:pX t kind n set=true↔bz5 t kind n set:=by unfold pX;exact @decide_eq_true_iff _ (Classical.propDecidable _)
def b5d {t:j9} {kind:Int} {n:Nat} {a b:LI} (h:∀x ∈ a,x ∈ b) (ha:pX t kind n a=true):pX t kind n b=true:=by
 have ⟨z,h1,h2⟩:=aP6.1 ha;exact aP6.2 ⟨z,h1,fun i hi hn=>h2 i hi fun hc=>hn (h _ hc)⟩
noncomputable def E1 (t:j9) (kind:Int) (n:Nat):LI:=((List.range n).filter fun i=>decide (O0 t kind i≠0)).map fun i=>((i:Nat):Int)
def b22 {t:j9} {kind:Int} {n:Nat} {x:Int}:x ∈ E1 t kind n↔∃i:Nat,x=i/\i<n/\O0 t kind i≠0:=by
 unfold E1;rw [lbx];constructor
 ·rintro ⟨i,hi,rfl⟩;have ⟨h1,h2⟩:=lby.1 hi;exact ⟨i,rfl,lbB.1 h1,lbL h2⟩
 ·rintro ⟨i,rfl,h1,h2⟩;exact ⟨i,lby.2 ⟨lbB.2 h1,lbH h2⟩,rfl⟩
def a9M (t:j9) (kind:Int) (n:Nat):(E1 t kind n).Pairwise (·<·):=by
 unfold E1;rw [List.pairwise_map];refine (List.Pairwise.filter _ List.pairwise_lt_range).imp fun {a b} h=>?_
 show ((a:Nat):Int)<((b:Nat):Int);omega
def a2o (t:j9) (kind:Int) (n:Nat):(E1 t kind n).length<=n:=by
 unfold E1;rw [lbr];have:=lbt (fun i=>decide (O0 t kind i≠0)) (List.range n);rwa [List.length_range] at this
section
variable {t:j9} {kind:Int} {n:Nat}
def az6 (h:ExP t kind n) {i:Nat} (h0:O0 t kind i=0) {z:List Rat} (hz:k7 (p7 t kind) z=true):n9 (I1 t (i:Int)) z=0:=by
 rcases a34 (h.vd (i:Int)) (i:Int) with ⟨h2,_⟩|⟨_,h2⟩|⟨h2,_⟩
 ·unfold O0 at h0;omega
 ·exact h2 z hz
 ·unfold O0 at h0;omega
def b2k (h:ExP t kind n) {i:Nat}:O0 t kind i=2↔∀z,k7 (p7 t kind) z=true->0<n9 (I1 t (i:Int)) z:=by
 constructor
 ·intro h2 z hz;rcases a34 (h.vd (i:Int)) (i:Int) with ⟨_,h3⟩|⟨h3,_⟩|⟨h3,_⟩
  ·exact h3 z hz
  ·unfold O0 at h2;omega
  ·unfold O0 at h2;omega
 ·intro hA;exact bq5 h i hA
noncomputable def b37 (t:j9) (n:Nat) (z:List Rat):LI:=((List.range n).filter fun i=>open Classical in decide (0<n9 (I1 t ((i:Nat):Int)) z)).map fun i=>((i:Nat):Int)
def b25 {z:List Rat} {x:Int}:x ∈ b37 t n z↔∃i:Nat,x=i/\i<n/\0<n9 (I1 t ((i:Nat):Int)) z:=by
 unfold b37;rw [lbx];constructor
 ·rintro ⟨i,hi,rfl⟩;have ⟨h1,h2⟩:=lby.1 hi;exact ⟨i,rfl,lbB.1 h1,lbL h2⟩
 ·rintro ⟨i,rfl,h1,h2⟩;exact ⟨i,lby.2 ⟨lbB.2 h1,lbH h2⟩,rfl⟩
def be1 (z:List Rat):(b37 t n z).Pairwise (·<·):=by
 unfold b37;rw [List.pairwise_map];refine (List.Pairwise.filter _ List.pairwise_lt_range).imp fun {a b} h=>?_
 show ((a:Nat):Int)<((b:Nat):Int);omega
def b6G (h:ExP t kind n) {z:List Rat} (hz:k7 (p7 t kind) z=true):pX t kind n (b37 t n z)=true:=by
 refine aP6.2 ⟨z,hz,fun i hi hn=>?_⟩;have h1:=(h.vd (i:Int)).pos hz;have h2:¬0<n9 (I1 t (i:Int)) z:=fun hp=>hn (b25.2 ⟨i,rfl,hi,hp⟩)
 grind
def b9o (h:ExP t kind n) {z:List Rat} (hz:k7 (p7 t kind) z=true):(b37 t n z).Sublist (E1 t kind n):=by
 refine a9z (be1 z) (a9M t kind n) fun x hx=>?_
 obtain ⟨i,rfl,h1,h2⟩:=b25.1 hx;refine b22.2 ⟨i,rfl,h1,fun h0=>?_⟩;rw [az6 h h0 hz] at h2;exact absurd h2 zk
noncomputable def R8 (t:j9) (kind:Int) (n:Nat) (short:Bool):List LI:=aD8 (pX t kind n) (E1 t kind n) short
def be9 (h:ExP t kind n) {z:List Rat} (hz:k7 (p7 t kind) z=true):∃c ∈ R8 t kind n false,c.Sublist (b37 t n z):=by
 have ⟨c,h1,h2⟩:=b9W (a9M t kind n) _ _ rfl (b9o h hz) (b6G h hz);exact ⟨c,h2,h1⟩
def bh3 (h:ExP t kind n):R8 t kind n false≠[]:=by
 have ⟨c,hc,_⟩:=be9 h (h.vd 0).has;exact List.ne_nil_of_mem hc
def b1i:∀a:LI,b2H a a=false
 |[]=>rfl
 |x::r=>by simp [b2H,b1i r]
def bO6 (h:ExP t kind n):∃rest,R8 t kind n false=R8 t kind n true++rest/\R8 t kind n true≠[]/\(∀ a ∈ R8 t kind n true,∀b ∈ R8 t kind n true,a.length=b.length)/\(∀ a ∈ R8 t kind n true,∀b ∈ rest,a.length<b.length):=by
 have ⟨rest,h1,h2,h3,h4⟩:=b0y (p:=pX t kind n) (l:=E1 t kind n) ((E1 t kind n).length+1);refine ⟨rest,h1,fun he=>?_,h3,h4⟩;have hr:=h2 he;have hne:=bh3 h;have:R8 t kind n false=R8 t kind n true++rest:=h1;rw [he,hr] at this;exact hne this
end
def aa6 {t:j9} {kind:Int} (ht:t5 t=0) (hm:t.ev.moves.length<=8):M7 (p7 t kind):=by
 have p:=O4 (kind:=kind) ht hm (g:=[]) rfl (fun t ht=>by cases ht);have ⟨q1,q2,q3,q4,q5⟩:=H6 ht;refine ⟨p.o.r,bz2 ht,by show ((t.ev.moves.length:Nat):Int)<=9;omega,?_⟩;have h1:=O5 (t:=t) (kind:=kind) t.ev.moves.length;have h2:t.ev.moves.length*(2+t.finds.length+t.cleans.length)<=8*72:=lbT hm om;show (w6 t kind t.ev.moves.length).length<=_;omega
def b1y {s:m7} {g:List (Int × Rat)} (h:M7 s) (hl:s.rows.length<=998) (hg:m8 (-1) s.n g=true) (hw:I9 g):M7 (a6y s g):=by
 refine ⟨ai5 h.r om hg,fun w hw'=>?_,h.n,by show (s.rows++[_]).length<=999;simp;omega⟩;rcases lbz.1 hw' with h1|h1
 ·exact h.i w h1
 ·simp at h1;subst h1;exact ⟨hw,a5G⟩
def aL8 {s:m7} {g:List (Int × Rat)} {z:List Rat} (hr:q9 s=true) (hl:s.rows.length<6000) (hg:m8 (-1) s.n g=true):k7 (a6y s g) z=true↔k7 s z=true/\n9 g z=0:=by
 constructor
 ·intro h;have ⟨h1,h2,h3,h4⟩:=Z0.1 h;refine ⟨Z0.2 ⟨hr,h2,h3,fun w hw=>h4 w (lbz.2 (.inl hw))⟩,?_⟩;have h5:=h4 ⟨g,2,((0:Int):Rat)⟩ (lbz.2 (.inr zq));have a:=h5.1 (show (2:Int)≠1 by decide);have b:=h5.2 (show (2:Int)≠0 by decide);have a:(0:Rat)<=n9 g z:=a;have b:n9 g z<=(0:Rat):=b;grind
 ·rintro ⟨h1,h2⟩;exact never_holds hr hl hg h1 h2
def ae9 (g:List (Int × Rat)) (z:List Rat):n9 (E8 g) z=-(n9 g z):=by
 have key:∀k,k<=g.length->n9 ((E8 g).take k) z=-(n9 (g.take k) z):=by
  intro k;induction k with
  |zero=>intro _;show ((0:Int):Rat)=-((0:Int):Rat);decide
  |succ k ih=>
   intro hk;have ⟨t,ht⟩:=@iA _ g k om;rw [show (E8 g).take (k+1)=_ from a3V g _ ht,N0 ht,L0,L0];show n9 ((E8 g).take k) z+_=_;rw [ih om];have e1:((-1:Int):Rat)=-1:=rfl;simp only [e1];grind
 have:=key g.length (lbR _);rw [lbn (by rw [a3F];exact lbR _),X9] at this;exact this
noncomputable def stP (s:m7) (g:List (Int × Rat)):Int:=open Classical in if ∀z,k7 s z=true->0<n9 g z then 2 else if ∀z,k7 s z=true->n9 g z=0 then 0 else 1
def b88 (s:m7) (g:List (Int × Rat)) (h:M7 s) (hl:s.rows.length<=998) (hg:m8 (-1) s.n g=true) (hw:I9 g) (hp:∀t ∈ g,0<=t.2) (hz:∃z,k7 s z=true):
 ec 106 [W8 s,s6 g] [] (eI (stP s g)) []:=by
 have hn:=X0 h.r;have hn9:=h.n;have hgl:=E4 hg;have hpos:∀z,k7 s z=true->0<=n9 g z:=fun z hz=>a6p (af2 hz) g hp
 have ⟨b,hb,pc⟩:=a1l (a6y s g) (b1y h hl hg hw);have ne:=b8I s g om;have op:=b1O g om (fun t ht=>lbS (Q0 hw t ht) de);have ⟨o,ho,lc⟩:=aJ1 s (E8 g) ⟨h,a7h hw,by rw [hn];exact a2M hg⟩;have hB:b=true↔∃z,k7 s z=true/\n9 g z=0:=by
  rw [hb];constructor
  ·rintro ⟨z,hz⟩;exact ⟨z,(aL8 h.r om hg).1 hz⟩
  ·rintro ⟨z,hz⟩;exact ⟨z,(aL8 h.r om hg).2 hz⟩
 have hAll:(∀ z,k7 s z=true->0<n9 g z)↔b=false:=by
  rw [← lbQ,hB];constructor
  ·rintro h1 ⟨z,h2,h3⟩;have:=h1 z h2;rw [h3] at this;exact absurd this de
  ·intro h1 z hz;have:=hpos z hz;have:n9 g z≠0:=fun e=>h1 ⟨z,hz,e⟩
   grind
 cases b with
 |false=>
  have e:stP s g=2:=by unfold stP;rw [iB (hAll.2 rfl)]
  rw [e];refine ac Tryz.func106 ?_;conv=>whnf
  repeat' (first|refine zx ?_|apply zD<;>intro h<;>try omega)<;>conv=>whnf
  all_goals first
   |(exfalso;simp_all;done)
   |exact p9 rfl
 |true=>
  have hna:¬∀z,k7 s z=true->0<n9 g z:=fun e=>by have:=hAll.1 e;cases this
  by_cases hk:o.kind=0
  ·have ⟨f1,f2,f3⟩:=ho.found hk;have hx:=hpos _ f1;have lb:rl (n9 (E8 g) o.X)<=60000:=by
    have:=a6b (Q0 (a7h hw)) ho.bx (E8 g).length;rw [X9] at this;have h2:(E8 g).length*(100+4)<=9*104:=lbT (by rw [a3F];omega) (lbR _);omega
   have sg:=ba7 (n9 (E8 g) o.X) lb;rw [← f2] at sg;have hzero:n9 (E8 g) o.X=0↔∀z,k7 s z=true->n9 g z=0:=by
    constructor
    ·intro e z hz;have:=f3 z hz;rw [e,ae9] at this;have:=hpos z hz;grind
    ·intro e;rw [ae9,e _ f1];decide
   have hs0:sgR (n9 (E8 g) o.X)=0↔n9 (E8 g) o.X=0:=by
    unfold sgR;split
    ·constructor
     ·intro h;cases h
     ·intro h;grind
    ·split
     ·constructor
      ·intro h;cases h
      ·intro h;grind
     ·constructor
      ·intro _;grind
      ·intro _;rfl
   by_cases he:n9 (E8 g) o.X=0
   ·have e:stP s g=0:=by unfold stP;rw [iC hna,iB (hzero.1 he)]
    rw [hs0.2 he] at sg;rw [e];refine ac Tryz.func106 ?_;conv=>whnf
    repeat' (first|refine zx ?_|refine bl0 [5] ?_|refine bl0 [6] ?_|apply zD<;>intro h<;>try omega)<;>conv=>whnf
    all_goals first|omega|(exfalso;simp_all;done)|exact p9 rfl
   ·have e:stP s g=1:=by unfold stP;rw [iC hna,iC (fun h=>he (hzero.2 h))]
    have hs1:sgR (n9 (E8 g) o.X)≠0:=fun h=>he (hs0.1 h)
    rw [e];refine ac Tryz.func106 ?_;conv=>whnf
    repeat' (first|refine zx ?_|refine bl0 [5] ?_|refine bl0 [6] ?_|apply zD<;>intro h<;>try omega)<;>conv=>whnf
    all_goals first|omega|(exfalso;simp_all;done)|exact p9 rfl
  ·have e:stP s g=1:=by
    unfold stP;rw [iC hna,iC];intro hall;rcases ho.k with k|k|k
    ·exact hk k
    ·have ⟨z,hz⟩:=hz;rw [ho.none k z] at hz;cases hz
    ·have ⟨f1,f2,f3⟩:=ho.free k;have h1:=ad4 f1 f2;have h2:=hall _ h1;have h3:=hall _ f1;have hxl:o.X.length=s.n.toNat:=by have:=(a1a f1).2;omega
     rw [a4F hxl f2.len (by rw [hn];exact hg),h3] at h2;rw [ae9] at f3;grind
   rw [e];refine ac Tryz.func106 ?_;conv=>whnf
   repeat' (first|refine zx ?_|refine bl0 [5] ?_|refine bl0 [6] ?_|apply zD<;>intro h<;>try omega)<;>conv=>whnf
   all_goals first|omega|(exfalso;simp_all;done)|exact p9 rfl
def b6R {t:j9} {kind:Int} {n:Nat} (h:ExP t kind n) (i:Nat):stP (p7 t kind) (I1 t (i:Int))=O0 t kind i:=by
 unfold stP;by_cases h1:∀z,k7 (p7 t kind) z=true->0<n9 (I1 t (i:Int)) z
 ·rw [iB h1];exact ((b2k h).2 h1).symm
 ·rw [iC h1];by_cases h2:∀z,k7 (p7 t kind) z=true->n9 (I1 t (i:Int)) z=0
  ·rw [iB h2];exact (b9L h i h2).symm
  ·rw [iC h2];rcases a34 (h.vd (i:Int)) (i:Int) with ⟨_,h3⟩|⟨_,h3⟩|⟨h3,_⟩
   ·exact absurd h3 h1
   ·exact absurd h3 h2
   ·exact h3.symm
noncomputable def stL (t:j9) (kind:Int) (k:Nat):LI:=(List.range k).map fun i=>O0 t kind i
def am2 (t:j9) (kind:Int) (k:Nat):(stL t kind k).length=k:=by simp [stL]
def b9r (t:j9) (kind:Int) (k:Nat):stL t kind (k+1)=stL t kind k++[O0 t kind k]:=by simp [stL,a8x]
def bm3 {t:j9} {kind:Int} {k i:Nat} (h:i<k):(stL t kind k)[i]? =some (O0 t kind i):=by simp [stL,h]
def aF9 (t:j9) (kind:Int) (hs:t.Sized) (h:a0b t kind≠0):ec 76 [trS t,eI kind] [] (.tup [j7 [],eI 1]) []:=by
 have sy:=a4L t kind hs;refine ac Tryz.func76 ?_;conv=>whnf
 repeat' (first|refine zx ?_|refine bl0 [5] ?_|apply zD<;>intro h<;>try omega)<;>conv=>whnf
 all_goals first|omega|exact n8 rz
def aj6 (t:j9) (kind:Int) (hs:t.Sized) (ht:t5 t=0) (k0:0<=kind) (k1:kind<8) (hm:t.ev.moves.length<=8) (hz:∀z,k7 (p7 t kind) z=false):ec 76 [trS t,eI kind] [] (.tup [j7 [],eI 15]) []:=by
 have sy:=a4L t kind hs;have hc:¬(t5 t≠0\/kind<0\/8<=kind):=om;have e1:a0b t kind=0:=iC hc;have e2:a66 t kind=p7 t kind:=iC hc;rw [e1,e2] at sy;have ⟨b,hb,pc⟩:=a1l (p7 t kind) (aa6 ht hm);have hbf:b=false:=by
  cases b with
  |false=>rfl
  |true=>have ⟨z,h⟩:=hb.1 rfl;rw [hz z] at h;cases h
 subst hbf;refine ac Tryz.func76 ?_;conv=>whnf
 repeat' (first|refine zx ?_|refine bl0 [5] ?_|apply zD<;>intro h<;>try omega)<;>conv=>whnf
 all_goals first|omega|exact n8 rz
def aQ8 (t:j9) (kind:Int) (n:Nat) (hx:ExP t kind n) (hn:n<=100):ec 76 [trS t,eI kind] [] (.tup [j7 (stL t kind n),eI 0]) []:=by
 have hs:=hx.s;have hhs:=hx.h;have hsm:=aa6 (kind:=kind) hx.e hx.m;have sy:=a4L t kind hx.s;have k0:=hx.k0;have k1:=hx.k1;have ht:=hx.e;have hc:¬(t5 t≠0\/kind<0\/8<=kind):=om;have e1:a0b t kind=0:=iC hc;have e2:a66 t kind=p7 t kind:=iC hc;rw [e1,e2] at sy;have hrows:(p7 t kind).rows.length<=998:=by
  have h1:=O5 (t:=t) (kind:=kind) t.ev.moves.length;have ⟨q1,q2,q3,q4,q5⟩:=H6 hx.e;have h2:t.ev.moves.length*(2+t.finds.length+t.cleans.length)<=8*72:=lbT hx.m om;show (w6 t kind t.ev.moves.length).length<=_;omega
 have hex:∃z,k7 (p7 t kind) z=true:=⟨_,(hx.vd 0).has⟩;have ⟨b,hb,pc⟩:=a1l (p7 t kind) hsm;have hbt:b=true:=hb.2 hex;subst hbt
 (refine ac Tryz.func76 ?_;(conv=>whnf);repeat ((first|refine b0x ?_|refine zy ?_);conv=>whnf))
 repeat' (first|refine zx ?_|refine bl0 [5] ?_|apply zD<;>intro h<;>try omega)<;>conv=>whnf
 all_goals try omega
 refine k6 g8 (fun k=>([J,J,S.c (C.t (T.ptr (trT t))),J,J,J,sP 0 0 0,J,S.c (C.own 1 0 k true),eI k]++Jn 27,[b9N (p7 t kind),y3 (stL t kind k)])) n tT [some 0,none] trivial
  ⟨rfl,rfl,⟨j8 (an8 _),rz⟩,⟨m9 rfl,rz,rz,g9 rfl,trivial⟩⟩ ?_
 intro k hk _;by_cases jj:k<n
 ·have go:=bk0 t hs k (by have:=a3p (t:=t) (h:=k);have:=hx.m;omega);have eg:ai7 t k=I1 t k:=iB ⟨hx.e,om,om⟩;rw [eg] at go;have st:=b88 (p7 t kind) (I1 t k) hsm hrows (a3O t k) (aj2 t k) (a78 t k) hex;rw [b6R hx k] at st;have lA:k<=(y3 (stL t kind k)).rows.length:=by show k<=(toC _).length;simp [toC,am2]
  conv=>whnf
  repeat' (first|refine zx ?_|refine v8 lA zu ?_|apply zD<;>intro h<;>try omega)<;>conv=>whnf
  all_goals first
   |omega
   |(refine ⟨jj,trivial,[some 0,some 2],rfl,rfl,⟨j8 (an8 _),i6 (rows:=(stL t kind (k+1)).map j3) rfl rfl rfl ?_ rfl,trivial⟩,⟨rfl,rz,⟨rfl,rfl,rfl,fun h=>h⟩,g9 om,trivial⟩⟩
     rw [b9r];exact O9 (f:=j3) (x:=O0 t kind k) (am2 t kind k).symm)
 ·have hke:k=n:=by omega
  subst hke;conv=>whnf
  repeat' (first|refine zx ?_|apply zD<;>intro h<;>try omega)<;>conv=>whnf
  all_goals first|omega|exact n8 ⟨(show VC _ (fun id=>L2 [] id=true) (C.own 1 0 k true) _ from v7 (k:=y3 (stL t kind k)) rfl rfl (fun h=>h) rfl rfl (by simp [am2])),rz⟩
def bN9 {α:Type} (F:Fence) (n:Nat) (P:Program) (g:Nat) (lb:Array Value) (encs:α->Array Value) (G:α->World->Prop) (Kp:World->World->Prop) (S:List α->Prop) (N:Nat) (w:World):Prop:=
 ∀(l:Nat) (J:List α->World->Prop) (W:World),Below w.heap.size w W->AbidesFrom W.heap.size J->
  (∀ pre x W1,J pre W1->G x W1->pre.length<N->YieldAt F (n - 1) P l (encs x) W1 fun e W'=>e=.returned (.bool true)/\J (pre++[x]) W'/\Kp W1 W')->
  J [] W->CallsIn F n P g (#[.func (.yield l) #[] #[]]++lb) W fun e W'=>(∃ v,e=.returned v)/\∃xs,S xs/\J xs W'
def af9 (w:World) (ι:Io) (M:Ms):v5 w ι M []:=
 ⟨fun id k h=>by simp at h,fun id k h=>by simp at h,fun id k h=>by simp at h,fun id id' k k' h=>by simp at h,fun id id' k k' h=>by simp at h⟩
def aU2 {P:Program} {g:FuncId} {args:List S} {r:S} (h:e8 P g args [] r []) {w:World} {ι:Io} {M:Ms} {vals:List Value} (hl:vals.length=args.length)
 (hv:∀j s,args[j]? =some s->RS w ι M s (vals.getD j undef)) (hMB:MB w M) (hF:a17 ι 0):
 Calls P g vals.toArray w fun e w'=>∃v,e=.returned v/\(∃ ι' M',RS w' ι' M' r v/\(∀ b,M b->M' b))/\Below w.heap.size w w':=by
 have:=h.2 w ι M vals hl hv (af9 _ _ _) hMB hF;refine Calls.mono this ?_;rintro e w' ⟨v,rfl,ι',M',h1,h2,h3,h4,h5⟩;have nl:∀b,¬a4k ι [] b:=by rintro b ⟨id,k,c,s,hk,_⟩;simp at hk
 refine ⟨v,rfl,⟨ι',M',h1,fun b hb=>?_⟩,⟨h5.os,h5.tape,h5.output,h5.size,fun b hb=>h5.keep b hb (nl b)⟩⟩;rcases h5.mold b hb with h|h
 ·exact h
 ·exact absurd h (nl b)
def b0L {w w':World} {ι:Io} {M:Ms} {s:S} {v:Value} (h:RS w' ι M s v) (hb:Below w.heap.size w w') (hMB:MB w M) (hF:a17 ι 0):K7 w ι M [] s [] v w':=
 ⟨ι,M,h,af9 _ _ _,fun b hm=>a6P (hMB b hm) hb.size,hF,
   ⟨hb.os,hb.tape,hb.output,hb.size,fun b hb' _=>hb.block b hb',fun _ _=>rfl,fun b h=>.inl h,fun b h=>.inl h,fun b h=>by have ⟨id,k,c,s,hk,_⟩:=h;simp at hk,lbR _⟩⟩
def a4I {w w':World} {ι:Io} {M:Ms} (hb:Below w.heap.size w w') {s:S} {v:Value} (h:RS w ι M s v):RS w' ι M s v:=
 h.keep (fun b hb' _=>hb.block b hb') (fun b h=>.inl h) (fun _ _ h=>h)
section
open Go.RowKit Go.Shelf
attribute [local go_sem] Oper.semAt_some
def aV8 {F:Fence} (hd:F.depth=none) (k:Nat):F.room k:=fun d h=>by rw [hd] at h;cases h
def RoundIn.anyDepth {F:Fence} (hd:F.depth=none) {m m':Nat} {P:Program} {l:Nat} {f:FuncId} {tmps:Array Value} {assign body:Code} {w:World} {R:Ending->World->Prop}
 (h:RoundIn F m P l f tmps assign body w R):RoundIn F m' P l f tmps assign body w R:=⟨h.1,fun c cs _=>h.2 c cs (aV8 hd _)⟩
def YieldAt.anyDepth {F:Fence} (hd:F.depth=none) {m:Nat} (m':Nat) {P:Program} {l:Nat} {args:Array Value} {W:World} {R:Ending->World->Prop} (h:YieldAt F m P l args W R):YieldAt F m' P l args W R:=by
 have ⟨fn,tmps,assign,body,hy,hR⟩:=h;exact ⟨fn,tmps,assign,body,hy,RoundIn.anyDepth hd hR⟩
def aJ6 {F:Fence} {n:Nat} {P:Program} {c:Code} {K:Act->World->Prop} {Q:Exit->Act->World->Prop} {a:Act} {w:World} (h:c.wpIn F n P (Exit.then K (fun _ _ _=>False)) a w):c.wpIn F n P (Exit.then K Q) a w:=
 wpIn_mono h (fun e a w h=>by cases e<;>first|exact h|exact h.elim)
abbrev tI:TypeId:=3
abbrev tIs:TypeId:=33
abbrev a44:TypeId:=44
def b9b (l:LI):List Value:=l.map fun x=>.int .i64 x
def bg1 (l:LI):(b9b l).length=l.length:=by simp [b9b]
def b0N {l:LI} {i:Nat} {x:Int} (h:l[i]? =some x):(b9b l)[i]? =some (.int .i64 x):=by simp [b9b,h]
structure KpX (X ns:Nat) (A B:World):Prop where
 size:A.heap.size<=B.heap.size
 keep:∀(b:Nat) (vs:Array Value) (t:TypeId) (fl:Nat × Nat),A.heap[b]? =some (.cells vs t fl)->b≠X->(b<ns\/t≠tIs)->B.heap[b]? =some (.cells vs t fl)
def KpX.refl (X ns:Nat) (A:World):KpX X ns A A:=⟨lbR _,fun _ _ _ _ h _ _=>h⟩
def KpX.trans {X ns:Nat} {A B C:World} (h:KpX X ns A B) (k:KpX X ns B C):KpX X ns A C:=⟨lbS h.size k.size,fun b vs t fl h1 h2 h3=>k.keep b vs t fl (h.keep b vs t fl h1 h2 h3) h2 h3⟩
def KpX.below {X ns:Nat} {A B:World} (h:Below A.heap.size A B):KpX X ns A B:=⟨h.size,fun b vs t fl h1 _ _=>(h.block b (C2 h1)).trans h1⟩
def KpX.grown {X ns:Nat} {A B:World} (h:A.grownBy B none):KpX X ns A B:=⟨h.size,fun b vs t fl h1 _ _=>(h.block b (C2 h1) zq).trans h1⟩
def KpX.drew (X ns:Nat) (A:World):KpX X ns A A.drew:=⟨lbR _,fun _ _ _ _ h _ _=>h⟩
def KpX.alloc (X ns:Nat) (A:World) (o:Obj):KpX X ns A (A.alloc o):=KpX.grown (World.grownBy_alloc A o none)
def KpX.boxed {X ns:Nat} {A B:World} (h:KpX X ns A B) {b:Nat} {t:TypeId} {v:Value} (hb:Boxed A b t v) (hX:b≠X) (ht:b<ns\/t≠tIs):Boxed B b t v:=h.keep _ _ _ _ hb hX ht
def b1t {W:World} {a:Addr} {v:Value} (h:W.cell? a=some v):∃vs t fl,W.heap[a.block]? =some (.cells vs t fl):=by
 have ⟨o,ho,hc⟩:=cells_of_cell h;cases o with
 |cells vs t fl=>exact ⟨vs,t,fl,ho⟩
 |_=>cases hc
def KpX.cell {X ns:Nat} {A B:World} (h:KpX X ns A B) {a:Addr} {v:Value} (hb:A.cell? a=some v) (hX:a.block≠X) (ht:a.block<ns):B.cell? a=some v:=by
 have ⟨vs,t,fl,ho⟩:=b1t hb;exact (World.cell?_of_block ((h.keep _ _ _ _ ho hX (.inl ht)).trans ho.symm)).trans hb
structure DnC (X ns Bn By Bl Bd lp n:Nat) (l:LI) (A:Option Addr) (cap:Nat) (W:World):Prop where
 bn:Boxed W Bn tI (.int .i64 (n:Int))
 yd:Boxed W By 79 (.func (.yield lp) #[] #[])
 bl:Boxed W Bl tIs (.slice A l.length cap)
 bd:Boxed W Bd 125 (.func (.func 64) #[] #[.pointer (some ⟨Bn,0,none⟩),.pointer (some ⟨By,0,none⟩),.pointer (some ⟨Bl,0,none⟩),.pointer (some ⟨Bd,0,none⟩)])
 row:∀i x,l[i]? =some x->∃b off,A=some ⟨b,off,none⟩/\W.cell? ⟨b,off+i,none⟩=some (.int .i64 x)/\b<ns/\b≠X
 nX:Bn≠X/\By≠X/\Bl≠X/\Bd≠X/\Bl<ns/\X<ns
 lc:l.length<=cap/\cap<=maxLen
def DnC.keep {X ns Bn By Bl Bd lp n:Nat} {l:LI} {A:Option Addr} {cap:Nat} {W W':World} (h:DnC X ns Bn By Bl Bd lp n l A cap W) (k:KpX X ns W W'):DnC X ns Bn By Bl Bd lp n l A cap W':=by
 have ⟨n1,n2,n3,n4,n5,n6⟩:=h.nX;refine ⟨k.boxed h.bn n1 (.inr de),k.boxed h.yd n2 (.inr de),k.boxed h.bl n3 (.inl n5),k.boxed h.bd n4 (.inr de),fun i x hx=>?_,h.nX,h.lc⟩;have ⟨b,off,h1,h2,h3,h4⟩:=h.row i x hx;exact ⟨b,off,h1,k.cell h2 h4 h3,h3,h4⟩
def DnC.rt {X ns Bn By Bl Bd lp n:Nat} {l:LI} {A:Option Addr} {cap:Nat} {W:World} (h:DnC X ns Bn By Bl Bd lp n l A cap W):RT W (fun _=>False) (w5 l) (.slice A l.length cap):=by
 have hl:(l.map j3).length=l.length:=zq;have at1:∀i j t,at2 (l.map j3) i j=some t->∃x,l[i]? =some x/\j=0/\t=ti x:=by
  intro i j t h;unfold at2 at h;rw [lba] at h;cases hx:l[i]? with
  |none=>rw [hx] at h;cases h
  |some x=>
   rw [hx] at h;cases j with
   |zero=>refine ⟨x,rfl,rfl,?_⟩;simp [j3] at h;exact h.symm
   |succ j=>simp [j3] at h
 obtain ⟨b,off,hA,hr⟩:∃b off,(l≠[]->A=some ⟨b,off,none⟩)/\∀i x,l[i]? =some x->W.cell? ⟨b,off+i,none⟩=some (.int .i64 x):=by
  cases hl0:l with
  |nil=>exact ⟨0,0,fun h=>absurd rfl h,fun i x h=>by simp at h⟩
  |cons x0 r=>
   have ⟨b,off,h1,h2,_⟩:=h.row 0 x0 (by rw [hl0];rfl);refine ⟨b,off,fun _=>h1,fun i x hx=>?_⟩;have ⟨b2,off2,h3,h4,_⟩:=h.row i x (by rw [hl0];exact hx);rw [h1] at h3;injection h3 with h3;injection h3 with h5 h6;subst h5;subst h6;exact h4
 rw [← hl];refine .sl (size:=1) (k:=.any) (b:=b) (off:=off) (fun i j=>.int .i64 (l.getD i 0)) (fun r hr=>by obtain ⟨x,_,rfl⟩:=lbx.1 hr;rfl) (by rw [hl];exact h.lc.1) h.lc.2 (fun h=>nomatch h) (fun h=>nomatch h) (fun hne=>hA (by simpa using hne)) (fun i j t ht=>?_) (fun i j t ht=>?_)
 ·obtain ⟨x,hx,rfl,rfl⟩:=at1 i j t ht;refine ⟨?_,fun h=>h⟩;have:=hr i x hx;rw [lbl,hx];simpa using this
 ·obtain ⟨x,hx,rfl,rfl⟩:=at1 i j t ht;rw [lbl,hx];exact .atm rfl
def a2D (n0:Nat) (W:World) (s:LI) (v:Value):Prop:=
 (s=[]/\∃A,v=.slice A 0 0)\/∃g cap cur,v=.slice (some ⟨g,0,none⟩) s.length cap/\n0<=g/\W.heap[g]? =some (.cells cur tI (0,0))/\s.length<=cap/\cap<=maxLen/\cur.toList.take s.length=b9b s
def KpX.irow {X ns n0:Nat} {A B:World} (h:KpX X ns A B) {s:LI} {v:Value} (hX:X<n0) (hr:a2D n0 A s v):a2D n0 B s v:=by
 rcases hr with hr|⟨g,cap,cur,h1,h2,h3,h4⟩
 ·exact .inl hr
 ·exact .inr ⟨g,cap,cur,h1,h2,h.keep _ _ _ _ h3 om (.inr de),h4⟩
def a2D.below {n0:Nat} {A B:World} (h:Below A.heap.size A B) {s:LI} {v:Value} (hr:a2D n0 A s v):a2D n0 B s v:=by
 rcases hr with hr|⟨g,cap,cur,h1,h2,h3,h4⟩
 ·exact .inl hr
 ·exact .inr ⟨g,cap,cur,h1,h2,(h.block g (C2 h3)).trans h3,h4⟩
def a2D.mono {n0 m0:Nat} {A:World} (h:m0<=n0) {s:LI} {v:Value} (hr:a2D n0 A s v):a2D m0 A s v:=by
 rcases hr with hr|⟨g,cap,cur,h1,h2,h3,h4⟩
 ·exact .inl hr
 ·exact .inr ⟨g,cap,cur,h1,om,h3,h4⟩
def a2D.one {n0:Nat} {A:World} {s:LI} {v:Value} (hr:a2D n0 A s v):v.oneCell'=true:=by
 rcases hr with ⟨_,A,rfl⟩|⟨g,cap,cur,rfl,_⟩<;>rfl
def a2D.rt {n0:Nat} {W:World} {M:Ms} {s:LI} {v:Value} (hr:a2D n0 W s v) (hM:∀b,M b->b<n0):RT W M (w5 s) v:=by
 rcases hr with ⟨rfl,A,rfl⟩|⟨g,cap,cur,rfl,h2,h3,h4,h5,h6⟩
 ·exact .sl (size:=1) (k:=.any) (rows:=[]) (b:=0) (off:=0) (cap:=0) (fun _ _=>undef) (fun r hr=>by cases hr) (G0 _) (G0 _) (fun h=>nomatch h) (fun h=>nomatch h) (fun h=>absurd rfl h) (fun i j c h=>by simp [at2] at h) (fun i j c h=>by simp [at2] at h)
 ·have hl:(s.map j3).length=s.length:=by simp
  have at1:∀i j t,at2 (s.map j3) i j=some t->∃x,s[i]? =some x/\j=0/\t=ti x:=by
   intro i j t h;unfold at2 at h;rw [lba] at h;cases hx:s[i]? with
   |none=>rw [hx] at h;cases h
   |some x=>
    rw [hx] at h;cases j with
    |zero=>refine ⟨x,rfl,rfl,?_⟩;simp [j3] at h;exact h.symm
    |succ j=>simp [j3] at h
  have hc:∀i x,s[i]? =some x->W.cell? ⟨g,0+(i*1+0),none⟩=some (.int .i64 x):=by
   intro i x hx;have e:(cur.toList.take s.length)[i]? =some (.int .i64 x):=by rw [h6];exact b0N hx
   have hi:=(lbe.1 hx).1;rw [lbi,iB hi] at e;have e2:cur[i]? =some (.int .i64 x):=by simpa using e
   simp [World.cell?,h3,e2]
  rw [← hl];refine .sl (size:=1) (k:=.any) (b:=g) (off:=0) (fun i j=>.int .i64 (s.getD i 0)) (fun r hr=>by obtain ⟨x,_,rfl⟩:=lbx.1 hr;rfl) om h5 (fun h=>nomatch h) (fun h=>nomatch h) (fun _=>rfl) (fun i j t h=>?_) (fun i j t h=>?_)
  ·obtain ⟨x,hx,rfl,rfl⟩:=at1 i j t h;refine ⟨?_,fun hm=>by have:=hM _ hm;omega⟩;rw [hc i x hx,lbl,hx];rfl
  ·obtain ⟨x,hx,rfl,rfl⟩:=at1 i j t h;rw [lbl,hx];exact .atm rfl
def b20 {n0:Nat} {w:World} {ι:Io} {M:Ms} {H:Hp} {id:Nat} {s:LI} {v:Value} (hH:v5 w ι M H) (hk:H[id]? =some (y3 s)) (hv:RS w ι M (.c (.own id 0 s.length true)) v)
 (hb:∀b cap size,ι id=some (.blk b cap size)->n0<=b):a2D n0 w s v:=by
 generalize hlen:s.length=len at hv;cases hv with|c hv=>
 cases hv with
 |nil h=>exact .inl ⟨lbF hlen,_,rfl⟩
 |@own _ _ _ _ b cap size A cap' h h1 h2 h3 h4 h5=>
  have ⟨_,hA,hc⟩:=h5 rfl;subst hA hc;have ⟨q1,q2,q3,q4,q5,cur,q6,q7,q8⟩:=hH.blk id _ hk zi _ h;have q1:1=size:=q1;subst q1;refine .inr ⟨b,cap',cur,by rw [hlen],hb _ _ _ h,q6,om,h4,?_⟩;refine a16 fun i=>?_
  rw [lbi];by_cases hi:i<s.length
  ·rw [iB hi];have hx:s[i]? =some s[i]:=lbf hi;rw [b0N hx];have ⟨u,hu,hr⟩:=q8 i 0 (.t (ti s[i])) (by show at2 (toC (s.map j3)) i 0=_;simp [at2,toC,j3,hx]);cases hr with|t hr=>cases hr with|atm=>
   simpa using hu
  ·rw [iC hi,lbd (by rw [bg1];omega)]
end
def b0Q (ops:List Oper) (k:Nat):Bool:=a1V ops && ((List.range ops.length).all fun i=>Nat.blt i k || (List.range k).all fun j=>((a1G ops).getD i 0).testBit j) && ((ops.take k).all fun o=>o.guard.isNone) && Nat.ble k ops.length
def b5P {n:Nat} {P:Program} {row:String} {args:Array Value} {w:World} {R:Value->World->Prop} (h:Rows P row args w R):RowsIn Fence.wide n P row args w R:=fun c cs _=>by
 have ⟨v,w',h1,h2⟩:=h c cs;exact ⟨v,w',h1,stepsIn_wide.2 h2⟩
def b6o {n:Nat} {P:Program} {o:Oper} {a:Act} {w:World} {K K':Act->World->Prop} {Q Q':Exit->Act->World->Prop} (hK:∀a' w',K a' w'->(∀ t,o.dst≠some t->a'.tmps.getD t undef=a.tmps.getD t undef)->K' a' w') (hQ:∀e a w,e≠.normal->¬Q e a w)
 (h:o.wp P a w K Q):o.wpIn Fence.wide n P a w K' Q':=by
 have hput:∀(b:Act) (v:Value),b.tmps=a.tmps->∀t,o.dst≠some t->(b.put o.dst v).tmps.getD t undef=a.tmps.getD t undef:=fun b v hb t ht=>by
  cases hd:o.dst with
  |none=>show b.tmps.getD t undef=_;rw [hb]
  |some d=>
   have hdt:d≠t:=fun e=>ht (by rw [hd,e])
   show (b.tmps.setIfInBounds d v).getD t undef=_;rw [hb,T3,Array.getElem?_setIfInBounds_ne hdt,←T3]
 unfold Oper.wp at h;unfold Oper.wpIn;refine ⟨fun _ _=>trivial,?_⟩;show o.uponIn Fence.wide n P a K' Q' ((execOp a.eval o).run P w);generalize (execOp a.eval o).run P w=r at h;have hout:¬LetsOut Q:=fun ⟨a,w,h⟩=>hQ _ a w zi h
 cases r with
 |ok x w'=>
  cases x<;>simp only [Oper.upon,Oper.uponIn] at h ⊢<;>
   first
    |exact hK _ _ h (hput _ _ rfl)
    |exact ⟨fun h=>by simp [Fence.wide] at h,callsIn_wide.2 (Calls.mono h fun e w'' he=>by
      cases e with
      |returned v=>exact hK _ _ he (hput _ _ rfl)
      |panicked c=>exact absurd he (hQ _ _ _ zi)
      |outgrown=>exact absurd he hout)⟩
    |exact ⟨fun h=>by simp [Fence.wide] at h,b5P (Rows.mono h fun _ _ he=>hK _ _ he (hput _ _ rfl))⟩
    |exact h.elim
 |halt x w'=>
  cases x<;>simp only [Oper.upon,Oper.uponIn] at h ⊢<;>
   first|exact absurd h (hQ _ _ _ zi)|exact h
def a9r {F:Fence} {n:Nat} {P:Program} {md:Region.Mode} {ops:Array Oper} {Q:Exit->Act->World->Prop}:∀(f:Nat) (listed:Array Bool) (a:Act) (w:World),wpAnyIn F n P md ops Q f listed a w->wpAnyIn F n P md ops Q (f+1) listed a w
 |0,listed,a,w,h=>⟨fun _=>h.2,fun i hi=>by rw [h.1] at hi;cases hi⟩
 |f+1,listed,a,w,h=>⟨h.1,fun i hi=>wpOpIn_mono (fun a w h=>a9r f _ a w h) (h.2 i hi)⟩
def a9a {F:Fence} {n:Nat} {P:Program} {md:Region.Mode} {ops:Array Oper} {Q:Exit->Act->World->Prop} {f:Nat} {listed:Array Bool} {a:Act} {w:World} (h:wpAnyIn F n P md ops Q f listed a w):∀m,wpAnyIn F n P md ops Q (f+m) listed a w
 |0=>h
 |m+1=>a9r _ _ _ _ (a9a h m)
def W5 (k n:Nat):Array Bool:=((List.range n).map fun i=>Nat.blt i k).toArray
def a3M (k n:Nat):(W5 k n).size=n:=by simp [W5]
def a3t {k n i:Nat} (h:i<n):(W5 k n)[i]? =some (Nat.blt i k):=by simp [W5,h]
def b29 {l:Array Bool} {i:Nat} (h:i<l.size):l[i]? =some (l.getD i false):=by simp [h]
def bj3 {P:Program} {n k m:Nat} {ops:Array Oper} {Q:Exit->Act->World->Prop} {K:Act->World->Prop} (hc:b0Q ops.toList k=true) {a0:Act}
 (hK:∀a w,K a w->(∀ t,(∀ o ∈ ops.toList.take k,o.dst≠some t)->a.tmps.getD t undef=a0.tmps.getD t undef)->wpAnyIn Fence.wide n P .any ops Q m (W5 k ops.size) a w):
 ∀(fuel:Nat) (listed l':Array Bool) (a:Act) (w:World),listed.size=ops.size->l'.size=k->(∀ i,i<k->l'.getD i false=listed.getD i false)->(∀ i,k<=i->listed.getD i false=false)->
  (∀ i o,ops.toList[i]? =some o->listed.getD i false=true->∀e ∈ o.after.toList,Region.binds .any e=true->listed.getD e.on false=true)->
  (∀ t,(∀ o ∈ ops.toList.take k,o.dst≠some t)->a.tmps.getD t undef=a0.tmps.getD t undef)->
  wpAny P .any (ops.toList.take k).toArray (fun e a w=>e=.normal/\K a w) fuel l' a w->wpAnyIn Fence.wide n P .any ops Q (fuel+m) listed a w:=by
 unfold b0Q at hc;simp only [lbN] at hc;have ⟨⟨⟨hb,hm⟩,hg⟩,hkn⟩:=hc;have hkn:k<=ops.size:=by simpa using Nat.le_of_ble_eq_true hkn
 have hsz:((ops.toList.take k).toArray).size=k:=zo;have hget:∀i,i<k->((ops.toList.take k).toArray)[i]? =ops[i]?:=fun i hi=>by simp [lbi,hi]
 have hb':a1V ((ops.toList.take k).toArray).toList=true:=by
  unfold a1V at hb ⊢;rw [lbv] at hb ⊢;rintro ⟨o,i⟩ hx;rw [a5a] at hx;simp only [lbi] at hx;split at hx
  ·exact hb (o,i) (by rw [a5a];exact hx)
  ·cases hx
 intro fuel;induction fuel with
 |zero=>
  rintro listed l' a w hls hl's hag hhi hcl hfr ⟨hr,_,hKk⟩;have hall:=a0k hb' (by rw [hl's,hsz]) hr;have e:listed=W5 k ops.size:=by
   refine Array.ext (by rw [hls,a3M]) fun i h1 h2=>?_
   have h3:=a3t (k:=k) (n:=ops.size) (i:=i) om;rw [Array.getElem?_eq_getElem h2] at h3;injection h3 with h3;rw [h3];have h4:=b29 h1;rw [Array.getElem?_eq_getElem h1] at h4;injection h4 with h4;rw [h4];by_cases hik:i<k
   ·rw [← hag i hik,hall i (by rw [hsz];exact hik)];symm;simpa using hik
   ·rw [hhi i om];symm;rw [← lbQ];simpa using hik
  rw [e,W7];exact hK a w hKk hfr
 |succ fuel ih=>
  rintro listed l' a w hls hl's hag hhi hcl hfr ⟨hnil,hstep⟩;by_cases hall:∀i,i<k->listed.getD i false=true
  ·have e:listed=W5 k ops.size:=by
    refine Array.ext (by rw [hls,a3M]) fun i h1 h2=>?_
    have h3:=a3t (k:=k) (n:=ops.size) (i:=i) om;rw [Array.getElem?_eq_getElem h2] at h3;injection h3 with h3;rw [h3];have h4:=b29 h1;rw [Array.getElem?_eq_getElem h1] at h4;injection h4 with h4;rw [h4];by_cases hik:i<k
    ·rw [hall i hik];symm;simpa using hik
    ·rw [hhi i om];symm;rw [← lbQ];simpa using hik
   have hr:Region.ready .any (ops.toList.take k).toArray l'=[]:=by
    cases hr:Region.ready .any (ops.toList.take k).toArray l' with
    |nil=>rfl
    |cons i r=>
     have hi:i ∈ Region.ready .any (ops.toList.take k).toArray l':=by rw [hr];simp
     rw [mem_ready] at hi;have ⟨h1,o,ho,_⟩:=hi;have jj:=(lb6.1 ho).1;rw [hsz] at jj;have h2:=hall i jj;rw [← hag i jj] at h2;simp [hl's,jj] at h1 h2;rw [h1] at h2;cases h2
   rw [e,show fuel+1+m=m+(fuel+1) by omega];exact a9a (hK a w (hnil hr).2 hfr) _
  ·rw [show fuel+1+m=(fuel+m)+1 by omega];refine ⟨fun hr=>absurd (fun i hi=>a0k hb hls hr i om) hall,fun i hi=>?_⟩;have hi0:=hi;rw [mem_ready] at hi;have ⟨hl,o,ho,hready⟩:=hi;have jj:=(lb6.1 ho).1;have ho':ops.toList[i]? =some o:=by simpa using ho
   have hready':∀e ∈ o.after.toList,Region.binds .any e=true->listed.getD e.on false=true:=fun e he=>hready e (by simpa using he)
   have hun:listed.getD i false=false:=by simp [hls,jj] at hl ⊢;exact hl
   have hik:i<k:=by
    apply a02;intro hge;refine hall fun j hj=>?_
    have h1:=lbv.1 hm i (lbB.2 (by simpa using jj));have h2:Nat.blt i k=false:=by rw [← lbQ];simpa using hge
    rw [h2,a8C] at h1;have h3:=lbv.1 h1 j (lbB.2 hj);exact a0V hb (S:=fun j=>listed.getD j false=true) hcl ho' hready' h3
   have hmem:i ∈ Region.ready .any (ops.toList.take k).toArray l':=by
    rw [mem_ready];refine ⟨?_,o,(hget i hik).trans ho,fun e he hbi=>?_⟩
    ·have:=hag i hik;rw [hun] at this;simp [hl's,hik] at this ⊢;exact this
    ·have h1:=hready' e (by simpa using he) hbi;have h2:=a8L hb ho' (e:=e) (by simpa using he) hbi;rw [← hag e.on om] at h1;exact h1
   have h:=hstep i hmem;unfold wpOp at h;unfold wpOpIn;rw [hget i hik,ho] at h;rw [ho];simp only at h ⊢;have hog:o.guard=none:=by
    have:=lbv.1 hg o (lbm (i:=i) (by rw [lbi,iB hik];exact ho'));cases hq:o.guard with
    |none=>rfl
    |some x=>rw [hq] at this;cases this
   have hw:∀y,Region.wanted o y=true:=fun y=>by unfold Region.wanted;rw [hog]
   rw [hw] at h ⊢;simp only [if_true] at h ⊢;rcases h with h|⟨_,a',w',h,_⟩
   ·refine b6o (fun a w h hfa=>ih (listed.setIfInBounds i true) (l'.setIfInBounds i true) a w (by simpa using hls) (by simpa using hl's) (fun j hj=>?_) (fun j hj=>?_) (fun j oj hoj hl e he hbi=>?_) (fun t ht=>(hfa t (ht o (lbm (i:=i) (by rw [lbi,iB hik];exact ho')))).trans (hfr t ht)) h) (fun e a w he hq=>he hq.1) h
    ·by_cases hji:i=j
     ·subst hji;rw [a0K om,a0K om]
     ·rw [getD_set_ne false hji,getD_set_ne false hji];exact hag j hj
    ·rw [getD_set_ne false om];exact hhi j hj
    ·rcases a0e hl with rfl|hl
     ·rw [ho'] at hoj;injection hoj with hoj;subst hoj;exact getD_set_true (hready' e he hbi)
     ·exact getD_set_true (hcl j oj hoj hl e he hbi)
   ·cases h
def a9d (n i:Nat):(Array.replicate n false).getD i false=false:=by
 rw [T3,Array.getElem?_replicate];split<;>rfl
def by9 (ops:List Oper) (k:Nat):Bool:=(List.range ops.length).all fun i=>Nat.blt i k || ((List.range i).all fun j=>((a1G ops).getD i 0).testBit j) && (match ops[i]? with|some o=>o.guard.isNone|none=>true)
def bq6 {P:Program} {n k:Nat} {ops:Array Oper} {Q:Exit->Act->World->Prop} (hb:a1V ops.toList=true) (hs:by9 ops.toList k=true):∀(m j:Nat) (a:Act) (w:World),j+m=ops.size->k<=j->
 wpListIn Fence.wide n P ops Q (ops.toList.drop j) a w->wpAnyIn Fence.wide n P .any ops Q m (W5 j ops.size) a w:=by
 have hget:∀j i,i<ops.size->(W5 j ops.size).getD i false=Nat.blt i j:=fun j i hi=>by
  rw [T3,a3t hi];rfl
 have hnr:∀j i,j<=ops.size->k<=j->i ∈ Region.ready .any ops (W5 j ops.size)->i=j:=fun j i hj hk hi=>by
  rw [mem_ready] at hi;have ⟨hl,o,ho,hready⟩:=hi;have jj:=(lb6.1 ho).1;have ho':ops.toList[i]? =some o:=by simpa using ho
  have h1:(W5 j ops.size).getD i false=false:=by
   have:=a3M j ops.size;simp [this,jj] at hl ⊢;exact hl
  rw [hget j i jj] at h1;have hge:j<=i:=by
   apply a02;intro h;have:Nat.blt i j=true:=zo;rw [this] at h1;cases h1
  apply a02;intro hne;have h2:=lbv.1 hs i (lbB.2 (by simpa using jj));have h3:Nat.blt i k=false:=by rw [← lbQ];simp;omega
  rw [h3,a8C,lbN] at h2;have h4:=lbv.1 h2.1 j (lbB.2 om);have h5:=a0V hb (S:=fun i=>(W5 j ops.size).getD i false=true) (fun i2 o2 ho2 hi2 e he hbi=>by
   have hl2:=(lbe.1 ho2).1;have hl3:i2<ops.size:=by simpa using hl2
   rw [hget j i2 hl3] at hi2;have h6:=a8L hb ho2 he hbi;rw [hget j e.on om];simp at hi2 ⊢;omega) ho' (fun e he=>hready e (by simpa using he)) h4
  rw [hget j j om] at h5;simp at h5
 intro m;induction m with
 |zero=>
  intro j a w hj hk h;have hd:ops.toList.drop j=[]:=by rw [List.drop_eq_nil_iff];simp;omega
  rw [hd] at h;refine ⟨?_,h⟩;cases hr:Region.ready .any ops (W5 j ops.size) with
  |nil=>rfl
  |cons i r=>
   have hi:=hnr j i om hk (by rw [hr];simp);have hm:i ∈ Region.ready .any ops (W5 j ops.size):=by rw [hr];simp
   rw [mem_ready] at hm;have ⟨_,o,ho,_⟩:=hm;have:=(lb6.1 ho).1;omega
 |succ m ih=>
  intro j a w hj hk h;have hjl:j<ops.size:=om;have hd:ops.toList.drop j=ops[j]::ops.toList.drop (j+1):=by rw [a3r (by simpa using hjl)];simp
  rw [hd] at h;have h2:=lbv.1 hs j (lbB.2 (by simpa using hjl));have h3:Nat.blt j k=false:=by rw [← lbQ];simp;omega
  have hoj:ops.toList[j]? =some ops[j]:=by simp [hjl]
  rw [h3,a8C,lbN,hoj] at h2;have hgn:ops[j].guard=none:=by
   have:=h2.2;simp only at this;cases hq:ops[j].guard with
   |none=>rfl
   |some x=>rw [hq] at this;cases this
  have hw:∀y,Region.wanted ops[j] y=true:=fun y=>by unfold Region.wanted;rw [hgn]
  refine ⟨fun hr=>?_,fun i hi=>?_⟩
  ·have:=a0k hb (a3M _ _) hr j hjl;rw [hget j j hjl] at this;simp at this
  ·obtain rfl:=hnr j i om hk hi;unfold wpOpIn;rw [Array.getElem?_eq_getElem hjl];simp only [hw,if_true];unfold wpListIn at h;simp only [hw,if_true] at h;have e:(W5 i ops.size).setIfInBounds i true=W5 (i+1) ops.size:=by
    refine Array.ext (by simp [W5]) fun x h1 h2=>?_
    have hx:x<ops.size:=by simpa [W5] using h1
    have a1:=a3t (k:=i+1) (n:=ops.size) hx;rw [Array.getElem?_eq_getElem h2] at a1;injection a1 with a1;rw [a1];by_cases hix:i=x
    ·subst hix;simp
    ·rw [Array.getElem_setIfInBounds_ne (by simpa [W5] using hx) hix];have a2:=a3t (k:=i) (n:=ops.size) hx;rw [Array.getElem?_eq_getElem (by simpa [W5] using hx)] at a2;injection a2 with a2;rw [a2];rw [Bool.eq_iff_iff];simp;omega
   rw [e];exact Oper.wpIn_mono (fun a w h=>ih (i+1) a w om om h) h
def b1V {P:Program} {τ:Tab} (hτ:G7 P τ) {n k id:Nat} {opl:List Oper} {Q:Exit->Act->World->Prop} {K:Env->Hp->Prop} {env:Env} {a0:Act} {w0:World} (hmx:P.follows .mixedOrders=true)
 (hr:a9f (opl.take k)=true) (hc:b0Q opl k=true) (hsq:by9 opl k=true) (h:a8V P τ (opl.take k) true 0 (opl.take k) env [] K) (hs:Sim w0 (fun _=>none) (fun _=>False) [] a0 w0 env [])
 (hK:∀env' H' a' w',K env' H'->Sim w0 (fun _=>none) (fun _=>False) [] a' w' env' H'->(∀ t,(∀ o ∈ opl.take k,o.dst≠some t)->a'.tmps.getD t undef=a0.tmps.getD t undef)->wpListIn Fence.wide n P opl.toArray Q (opl.drop k) a' w'):
 (Code.region id opl.toArray true).wpIn Fence.wide n P Q a0 w0:=by
 refine wpIn_region_any hmx ?_;have hb:a1V opl=true:=by
  unfold b0Q at hc;simp only [lbN] at hc;exact hc.1.1.1
 have hkn:k<=opl.length:=by
  unfold b0Q at hc;simp only [lbN] at hc;exact Nat.le_of_ble_eq_true hc.2
 have e:opl.toArray.size=k+(opl.length - k):=zo;have hd:=a6v (H0:=[]) (ι0:=fun _=>none) hτ (ops:=(opl.take k).toArray) (Q:=fun e a w=>e=.normal/\∃env' H',K env' H'/\Sim w0 (fun _=>none) (fun _=>False) [] a w env' H') (w0:=w0) (M0:=fun _=>False) (fun b hb=>hb.elim) (fun env H a w h1 h2=>⟨rfl,env,H,h1,h2⟩) hr h hs;have hsz:((opl.take k).toArray).size=k:=zo;rw [hsz] at hd;have key:=bj3 (k:=k) (m:=opl.length - k) (n:=n) (Q:=Q) (ops:=opl.toArray) (a0:=a0) (K:=fun a' w'=>∃env' H',K env' H'/\Sim w0 (fun _=>none) (fun _=>False) [] a' w' env' H') (by simpa using hc)
  (fun a w ⟨env',H',h1,h2⟩ hfr=>bq6 (ops:=opl.toArray) (by simpa using hb) (by simpa using hsq) (opl.length - k) k a w zo (lbR _) (by simpa using hK env' H' a w h1 h2 (by simpa using hfr))) k (Array.replicate (k+(opl.length - k)) false) (Array.replicate k false) a0 _ zo zq (fun i hi=>by rw [a9d,a9d]) (fun i hi=>a9d _ _) (fun i o _ hl=>by rw [a9d] at hl;cases hl) (fun _ _=>rfl) (by simpa using hd)
 rw [e];exact key
section
open Go.RowKit Go.Shelf
attribute [local go_sem] Oper.semAt_some
def bE3 (l:LI):ec 66 [j7 l] [] (.c (.t (.sl 1 .full (l.map j3)))) []:=by
 have m1:(l.map j3).length=l.length:=zq;refine ac Tryz.func66 ?_;conv=>whnf
 repeat' (first|refine zx ?_|refine ⟨⟨om,om,om,om⟩,?_⟩|apply zD<;>intro<;>try omega)<;>conv=>whnf
 all_goals exact n8 (show a9j [] _ _ _ from by rw [lbY,lbn (lbR _)];rfl)
def aH1 {w:World} {a:Act} {env:Env} (hd:a.defers=[]) (hs:a.tmps.size=env.length) (he:∀t s,env[t]? =some s->RS w (fun _=>none) (fun _=>False) s (a.tmps.getD t undef)):
 Sim w (fun _=>none) (fun _=>False) [] a w env []:=
 ⟨_,_,hd,hs,he,⟨fun id k h=>by simp at h,fun id k h=>by simp at h,fun id k h=>by simp at h,fun id id' k k' h=>by simp at h,fun id id' k k' h=>by simp at h⟩,fun b h=>h.elim,fun _ _=>rfl,a4n.refl _ _ _ _⟩
def b3v {w w':World} {ι':Io} {M':Ms} {H':Hp} (h:a4n w (fun _=>none) (fun _=>False) [] w' ι' M' H'):w.grownBy w' none:=
 ⟨h.os,h.tape,h.output,h.size,fun b hb _=>h.keep b hb (by rintro ⟨id,k,c,s,hk,_⟩;simp at hk)⟩
def b4K {w w':World} {a:Act} {env:Env} {H:Hp} (h:Sim w (fun _=>none) (fun _=>False) [] a w' env H):a.defers=[]/\a.tmps.size=env.length/\w.grownBy w' none/\
 ∃ι M,a42 w' ι M env a/\v5 w' ι M H/\∀id k b cap size,H[id]? =some k->k.mode=.live->ι id=some (.blk b cap size)->w.heap.size<=b:=by
 have ⟨ι,M,h1,h2,h3,h4,h5,h6,h7⟩:=h;refine ⟨h1,h2,b3v h7,ι,M,h3,h4,fun id k b cap size hk hm hi=>?_⟩;rcases h7.live b ⟨id,k,cap,size,hk,hm,hi⟩ with ⟨id',k',c,s,hk',_⟩|h
 ·simp at hk'
 ·exact h
def aB1 {w:World} {ι:Io} {M:Ms} {v u:Value} (h:RS w ι M (.c (.t (.atm v))) u):u=v:=by
 cases h with|c h=>cases h with|t h=>cases h with|atm=>rfl
def bE6 (l:List Value) (h:l.length=38):l=(List.range 38).map fun i=>l.getD i undef:=by
 refine a16 fun i=>?_
 by_cases hi:i<38
 ·have hl:i<l.length:=by omega
  simp [hi,lbl,hl]
 ·rw [lbd om,lbd zo]
def S.isJunk:S->Bool
 |.junk=>true
 |_=>false
def b4J {l:List S} (ks:List Nat) (h:(l.zipIdx.all fun p=>ks.any (Nat.beq p.2) || p.1.isJunk)=true) {t:Nat} {x:S} (hx:l[t]? =some x):t ∈ ks\/x=J:=by
 have h1:=lbv.1 h (x,t) (by rw [a5a];exact hx);rw [lbO] at h1;rcases h1 with h1|h1
 ·have ⟨k,hk,he⟩:=lbw.1 h1;have:t=k:=a1A he;subst this;exact .inl hk
 ·right
  cases x with
  |junk=>rfl
  |_=>cases h1
def bB6 (a:Act) (h:a.tmps.size=38) (hd:a.defers=[]):a=⟨((List.range 38).map fun i=>a.tmps.getD i undef).toArray,[]⟩:=by
 have ⟨tm,ds⟩:=a;have hd:ds=[]:=hd;subst hd
 congr 1
 have:=bE6 tm.toList (by simpa using h);have ⟨l⟩:=tm;simpa using congrArg List.toArray this
section
variable {X ns Bn By Bl Bd lp n:Nat} {l:List Int} {A:Option Addr} {cap:Nat}
abbrev b83 (Bn By Bl Bd:Nat):List Value:=[.pointer (some ⟨Bn,0,none⟩),.pointer (some ⟨By,0,none⟩),.pointer (some ⟨Bl,0,none⟩),.pointer (some ⟨Bd,0,none⟩)]
abbrev dnF (Bn By Bl Bd:Nat):Value:=.func (.func 64) #[] #[.pointer (some ⟨Bn,0,none⟩),.pointer (some ⟨By,0,none⟩),.pointer (some ⟨Bl,0,none⟩),.pointer (some ⟨Bd,0,none⟩)]
abbrev XE:=LI × Value
def GX (n0:Nat) (x:XE) (W:World):Prop:=a2D n0 W x.1 x.2/\x.1.length<=1000
def a53 {n0:Nat} {W:World} {s:LI} {v:Value} (h:a2D n0 W s v):∃A cap,v=.slice A s.length cap:=by
 rcases h with ⟨rfl,A,rfl⟩|⟨g,cap,cur,rfl,_⟩
 ·exact ⟨A,0,rfl⟩
 ·exact ⟨_,cap,rfl⟩
def b3Q {W:World} {b:Nat} {t:TypeId} {v:Value} {x:T} (h:Boxed W b t v) (hx:RT W (fun _=>False) x v):RT W (fun _=>False) (.ptr [x]) (.pointer (some ⟨b,0,none⟩)):=by
 refine .ptr (b:=b) (off:=0) (fun _=>v) (fun j c hj=>?_) (fun j c hj=>?_)
 ·cases j with
  |zero=>exact ⟨h.cell,fun h=>h⟩
  |succ j=>simp at hj
 ·cases j with
  |zero=>injection hj with hj;subst hj;exact hx
  |succ j=>simp at hj
def b6l (hCl:∀l:LI,l.length<=100000->ec 65 [j7 l] [] (.c (.own 0 0 l.length true)) [y3 l])
 (JJ:List XE->World->Prop) (hJk:∀pre A B,JJ pre A->A.grownBy B none->JJ pre B) (n0 N:Nat)
 (hY:∀m pre x W,JJ pre W->GX n0 x W->pre.length<N->YieldAt Fence.wide m Tryz.prog lp #[x.2] W fun e W'=>e=.returned (.bool true)/\JJ (pre++[x]) W'/\KpX X ns W W')
 (m:Nat) (s:LI) (sv:Value) (i:Int) (pre:List XE) (W:World) (hs:s.length=n) (h1000:s.length<=1000) (hD:DnC X ns Bn By Bl Bd lp n l A cap W) (hsv:a2D ns W s sv) (hJ:JJ pre W) (hN:pre.length<N) (hW:n0<=W.heap.size):
 CallsIn Fence.wide m Tryz.prog 64 (#[.int .i64 i,sv]++(b83 Bn By Bl Bd).toArray) W fun e W'=>e=.returned (.bool true)/\∃v,JJ (pre++[(s,v)]) W'/\KpX X ns W W':=by
 have ⟨As,cs,hsv2⟩:=a53 hsv;have hrt:RT W (fun _=>False) (w5 s) sv:=hsv.rt fun b h=>h.elim
 subst hsv2;have c1:=hD.bn.cell;have hcl:=fun H:Hp=>a0m (H:=H) (hCl s om) rfl rfl (j2 _)
 have hmx:Tryz.prog.follows .mixedOrders=true:=zr;refine callsIn_of_wp Tryz.func64 rfl trivial ?_ rfl;simp only [Tryz.ntmps64,a6J,lbu,a15,Nat.reduceAdd,Nat.reduceSub,az4,ao8,aC9,aw2,a6A,a47]
 gi_wp2
 all_goals try omega
 refine aJ6 ?_;refine b1V (k:=3) (env:=[J,j7 s,J,S.c (C.t (T.ptr [T.atm (.func (.yield lp) #[] #[])]))]++Jn 34) g8 hmx zk zk zk (K:=fun env' H'=>env'[14]? =some (.c (.t (.atm (.func (.yield lp) #[] #[]))))/\env'[16]? =some (.c (.own 0 0 s.length true))/\H'=[y3 s]/\env'.length=38) ?h ?s ?k
 case h=>
  conv=>whnf
  repeat' (first|refine zx ?_|refine .inl ⟨_,_,hcl _,?_⟩|apply zD<;>intro h<;>try omega)<;>conv=>whnf
  all_goals exact rz
 case s=>
  refine aH1 rfl rfl fun t x hx=>?_
  rcases b4J [1,3] rfl hx with ht|rfl
  ·have ht:t=1\/t=3:=by simpa using ht
   rcases ht with rfl|rfl
   ·injection hx with hx;subst hx;exact .c (.t hrt)
   ·injection hx with hx;subst hx;exact .c (.t (b3Q hD.yd (.atm rfl)))
  ·exact .junk
 case k=>
  rintro env' H' a' w' ⟨k1,k2,rfl,k4⟩ hS hfr;clear hfr;have ⟨e1,e2,e3,ι,M,e4,e5,e6⟩:=b4K hS;have e14:=aB1 (e4 14 _ k1);have e16:=b20 (n0:=n0) e5 rfl (e4 16 _ k2) (fun b c z hb=>by have:=e6 0 _ b c z rfl rfl hb;omega);rw [bB6 a' om e1];simp only [List.range,List.range.loop,List.map];rw [e14];generalize a'.tmps.getD 16 undef=v at e16;generalize a'.tmps.getD 0 undef=x0;generalize a'.tmps.getD 1 undef=x1;generalize a'.tmps.getD 2 undef=x2;generalize a'.tmps.getD 3 undef=x3;generalize a'.tmps.getD 4 undef=x4;generalize a'.tmps.getD 5 undef=x5;generalize a'.tmps.getD 6 undef=x6;generalize a'.tmps.getD 7 undef=x7;generalize a'.tmps.getD 8 undef=x8;generalize a'.tmps.getD 9 undef=x9;generalize a'.tmps.getD 10 undef=x10;generalize a'.tmps.getD 11 undef=x11;generalize a'.tmps.getD 12 undef=x12;generalize a'.tmps.getD 13 undef=x13;generalize a'.tmps.getD 15 undef=x15;generalize a'.tmps.getD 17 undef=x17;generalize a'.tmps.getD 18 undef=x18;generalize a'.tmps.getD 19 undef=x19;generalize a'.tmps.getD 20 undef=x20;generalize a'.tmps.getD 21 undef=x21;generalize a'.tmps.getD 22 undef=x22;generalize a'.tmps.getD 23 undef=x23;generalize a'.tmps.getD 24 undef=x24;generalize a'.tmps.getD 25 undef=x25;generalize a'.tmps.getD 26 undef=x26;generalize a'.tmps.getD 27 undef=x27;generalize a'.tmps.getD 28 undef=x28;generalize a'.tmps.getD 29 undef=x29;generalize a'.tmps.getD 30 undef=x30;generalize a'.tmps.getD 31 undef=x31;generalize a'.tmps.getD 32 undef=x32;generalize a'.tmps.getD 33 undef=x33;generalize a'.tmps.getD 34 undef=x34;generalize a'.tmps.getD 35 undef=x35;generalize a'.tmps.getD 36 undef=x36;generalize a'.tmps.getD 37 undef=x37;have ⟨fn,tmps,assign,body,hy,hR⟩:=hY (m - 1) pre (s,v) w' (hJk _ _ _ hJ e3) ⟨e16,h1000⟩ hN
  gi_wp2
  refine ⟨fun h=>by simp [Fence.wide] at h,?_⟩;refine hR.mono ?_;rintro e W3 ⟨rfl,hJ3,hk3⟩
  gi_wp2
  go_ret
  exact ⟨rfl,v,hJ3,(KpX.grown e3).trans hk3⟩
def ax1 {l:LI} {j k:Nat} {x:Int} (h:l[j]? =some x):A9 (l.drop j) (k+1)=(A9 (l.drop (j+1)) k).map (x::·)++A9 (l.drop (j+1)) (k+1):=by
 have jj:=(lbe.1 h).1;rw [lbf jj] at h;injection h with h;rw [a3r jj,A9,h]
def bq8 (hCl:∀l:LI,l.length<=100000->ec 65 [j7 l] [] (.c (.own 0 0 l.length true)) [y3 l])
 (JJ:List XE->World->Prop) (hJk:∀pre A B,JJ pre A->A.grownBy B none->JJ pre B) (n0 N:Nat) (hl:l.length<=1000) (h1000:n<=1000)
 (hY:∀m pre x W,JJ pre W->GX n0 x W->pre.length<N->YieldAt Fence.wide m Tryz.prog lp #[x.2] W fun e W'=>e=.returned (.bool true)/\JJ (pre++[x]) W'/\KpX X ns W W') (hn0:n0<=ns):
 ∀(k m:Nat) (s:LI) (sv:Value) (i:Nat) (pre:List XE) (W:World),s.length+k=n->i<=l.length->DnC X ns Bn By Bl Bd lp n l A cap W->a2D ns W s sv->JJ pre W->pre.length+(A9 (l.drop i) k).length<=N->ns<=W.heap.size->
 CallsIn Fence.wide m Tryz.prog 64 (#[.int .i64 (i:Int),sv]++(b83 Bn By Bl Bd).toArray) W fun e W'=>e=.returned (.bool true)/\∃xs:List XE,xs.map Prod.fst=(A9 (l.drop i) k).map (s++·)/\JJ (pre++xs) W'/\KpX X ns W W':=by
 intro k;induction k with
 |zero=>
  intro m s sv i pre W hs hi hD hsv hJ hN hW;refine (b6l hCl JJ hJk n0 N hY m s sv i pre W om om hD hsv hJ (by simp [A9] at hN;omega) om).mono ?_;rintro e W' ⟨rfl,v,h1,h2⟩;exact ⟨rfl,[(s,v)],by simp [A9],h1,h2⟩
 |succ k ih=>
  intro m s sv i pre W hs hi hD hsv hJ hN hW;have ⟨As,cs,hsv2⟩:=a53 hsv;subst hsv2;have c1:=hD.bn.cell;have hmx:Tryz.prog.follows .mixedOrders=true:=zr;have hsn:¬(s.length:Int)=(n:Int):=om;refine callsIn_of_wp Tryz.func64 rfl trivial ?_ rfl;simp only [Tryz.ntmps64,a6J,lbu,a15,Nat.reduceAdd,Nat.reduceSub,az4,ao8,aC9,aw2,a6A,a47]
  gi_wp2
  all_goals try omega
  gi_loopw [9] (fun iv wr=>∃j:Nat,i<=j/\j<=l.length/\iv=.int .i64 (j:Int)/\∃xs:List XE,xs.map Prod.fst++(A9 (l.drop j) (k+1)).map (s++·)=(A9 (l.drop i) (k+1)).map (s++·)/\JJ (pre++xs) wr/\KpX X ns W wr) (fun iv _=>l.length - (intOf iv).toNat)
  case atStart=>exact ⟨i,lbR _,hi,rfl,[],zq,by simpa using hJ,KpX.refl _ _ _⟩
  case round=>
   obtain ⟨j,hij,hjl,rfl,xs,hxs,hJj,hkj⟩:=hrel;have hDr:=hD.keep hkj;have hXn:=hD.nX.2.2.2.2.2;have hsr:=hkj.irow hXn hsv;have d2:=hDr.bl.cell;by_cases jj:j<l.length
   ·have ⟨x,hx⟩:=iA jj;have hrt:RT wr (fun _=>False) (w5 s) (.slice As s.length cs):=hsr.rt fun b h=>h.elim
    have hrl:=hDr.rt;have hcp:=bE3 s
    gi_wp2
    all_goals try omega
    refine aJ6 ?_;refine b1V (k:=11) (env:=[J,j7 s,J,J,S.c (C.t (T.ptr [w5 l])),S.c (C.t (T.ptr [T.atm (dnF Bn By Bl Bd)])),J,J,J,eI j]++Jn 28) g8 hmx zk zk zk (K:=fun env' H'=>env'[25]? =some (.c (.t (.atm (dnF Bn By Bl Bd))))/\env'[27]? =some (eI ((j+1:Nat):Int))/\env'[35]? =some (.c (.own 0 0 (s++[x]).length true))/\H'=[y3 (s++[x])]/\env'.length=38) ?h ?s ?k
    case h=>
     conv=>whnf
     repeat' (first|refine zx ?_|refine j4 hx ?_|refine b7E zt rfl zu ?_|apply zD<;>intro h<;>try omega)<;>conv=>whnf
     all_goals first|omega|skip
     refine ⟨rfl,?_,?_,?_,rfl⟩
     ·show some (eI ((j:Int)+1))=_;rw [show ((j+1:Nat):Int)=(j:Int)+1 by omega]
     ·show some (S.c (C.own 0 0 ((s.map j3).length+(toC [[T.atm (Value.int .i64 x)]]).length) true))=_;rw [show (s.map j3).length+(toC [[T.atm (Value.int .i64 x)]]).length=(s++[x]).length by simp [toC]]
     ·show [D8 _ _ _ _]=[y3 _];unfold D8
      congr 2
      simp [toC,j3]
    case s=>
     refine aH1 rfl rfl fun t x hx=>?_
     rcases b4J [1,4,5,9] rfl hx with ht|rfl
     ·have ht:t=1\/t=4\/t=5\/t=9:=by simpa using ht
      rcases ht with rfl|rfl|rfl|rfl
      ·injection hx with hx;subst hx;exact .c (.t hrt)
      ·injection hx with hx;subst hx;exact .c (.t (b3Q hDr.bl hrl))
      ·injection hx with hx;subst hx;exact .c (.t (b3Q hDr.bd (.atm rfl)))
      ·injection hx with hx;subst hx;exact .c (.t (.atm rfl))
     ·exact .junk
    case k=>
     rintro env' H' a' w' ⟨k1,k2,k3,rfl,k4⟩ hS hfr;have f0:=hfr 0 zk;have f1:=hfr 1 zk;have f2:=hfr 2 zk;have f3:=hfr 3 zk;have f4:=hfr 4 zk;have f5:=hfr 5 zk;have f6:=hfr 6 zk;have f7:=hfr 7 zk;have f8:=hfr 8 zk;have f9:=hfr 9 zk;have f10:=hfr 10 zk;have f11:=hfr 11 zk;have f12:=hfr 12 zk;have f13:=hfr 13 zk;have f14:=hfr 14 zk;have f15:=hfr 15 zk;have f16:=hfr 16 zk;have f17:=hfr 17 zk;have f18:=hfr 18 zk;have f19:=hfr 19 zk;have f20:=hfr 20 zk;have f21:=hfr 21 zk;have f22:=hfr 22 zk;have f23:=hfr 23 zk;have f24:=hfr 24 zk;have f36:=hfr 36 zk;have f37:=hfr 37 zk;clear hfr;simp only [T3,List.getElem?_toArray,List.getElem?_cons_zero,List.getElem?_cons_succ,az7] at f0 f1 f2 f3 f4 f5 f6 f7 f8 f9 f10 f11 f12 f13 f14 f15 f16 f17 f18 f19 f20 f21 f22 f23 f24 f36 f37;have ⟨e1,e2,e3,ι,M,e4,e5,e6⟩:=b4K hS;have e25:=aB1 (e4 25 _ k1);have e27:=aB1 (e4 27 _ k2);have e35:=b20 (n0:=ns) e5 rfl (e4 35 _ k3) (fun b c z hb=>by have:=e6 0 _ b c z rfl rfl hb;have:=hkj.size;omega);rw [bB6 a' om e1];simp only [List.range,List.range.loop,List.map];generalize a'.tmps.getD 35 undef=v35 at e35 ⊢;generalize a'.tmps.getD 26 undef=x26;generalize a'.tmps.getD 28 undef=x28;generalize a'.tmps.getD 29 undef=x29;generalize a'.tmps.getD 30 undef=x30;generalize a'.tmps.getD 31 undef=x31;generalize a'.tmps.getD 32 undef=x32;generalize a'.tmps.getD 33 undef=x33;generalize a'.tmps.getD 34 undef=x34;simp only [T3] at e25 e27 ⊢;rw [e25,e27,f0,f1,f2,f3,f4,f5,f6,f7,f8,f9,f10,f11,f12,f13,f14,f15,f16,f17,f18,f19,f20,f21,f22,f23,f24,f36,f37];have hdd:∀k:Nat,(Fence.wide.depth.isSome=true->1<=k):=fun k h=>by simp [Fence.wide] at h
     have hJ':=hJk _ _ _ hJj e3;have hN':(pre++xs).length+(A9 (l.drop (j+1)) k).length<=N:=by
      have q:=congrArg List.length hxs;rw [ax1 hx] at q;simp only [lbq,lbr] at q ⊢;omega
     have hk':=hkj.trans (KpX.grown e3);have hD':=hD.keep hk'
     gi_wp2_with (refine ⟨trivial,hdd _,?_⟩;refine (ih (m - 1) (s++[x]) _ (j+1) (pre++xs) w' zo om hD' e35 hJ' hN' (by have:=hk'.size;omega)).mono ?_;rintro e W3 ⟨rfl,ys,hys,hJ3,hk3⟩)
     have hbq:((s.length:Int) == (n:Int))=false:=by simpa using hsn
     simp only [hbq];refine ⟨⟨_,_,_,_,_,_,_,_,_,_,_,_,_,_,_,_,_,_,_,_,_,⟨j+1,om,om,?_,xs++ys,?_,by rw [← lbD];exact hJ3,hk'.trans hk3⟩,rfl⟩,?_⟩
     ·rw [show ((j+1:Nat):Int)=(j:Int)+1 by omega]
     ·rw [← hxs,ax1 hx,lbC,lbC,lbD,hys,a75]
      congr 2
      refine lbp fun q _=>?_
      simp
     ·simp [intOf];omega
   ·have hje:j=l.length:=by omega
    subst hje
    gi_wp2
    all_goals try omega
    go_ret
    refine ⟨rfl,xs,?_,hJj,hkj⟩;rw [List.drop_length] at hxs;simpa [A9] using hxs
end
end
section
open Go.RowKit Go.Shelf
attribute [local go_sem] Oper.semAt_some
def aU7 {P:Program} {w:World} {a:Addr} {m:Mode} (fn:Fn) (first captured:Array Value):(store a (.func fn first captured) m).run P w=stored P w a (.func fn first captured) m:=run_store P w a _ m rfl
attribute [local go_sem] aU7
section
variable {X ns Bn Bl n:Nat} {l:List Int} {A:Option Addr} {cap:Nat}
def b8h (hCl:∀l:LI,l.length<=100000->ec 65 [j7 l] [] (.c (.own 0 0 l.length true)) [y3 l])
 (JJ:List XE->World->Prop) (hJk:∀pre A B,JJ pre A->A.grownBy B none->JJ pre B) (lp m N:Nat) (hN:(A9 l n).length<=N) (hl:l.length<=1000) (h1000:n<=1000)
 (hY:∀m pre x W,JJ pre W->GX ns x W->pre.length<N->YieldAt Fence.wide m Tryz.prog lp #[x.2] W fun e W'=>e=.returned (.bool true)/\JJ (pre++[x]) W'/\KpX X ns W W')
 (W:World) (hW:ns<=W.heap.size) (hbn:Boxed W Bn tI (.int .i64 (n:Int))) (hbl:Boxed W Bl tIs (.slice A l.length cap)) (row:∀i x,l[i]? =some x->∃b off,A=some ⟨b,off,none⟩/\W.cell? ⟨b,off+i,none⟩=some (.int .i64 x)/\b<ns/\b≠X)
 (nX:Bn≠X/\Bl≠X/\Bl<ns/\X<ns) (lc:l.length<=cap/\cap<=maxLen) (hJ:JJ [] W):
 CallsIn Fence.wide m Tryz.prog 63 (#[.func (.yield lp) #[] #[]]++#[.pointer (some ⟨Bn,0,none⟩),.pointer (some ⟨Bl,0,none⟩)]) W fun e W'=>(∃ v,e=.returned v)/\∃xs:List XE,xs.map Prod.fst=A9 l n/\JJ xs W':=by
 have g1:W.grownBy (W.alloc (.cells #[.func (.yield lp) #[] #[]] 79)) none:=World.grownBy_alloc W _ none;have bD0:=Boxed.new (W.alloc (.cells #[.func (.yield lp) #[] #[]] 79)) 125 .nilFunc;rw [World.size_alloc] at bD0;have cD:=bD0.cell;have fD:=bD0.frozen;have bD:=Boxed.new (W.alloc (.cells #[.func (.yield lp) #[] #[]] 79)) 125 (dnF Bn W.heap.size Bl (W.heap.size+1));have bY:=(Boxed.new W 79 (.func (.yield lp) #[] #[])).alloc (.cells #[dnF Bn W.heap.size Bl (W.heap.size+1)] 125);rw [World.size_alloc] at bD;have g2:W.grownBy ((W.alloc (.cells #[.func (.yield lp) #[] #[]] 79)).alloc (.cells #[dnF Bn W.heap.size Bl (W.heap.size+1)] 125)) none:=by
  refine ⟨rfl,rfl,rfl,zo,fun k hk _=>?_⟩;exact (Below.heap_alloc _ _ _ zo).trans (Below.heap_alloc _ _ _ hk)
 have hJ2:=hJk _ _ _ hJ g2;have k2:=KpX.grown (X:=X) (ns:=ns) g2;have s2:ns<=((W.alloc (.cells #[.func (.yield lp) #[] #[]] 79)).alloc (.cells #[dnF Bn W.heap.size Bl (W.heap.size+1)] 125)).heap.size:=by have:=k2.size;omega
 have ⟨n1,n2,n3,n4⟩:=nX;have hD:DnC X ns Bn W.heap.size Bl (W.heap.size+1) lp n l A cap ((W.alloc (.cells #[.func (.yield lp) #[] #[]] 79)).alloc (.cells #[dnF Bn W.heap.size Bl (W.heap.size+1)] 125)):=
  ⟨k2.boxed hbn n1 (.inr de),bY,k2.boxed hbl n2 (.inl n3),bD,fun i x hx=>by
    have ⟨b,off,h1,h2,h3,h4⟩:=row i x hx;exact ⟨b,off,h1,k2.cell h2 h4 h3,h3,h4⟩,⟨n1,om,n2,om,n3,n4⟩,lc⟩
 have hdd:∀k:Nat,(Fence.wide.depth.isSome=true->1<=k):=fun k h=>by simp [Fence.wide] at h
 refine callsIn_of_wp Tryz.func63 rfl trivial ?_ rfl;simp only [Tryz.ntmps63,a6J,lbu,a15,Nat.reduceAdd,Nat.reduceSub,az4,ao8,aC9,aw2,a6A,a47]
 gi_wp2_with (refine ⟨trivial,hdd _,?_⟩;refine (bq8 hCl JJ hJk ns N hl h1000 hY (lbR _) n (m - 1) [] (.slice none 0 0) 0 [] _ zq (G0 _) hD (.inl ⟨rfl,none,rfl⟩) hJ2 (by simpa using hN) s2).mono ?_;rintro e W3 ⟨rfl,ys,hys,hJ3,hk3⟩)
 go_end0
 exact ⟨⟨_,rfl⟩,ys,by simpa using hys,by simpa using hJ3⟩
def b90 (hCl:∀l:LI,l.length<=100000->ec 65 [j7 l] [] (.c (.own 0 0 l.length true)) [y3 l]) (m:Nat) (hl:l.length<=1000) (h1000:n<=1000)
 (w:World) (hw:ns<=w.heap.size) (hbn:Boxed w Bn tI (.int .i64 (n:Int))) (hbl:Boxed w Bl tIs (.slice A l.length cap)) (row:∀i x,l[i]? =some x->∃b off,A=some ⟨b,off,none⟩/\w.cell? ⟨b,off+i,none⟩=some (.int .i64 x)/\b<ns/\b≠X)
 (nX:Bn≠X/\Bl≠X/\Bn<ns/\Bl<ns/\X<ns) (lc:l.length<=cap/\cap<=maxLen):
 bN9 Fence.wide m Tryz.prog 63 #[.pointer (some ⟨Bn,0,none⟩),.pointer (some ⟨Bl,0,none⟩)] (fun x:XE=>#[x.2]) (GX ns) (KpX X ns) (fun xs=>xs.map Prod.fst=A9 l n) (A9 l n).length w:=by
 intro lp JJ W hW hJ hY h0;have ⟨n1,n2,n3,n4,n5⟩:=nX;refine b8h hCl JJ (fun pre A B h hg=>hJ pre A B none h hg (fun r e=>by cases e)) lp m _ (lbR _) hl h1000 (fun m' pre x W1 h1 h2 h3=>YieldAt.anyDepth rfl m' (hY pre x W1 h1 h2 h3)) W (by have:=hW.size;omega)
  ((hW.block Bn om).trans hbn) ((hW.block Bl om).trans hbl) (fun i x hx=>?_) ⟨n1,n2,n4,n5⟩ lc h0
 have ⟨b,off,h1,h2,h3,h4⟩:=row i x hx;exact ⟨b,off,h1,(hW.cell (p:=⟨b,off+i,none⟩) (by show b<_;omega)).trans h2,h3,h4⟩
def b6D (m:Nat) (A:Option Addr) (len cap:Nat) (n:Int) (w:World):
 CallsIn Fence.wide m Tryz.prog 36 #[.slice A len cap,.int .i64 n] w fun e w'=>e=.returned (.func (.func 63) #[] #[.pointer (some ⟨w.heap.size+1,0,none⟩),.pointer (some ⟨w.heap.size,0,none⟩)])/\
  w'=(w.alloc (.cells #[.slice A len cap] tIs)).alloc (.cells #[.int .i64 n] tI):=by
 refine callsIn_of_wp Tryz.func36 rfl trivial ?_ rfl;simp only [Tryz.ntmps36,a6J,lbu,a15,Nat.reduceAdd,Nat.reduceSub,az4,ao8,aC9,aw2,a6A,a47]
 gi_wp2
 go_ret
 exact rz
end
end
def a60:List (Int × Rat)->List (Int × Rat)->List (Int × Rat)
 |[],b=>b
 |t::r,[]=>t::r
 |t::r,u::q=>if t.1<u.1 then t::a60 r (u::q) else if u.1<t.1 then u::a60 (t::r) q else if t.2+u.2=0 then a60 r q else (t.1,t.2+u.2)::a60 r q
termination_by a b=>a.length+b.length
def a2T {last n:Int} {t:Int × Rat} {r:List (Int × Rat)} (h1:last<t.1) (h2:t.1<n) (h3:t.2≠0) (h4:m8 t.1 n r=true):m8 last n (t::r)=true:=by
 unfold m8;simp only [lbN,lbI];exact ⟨⟨⟨h1,h2⟩,h3⟩,h4⟩
def ar5 {n:Int}:∀(k:Nat) {last:Int} {a b:List (Int × Rat)},a.length+b.length<=k->-1<=last->m8 last n a=true->m8 last n b=true->
 m8 last n (a60 a b)=true/\∀v,L9 (a60 a b) v=L9 a v+L9 b v:=by
 intro k;induction k with
 |zero=>
  intro last a b hk h0 ha hb;have:a=[]:=a0B.1 om;have:b=[]:=a0B.1 om;subst a b;rw [a60];exact ⟨rfl,fun v=>by show (0:Rat)=0+0;grind⟩
 |succ k ih=>
  intro last a b hk h0 ha hb
  match a,b with
  |[],b=>rw [a60];exact ⟨hb,fun v=>by show _=(0:Rat)+_;grind⟩
  |t::r,[]=>rw [a60];exact ⟨ha,fun v=>by show _=_+(0:Rat);grind⟩
  |t::r,u::q=>
   have mt:=L1 ha t (av8 ..);have mu:=L1 hb u (av8 ..);simp only [lbu] at hk;rw [a60];by_cases h1:t.1<u.1
   ·rw [iB h1];have hb':m8 t.1 n (u::q)=true:=a2T h1 mu.2.1 mu.2.2 (a1O hb);have ⟨i1,i2⟩:=ih (last:=t.1) (a:=r) (b:=u::q) (by simp only [lbu];omega) om (a1O ha) hb';have hr:=a2T mt.1 mt.2.1 mt.2.2 i1;refine ⟨hr,fun v=>?_⟩;rw [a0o h0 hr,a0o h0 ha,i2];by_cases hv:v=t.1.toNat
    ·rw [iB hv,iB hv,aq1 (v:=v) om hb' om];grind
    ·rw [iC hv,iC hv]
   ·rw [iC h1];by_cases h2:u.1<t.1
    ·rw [iB h2];have ha':m8 u.1 n (t::r)=true:=a2T h2 mt.2.1 mt.2.2 (a1O ha);have ⟨i1,i2⟩:=ih (last:=u.1) (a:=t::r) (b:=q) (by simp only [lbu];omega) om ha' (a1O hb);have hr:=a2T mu.1 mu.2.1 mu.2.2 i1;refine ⟨hr,fun v=>?_⟩;rw [a0o h0 hr,a0o h0 hb,i2];by_cases hv:v=u.1.toNat
     ·rw [iB hv,iB hv,aq1 (v:=v) om ha' om];grind
     ·rw [iC hv,iC hv]
    ·rw [iC h2];have he:t.1=u.1:=om;have hq':=a1O hb;rw [← he] at hq';have ⟨i1,i2⟩:=ih (last:=t.1) (a:=r) (b:=q) om om (a1O ha) hq';by_cases h3:t.2+u.2=0
     ·rw [iB h3];refine ⟨b0K om i1,fun v=>?_⟩;rw [a0o h0 ha,a0o h0 hb,←he];by_cases hv:v=t.1.toNat
      ·rw [iB hv,iB hv,aq1 (v:=v) om i1 om];grind
      ·rw [iC hv,iC hv,i2]
     ·rw [iC h3];have hr:=a2T (t:=(t.1,t.2+u.2)) mt.1 mt.2.1 h3 i1;refine ⟨hr,fun v=>?_⟩;rw [a0o h0 hr,a0o h0 ha,a0o h0 hb,←he,i2];by_cases hv:v=t.1.toNat
      ·simp only [iB hv]
      ·simp only [iC hv]
def b9j {n:Nat} {a b:List (Int × Rat)} (ha:m8 (-1) (n:Int) a=true) (hb:m8 (-1) (n:Int) b=true) (z:List Rat):n9 (a60 a b) z=n9 a z+n9 b z:=by
 have ⟨h1,h2⟩:=ar5 (a.length+b.length) (lbR _) (aC2 _) ha hb;rw [a06 h1,a06 ha,a06 hb,←a2E];exact p5 fun j hj=>by rw [h2];grind
noncomputable def b46 (s:m7) (g:List (Int × Rat)):List Rat:=match H8 s (E8 g) with
 |.col c=>ab6 (s8 s []) (a6x s (E8 g) c)
 |_=>s8 s (E8 g)
structure b5k (s:m7) (g:List (Int × Rat)):Prop where
 r:q9 s=true
 z:H8 s []=.best
 t:m8 (-1) ((s.n.toNat:Nat):Int) g=true
 p:∀z,k7 s z=true->0<=n9 g z
def b5k.og {s:m7} {g:List (Int × Rat)} (h:b5k s g):m8 (-1) ((s.n.toNat:Nat):Int) (E8 g)=true:=a2M h.t
def b8j {s:m7} {g:List (Int × Rat)} (h:b5k s g):k7 s (b46 s g)=true/\((∃ z,k7 s z=true/\0<n9 g z)->0<n9 g (b46 s g)):=by
 have h0:=(Y1 h.r rfl h.z).1;unfold b46;rcases not_row (g:=E8 g) h.r h.z with ho|⟨c,ho⟩
 ·rw [ho];simp only;have ⟨p1,p2⟩:=Y1 h.r h.og ho;refine ⟨p1,fun ⟨z,hz,hp⟩=>?_⟩;have:=p2 z hz;rw [a1j (s:=s) (g:=g),a1j (s:=s) (g:=g)] at this;grind
 ·rw [ho];simp only;have ⟨h1,h2⟩:=a7g h.r h.og ho;refine ⟨ad4 h0 h1,fun _=>?_⟩;have h3:=a1a h0;have hn:=X0 h.r;rw [a4F (n:=s.n.toNat) om h1.len h.t];rw [a1j (s:=s) (g:=g)] at h2;have:=h.p _ h0;grind
def a6H (gL:List (List (Int × Rat))) (out:List Bool):Nat->List (Int × Rat)
 |0=>[]
 |k+1=>if out.getD k false=true then a6H gL out k else a60 (a6H gL out k) (gL.getD k [])
noncomputable def by3 (s:m7) (gL:List (List (Int × Rat))) (out:List Bool):List Rat:=b46 s (a6H gL out gL.length)
def bW1 (g:List (Int × Rat)) (x:List Rat):Bool:=decide (0<n9 g x)
noncomputable def bU8 (s:m7) (gL:List (List (Int × Rat))) (out:List Bool):List Bool:=(List.range gL.length).map fun i=>out.getD i false || bW1 (gL.getD i []) (by3 s gL out)
noncomputable def bt2 (s:m7) (gL:List (List (Int × Rat))):Nat->List Bool
 |0=>List.replicate gL.length false
 |k+1=>bU8 s gL (bt2 s gL k)
noncomputable def bT9 (s:m7) (gL:List (List (Int × Rat))):Nat->List Rat
 |0=>by3 s gL (bt2 s gL 0)
 |k+1=>ab6 (bT9 s gL k) (by3 s gL (bt2 s gL (k+1)))
structure aq2 (s:m7) (gL:List (List (Int × Rat))):Prop where
 r:q9 s=true
 z:H8 s []=.best
 g:∀g ∈ gL,m8 (-1) ((s.n.toNat:Nat):Int) g=true
 p:∀g ∈ gL,∀z,k7 s z=true->0<=n9 g z
def ab5 {gL:List (List (Int × Rat))} {k:Nat} (h:k<gL.length):gL.getD k [] ∈ gL:=by
 rw [lbl,lbf h];exact lbE h
def a8n {s:m7} {gL:List (List (Int × Rat))} (h:aq2 s gL) (out:List Bool):∀k,k<=gL.length->m8 (-1) ((s.n.toNat:Nat):Int) (a6H gL out k)=true
 |0,_=>rfl
 |k+1,hk=>by
  have ih:=a8n h out k om;unfold a6H;split
  ·exact ih
  ·exact (ar5 _ (lbR _) (aC2 _) ih (h.g _ (ab5 om))).1
def b4w {s:m7} {gL:List (List (Int × Rat))} (h:aq2 s gL) (out:List Bool) (z:List Rat):∀k,k<=gL.length->n9 (a6H gL out k) z=p6 (fun i=>if out.getD i false=true then 0 else n9 (gL.getD i []) z) k
 |0,_=>rfl
 |k+1,hk=>by
  have ih:=b4w h out z k om;show _=p6 _ k+(if out.getD k false=true then 0 else n9 (gL.getD k []) z);unfold a6H;by_cases ho:out.getD k false=true
  ·rw [iB ho,iB ho,ih];grind
  ·rw [iC ho,iC ho,b9j (a8n h out k om) (h.g _ (ab5 om)),ih]
def b7p {s:m7} {gL:List (List (Int × Rat))} (h:aq2 s gL) (out:List Bool):b5k s (a6H gL out gL.length):=
 ⟨h.r,h.z,a8n h out _ (lbR _),fun z hz=>by
   rw [b4w h out z _ (lbR _)];exact a4l fun i hi=>by
    split
    ·exact lb3
    ·exact h.p _ (ab5 hi) z hz⟩
def b4L {s:m7} {gL:List (List (Int × Rat))} (h:aq2 s gL) (out:List Bool):k7 s (by3 s gL out)=true:=(b8j (b7p h out)).1
structure ax5 (s:m7) (c:Rat) (z:List Rat):Prop where
 r:q9 s=true
 l:(z.length:Int)=s.n
 p:∀v ∈ z,0<=v
 w:∀w ∈ s.rows,(w.kind≠1->c*w.value<=n9 w.terms z)/\(w.kind≠0->n9 w.terms z<=c*w.value)
def az1 {s:m7} {z:List Rat} (h:k7 s z=true):ax5 s 1 z:=by
 have ⟨h1,h2,h3,h4⟩:=Z0.1 h;exact ⟨h1,h2,h3,fun w hw=>by
  have ⟨a,b⟩:=h4 w hw;have e:(1:Rat)*w.value=w.value:=zg;rw [e];exact ⟨a,b⟩⟩
def b3n {s:m7} {c d:Rat} {x y:List Rat} (hx:ax5 s c x) (hy:ax5 s d y):ax5 s (c+d) (ab6 x y):=by
 have hn:=X0 hx.r;have lx:x.length=s.n.toNat:=by have:=hx.l;omega
 have ly:y.length=s.n.toNat:=by have:=hy.l;omega
 have ll:=aw5 lx ly;refine ⟨hx.r,om,fun v hv=>?_,fun w hw=>?_⟩
 ·obtain ⟨j,hj,rfl⟩:=a0D hv;have e:=aO3 lx ly (j:=j) om;rw [lbl,lbf hj] at e;have e:(ab6 x y)[j]=x.getD j 0+y.getD j 0:=e;rw [e];have h1:0<=x.getD j 0:=by rw [lbl,lbf om];exact hx.p _ (lbE _)
  have h2:0<=y.getD j 0:=by rw [lbl,lbf om];exact hy.p _ (lbE _)
  grind
 ·obtain ⟨i,hi,rfl⟩:=a0D hw;have hrt:=(a1t hx.r (lbf hi)).1;rw [a4F lx ly hrt];have ⟨a1,a2⟩:=hx.w _ (lbE hi);have ⟨b1,b2⟩:=hy.w _ (lbE hi);have e:(c+d)*s.rows[i].value=c*s.rows[i].value+d*s.rows[i].value:=zg;rw [e];exact ⟨fun h=>by have:=a1 h;have:=b1 h;grind,fun h=>by have:=a2 h;have:=b2 h;grind⟩
theorem sumX_holds {s:m7} {gL:List (List (Int × Rat))} (h:aq2 s gL):∀k,ax5 s ((k+1:Nat):Rat) (bT9 s gL k)
 |0=>az1 (b4L h _)
 |k+1=>by
  have:=b3n (sumX_holds h k) (az1 (b4L h (bt2 s gL (k+1))));have e:(((k+1+1:Nat)):Rat)=((k+1:Nat):Rat)+1:=by push_cast;rfl
  rw [e];exact this
def aA4 {v:Rat} (h:ai9 v):rl v<=4:=by
 have ⟨z,h1,h2⟩:=h;have:=an5 (x:=v) (p:=z) (q:=1000) de (by rw [← h1];rfl);have b1:bl z<=4:=a2W h2 de;have b2:bl 1000<=4:=by have:=w9 (x:=1000) de de;omega
 omega
def b0d {s:m7} {g:List (Int × Rat)} (h:M7 s) (hg:m8 (-1) ((s.n.toNat:Nat):Int) g=true) (hw:I9 g):I7 s g s.n.toNat 15:=by
 have hn:=X0 h.r;have h9:=h.n;have hl:=h.l;have hwr:=Q0 hw;have rows:∀w ∈ s.rows,w.terms.length<=100/\(∀ t ∈ w.terms,rl t.2<=200)/\rl w.value<=200:=fun w hw=>by
  obtain ⟨i,hi,rfl⟩:=a0D hw;have hrt:=(a1t h.r (lbf hi)).1;have h1:=E4 hrt;have h2:=h.i _ (lbE hi);exact ⟨om,fun t ht=>by have:=Q0 h2.1 t ht;omega,by have:=aA4 h2.2;omega⟩
 refine ⟨⟨h.r,hg,hn.symm,om,fun w hw=>?_,fun t ht=>by have:=hwr t ht;omega,om⟩,⟨om,rows⟩,fun t ht=>by have:=hwr t ht;omega,b7L h hw,de,?_,om⟩
 ·have ⟨a1,a2,a3⟩:=rows w hw;exact ⟨om,fun t ht=>by have:=a2 t ht;omega⟩
 ·have:s.n.toNat<=9:=by omega
  have:=lbU (15+2) (show s.n.toNat+3<=12 by omega);omega
def bX4 {s:m7} {g:List (Int × Rat)} (h:M7 s) (hg:m8 (-1) ((s.n.toNat:Nat):Int) g=true) (hw:I9 g):∀v ∈ s8 s g,rl v<=15:=aa0 (b0d h hg hw)
def ac9 {ρ:List (Option Nat)} {H:Hp} {x y:C} (h:b6K ρ H x y):∀{A:List (List T)},a4Y ρ H (toC A++[[x]]) (toC A++[[y]])
 |[]=>⟨⟨h,trivial⟩,trivial⟩
 |a::A=>⟨U4 a,ac9 h⟩
structure QT (t:j9):Prop where
 h:t5 t=0
 m:t.ev.moves.length<=8
 p:t.ev.places.length<=20
def QT.c {t:j9} (h:QT t):t.cleans.length<=50:=(H6 h.h).2.2.1
def Q1 (n:Int):Int->LI->Bool
 |_,[]=>true
 |a,h::r=>decide (a<h) && decide (h<n) && Q1 n h r
def a4T (n:Int) (l:LI):Bool:=Q1 n (-1) l
def ah2 {n x:Int}:∀{a:Int} {l:LI},Q1 n a (l++[x])=(Q1 n a l && decide (l.getLastD a<x) && decide (x<n))
 |a,[]=>by simp [Q1]
 |a,h::r=>by
  rw [a47,Q1,Q1,ah2 (a:=h) (l:=r)];have:(h::r).getLastD a=r.getLastD h:=by cases r<;>rfl
  rw [this];simp only [Bool.and_assoc]
def ap3 {n:Int}:∀{a:Int} {l r:LI},Q1 n a (l++r)=true->Q1 n a l=true
 |a,[],r,_=>rfl
 |a,h::l,r,hs=>by
  rw [a47,Q1,lbN] at hs;rw [Q1,hs.1,ap3 hs.2];rfl
def ao4 {n:Int}:∀{a:Int} {l:LI},Q1 n a l=true↔l.Pairwise (·<·)/\∀x ∈ l,a<x/\x<n
 |a,[]=>by simp [Q1]
 |a,h::r=>by
  rw [Q1,lbN,lbN,lbI,lbI,ao4 (a:=h) (l:=r),ay6];constructor
  ·rintro ⟨⟨h1,h2⟩,h3,h4⟩;exact ⟨⟨fun x hx=>(h4 x hx).1,h3⟩,fun x hx=>by
    rcases lbA.1 hx with rfl|hx
    ·exact ⟨h1,h2⟩
    ·have:=h4 x hx;omega⟩
  ·rintro ⟨⟨h1,h2⟩,h3⟩;have h0:=h3 h zq;exact ⟨⟨h0.1,h0.2⟩,h2,fun x hx=>⟨h1 x hx,(h3 x (by simp [hx])).2⟩⟩
def b2Y {n:Int} {l:LI}:a4T n l=true↔l.Pairwise (·<·)/\∀x ∈ l,0<=x/\x<n:=by
 unfold a4T;rw [ao4];constructor
 ·rintro ⟨h1,h2⟩;exact ⟨h1,fun x hx=>by have:=h2 x hx;omega⟩
 ·rintro ⟨h1,h2⟩;exact ⟨h1,fun x hx=>by have:=h2 x hx;omega⟩
def D3 (l:LI):List C7:=l.map fun i=>⟨[(i,((1:Int):Rat))],2,((0:Int):Rat)⟩
def a1z (t:j9) (h:Int):LI:=J6 t.ev h (-1) 0 100000
def U8 (set:LI) (h:Int):Bool:=set.any fun x=>decide (x=h)
def aD0 {set:LI} {h:Int}:U8 set h=true↔h ∈ set:=by
 unfold U8;rw [lbw];constructor
 ·rintro ⟨x,hx,e⟩;rw [← lbL e];exact hx
 ·intro hx;exact ⟨h,hx,lbH rfl⟩
def C8 (t:j9) (set:LI):Nat->List C7
 |0=>[]
 |h+1=>if U8 set (h:Int)=true then C8 t set h else C8 t set h++D3 (a1z t (h:Int))
def a2m {t:j9} {set:LI} {w:C7}:∀{n:Nat},w ∈ C8 t set n↔∃h:Nat,h<n/\(h:Int) ∉ set/\∃i ∈ a1z t (h:Int),w=⟨[(i,((1:Int):Rat))],2,((0:Int):Rat)⟩
 |0=>by simp [C8]
 |n+1=>by
  have ih:=a2m (t:=t) (set:=set) (w:=w) (n:=n);unfold C8;by_cases hs:U8 set (n:Int)=true
  ·rw [iB hs,ih];constructor
   ·rintro ⟨h,h1,h2⟩;exact ⟨h,om,h2⟩
   ·rintro ⟨h,h1,h2,h3⟩;refine ⟨h,?_,h2,h3⟩;by_cases e:h=n
    ·subst e;exact absurd (aD0.1 hs) h2
    ·omega
  ·rw [iC hs,lbz,ih];have hns:(n:Int) ∉ set:=fun h=>hs (aD0.2 h)
   constructor
   ·rintro (⟨h,h1,h2⟩|h)
    ·exact ⟨h,om,h2⟩
    ·obtain ⟨i,hi,rfl⟩:=lbx.1 h;exact ⟨n,om,hns,i,hi,rfl⟩
   ·rintro ⟨h,h1,h2,i,hi,rfl⟩;by_cases e:h=n
    ·subst e;exact .inr (lbx.2 ⟨i,hi,rfl⟩)
    ·exact .inl ⟨h,om,h2,i,hi,rfl⟩
def a3K {t:j9} {set:LI}:∀n,(C8 t set n).length<=n*t.ev.moves.length
 |0=>by simp [C8]
 |n+1=>by
  have ih:=a3K (t:=t) (set:=set) n;have hl:(a1z t (n:Int)).length<=t.ev.moves.length:=a3p;unfold C8;rw [lbV];split
  ·omega
  ·rw [lbq];have:(D3 (a1z t (n:Int))).length=(a1z t (n:Int)).length:=by simp [D3]
   omega
def a3G (t:j9) (kind:Int) (n:Nat) (set:LI):List C7:=(p7 t kind).rows++C8 t set n
def a2e (t:j9) (kind:Int) (n:Nat) (set:LI):m7:=⟨t.ev.moves.length,a3G t kind n set⟩
structure XT (t:j9) (kind:Int) (n:Nat):Prop where
 s:t.Sized
 e:t5 t=0
 k0:0<=kind
 k1:kind<8
 m:t.ev.moves.length<=8
 h:t.ev.hhs=(n:Nat)
 h4:n<=6
 f:t.finds.length<=20
def XT.c {t:j9} {kind:Int} {n:Nat} (h:XT t kind n):t.cleans.length<=50:=(H6 h.e).2.2.1
def XT.len {t:j9} {kind:Int} {n:Nat} (h:XT t kind n) (set:LI):(a3G t kind n set).length<=700:=by
 have h1:=O5 (t:=t) (kind:=kind) t.ev.moves.length;have h2:=a3K (t:=t) (set:=set) n;have h3:t.ev.moves.length*(2+t.finds.length+t.cleans.length)<=8*72:=lbT h.m (by have:=h.f;have:=h.c;omega);have h4:n*t.ev.moves.length<=6*8:=lbT h.h4 h.m;have h5:(p7 t kind).rows.length<=8*72:=lbS h1 h3;show ((p7 t kind).rows++C8 t set n).length<=_;rw [lbq];omega
def XT.right {t:j9} {kind:Int} {n:Nat} (h:XT t kind n) (set:LI):q9 (a2e t kind n set)=true:=by
 have hs:=a1M (t:=t) (kind:=kind) (by have:=h.m;omega) h.f h.c;have hl:=h.len set;unfold q9 at hs ⊢;simp only [lbN,lbI] at hs ⊢;have ⟨⟨⟨h1,h2⟩,h3⟩,h4⟩:=hs;refine ⟨⟨⟨h1,h2⟩,?_⟩,?_⟩
 ·show (a3G t kind n set).length<=6000;omega
 ·show ((p7 t kind).rows++C8 t set n).all (A7 (t.ev.moves.length:Nat))=true;rw [a0z];have h5:(p7 t kind).rows.all (A7 (t.ev.moves.length:Nat))=true:=h4;rw [h5,P5,lbv];intro w hw;obtain ⟨hh,_,_,i,hi,rfl⟩:=a2m.1 hw;have hi:=aB2 hi;unfold A7;simp only [lbN,lbI];exact ⟨⟨a5s om om a5P,de⟩,de⟩
def ai8 {i:Int} (h:0<=i) {z:List Rat}:a0w ⟨[(i,((1:Int):Rat))],2,((0:Int):Rat)⟩ z=true↔z.getD i.toNat 0=0:=by
 have:=a4g (i:=i.toNat) (v:=((0:Int):Rat)) (z:=z);unfold E7 at this;rw [lbZ h] at this;exact this
def XT.holds {t:j9} {kind:Int} {n:Nat} (h:XT t kind n) (set:LI) {z:List Rat}:k7 (a2e t kind n set) z=true↔k7 (p7 t kind) z=true/\∀i:Nat,i<n->(i:Int) ∉ set->n9 (I1 t i) z=0:=by
 have hr1:=h.right set;have hr2:=a1M (t:=t) (kind:=kind) (by have:=h.m;omega) h.f h.c;have e:k7 (a2e t kind n set) z=(k7 (p7 t kind) z && (C8 t set n).all fun w=>a0w w z):=by
  unfold k7;rw [hr1,hr2];show (true && decide ((z.length:Int)=(t.ev.moves.length:Nat)) && _ && ((p7 t kind).rows++C8 t set n).all _)=_;rw [a0z];simp only [P5,Bool.and_assoc]
  rfl
 rw [e,lbN];refine and_congr_right fun hz=>?_
 have hp:=af2 hz;rw [lbv];have key:∀i:Nat,n9 (I1 t (i:Int)) z=0↔∀j ∈ a1z t (i:Int),z.getD j.toNat 0=0:=fun i=>by
  have h0:∀j,0<=z.getD j 0:=fun j=>by
   by_cases hj:j<z.length
   ·exact hp _ (lbm (getD_some hj))
   ·rw [lbl,lbd om];exact lb3
  have h1:0<=n9 (I1 t (i:Int)) z:=a6p hp _ (a78 t _);have h2:=bd4 hp (a1z t (i:Int));have h2:0<n9 (I1 t (i:Int)) z↔_:=h2;constructor
  ·intro h3 j hj;have h4:=h0 j.toNat;apply a02;intro hne;have:0<n9 (I1 t (i:Int)) z:=h2.2 ⟨j,hj,by grind⟩;grind
  ·intro h3;have:¬0<n9 (I1 t (i:Int)) z:=fun h4=>by
    have ⟨j,hj,h5⟩:=h2.1 h4;rw [h3 j hj] at h5;exact absurd h5 zk
   grind
 constructor
 ·intro hw i hi hn;refine (key i).2 fun j hj=>?_
  exact (ai8 (aB2 hj).1).1 (hw _ (a2m.2 ⟨i,hi,hn,j,hj,rfl⟩))
 ·intro hg w hw;obtain ⟨i,hi,hn,j,hj,rfl⟩:=a2m.1 hw;exact (ai8 (aB2 hj).1).2 ((key i).1 (hg i hi hn) j hj)
def XT.expl {t:j9} {kind:Int} {n:Nat} (h:XT t kind n) (set:LI):pX t kind n set=true↔∃z,k7 (a2e t kind n set) z=true:=by
 rw [aP6];constructor
 ·rintro ⟨z,h1,h2⟩;exact ⟨z,(h.holds set).2 ⟨h1,h2⟩⟩
 ·rintro ⟨z,hz⟩;exact ⟨z,(h.holds set).1 hz⟩
def XT.small {t:j9} {kind:Int} {n:Nat} (h:XT t kind n) (set:LI):M7 (a2e t kind n set):=by
 refine ⟨h.right set,fun w hw=>?_,by have:=h.m;show ((t.ev.moves.length:Nat):Int)<=9;omega,by have:=h.len set;show (a3G t kind n set).length<=999;omega⟩;rcases lbz.1 hw with hw|hw
 ·exact bz2 h.e w hw
 ·obtain ⟨hh,_,_,i,hi,rfl⟩:=a2m.1 hw;exact ⟨U1 de de,a5G⟩
def XT.best {t:j9} {kind:Int} {n:Nat} (h:XT t kind n) (set:LI):(pX t kind n set=true/\H8 (a2e t kind n set) []=.best)\/(pX t kind n set=false/\∃r,H8 (a2e t kind n set) []=.row r):=by
 have hr:=h.right set;rcases ak9 hr with ho|⟨r,ho⟩
 ·exact .inl ⟨(h.expl set).2 ⟨_,(Y1 hr rfl ho).1⟩,ho⟩
 ·refine .inr ⟨?_,r,ho⟩;rw [← lbQ];intro hp;have ⟨z,hz⟩:=(h.expl set).1 hp;rw [a5i ho z] at hz;cases hz
def b2T (xs:LI) (hl:xs.length<=1000000) (fg:FuncId) (caps:List T) (q:Int->Bool) (hg:∀x ∈ xs,ec fg (eI x::caps.map fun x=>.c (.t x)) [] (n7 (q x)) []):
 ec 96 [j7 xs,.c (.t (.fn (.func fg) caps))] [] (eI (N9 q xs 0)) []:=by
 have l1:(xs.map j3).length=xs.length:=zq;refine ac Tryz.func96 ?_;conv=>whnf
 repeat' (first|refine zx ?_|apply zD<;>intro<;>try omega)<;>conv=>whnf
 refine k6 g8 (fun k=>([j7 xs,S.c (C.t (T.fn (.func fg) caps)),J,J,J,J,J,eI xs.length,eI k]++Jn 10,[])) xs.length (fun k=>N9 q (xs.drop k) k=N9 q xs 0) [] rfl
  ⟨rfl,rfl,trivial,⟨m9 rfl,m9 rfl,g9 zq,rz⟩⟩ ?_
 intro k hk hI;by_cases jj:k<xs.length
 ·have ⟨r,hr⟩:=iA jj;have hd:xs.drop k=r::xs.drop (k+1):=by
   rw [a3r jj];rw [lbf jj] at hr;injection hr with hr;rw [hr]
  have hgr:=hg r (lbm hr);have ha:(eI r::caps.map fun x=>S.c (C.t x)).all S.isT=true:=by simp [S.isT,C.isT,e7]
  rw [hd] at hI;have hI:(if q r then (k:Int) else N9 q (xs.drop (k+1)) (k+1))=N9 q xs 0:=hI;cases hq:q r with
  |true=>
   rw [hq] at hgr hI;conv=>whnf
   repeat' (first|refine zx ?_|refine .inl ⟨_,_,I8 hgr ha rfl,?_⟩|refine j4 hr ?_|apply zD<;>intro<;>try omega)<;>conv=>whnf
   all_goals first
    |omega
    |exact p9 hI
  |false=>
   rw [hq] at hgr hI;conv=>whnf
   repeat' (first|refine zx ?_|refine .inl ⟨_,_,I8 hgr ha rfl,?_⟩|refine j4 hr ?_|apply zD<;>intro<;>try omega)<;>conv=>whnf
   all_goals first|omega|exact ⟨jj,by simpa using hI,[],rz⟩
 ·have hke:k=xs.length:=by omega
  subst hke;rw [lbo (lbR _)] at hI;conv=>whnf
  repeat' (first|refine zx ?_|apply zD<;>intro<;>try omega)<;>conv=>whnf
  all_goals first|omega|exact p9 hI
def aa5 {α:Type} {l:List α} {k:Nat} {x:α} (h:l[k]? =some x):l.take (k+1)=l.take k++[x]:=by
 rw [lbG,h];rfl
def a5R (e:Ev) (d:Int) (m i:Nat):Bool:=((e.moves.take i).drop (m+1)).all fun x=>!(decide (x.src=d) && x.all)
def aQ0 (e:Ev) (bl:List Bool) (d:Int) (m i:Nat) (x:C6):Bool:=decide (m<i) && decide (x.src=d) && a5R e d m i && !(bl.getD i true)
def a93 {e:Ev} {d:Int} {m:Nat}:a5R e d m (m+1)=true:=by
 unfold a5R;rw [b3i zo];rfl
def ah3 {e:Ev} {d:Int} {m k:Nat} {x:C6} (h:e.moves[k]? =some x) (hm:m<k):a5R e d m (k+1)=(a5R e d m k && !(decide (x.src=d) && x.all)):=by
 unfold a5R;have jj:=(lbe.1 h).1;rw [aa5 h,List.drop_append_of_le_length zo,a0z];simp
def b84 (l:LI) (n:Int) (ha:l.length<=1000000):ec 97 [j7 l,eI n] [] (eI (if (l.any fun x=>decide (x=n)) then (l.findIdx fun x=>decide (x=n)) else -1)) []:=by
 have l1:(l.map j3).length=l.length:=zq;refine ac Tryz.func97 ?_;conv=>whnf
 refine k6 g8 (fun k=>([j7 l,eI n,J,J,J,J,j7 l,eI l.length,eI k]++Jn 10,[])) l.length (fun k=>(l.take k).any (fun x=>decide (x=n))=false) [] rfl
  ⟨rfl,rfl,trivial,⟨m9 rfl,rfl,m9 rfl,g9 zq,g9 rfl,trivial⟩⟩ ?_
 intro k hk hI;conv=>whnf
 repeat' (first|refine zx ?_|apply zD<;>intro<;>try omega)<;>conv=>whnf
 ·have jj:k<l.length:=by omega
  have ⟨x,hx⟩:=iA jj;have hxg:l[k]=x:=(lbe.1 hx).2
  repeat' (first|refine zx ?_|refine j4 hx ?_|apply zD<;>intro<;>try omega)<;>conv=>whnf
  ·have hxn:x=n:=by omega
   refine p9 ?_;rw [iB (a5k hx (by simpa using hxn)),(List.findIdx_eq jj).2 ⟨by simp [hxg,hxn],fun j hj=>?_⟩];rw [List.any_eq_false] at hI;have:=hI l[j] (List.mem_take_iff_getElem.2 ⟨j,om,rfl⟩);simpa using this
  ·have hne:¬x=n:=by omega
   refine ⟨jj,?_,[],rz⟩;rw [a24 hx,hI];simpa using hne
 ·refine p9 ?_;rw [lbn om] at hI;rw [hI];rfl
def ah6 (l:LI) (n:Int) (ha:l.length<=1000000):ec 70 [j7 l,eI n] [] (n7 (l.any fun x=>decide (x=n))) []:=by
 refine ac Tryz.func70 ?_;conv=>whnf
 repeat' (first|refine zx ?_|refine qp (b84 _ _ ha) ?_|apply zD<;>intro<;>try omega)<;>conv=>whnf
 all_goals
  refine j6 ?_;cases hb:(l.any fun x=>decide (x=n)) with
  |true=>simp_all
  |false=>simp_all
def b3w {s:m7} (h:M7 s):b2m s:=by
 have hn:=X0 h.r;have h9:=h.n;refine ⟨by have:=h.l;omega,fun w hw=>?_⟩;obtain ⟨i,hi,rfl⟩:=a0D hw;have h1:=E4 (a1t h.r (lbf hi)).1;have h2:=h.i _ (lbE hi);exact ⟨om,fun t ht=>by have:=Q0 h2.1 t ht;omega,by have:=aA4 h2.2;omega⟩
def b6B {s:m7} {g:List (Int × Rat)} {Y:List Rat} (hr:q9 s=true) (hg:m8 (-1) ((s.n.toNat:Nat):Int) g=true) (h:b8p s (E8 g) Y=true) (h0:b72 s (yN Y)=0) {z:List Rat} (hz:k7 s z=true):n9 g z<=0:=by
 have hb:=aH2 (g:=E8 g) (b5L hr h) hz;have e:p6 (fun l=>L9 (E8 g) l*z.getD l 0) s.n.toNat=n9 (E8 g) z:=(a06 (a2M hg) z).symm;rw [e,a1j (s:=s) (g:=g),h0] at hb;grind
def bH7 {s:m7} (h:M7 s):∀w ∈ s.rows,b61 11 w:=fun w hw=>by
 have ⟨a,b⟩:=h.i w hw;exact ⟨a,by have:=aA4 b;omega⟩
def b6O {s:m7} {x:List Rat} {B:Nat} (h:M7 s) (hB:B<=2000) (hl:x.length<=1000000) (hx:∀v ∈ x,rl v<=B):PtB s x:=by
 have h9:=h.n;have:=lbT (show s.n.toNat<=9 by omega) (show B+4<=2004 by omega);exact bH2 h.r (bH7 h) (B:=B) om om hl hx
def aI8 {n:Int} {l:LI} {k:Nat} (h:Q1 n (-1) (l.take k)=false):a4T n l=false:=by
 unfold a4T;cases hb:Q1 n (-1) l with
 |false=>rfl
 |true=>
  have e:l=l.take k++l.drop k:=(lb9 k l).symm;rw [e] at hb;rw [ap3 hb] at h;cases h
def av5 {t:j9} {set:LI} {h:Nat} (hs:U8 set (h:Int)=true):C8 t set (h+1)=C8 t set h:=by rw [C8,iB hs]
def ai3 {t:j9} {set:LI} {h:Nat} (hs:U8 set (h:Int)=false):C8 t set (h+1)=C8 t set h++D3 (a1z t (h:Int)):=by rw [C8,iC (by rw [hs];decide)]
def a7O {l:LI} {k:Nat} {i:Int} (h:l[k]? =some i):D3 (l.take (k+1))=D3 (l.take k)++[⟨[(i,((1:Int):Rat))],2,((0:Int):Rat)⟩]:=by
 rw [N0 h];simp [D3]
def b3t (t:j9) (kind:Int) (n:Nat) (hx:XT t kind n) (set:LI) (hl:set.length<=1000000):
 ec 40 [trS t,W8 (p7 t kind),j7 set] [] (n7 (pX t kind n set)) []:=by
 have hs:=hx.s;have hh:=hx.h;have hn4:=hx.h4;have hm:=hx.m;have hlen:=hx.len set;have i0:=V4 0 de de;have i1:=V4 1 de de;have rl0:(p7 t kind).rows.length<=700:=by
  have:(p7 t kind).rows.length<=(a3G t kind n set).length:=by unfold a3G;rw [lbq];omega
  omega
 have cl:=fun H:Hp=>a0m (H:=H) (ba9 (p7 t kind).rows om) rfl rfl (j2 _)
 have e9:(p7 t kind).rows++C8 t set n=a3G t kind n set:=rfl;have e0:(p7 t kind).rows++C8 t set 0=(p7 t kind).rows:=by simp [C8]
 refine M6 g8 Tryz.func40 rfl de ?_;refine w8 g8 ?_;conv=>whnf
 refine b0x ?_;conv=>whnf
 refine zy ?_;conv=>whnf
 (refine w8 g8 ?_;conv=>whnf)
 repeat' (first|refine zx ?_|refine .inl ⟨_,_,cl _,?_⟩|refine bl0 [0,1] ?_|apply zD<;>intro h<;>try omega)<;>conv=>whnf
 refine b8c g8 ([J,J,J,J,S.c (C.t (T.ptr [ti t.ev.moves.length,a0h (a3G t kind n set)]))]++Jn 55) ?_ ?_
 ·conv=>whnf
  repeat' (first|refine zx ?_|apply zD<;>intro h<;>try omega)<;>conv=>whnf
  refine k6 g8 (fun q=>([J,J,j7 set,S.c (C.t (T.ptr (trT t))),sP 0 0 0]++Jn 14++[eI n,eI q]++Jn 39,[a6W t.ev.moves.length 1 ((p7 t kind).rows++C8 t set q).length,X3 ((p7 t kind).rows++C8 t set q)])) n tT [some 0,some 1] trivial
   ⟨rfl,rfl,⟨⟨rfl,rfl,rfl,.inr ⟨⟨rfl,⟨rfl,rfl,by rw [e0],fun h=>h⟩,trivial⟩,trivial⟩⟩,i6 (rows:=((p7 t kind).rows++C8 t set 0).map v6) rfl rfl rfl (by rw [e0]) rfl,trivial⟩,⟨rfl,rfl,rz,g9 hh,rz⟩⟩ ?_
  intro q hk _;by_cases jj:q<n
  ·have sc:=ah6 set (q:Int) hl;have li:=b47 t.ev hs.ev (q:Int) (-1) 0 100000;cases hin:U8 set (q:Int) with
   |true=>
    have hin':=hin;unfold U8 at hin';rw [hin'] at sc;rw [av5 hin];conv=>whnf
    repeat' (first|refine zx ?_|apply zD<;>intro h<;>try omega)<;>conv=>whnf
    all_goals first
     |omega
     |exact ⟨jj,trivial,[some 0,some 1],rfl,rfl,⟨⟨rfl,rfl,rfl,.inr ⟨⟨rfl,⟨rfl,rfl,rfl,fun h=>h⟩,trivial⟩,trivial⟩⟩,j8 (j2 _),trivial⟩,⟨rfl,rfl,rz,rfl,g9 om,trivial⟩⟩
   |false=>
    have hin':=hin;unfold U8 at hin';rw [hin'] at sc;rw [ai3 hin,←lbD];have hll:(a1z t (q:Int)).length<=t.ev.moves.length:=a3p;have hrl:((p7 t kind).rows++C8 t set q).length<=700:=by
     have h1:=a3K (t:=t) (set:=set) q;have h2:=O5 (t:=t) (kind:=kind) t.ev.moves.length;have h3:t.ev.moves.length*(2+t.finds.length+t.cleans.length)<=8*72:=lbT hx.m (by have:=hx.f;have:=hx.c;omega);have h4:q*t.ev.moves.length<=6*8:=lbT om hx.m;have h5:(p7 t kind).rows.length<=8*72:=lbS h2 h3;rw [lbq];omega
    have li:ec 72 [evS t.ev,eI (q:Int),eI (-1),eI 0,eI 100000] [] (j7 (a1z t (q:Int))) []:=li;generalize a1z t (q:Int)=l at li hll;have m2:(l.map j3).length=l.length:=zq;generalize hR:(p7 t kind).rows++C8 t set q=R at hrl;conv=>whnf
    repeat' (first|refine zx ?_|apply zD<;>intro h<;>try omega)<;>conv=>whnf
    all_goals try omega
    refine k6 g8 (fun i=>([J,J,j7 set,S.c (C.t (T.ptr (trT t))),sP 0 0 0]++Jn 14++[eI n,eI q,J,J,J,J,J,J,J,J,j7 l,eI l.length,eI i]++Jn 28,[a6W t.ev.moves.length 1 (R++D3 (l.take i)).length,X3 (R++D3 (l.take i))])) l.length tT [some 0,some 1] trivial
     ⟨rfl,rfl,⟨⟨rfl,rfl,rfl,.inr ⟨⟨rfl,⟨rfl,rfl,by simp [D3],fun h=>h⟩,trivial⟩,trivial⟩⟩,i6 (rows:=(R++D3 (l.take 0)).map v6) rfl rfl rfl (by simp [D3]) rfl,trivial⟩,⟨rfl,rfl,rz,rfl,rfl,rfl,g9 (by rw [m2]),rz⟩⟩ ?_
    intro i hik _;have hzl:(D3 (l.take i)).length<=l.length:=by simp [D3];omega
    by_cases hil:i<l.length
    ·have ⟨x,hxi⟩:=iA hil;rw [a7O hxi,←lbD];have lA:(R++D3 (l.take i)).length<=(X3 (R++D3 (l.take i))).rows.length:=by show _<=(toC _).length;simp [toC]
     have lB:(R++D3 (l.take i)).length<=800:=by rw [lbq];omega
     generalize R++D3 (l.take i)=R2 at lA lB;conv=>whnf
     repeat' (first|refine zz ?_|refine qp i0 ?_|refine qp i1 ?_|refine a3A.weak ?_|refine j4 hxi ?_|refine v8 lA zu ?_|refine bl0 [0,1] ?_|apply zD<;>intro h<;>try omega|refine zy ?_|fail)<;>conv=>whnf
     all_goals first|omega|skip
     all_goals
      (refine ⟨hil,trivial,[some 0,some 2],rfl,rfl,⟨⟨rfl,rfl,rfl,.inr ⟨⟨rfl,⟨rfl,rfl,?_,fun h=>h⟩,trivial⟩,trivial⟩⟩,i6 (rows:=(R2++[(⟨[(x,((1:Int):Rat))],2,((0:Int):Rat)⟩:C7)]).map v6) rfl rfl rfl ?_ rfl,trivial⟩,⟨rfl,rfl,rz,rfl,rfl,rfl,rfl,g9 om,trivial⟩⟩
       ·simp [toC]
       ·exact O9 (f:=v6) (x:=(⟨[(x,((1:Int):Rat))],2,((0:Int):Rat)⟩:C7)) rfl)
    ·have hie:i=l.length:=by omega
     subst hie;rw [lbn (lbR _)];conv=>whnf
     repeat' (first|refine zx ?_|apply zD<;>intro h<;>try omega)<;>conv=>whnf
     all_goals first|omega|exact ⟨jj,trivial,[some 0,some 1],rfl,rfl,⟨⟨rfl,rfl,rfl,.inr ⟨⟨rfl,⟨rfl,rfl,rfl,fun h=>h⟩,trivial⟩,trivial⟩⟩,j8 (j2 _),trivial⟩,⟨rfl,rfl,rz,rfl,g9 om,trivial⟩⟩
  ·have hqe:q=n:=by omega
   subst hqe;rw [e9];generalize a3G t kind q set=R;conv=>whnf
   repeat' (first|refine zx ?_|apply zD<;>intro h<;>try omega)<;>conv=>whnf
   all_goals first
    |omega
    |(refine ⟨trivial,trivial,trivial,trivial,?_,?_⟩
      ·exact a6Z (k:=a6W t.ev.moves.length 1 R.length) trivial rfl (fun h=>h) rfl ⟨a1C,.vc (v7 (k:=X3 R) trivial rfl (fun h=>h) rfl rfl zq),trivial⟩
      ·simp only [a10,VYS];repeat (first|exact trivial|refine ⟨trivial,?_⟩))
 ·have ss:=hx.small set;have lz:=b0d ss (g:=[]) rfl (fun t ht=>by cases ht);have nT:(a2e t kind n set).n=t.ev.moves.length:=rfl;have rT:(a2e t kind n set).rows=a3G t kind n set:=rfl;rcases hx.best set with ⟨hp,ho⟩|⟨hp,r,ho⟩
  ·rw [hp];have hb15:=bX4 ss (g:=[]) rfl (fun t ht=>by cases ht);have so:=a6c _ _ _ lz ho (fun v hv=>by have:=hb15 v hv;omega);have sl:=(Y1 (hx.right set) rfl ho).1;have hd:=b7S _ (b3w ss) (hx.right set) (s8 (a2e t kind n set) []) (b6O (B:=15) ss de (by rw [a8r lz];have:(a2e t kind n set).n.toNat=t.ev.moves.length:=rfl;omega) hb15);rw [sl] at hd;refine t4 g8 _ ?_;conv=>whnf
   repeat' (first|refine zx ?_|refine bl0 [4,6] ?_|refine bl0 [4] ?_|apply zD<;>intro h<;>try omega)<;>conv=>whnf
   all_goals exact j6 rfl
  ·rw [hp];have so:=a7Z _ _ _ r lz ho;refine t4 g8 _ ?_;conv=>whnf
   repeat' (first|refine zx ?_|apply zD<;>intro h<;>try omega)<;>conv=>whnf
   all_goals exact j6 rfl
def O6 {t:j9} {kind:Int}:a0b t kind=0↔t5 t=0/\0<=kind/\kind<8:=by
 unfold a0b;split<;>omega
def D9 (s:LI):List T:=[w5 s]
abbrev b2q (l:List LI):T:=.sl 1 .any (l.map D9)
abbrev a40 (l:List LI):S:=.c (.t (b2q l))
def aF8 (xs:LI) (hl:xs.length<=1000000) (fg:FuncId) (caps:List T) (q:Int->Bool) (hg:∀x ∈ xs,ec fg (eI x::caps.map fun x=>.c (.t x)) [] (n7 (q x)) []):
 ec 68 [j7 xs,.c (.t (.fn (.func fg) caps))] [] (n7 (xs.any q)) []:=by
 have ix:=b2T xs hl fg caps q hg;refine ac Tryz.func68 ?_;conv=>whnf
 repeat' (first|refine zx ?_|apply zD<;>intro<;>try omega)<;>conv=>whnf
 all_goals (refine j6 ?_;rw [← a3n q xs 0];simp;omega)
def bi9 (b:LI) (hl:b.length<=1000000) (x:Int):ec 69 (eI x::[T.ptr [w5 b]].map fun x=>.c (.t x)) [] (n7 (!(U8 b x))) []:=by
 have sc:=ah6 b x hl;unfold U8;cases hq:b.any fun y=>decide (y=x)<;>rw [hq] at sc<;>
 ·refine ac Tryz.func69 ?_;conv=>whnf
  repeat' (first|refine zx ?_|apply zD<;>intro<;>try omega)<;>conv=>whnf
  all_goals exact j6 rfl
def b67 (a b:LI):D4 a b=!(a.any fun x=>!(U8 b x)):=by
 unfold D4 U8;rw [List.not_any_eq_all_not];simp
def bL7 (a b:LI) (ha:a.length<=1000000) (hb:b.length<=1000000):ec 39 [j7 a,j7 b] [] (n7 (D4 a b)) []:=by
 have ct:=aF8 a ha 69 [T.ptr [w5 b]] _ (fun x _=>bi9 b hb x);rw [b67];cases hq:a.any fun x=>!(U8 b x)<;>rw [hq] at ct<;>
 ·(refine ac Tryz.func39 ?_;(conv=>whnf);repeat ((first|refine b0x ?_|refine zy ?_);conv=>whnf))
  repeat' (first|refine zx ?_|apply zD<;>intro<;>try omega)<;>conv=>whnf
  all_goals exact j6 rfl
def b2l (rs:List LI) (hl:rs.length<=1000000) (g:FuncId) (caps:List T) (q:LI->Bool) (hg:∀r ∈ rs,ec g (j7 r::caps.map fun x=>.c (.t x)) [] (n7 (q r)) []):
 ec 67 [a40 rs,.c (.t (.fn (.func g) caps))] [] (eI (N9 q rs 0)) []:=by
 have l1:(rs.map D9).length=rs.length:=zq;refine ac Tryz.func67 ?_;conv=>whnf
 repeat' (first|refine zx ?_|apply zD<;>intro<;>try omega)<;>conv=>whnf
 refine k6 g8 (fun k=>([a40 rs,S.c (C.t (T.fn (.func g) caps)),J,J,J,J,J,eI rs.length,eI k]++Jn 10,[])) rs.length (fun k=>N9 q (rs.drop k) k=N9 q rs 0) [] rfl
  ⟨rfl,rfl,trivial,⟨m9 rfl,m9 rfl,g9 zq,rz⟩⟩ ?_
 intro k hk hI;by_cases jj:k<rs.length
 ·have ⟨r,hr⟩:=iA jj;have hd:rs.drop k=r::rs.drop (k+1):=by
   rw [a3r jj];rw [lbf jj] at hr;injection hr with hr;rw [hr]
  have hgr:=hg r (lbm hr);have ha:(j7 r::caps.map fun x=>S.c (C.t x)).all S.isT=true:=by simp [S.isT,C.isT]
  rw [hd] at hI;have hI:(if q r then (k:Int) else N9 q (rs.drop (k+1)) (k+1))=N9 q rs 0:=hI;cases hq:q r with
  |true=>
   rw [hq] at hgr hI;conv=>whnf
   repeat' (first|refine zx ?_|refine .inl ⟨_,_,I8 hgr ha rfl,?_⟩|refine j4 hr ?_|apply zD<;>intro<;>try omega)<;>conv=>whnf
   all_goals first
    |omega
    |exact p9 hI
  |false=>
   rw [hq] at hgr hI;conv=>whnf
   repeat' (first|refine zx ?_|refine .inl ⟨_,_,I8 hgr ha rfl,?_⟩|refine j4 hr ?_|apply zD<;>intro<;>try omega)<;>conv=>whnf
   all_goals first|omega|exact ⟨jj,by simpa using hI,[],rz⟩
 ·have hke:k=rs.length:=by omega
  subst hke;rw [lbo (lbR _)] at hI;conv=>whnf
  repeat' (first|refine zx ?_|apply zD<;>intro<;>try omega)<;>conv=>whnf
  all_goals first|omega|exact p9 hI
def aE6 (rs:List LI) (hl:rs.length<=1000000) (g:FuncId) (caps:List T) (q:LI->Bool) (hg:∀r ∈ rs,ec g (j7 r::caps.map fun x=>.c (.t x)) [] (n7 (q r)) []):
 ec 37 [a40 rs,.c (.t (.fn (.func g) caps))] [] (n7 (rs.any q)) []:=by
 have ix:=b2l rs hl g caps q hg;refine ac Tryz.func37 ?_;conv=>whnf
 repeat' (first|refine zx ?_|apply zD<;>intro<;>try omega)<;>conv=>whnf
 all_goals (refine j6 ?_;rw [← a3n q rs 0];simp;omega)
def bj4 (set a:LI) (hs:set.length<=1000000) (ha:a.length<=1000000):ec 38 (j7 a::[T.ptr [w5 set]].map fun x=>.c (.t x)) [] (n7 (D4 a set)) []:=by
 have p:=bL7 a set ha hs;refine ac Tryz.func38 ?_;conv=>whnf
 repeat' (first|refine zx ?_|apply zD<;>intro<;>try omega)<;>conv=>whnf
 all_goals exact j6 (Eq.symm (by assumption))
def b6n (out:List LI) (hl:out.length<=1000000) (h2:∀a ∈ out,a.length<=1000000) (set:LI) (hs:set.length<=1000000):
 ec 37 [a40 out,.c (.t (.fn (.func 38) [T.ptr [w5 set]]))] [] (n7 (out.any fun a=>D4 a set)) []:=
 aE6 out hl _ _ _ fun a ha=>bj4 set a hs (h2 a ha)
def b6i:ec 65 [.c (.t (.sl 1 .any []))] [] (.c (.own 0 0 0 true)) [y3 []]:=by
 refine a3B ?_ ?_
 ·refine ac Tryz.func65 ?_;conv=>whnf
  repeat' (first|refine zx ?_|apply zD<;>intro h<;>try omega)<;>conv=>whnf
  all_goals exact ⟨[none],rz⟩
 ·refine ac Tryz.func65 ?_;conv=>whnf
  repeat' (first|refine zx ?_|refine R9 rfl de ?_|apply zD<;>intro h<;>try omega)<;>conv=>whnf
  all_goals exact ⟨[some 0],rfl,rfl,⟨i6 (rows:=([]:LI).map j3) rfl rfl rfl rfl rfl,trivial⟩,⟨rfl,rfl,rfl,fun h=>h⟩⟩
def b68 (l:LI) (h1:l.length<=100000):ec 65 [j7 l] [] (.c (.own 0 0 l.length true)) [y3 l]:=by
 have m1:(l.map j3).length=l.length:=zq;by_cases h0:l.length=0
 ·have:l=[]:=a0B.1 h0;subst this;exact b6i
 have hl:0<(l.map j3).length:=om;refine ac Tryz.func65 ?_;conv=>whnf
 repeat' (first|refine zx ?_|refine ⟨hl,?_⟩|refine zz ?_|refine R9 rfl (by simp only [toC,lbr,a15];omega) ?_|refine v8 (G0 _) (by simp only [toC,lbr];omega) ?_|apply zD<;>intro h<;>try omega)<;>conv=>whnf
 all_goals first|omega|exact ⟨[some 0],rfl,rfl,⟨i6 (rows:=l.map j3) rfl rfl rfl rfl rfl,trivial⟩,⟨rfl,rfl,by simp [toC],fun h=>h⟩⟩
def aI3 (t:j9) (kind:Int) (k:Nat):E1 t kind (k+1)=if O0 t kind k≠0 then E1 t kind k++[(k:Int)] else E1 t kind k:=by
 unfold E1;rw [a8x,a5X,lbC];by_cases h:O0 t kind k≠0
 ·rw [iB h];simp [h]
 ·rw [iC h];have:O0 t kind k=0:=Classical.not_not.1 h;simp [this]
def aE5 (t:j9) (kind:Int) (n:Nat) (h:ExP t kind n) (hn:n<=8):ec 34 [trS t,eI kind] [] (.tup [j7 (E1 t kind n),eI 0]) []:=by
 have ve:=aE7 t kind h.s h.e h.k0 h.k1 h.m n h.h om h.z;have vl:=a5x t kind n;have m1:((a1n t kind n).map a6u.row).length=n:=by simp [vl]
 have sl:=a2o t kind n;have m2:((E1 t kind n).map j3).length=(E1 t kind n).length:=zq
 (refine ac Tryz.func34 ?_;conv=>whnf)
 refine b0x ?_;conv=>whnf
 repeat' (first|refine zx ?_|apply zD<;>intro h<;>try omega)<;>conv=>whnf
 all_goals try omega
 refine k6 g8 (fun k=>(Jn 8++[S.c (C.own 0 0 (E1 t kind k).length true)]++Jn 11++[b4I (a1n t kind n),eI n,eI k]++Jn 16,[y3 (E1 t kind k)])) n tT [none] trivial
  ⟨rfl,rfl,rz,⟨rz,rfl,g9 om,rz⟩⟩ ?_
 intro k hk _;have slk:=a2o t kind k;have lA:(E1 t kind k).length<=(y3 (E1 t kind k)).rows.length:=by show _<=(toC _).length;simp [toC]
 by_cases jj:k<n
 ·have hv:(a1n t kind n)[k]? =some (a2i (p7 t kind) (I1 t (k:Int)) (k:Int)):=by unfold a1n;simp [jj]
  have kh:(a2i (p7 t kind) (I1 t (k:Int)) (k:Int)).hh=k:=br6 _;have e1:=aI3 t kind k;unfold O0 at e1;rw [e1];generalize a2i (p7 t kind) (I1 t (k:Int)) (k:Int)=v at hv kh e1;by_cases hst:v.state≠0
  ·rw [iB hst];conv=>whnf
   repeat' (first|refine zz ?_|refine j4 hv ?_|refine b0x ?_|refine v8 lA zu ?_|apply zD<;>intro h<;>try omega|refine zy ?_|fail)<;>conv=>whnf
   all_goals first
    |omega
    |(refine ⟨jj,trivial,[some 2],rfl,rfl,⟨i6 (rows:=(E1 t kind k++[(k:Int)]).map j3) rfl rfl rfl ?_ rfl,trivial⟩,⟨⟨rfl,rfl,?_,fun h=>h⟩,rfl,rfl,g9 om,trivial⟩⟩
      ·rw [kh];exact O9 (f:=j3) (x:=(k:Int)) rfl
      ·simp [toC])
  ·rw [iC hst];conv=>whnf
   repeat' (first|refine zz ?_|refine j4 hv ?_|refine b0x ?_|apply zD<;>intro h<;>try omega|refine zy ?_|fail)<;>conv=>whnf
   all_goals first|omega|exact ⟨jj,trivial,[some 0],rfl,rfl,⟨i6 (rows:=(E1 t kind k).map j3) rfl rfl rfl rfl rfl,trivial⟩,⟨⟨rfl,rfl,rfl,fun h=>h⟩,rfl,rfl,g9 om,trivial⟩⟩
 ·have hke:k=n:=by omega
  subst hke;conv=>whnf
  repeat' (first|refine zx ?_|apply zD<;>intro h<;>try omega)<;>conv=>whnf
  all_goals first|omega|exact n8 ⟨show VC _ (fun id=>L2 [] id=true) (C.own 0 0 _ true) _ from v7 (k:=y3 (E1 t kind k)) rfl rfl (fun h=>h) rfl rfl zq,rz⟩
def b1b {F:Fence} {n:Nat} {P:Program} {α:Type} {g:Operand} {ps:Array Tmp} {assign body:Code} {Q:Exit->Act->World->Prop} {a:Act} {w:World}
 (hro:F.round=none) (h1:1<=n) {gf:Nat} {lb:Array Value} (hg:a.eval g=.func (.func gf) #[] lb) (hFg:F.fn gf) (eg:∀args w,(callFunc gf args).run P w=.ok (.enter gf args) w)
 {encs:α->Array Value} {G:α->World->Prop} {Kp:World->World->Prop} {S:List α->Prop} {N:Nat} {w0:World} (hseq:bN9 F (n - 1) P gf lb encs G Kp S N w0)
 (hKt:∀{A B C:World},Kp A B->Kp B C->Kp A C) (hKb:∀(W:World) (l:Nat) (o o':Obj),w.heap.size<=l->W.heap[l]? =some o->o.isCells=false->o.isWalk=false->Kp W (W.putObj l o'))
 (hb0:Below w0.heap.size w0 w) (hps:∀x,(encs x).size=ps.size)
 (I:List α->World->Prop) (hI:OwnFrom w.heap.size I) (h0:I [] w) (A:List α->α->Act->World->Prop)
 (hAb:∀(pre:List α) (x:α) (a1:Act) (W:World) (l:Nat) (o o':Obj),w.heap.size<=l->W.heap[l]? =some o->o.isCells=false->A pre x a1 W->A pre x a1 (W.putObj l o'))
 (hassign:∀(l:Nat) (pre:List α) (x:α) (W:World) (K:Act->World->Prop),I pre W->G x W->pre.length<N->(∀ a1 W1,A pre x a1 W1->KeepsFrom w.heap.size W W1->Kp W W1->K a1 W1)->
   assign.wpIn (F.inRound l) (n - 1 - 1) P (Exit.then K (fun _ _ _=>False)) { tmps:=(ps.zip (encs x)).foldl (fun t (p,v)=>t.setIfInBounds p v) a.tmps,defers:=[] } W)
 (hbody:∀(l:Nat) (pre:List α) (x:α) (a1:Act) (W:World),A pre x a1 W->body.wpIn (F.inRound l) (n - 1 - 1) P (Exit.then (fun _ W'=>KeepsFrom w.heap.size W W'/\Kp W W'/\I (pre++[x]) W') (fun _ _ _=>False)) a1 W)
 (hdone:∀(D:Nat) (xs:List α) (W:World),w.heap.size<=D->S xs->I xs W->W.heap[D]? =some (.deferred (some []))->Q .normal { a with defers:={ target:=.collected D,args:=#[] }::a.defers } W):
 (Code.rangeFunc g ps assign body).wpIn F n P Q a w:=by
 refine wpIn_rangeFunc fun fn hfn=>?_
 rw [hro]
 let rec0:LoopState->Loop:=fun st=>{ state:=st,pending:=none,fn,tmps:=a.tmps,params:=ps,assign,body,defers:=w.heap.size }
 let W1:=(w.alloc (.deferred (some []))).alloc (.loop (rec0 .ready))
 have s1:W1.heap.size=w.heap.size+1+1:=by simp [W1]
 have hL:W1.heap[w.heap.size+1]? =some (.loop (rec0 .ready)):=by
  have:=World.alloc_heap_new (w.alloc (.deferred (some []))) (.loop (rec0 .ready));rwa [World.size_alloc] at this
 have hD:W1.heap[w.heap.size]? =some (.deferred (some [])):=(Below.heap_alloc _ _ _ zq).trans (World.alloc_heap_new w _);have hI1:I [] W1:=hI.alloc _ (hI.alloc _ h0);have hb1:Below w0.heap.size w0 W1:=hb0.trans ((((Below.refl _ w).alloc (lbR _) _).alloc zq _).mono hb0.size);refine ⟨w.heap.size+1,[{ target:=.collected w.heap.size,args:=#[] }],W1,{ target:=.fn (.func gf) lb,args:=#[.func (.yield (w.heap.size+1)) #[] #[]] },W1,gf,
  #[.func (.yield (w.heap.size+1)) #[] #[]]++lb,W1,run_enterLoop_outer _ _ _ _ _,?_,?_,?_,fun _=>h1,?_⟩
 ·simp only [resolve,hg];simp [go_sem]
 ·intro f' hf';simp [Target.leads] at hf';subst hf';exact hFg
 ·simp [invoke,go_sem,eg]
 ·have walk:∀{A:World} {row:Option Nat},(∀ r,row=some r->W1.heap.size<=r/\∃o:Obj,A.heap[r]? =some o/\o.isWalk=true)->∀r,row=some r->w.heap.size<=r/\∃o:Obj,A.heap[r]? =some o/\o.isCells=false:=by
   intro A row hr r e;have ⟨hB,o,ho,hw⟩:=hr r e;exact ⟨om,o,ho,Obj.not_cells_of_walk hw⟩
  refine (hseq (w.heap.size+1) (fun pre W=>I pre W/\W.heap[w.heap.size+1]? =some (.loop (rec0 .ready))/\W.heap[w.heap.size]? =some (.deferred (some []))) W1 hb1
   (fun s A B row hs hgr hr=>⟨hI s A B row hs.1 hgr (walk hr),(grownBy_keeps hgr (fun r e=>(hr r e).2) hs.2.1 rfl).trans hs.2.1,(grownBy_keeps hgr (fun r e=>(hr r e).2) hs.2.2 rfl).trans hs.2.2⟩)
   ?_ ⟨hI1,hL,hD⟩).mono ?_
  ·rintro pre x W ⟨hi,hl,hk⟩ hx hN;have hy:=run_yield (P:=P) (args:=encs x) hl (hps x);refine ⟨fn,_,assign,body,hy,roundIn_of_wpIn hfn (hassign _ pre x W _ hi hx hN fun a1 W2 hA hk1 hkp1=>?_)⟩;have hl1:=hk1.same _ _ om hl rfl;have hD1:=hk1.same _ _ (lbR _) hk rfl;have jj:w.heap.size+1<W2.heap.size:=(lb6.1 hl1).1;refine ⟨_,run_beginRound hl1 rfl,?_⟩;have hl2:(W2.putObj (w.heap.size+1) (.loop { rec0 .ready with state:=.busy })).heap[w.heap.size+1]? =some (.loop { rec0 .ready with state:=.busy }):=World.putObj_heap_same jj;have hk2:(W2.putObj (w.heap.size+1) (.loop { rec0 .ready with state:=.busy })).heap[w.heap.size]? =some (.deferred (some [])):=(World.putObj_heap_other om).trans hD1;refine wpIn_mono (hbody _ pre x a1 _ (hAb pre x a1 W2 _ _ _ om hl1 rfl hA)) ?_;rintro e a3 W3 hp;cases e with
   |normal=>
    have ⟨hk3,hkp3,hi3⟩:=hp;have hl3:=hk3.same _ _ om hl2 rfl;have hk4:=hk3.same _ _ (lbR _) hk2 rfl;refine ⟨_,_,run_endRound (P:=P) none hl3,rfl,⟨hI.putObj _ hi3 om hl3 rfl,World.putObj_heap_same (lb6.1 hl3).1,(World.putObj_heap_other om).trans hk4⟩,?_⟩;exact hKt hkp1 (hKt (hKt (hKb _ _ _ _ om hl1 rfl rfl) hkp3) (hKb _ _ _ _ om hl3 rfl rfl))
   |ret=>exact hp.elim
   |exit id=>exact hp.elim
   |goto t=>exact hp.elim
   |panic ch=>exact hp.elim
   |outgrown=>exact hp.elim
  ·rintro e W2 ⟨⟨v,rfl⟩,xs,hS,hi,hl,hk⟩;exact ⟨none,_,run_endLoop (P:=P) hl (by simp [rec0]),hdone _ xs _ (lbR _) hS (hI.putObj _ hi om hl rfl) ((World.putObj_heap_other om).trans hk)⟩
open Go.RowKit Go.Shelf
structure a2Y (B n:Nat) (w w':World):Prop where
 os:w'.os=w.os
 tape:w'.tape=w.tape
 output:w'.output=w.output
 size:w.heap.size<=w'.heap.size
 block:∀k,k<n->k≠B->w'.heap[k]? =w.heap[k]?
def a2Y.trans {B n:Nat} {a b c:World} (h:a2Y B n a b) (k:a2Y B n b c):a2Y B n a c:=
 ⟨k.os.trans h.os,k.tape.trans h.tape,k.output.trans h.output,lbS h.size k.size,fun i hi hB=>(k.block i hi hB).trans (h.block i hi hB)⟩
def a2Y.of {B n:Nat} {a b:World} (h:Below n a b):a2Y B n a b:=⟨h.os,h.tape,h.output,h.size,fun k hk _=>h.block k hk⟩
def a2Y.low {B n:Nat} {w w':World} (h:a2Y B n w w') {m:Nat} (hm:m<=n) (hB:m<=B):Below m w w':=⟨h.os,h.tape,h.output,h.size,fun k hk=>h.block k om om⟩
def b5A {W:World} {base:Nat} {e:TypeId} {size:Nat} {v:Value} {k:Nat} {xs:List Value} (h:W.ownsRow base e size v k xs):W.ownsRow 0 e size v k xs:=
 ⟨h.1,h.2.imp id fun ⟨g,cap,cur,h1,_,h2⟩=>⟨g,cap,cur,h1,G0 _,h2⟩⟩
def b7A {A B:World} (hb:Below A.heap.size A B) {base:Nat} {e:TypeId} {size:Nat} {v:Value} {k:Nat} {xs:List Value} (h:A.ownsRow base e size v k xs):B.ownsRow base e size v k xs:=
 ⟨h.1,h.2.imp id fun ⟨g,cap,cur,h1,h3,h4,h2⟩=>⟨g,cap,cur,h1,h3,(hb.block g (C2 h4)).trans h4,h2⟩⟩
def ar1 {A B:World} (hb:Below A.heap.size A B) {b:Nat} {t:TypeId} {v:Value} (h:Boxed A b t v):Boxed B b t v:=(hb.block b h.lt).trans h
def b5X {W w1:World} {n₀ B:Nat} {v v':Value} {k m:Nat} {xs ys:List Value} {tmp:Obj}
 (hv:Boxed W B a44 v) (hrow:W.ownsRow n₀ tIs 1 v k xs) (hn₀:n₀<=W.heap.size)
 (hown':w1.ownsRow n₀ tIs 1 v' m ys) (hgrow:(W.alloc tmp).grownBy w1 v.ownBlock):
 Boxed w1 B a44 v/\Boxed (w1.setCell ⟨B,0,none⟩ v') B a44 v'/\(w1.setCell ⟨B,0,none⟩ v').ownsRow n₀ tIs 1 v' m ys/\KeepsOthers W (w1.setCell ⟨B,0,none⟩ v')/\a2Y B n₀ W (w1.setCell ⟨B,0,none⟩ v')/\KpX B n₀ W (w1.setCell ⟨B,0,none⟩ v'):=by
 have ⟨h1,h2,_,h4,_⟩:=hv.appended (n₀:=0) de (b5A hrow) (G0 _) (G0 _) (b5A hown') hgrow;have hrb:∀j,v.ownBlock=some j->n₀<=j/\∃cur,W.heap[j]? =some (.cells cur tIs (0,0)):=by
  intro j ej;rcases hrow.2 with ⟨rfl,_⟩|⟨g,cap,cur,rfl,hb,hc,_⟩
  ·simp [Value.ownBlock] at ej
  ·obtain rfl:g=j:=by simpa [Value.ownBlock] using ej
   exact ⟨hb,cur,hc⟩
 have hsz:W.heap.size<=(w1.setCell ⟨B,0,none⟩ v').heap.size:=h4.size;refine ⟨h1,h2,hown'.kept (grownBy_setCell' w1 B v') (.inr (h1.not_row de hown').symm),h4,?_,hsz,?_⟩
 ·exact (a2Y.of (((Below.refl n₀ W).alloc hn₀ tmp).grown hgrow zo fun j ej=>(hrb j ej).1)).trans ⟨rfl,rfl,rfl,by simp [World.setCell],fun k _ hk=>Below.heap_setCell _ _ _ _ hk⟩
 ·intro b vs t fl hb hX ht;have jj:=C2 hb;have e1:(W.alloc tmp).heap[b]? =W.heap[b]?:=Below.heap_alloc _ _ _ jj;have hne:some b≠v.ownBlock:=fun e=>by
   have ⟨q1,cur,q2⟩:=hrb b e.symm;rw [hb] at q2;injection q2 with q2;injection q2 with _ q2 _;rcases ht with ht|ht
   ·omega
   ·exact ht q2
  have e2:=hgrow.block b zo hne;exact (Below.heap_setCell _ _ _ _ hX).trans (e2.trans (e1.trans hb))
def ba0 {W:World} {base:Nat} {e:TypeId} {size:Nat} {v:Value} {k:Nat} {xs:List Value} (h:W.ownsRow base e size v k xs):∃A c,v=.slice A k c:=by
 rcases h.2 with ⟨rfl,rfl⟩|⟨g,cap,cur,rfl,_⟩
 ·exact ⟨none,0,rfl⟩
 ·exact ⟨_,cap,rfl⟩
def b6a {W w1:World} {n₀ B:Nat} {v v':Value} {k m:Nat} {xs ys:List Value}
 (hv:Boxed W B a44 v) (hrow:W.ownsRow n₀ tIs 1 v k xs)
 (hn₀:n₀<=W.heap.size) (hown':w1.ownsRow n₀ tIs 1 v' m ys) (hgrow:W.grownBy w1 v.ownBlock):
 Boxed w1 B a44 v/\Boxed (w1.setCell ⟨B,0,none⟩ v') B a44 v'/\(w1.setCell ⟨B,0,none⟩ v').ownsRow n₀ tIs 1 v' m ys/\KeepsOthers W (w1.setCell ⟨B,0,none⟩ v')/\a2Y B n₀ W (w1.setCell ⟨B,0,none⟩ v')/\KpX B n₀ W (w1.setCell ⟨B,0,none⟩ v'):=by
 have hrb:∀j,v.ownBlock=some j->n₀<=j/\∃cur,W.heap[j]? =some (.cells cur tIs (0,0)):=by
  intro j ej;rcases hrow.2 with ⟨rfl,_⟩|⟨g,cap,cur,rfl,hb,hc,_⟩
  ·simp [Value.ownBlock] at ej
  ·obtain rfl:g=j:=by simpa [Value.ownBlock] using ej
   exact ⟨hb,cur,hc⟩
 have hB1:Boxed w1 B a44 v:=by
  refine (hgrow.block B hv.lt fun e=>?_).trans hv;have ⟨_,cur,hc⟩:=hrb B e.symm;have hv:W.heap[B]? =some (.cells #[v] a44 (0,0)):=hv;rw [hc] at hv;injection hv with hv;injection hv with _ hv;cases hv
 have hs:w1.heap.size=(w1.setCell ⟨B,0,none⟩ v').heap.size:=by simp [World.setCell]
 have hsz:W.heap.size<=(w1.setCell ⟨B,0,none⟩ v').heap.size:=by have:=hgrow.size;omega
 refine ⟨hB1,hB1.set v',hown'.kept (grownBy_setCell' w1 B v') (.inr (hB1.not_row de hown').symm),⟨hsz,fun j o hj ho=>?_⟩,⟨hgrow.os,hgrow.tape,hgrow.output,hsz,fun j hj hX=>?_⟩,hsz,?_⟩
 ·have h1:w1.heap[j]? =some o:=(hgrow.block j (C2 hj) fun e=>by
   have ⟨_,cur,hc⟩:=hrb j e.symm;rw [hj] at hc;injection hc with hc;subst hc;simp [Obj.isCells] at ho).trans hj
  refine (Below.heap_setCell _ _ _ _ fun e=>?_).trans h1;have e:j=B:=e;rw [e] at h1;have hB1:w1.heap[B]? =some (.cells #[v] a44 (0,0)):=hB1;rw [hB1] at h1;injection h1 with h1;subst h1;simp [Obj.isCells] at ho
 ·refine (Below.heap_setCell _ _ _ _ hX).trans ?_;exact hgrow.block j om fun e=>by have:=(hrb j e.symm).1;omega
 ·intro b vs t fl hb hX ht;refine (Below.heap_setCell _ _ _ _ hX).trans ((hgrow.block b (C2 hb) fun e=>?_).trans hb);have ⟨q1,cur,q2⟩:=hrb b e.symm;rw [hb] at q2;injection q2 with q2;injection q2 with _ q2 _;rcases ht with ht|ht
  ·omega
  ·exact ht q2
def RT.keepC {w w':World} {M M':Ms} (hk:∀b vs t fl,w.heap[b]? =some (.cells vs t fl)->¬M b->w'.heap[b]? =some (.cells vs t fl)) (hm:∀b,M' b->M b\/¬∃vs t fl,w.heap[b]? =some (.cells vs t fl))
 {x:T} {v:Value} (h:RT w M x v):RT w' M' x v:=by
 have key:∀(a:Addr) (u:Value),w.cell? a=some u->¬M a.block->w'.cell? a=some u/\¬M' a.block:=fun a u hc hM=>by
  have ⟨vs,t,fl,ho⟩:=b1t hc;refine ⟨(World.cell?_of_block ((hk _ _ _ _ ho hM).trans ho.symm)).trans hc,fun h2=>?_⟩;rcases hm _ h2 with h3|h3
  ·exact hM h3
  ·exact h3 ⟨vs,t,fl,ho⟩
 induction h with
 |atm h=>exact .atm h
 |sl f hrow hcap hmax hk1 hn hA hc hr hx ih=>exact .sl f hrow hcap hmax hk1 hn hA (fun i j c hc'=>key _ _ (hc i j c hc').1 (hc i j c hc').2) ih hx
 |ptr f hc hr ih=>exact .ptr f (fun j c hc'=>key _ _ (hc j c hc').1 (hc j c hc').2) ih
 |fn vs hl hr ih=>exact .fn vs hl ih
def bd3 {W:World} {M:Ms} {n0:Nat} {l:List XE} {v:Value} (hrow:W.ownsRow n0 tIs 1 v l.length (l.map Prod.snd)) (hM:∀b,M b->b<n0) (hx:∀x ∈ l,RT W M (w5 x.1) x.2):RT W M (b2q (l.map Prod.fst)) v:=by
 have hl:((l.map Prod.fst).map D9).length=l.length:=zq;have at1:∀i j t,at2 ((l.map Prod.fst).map D9) i j=some t->∃x,l[i]? =some x/\j=0/\t=w5 x.1:=by
  intro i j t h;unfold at2 at h;rw [lba,lba] at h;cases hx:l[i]? with
  |none=>rw [hx] at h;cases h
  |some x=>
   rw [hx] at h;cases j with
   |zero=>refine ⟨x,rfl,rfl,?_⟩;simp [D9] at h;exact h.symm
   |succ j=>simp [D9] at h
 have sz:∀r ∈ (l.map Prod.fst).map D9,r.length=1:=fun r hr=>by
  obtain ⟨x,_,rfl⟩:=lbx.1 hr;rfl
 rcases hrow.2 with ⟨rfl,h0⟩|⟨g,cap,cur,rfl,hg,hcur,hcap,hcm,hcs,htake⟩
 ·have:l=[]:=lbF h0;subst this;exact .sl (size:=1) (k:=.any) (rows:=[]) (b:=0) (off:=0) (cap:=0) (fun _ _=>undef) (fun r hr=>by cases hr) (G0 _) (G0 _) (fun h=>nomatch h) (fun h=>nomatch h) (fun h=>absurd rfl h) (fun i j c h=>by simp [at2] at h) (fun i j c h=>by simp [at2] at h)
 ·have hcell:∀i x,l[i]? =some x->W.cell? ⟨g,0+(i*1+0),none⟩=some x.2:=fun i x hxi=>by
   have jj:=(lbe.1 hxi).1;have e:(cur.toList.take (l.length*1))[i]? =some x.2:=by rw [htake,lba,hxi];rfl
   rw [lbi,iB om] at e;have e2:cur[i]? =some x.2:=by simpa using e
   simp [World.cell?,hcur,e2]
  rw [← hl];refine .sl (size:=1) (k:=.any) (b:=g) (off:=0) (fun i _=>(l[i]?.map Prod.snd).getD undef) sz om hcm (fun h=>nomatch h) (fun h=>nomatch h) (fun _=>rfl) (fun i j t h=>?_) (fun i j t h=>?_)
  ·obtain ⟨x,hxi,rfl,rfl⟩:=at1 i j t h;rw [hxi];exact ⟨hcell i x hxi,fun hm=>by have:=hM _ hm;omega⟩
  ·obtain ⟨x,hxi,rfl,rfl⟩:=at1 i j t h;rw [hxi];exact hx x (lbm hxi)
def b9Y (D:Nat):Deferred:={ target:=.collected D,args:=#[] }
def a94 {n:Nat} {P:Program} {fn:Func} {tmps:Array Value} {R:Ending->World->Prop}:∀(Ds:List Nat) (W:World),Ds.Nodup->(∀ D ∈ Ds,W.heap[D]? =some (.deferred (some [])))->
 (∀ W',W'.os=W.os->W'.tape=W.tape->W'.output=W.output->W.heap.size<=W'.heap.size->(∀ b,b ∉ Ds->W'.heap[b]? =W.heap[b]?)->LeavesIn Fence.wide n P fn tmps R [] .returning W')->
 LeavesInM Fence.wide n P fn tmps R (Ds.map b9Y) .returning W
 |[],W,_,_,h=>h W rfl rfl rfl (lbR _) fun _ _=>rfl
 |D::Ds,W,hn,hD,h=>by
  have ⟨hn1,hn2⟩:=List.nodup_cons.1 hn;have h1:=hD D zq;refine ⟨zq,.inl ⟨D,_,rfl,run_takeDeferred h1,a94 Ds _ hn2 (fun D2 h2=>?_) fun W' a1 a2 a3 a4 a5=>?_⟩⟩
  ·exact (World.putObj_heap_other (by rintro rfl;exact hn1 h2)).trans (hD D2 (by simp [h2]))
  ·refine h W' a1 a2 a3 (by have e:(W.putObj D (.deferred none)).heap.size=W.heap.size:=(by simp [World.putObj]);omega) fun b hb=>?_
   have hb:b≠D/\b ∉ Ds:=by simpa using hb
   exact (a5 b hb.2).trans (World.putObj_heap_other hb.1)
structure FI (X1:Nat) (W4:World) (outs:List XE) (outv:Value) (Ds:List Nat) (W:World):Prop where
 bel:Below X1 W4 W
 bx:Boxed W X1 a44 outv
 row:W.ownsRow (X1+1) tIs 1 outv outs.length (outs.map Prod.snd)
 ir:∀x ∈ outs,a2D (X1+1) W x.1 x.2
 nd:Ds.Nodup
 dm:∀D ∈ Ds,X1<D/\W.heap[D]? =some (.deferred (some []))
def FI.below {X1:Nat} {W4:World} {outs:List XE} {outv:Value} {Ds:List Nat} {W W':World} (h:FI X1 W4 outs outv Ds W) (hb:Below W.heap.size W W'):FI X1 W4 outs outv Ds W':=
 ⟨h.bel.trans (hb.mono (a9U h.bx.lt)),ar1 hb h.bx,b7A hb h.row,fun x hx=>(h.ir x hx).below hb,h.nd,fun D hD=>⟨(h.dm D hD).1,(hb.block D (C2 (h.dm D hD).2)).trans (h.dm D hD).2⟩⟩
structure FP (X ns:Nat) (Wh:World) (q:LI->Bool) (pre:List XE) (W:World):Prop where
 bel:Below X Wh W
 sz:ns<=W.heap.size
 pr:∃fv,Boxed W X a44 fv/\W.ownsRow ns tIs 1 fv (pre.filter fun x=>q x.1).length ((pre.filter fun x=>q x.1).map Prod.snd)
 ir:∀x ∈ pre.filter (fun x=>q x.1),a2D ns W x.1 x.2
def FP.kept {X ns:Nat} {Wh:World} {q:LI->Bool} {pre:List XE} {W W':World} (h:FP X ns Wh q pre W) (hb:Below X W W') (hk:∀(b:Nat) (vs:Array Value) (t:TypeId) (fl:Nat × Nat),W.heap[b]? =some (Obj.cells vs t fl)->W'.heap[b]? =some (Obj.cells vs t fl)):FP X ns Wh q pre W':=by
 have ⟨fv,h1,h2⟩:=h.pr;refine ⟨h.bel.trans hb,lbS h.sz hb.size,⟨fv,hk _ _ _ _ h1,h2.1,h2.2.imp id fun ⟨g,cap,cur,a1,a2,a3,a4⟩=>⟨g,cap,cur,a1,a2,hk _ _ _ _ a3,a4⟩⟩,fun x hx=>?_⟩;rcases h.ir x hx with hr|⟨g,cap,cur,a1,a2,a3,a4⟩
 ·exact .inl hr
 ·exact .inr ⟨g,cap,cur,a1,a2,hk _ _ _ _ a3,a4⟩
def aO8 {o:Obj} {vs:Array Value} {t:TypeId} {fl:Nat × Nat} (h:o=Obj.cells vs t fl):o.isCells≠false:=by subst h;simp [Obj.isCells]
def FP.own {X ns:Nat} {Wh:World} {q:LI->Bool} (hX:X<=ns):OwnFrom ns (FP X ns Wh q):=by
 intro s A B row hs hg hr;refine hs.kept ⟨hg.os,hg.tape,hg.output,hg.size,fun k hk=>hg.block k (by have:=hs.sz;omega) fun e=>by have:=(hr k e.symm).1;omega⟩ fun b vs t fl hb=>?_
 refine (hg.block b (C2 hb) fun e=>?_).trans hb;have ⟨_,o,ho,hc⟩:=hr b e.symm;rw [hb] at ho;injection ho with ho;exact aO8 ho.symm hc
section
open Go.RowKit Go.Shelf
def a7a {P:Program} {g:FuncId} {args:List S} {r:S} (h:e8 P g args [] r []) (m:Nat) {W:World} {ι:Io} {M:Ms} {vals:List Value} (hl:vals.length=args.length)
 (hv:∀j s,args[j]? =some s->RS W ι M s (vals.getD j undef)) (hMB:MB W M) (hF:a17 ι 0):
 CallsIn Fence.wide m P g vals.toArray W fun e W'=>∃v,e=.returned v/\(∃ ι',RS W' ι' M r v)/\Below W.heap.size W W':=by
 refine callsIn_wide.2 ((aU2 h hl hv hMB hF).mono ?_);rintro e W' ⟨v,rfl,⟨ι',M',h1,h2⟩,h3⟩;exact ⟨v,rfl,⟨ι',h1.keep (fun _ _ _=>rfl) (fun b hb=>.inl (h2 b hb)) (fun _ _ h=>h)⟩,h3⟩
def b5j {w:World} {ι:Io} {M:Ms} {a b:S} {v:Value} (h:RS w ι M (.tup [a,b]) v):∃x y,v=.tuple #[x,y]/\RS w ι M a x/\RS w ι M b y:=by
 cases h with
 |tup vs hl hr=>
  match vs,hl,hr with
  |[x,y],_,hr=>exact ⟨x,y,rfl,hr 0 _ rfl,hr 1 _ rfl⟩
def b2w {w:World} {ι:Io} {M:Ms} {n:Int} {v:Value} (h:RS w ι M (eI n) v):v=.int .i64 n:=aB1 h
def aV6 {w:World} {ι:Io} {M:Ms} {b:Bool} {v:Value} (h:RS w ι M (n7 b) v):v=.bool b:=aB1 h
def b4C {w:World} {ι:Io} {M:Ms} {l:LI} {v:Value} (h:RS w ι M (j7 l) v):RT w M (w5 l) v:=by
 cases h with|c h=>cases h with|t h=>exact h
def b43 {w:World} {M:Ms} {l:LI} {v:Value} (h:RT w M (w5 l) v):∃A cap,v=.slice A l.length cap/\l.length<=cap/\cap<=maxLen/\∀i x,l[i]? =some x->∃b off,A=some ⟨b,off,none⟩/\w.cell? ⟨b,off+i,none⟩=some (.int .i64 x):=by
 have ml:(l.map j3).length=l.length:=zq;generalize hrows:l.map j3=rows at h;cases h with
 |@sl _ _ _ b off cap A f hrow hcap hmax hk hn hA hc hr hx=>
  subst hrows;refine ⟨A,cap,by rw [ml],om,hmax,fun i x hi=>?_⟩;have hne:l.map j3≠[]:=by intro h;rw [List.map_eq_nil_iff] at h;subst h;simp at hi
  have h2:at2 (l.map j3) i 0=some (ti x):=by simp [at2,hi,j3]
  have h3:=(hc i 0 _ h2).1;have h4:=hr i 0 _ h2;have h5:f i 0=.int .i64 x:=by
   generalize f i 0=u at h4;cases h4 with|atm=>rfl
  refine ⟨b,off,hA hne,?_⟩;rw [show off+i=off+(i*1+0) by omega,h3,h5]
def bd8 {W:World} {ι:Io} {M:Ms} {a b:S} {x y:Value} (h1:RS W ι M a x) (h2:RS W ι M b y):∀j s,[a,b][j]? =some s->RS W ι M s ([x,y].getD j undef):=fun j s hj=>by
 match j,hj with
 |0,hj=>injection hj with hj;subst hj;exact h1
 |1,hj=>injection hj with hj;subst hj;exact h2
 |j+2,hj=>simp at hj
def bT1 {W:World} {ι:Io} {M:Ms} {a b c:S} {x y z:Value} (h1:RS W ι M a x) (h2:RS W ι M b y) (h3:RS W ι M c z):∀j s,[a,b,c][j]? =some s->RS W ι M s ([x,y,z].getD j undef):=fun j s hj=>by
 match j,hj with
 |0,hj=>injection hj with hj;subst hj;exact h1
 |1,hj=>injection hj with hj;subst hj;exact h2
 |2,hj=>injection hj with hj;subst hj;exact h3
 |j+3,hj=>simp at hj
def au8 {w W:World} {M:Ms} (h:MB w M) (hb:Below w.heap.size w W):MB W M:=fun b hm=>a6P (h b hm) hb.size
section
variable {w:World} {ι:Io} {M:Ms} {t:j9} {kind:Int} {n:Nat} {v0:Value}
def b96 (hMB:MB w M) (hF:a17 ι 0) (hE:ExP t kind n) (hn:n<=8) (h0:RS w ι M (trS t) v0) (m:Nat) {W:World} (hW:Below w.heap.size w W):
 CallsIn Fence.wide m Tryz.prog 34 #[v0,.int .i64 kind] W fun e W'=>∃lv,e=.returned (.tuple #[lv,.int .i64 0])/\RT W' M (w5 (E1 t kind n)) lv/\Below W.heap.size W W':=by
 refine (a7a (aE5 t kind n hE hn) m (vals:=[v0,.int .i64 kind]) rfl (bd8 (a4I hW h0) (.c (.t (.atm rfl)))) (au8 hMB hW) hF).mono ?_;rintro e W' ⟨v,rfl,⟨ι',hr⟩,hb⟩;obtain ⟨x,y,rfl,h1,h2⟩:=b5j hr;rw [b2w h2];exact ⟨x,rfl,b4C h1,hb⟩
def b9l (hMB:MB w M) (hF:a17 ι 0) (hE:ExP t kind n) (h0:RS w ι M (trS t) v0) (m:Nat) {W:World} (hW:Below w.heap.size w W):
 CallsIn Fence.wide m Tryz.prog 35 #[v0,.int .i64 kind] W fun e W'=>∃(A:Option Addr) (len cap:Nat),e=.returned (.tuple #[.agg #[.int .i64 (t.ev.moves.length:Int),.slice A len cap],.int .i64 0])/\RS W' (fun _=>none) M (W8 (p7 t kind)) (.agg #[.int .i64 (t.ev.moves.length:Int),.slice A len cap])/\Below W.heap.size W W':=by
 have sy:=a96 t kind hE.s;have e1:a0b t kind=0:=O6.2 ⟨hE.e,hE.k0,hE.k1⟩;have hc:¬(t5 t≠0\/kind<0\/8<=kind):=by have:=O6.1 e1;omega
 have e2:a66 t kind=p7 t kind:=iC hc;rw [e1,e2] at sy;refine (a7a sy m (vals:=[v0,.int .i64 kind]) rfl (bd8 (a4I hW h0) (.c (.t (.atm rfl)))) (au8 hMB hW) hF).mono ?_;rintro e W' ⟨v,rfl,⟨ι',hr⟩,hb⟩;obtain ⟨x,y,rfl,h1,h2⟩:=b5j hr;rw [b2w h2];cases h1 with
 |agg vs hl hq=>
  match vs,hl,hq with
  |[a,b],_,hq=>
   have g0:=hq 0 _ rfl;have g1:=hq 1 _ rfl;simp only [lb7,lb8] at g0 g1;cases g0 with|t g0=>cases g1 with|t g1=>
   cases g0 with|atm=>
   obtain ⟨A,len,cap,rfl⟩:∃(A:Option Addr) (len cap:Nat),b=.slice A len cap:=by
    cases g1 with|sl=>exact ⟨_,_,_,rfl⟩
   refine ⟨A,len,cap,rfl,?_,hb⟩;refine .agg [_,_] rfl fun j c hj=>?_
   match j,hj with
   |0,hj=>injection hj with hj;subst hj;exact .t (.atm rfl)
   |1,hj=>injection hj with hj;subst hj;exact .t g1
   |j+2,hj=>simp at hj
def b78 (hMB:MB w M) (hx:XT t kind n) (h0:RS w (fun _=>none) M (trS t) v0) (m:Nat) {W2 W:World} (hw2:Below w.heap.size w W2) {sv:Value} (hs:RS W2 (fun _=>none) M (W8 (p7 t kind)) sv) (hW:Below W2.heap.size W2 W) {set:LI} (hl:set.length<=1000) {v:Value} (hv:RT W M (w5 set) v):
 CallsIn Fence.wide m Tryz.prog 40 #[v0,sv,v] W fun e W'=>e=.returned (.bool (pX t kind n set))/\Below W.heap.size W W':=by
 have hwW:Below w.heap.size w W:=hw2.trans (hW.mono hw2.size);refine (a7a (b3t t kind n hx set om) m (vals:=[v0,sv,v]) rfl (bT1 (a4I hwW h0) (a4I hW hs) (.c (.t hv))) (au8 hMB hwW) (fun _ _=>rfl)).mono ?_;rintro e W' ⟨u,rfl,⟨ι',hr⟩,hb⟩;rw [aV6 hr];exact ⟨rfl,hb⟩
def b7O (m:Nat) {W:World} (hMB:MB W M) {outs:List XE} {outv:Value} (ho:RT W M (b2q (outs.map Prod.fst)) outv) (h1:outs.length<=1000000) (h2:∀a ∈ outs,a.1.length<=1000000) {set:LI} (hs:set.length<=1000000) {v:Value} (hv:RT W M (w5 set) v) {b:Nat} (hb:Boxed W b tIs v) (hbM:¬M b):
 CallsIn Fence.wide m Tryz.prog 37 #[outv,.func (.func 38) #[] #[.pointer (some ⟨b,0,none⟩)]] W fun e W'=>e=.returned (.bool (outs.any fun a=>D4 a.1 set))/\Below W.heap.size W W':=by
 have hc:=b6n (outs.map Prod.fst) (by simpa using h1) (fun a ha=>by obtain ⟨x,hx,rfl⟩:=lbx.1 ha;exact h2 x hx) set hs;rw [List.any_map] at hc;refine (a7a hc m (ι:=fun _=>none) (M:=M) (vals:=[outv,.func (.func 38) #[] #[.pointer (some ⟨b,0,none⟩)]]) rfl (bd8 (.c (.t ho)) (.c (.t (.fn [_] rfl fun j c hj=>?_)))) hMB (fun _ _=>rfl)).mono ?_
 ·match j,hj with
  |0,hj=>
   injection hj with hj;subst hj
   refine .ptr (b:=b) (off:=0) (fun _=>v) (fun j c hj=>?_) (fun j c hj=>?_)
   ·match j,hj with
    |0,hj=>exact ⟨hb.cell,hbM⟩
    |j+1,hj=>simp at hj
   ·match j,hj with
    |0,hj=>injection hj with hj;subst hj;exact hv
    |j+1,hj=>simp at hj
  |j+1,hj=>simp at hj
 ·rintro e W' ⟨u,rfl,⟨ι',hr⟩,hb⟩;rw [aV6 hr];exact ⟨rfl,hb⟩
end
def bW8 {w:World} {ι:Io} {M:Ms} {t:j9} {v:Value} (h:RS w ι M (trS t) v):∃a0 a1 a2 a3 a4 a5 a6 a7 a8 a9,v=.agg #[a0,a1,a2,a3,a4,a5,a6,a7,a8,a9]/\
 a0.oneCell'=true/\a1.oneCell'=true/\a2.oneCell'=true/\a3.oneCell'=true/\a4.oneCell'=true/\a5.oneCell'=true/\a6.oneCell'=true/\a7.oneCell'=true/\a8.oneCell'=true/\a9.oneCell'=true:=by
 cases h with
 |agg vs hl hr=>
  match vs,hl,hr with
  |[u0,u1,u2,u3,u4,u5,u6,u7,u8,u9],_,hr=>
   have h0:=hr 0 _ rfl;have h1:=hr 1 _ rfl;have h2:=hr 2 _ rfl;have h3:=hr 3 _ rfl;have h4:=hr 4 _ rfl;have h5:=hr 5 _ rfl;have h6:=hr 6 _ rfl;have h7:=hr 7 _ rfl;have h8:=hr 8 _ rfl;have h9:=hr 9 _ rfl;simp only [lb7,lb8] at h0 h1 h2 h3 h4 h5 h6 h7 h8 h9;exact ⟨u0,u1,u2,u3,u4,u5,u6,u7,u8,u9,rfl,h0.one,h1.one,h2.one,h3.one,h4.one,h5.one,h6.one,h7.one,h8.one,h9.one⟩
def bE0 (l:List Value) (h:l.length=68):l=(List.range 68).map fun i=>l.getD i undef:=by
 refine a16 fun i=>?_
 by_cases hi:i<68
 ·have hl:i<l.length:=by omega
  simp [hi,lbl,hl]
 ·rw [lbd om,lbd zo]
def bO8 (a:Act) (h:a.tmps.size=68) (hd:a.defers=[]):a=⟨((List.range 68).map fun i=>a.tmps.getD i undef).toArray,[]⟩:=by
 have ⟨tm,ds⟩:=a;have hd:ds=[]:=hd;subst hd
 congr 1
 have:=bE0 tm.toList (by simpa using h);have ⟨l⟩:=tm;simpa using congrArg List.toArray this
def b31 {W:World} {b l:Nat} {vs:Array Value} {t:TypeId} {fl:Nat × Nat} {o:Obj} (hb:W.heap[b]? =some (Obj.cells vs t fl)) (hl:W.heap[l]? =some o) (ho:o.isCells=false):b≠l:=by
 rintro rfl;rw [hb] at hl;injection hl with hl;exact aO8 hl.symm ho
def KpX.putObj {X ns:Nat} {W:World} {l:Nat} {o o':Obj} (hl:W.heap[l]? =some o) (ho:o.isCells=false):KpX X ns W (W.putObj l o'):=
 ⟨by simp [World.putObj],fun b vs t fl hb _ _=>(World.putObj_heap_other (b31 hb hl ho)).trans hb⟩
def bM0 {W:World} {l b:Nat} {t:TypeId} {v:Value} {o o':Obj} (hb:Boxed W b t v) (hl:W.heap[l]? =some o) (ho:o.isCells=false):Boxed (W.putObj l o') b t v:=(World.putObj_heap_other (b31 hb hl ho)).trans hb
def a2D.put {n0:Nat} {W:World} {s:LI} {v:Value} {l:Nat} {o o':Obj} (h:a2D n0 W s v) (hl:W.heap[l]? =some o) (ho:o.isCells=false):a2D n0 (W.putObj l o') s v:=by
 rcases h with hr|⟨g,cap,cur,a1,a2,a3,a4⟩
 ·exact .inl hr
 ·exact .inr ⟨g,cap,cur,a1,a2,(World.putObj_heap_other (b31 a3 hl ho)).trans a3,a4⟩
end
section
open Go.RowKit Go.Shelf
attribute [local go_sem] Oper.semAt_some
def aG5 {p:LI->Bool} {l:LI}:∀(m k:Nat),I6 p l true k≠[]->I6 p l true (k+m)=I6 p l true k
 |0,k,_=>rfl
 |m+1,k,h=>by
  have ih:=aG5 m k h;rw [show k+(m+1)=(k+m)+1 by omega,I6,iB ⟨rfl,by rw [ih];exact h⟩,ih]
def bc6 {P:Program} {w:World} {base:Nat} {t ty e:TypeId} {i:TypeInfo} {size:Nat} (ht:P.underlying t=some (.slice e)) (hi:P.info? e=some i) {v:Value} {n:Nat} {xs:List Value} (hown:w.ownsRow base e size v n xs) (c:Nat):
 (Builtin.append_ #[t,t] ty #[v,.slice none 0 c]).run P w=.ok v w:=by
 rcases hown.2 with ⟨rfl,rfl⟩|⟨g,cap,cur,rfl,_,_,hnc,_⟩
 ·simp [Builtin.append_,run_underlying ht,sizeOf,typeInfo,hi,Builtin.lenOf,Builtin.firstCells]
 ·simp [Builtin.append_,run_underlying ht,sizeOf,typeInfo,hi,Builtin.lenOf,Builtin.firstCells,hnc,storeCells]
def a7G {F:Fence} {n:Nat} {P:Program} {w:World} {ops:Array Oper} {rest:List Oper} {o:Oper} {a:Act} {Q:Exit->Act->World->Prop} (hg:o.guard=none) (s x:Operand) (t:TypeId) (hop:o.op=Op.call { callee:=Callee.builtin Builtin.append,args:=#[s,x],argTypes:=#[t,t] })
 {v:Value} {c:Nat} (hs:a.eval s=v) (hx:a.eval x=.slice none 0 c) (hrun:(Builtin.append_ #[t,t] o.type #[v,.slice none 0 c]).run P w=.ok v w) (hK:wpListIn F n P ops Q rest (a.put o.dst v) w):wpListIn F n P ops Q (o::rest) a w:=by
 refine wpListIn_plain hg fun K hK'=>?_
 unfold Oper.wpIn;refine ⟨?_,?_⟩
 ·simp [Oper.about,hop,resolve,Target.leads,Sem.run_pure]
 ·rw [Oper.semAt_plain F _ _ (by rw [hop];intro c hc';cases hc')];simp [execOp,hop,resolve,invoke,builtin,hs,hx,hrun,Result.andThen];exact hK' _ _ hK
def b5z:(Tryz.prog.info? 33).map (fun i=>(i.zero,i.size,i.bytes))=some (some (.slice none 0 0),1,24):=by kernel_rfl
def a2G {F:Fence} {n:Nat} {P:Program} {f:FuncId} {args:Array Value} {w:World} {R:Ending->World->Prop} (l:Nat) (h:CallsIn F n P f args w R):CallsIn (F.inRound l) n P f args w R:=h
def a8Q:∀(l:LI) (n:Nat),(A9 l n).length<=2 ^ l.length
 |l,0=>by simp [A9];exact Nat.one_le_two_pow
 |[],n+1=>by simp [A9]
 |x::r,n+1=>by
  have h1:=a8Q r n;have h2:=a8Q r (n+1);rw [A9,lbq,lbr,lbu,Nat.pow_succ];omega
def b3U (W:World) (o:Obj):Below W.heap.size W (W.alloc o):=(Below.refl _ W).alloc (lbR _) o
def aG9 {W:World} {b:Nat} {x y:Value} {t:TypeId} (h:W.heap[b]? =some (.cells #[x,y] t (0,0))):W.cell? ⟨b,0,none⟩=some x/\W.cell? ⟨b,1,none⟩=some y/\W.frozen? ⟨b,0,none⟩=false/\W.frozen? ⟨b,1,none⟩=false:=by
 refine ⟨?_,?_,?_,?_⟩<;>simp [World.cell?,World.frozen?,h]
def b73 {w:World} {M:Ms} (hMB:MB w M) {t:j9} {kind:Int} {n:Nat} (hE:ExP t kind n) (hx:XT t kind n) (short:Bool) {v0:Value} (h0:RS w (fun _=>none) M (trS t) v0):
 Calls Tryz.prog 22 #[v0,.int .i64 kind,.bool short] w fun e w'=>∃v,e=.returned (.tuple #[v,.int .i64 0])/\RT w' M (b2q (R8 t kind n short)) v/\Below w.heap.size w w':=by
 have hsus:=fun m W hW=>b96 (m:=m) (W:=W) hMB (fun _ _=>rfl) hE (by have:=hx.h4;omega) h0 hW
 have hsys:=fun m W hW=>b9l (m:=m) (W:=W) hMB (fun _ _=>rfl) hE h0 hW
 have hexp:=fun m W2 W hw2 sv hs hW set hl v hv=>b78 (m:=m) (W2:=W2) (W:=W) (sv:=sv) (set:=set) (v:=v) hMB hx h0 hw2 hs hW hl hv
 obtain ⟨a0,a1,a2,a3,a4,a5,a6,a7,a8,a9,rfl,o0,o1,o2,o3,o4,o5,o6,o7,o8,o9⟩:=bW8 h0;have hsl:=a2o t kind n;have hn6:=hx.h4;have hdd:∀k:Nat,(Fence.wide.depth.isSome=true->1<=k):=fun k h=>by simp [Fence.wide] at h
 refine (callsIn_wide (n:=9)).1 ?_;refine callsIn_of_wp_marks Tryz.func22 rfl trivial ?_ rfl;simp only [Tryz.ntmps22,a6J,lbu,a15,Nat.reduceAdd,Nat.reduceSub,az4,ao8,aC9,aw2,a6A,a47];obtain ⟨W0,hW0⟩:∃W0,w.alloc (.cells #[a0,a1,a2,a3,a4,a5,a6,a7,a8,a9] 32)=W0:=⟨_,rfl⟩;have b0:W0.heap[w.heap.size]? =some (.cells #[a0,a1,a2,a3,a4,a5,a6,a7,a8,a9] 32 (0,0)):=by rw [← hW0];exact World.alloc_heap_new w _
 have hB0:Below w.heap.size w W0:=by rw [← hW0];exact (Below.refl _ w).alloc (lbR _) _
 have s0:W0.heap.size=w.heap.size+1:=by rw [← hW0];simp
 have ten:∀W:World,Below W0.heap.size W0 W->W.heap[w.heap.size]? =some (.cells #[a0,a1,a2,a3,a4,a5,a6,a7,a8,a9] 32 (0,0)):=fun W hW=>(hW.block _ om).trans b0
 have cells10:∀W:World,W.heap[w.heap.size]? =some (.cells #[a0,a1,a2,a3,a4,a5,a6,a7,a8,a9] 32 (0,0))->W.cell? ⟨w.heap.size,0,none⟩=some a0/\W.cell? ⟨w.heap.size,1,none⟩=some a1/\W.cell? ⟨w.heap.size,2,none⟩=some a2/\W.cell? ⟨w.heap.size,3,none⟩=some a3/\W.cell? ⟨w.heap.size,4,none⟩=some a4/\W.cell? ⟨w.heap.size,5,none⟩=some a5/\W.cell? ⟨w.heap.size,6,none⟩=some a6/\W.cell? ⟨w.heap.size,7,none⟩=some a7/\W.cell? ⟨w.heap.size,8,none⟩=some a8/\W.cell? ⟨w.heap.size,9,none⟩=some a9:=fun W hb=>by
  refine ⟨?_,?_,?_,?_,?_,?_,?_,?_,?_,?_⟩<;>simp [World.cell?,hb]
 have ⟨c0,c1,c2,c3,c4,c5,c6,c7,c8,c9⟩:=cells10 W0 b0
 gi_wp2_with (first
  |(refine ⟨trivial,?_⟩;gi_at_call 34;(try rw [hW0]);refine (hsus _ _ hB0).mono ?_;rintro e W1 ⟨lv,rfl,hlv,hB1⟩;have ⟨d0,d1,d2,d3,d4,d5,d6,d7,d8,d9⟩:=cells10 W1 (ten W1 hB1);have hB1w:=hB0.trans (hB1.mono om))
  |(refine ⟨trivial,?_⟩;gi_at_call 35;refine (hsys _ _ hB1w).mono ?_;rintro e W2 ⟨A2,len2,cap2,rfl,hsv,hB2⟩;have g2:=aG9 (World.alloc_heap_new W2 (.cells #[.int .i64 0,.slice none 0 0] 66));have ⟨g20,g21,g22,g23⟩:=g2))
 obtain ⟨Al,capl,rfl,lc1,lc2,lrow⟩:=b43 hlv;have hB2w:Below w.heap.size w W2:=hB1w.trans (hB2.mono hB1w.size);obtain ⟨W3,hW3⟩:∃W3,W2.alloc (.cells #[.int .i64 (t.ev.moves.length:Int),.slice A2 len2 cap2] 66)=W3:=⟨_,rfl⟩;have bS3:W3.heap[W2.heap.size]? =some (.cells #[.int .i64 (t.ev.moves.length:Int),.slice A2 len2 cap2] 66 (0,0)):=by rw [← hW3];exact World.alloc_heap_new W2 _
 have hB3:Below W2.heap.size W2 W3:=by rw [← hW3];exact (Below.refl _ _).alloc (lbR _) _
 have s3:W3.heap.size=W2.heap.size+1:=by rw [← hW3];simp
 rw [hW3];have bO:=Boxed.new W3 a44 (.slice none 0 0);obtain ⟨W4,hW4⟩:∃W4,W3.alloc (.cells #[.slice none 0 0] a44)=W4:=⟨_,rfl⟩;have hB4:Below W3.heap.size W3 W4:=by rw [← hW4];exact (Below.refl _ _).alloc (lbR _) _
 have s4:W4.heap.size=W3.heap.size+1:=by rw [← hW4];simp
 rw [hW4] at bO;rw [hW4];have hB34:Below W2.heap.size W2 W4:=hB3.trans (hB4.mono om);have hB4w:Below w.heap.size w W4:=hB2w.trans (hB34.mono hB2w.size);have hs01:w.heap.size<W2.heap.size:=by have:=hB1.size;have:=hB2.size;omega
 have ten4:W4.heap[w.heap.size]? =some (.cells #[a0,a1,a2,a3,a4,a5,a6,a7,a8,a9] 32 (0,0)):=(hB34.block _ hs01).trans (ten W2 (hB1.trans (hB2.mono hB1.size)));have bS4:W4.heap[W2.heap.size]? =some (.cells #[.int .i64 (t.ev.moves.length:Int),.slice A2 len2 cap2] 66 (0,0)):=(hB4.block _ om).trans bS3;clear hW0 hW3 hW4;obtain ⟨X1,hX1⟩:∃X1,W2.heap.size+1=X1:=⟨_,rfl⟩;rw [hX1];rw [hX1] at s3;rw [s3] at bO s4 hB4;obtain ⟨b10,hb10⟩:∃b,W2.heap.size=b:=⟨_,rfl⟩;obtain ⟨b3,hb3⟩:∃b,w.heap.size=b:=⟨_,rfl⟩;rw [hb10] at bS4 ⊢;rw [hb3] at ten4 ⊢;rw [hb10,hb3] at hs01;rw [hb3] at cells10;clear bS3 s0 b0 hB0 c0 c1 c2 c3 c4 c5 c6 c7 c8 c9;refine wpIn_loop (fun a W=>∃(k:Nat) (outs:List XE) (outv:Value) (Ds:List Nat) (x13 x14 x30 x31 x32 x33 x34 x35 x36 x37 x38 x39 x40 x41 x42 x43 x44 x45 x46 x47 x48 x49 x50 x51 x52 x53 x54 x55 x56 x57 x58 x59 x60 x61 x62 x63 x64 x65 x66 x67:Value),a=⟨(Value.agg #[a0,a1,a2,a3,a4,a5,a6,a7,a8,a9]::Value.int .i64 kind::Value.bool short::Value.pointer (some ⟨b3,0,none⟩)::undef::undef::Value.slice none 0 0::Value.int .i64 0::Value.slice Al (E1 t kind n).length capl::Value.int .i64 0::Value.pointer (some ⟨b10,0,none⟩)::Value.pointer (some ⟨X1,0,none⟩)::Value.int .i64 (k:Int)::x13::x14::Value.tuple #[.slice Al (E1 t kind n).length capl,.int .i64 0]::Value.agg #[a0,a1,a2,a3,a4,a5,a6,a7,a8,a9]::Value.int .i64 kind::Value.tuple #[.slice Al (E1 t kind n).length capl,.int .i64 0]::Value.slice Al (E1 t kind n).length capl::Value.int .i64 0::Value.int .i64 0::Value.bool false::undef::Value.tuple #[.agg #[.int .i64 (t.ev.moves.length:Int),.slice A2 len2 cap2],.int .i64 0]::Value.agg #[a0,a1,a2,a3,a4,a5,a6,a7,a8,a9]::Value.int .i64 kind::Value.tuple #[.agg #[.int .i64 (t.ev.moves.length:Int),.slice A2 len2 cap2],.int .i64 0]::Value.agg #[.int .i64 (t.ev.moves.length:Int),.slice A2 len2 cap2]::Value.int .i64 0::x30::x31::x32::x33::x34::x35::x36::x37::x38::x39::x40::x41::x42::x43::x44::x45::x46::x47::x48::x49::x50::x51::x52::x53::x54::x55::x56::x57::x58::x59::x60::x61::x62::x63::x64::x65::x66::x67::[]).toArray,Ds.map b9Y⟩/\k<=(E1 t kind n).length+1/\outs.map Prod.fst=I6 (pX t kind n) (E1 t kind n) short k/\outs.length<=k*64/\(∀ a ∈ outs,a.1.length<=1000)/\FI X1 W4 outs outv Ds W) (fun a W=>(E1 t kind n).length+2 - (intOf (a.tmps.getD 12 undef)).toNat) ?start ?round
 case start=>
  refine ⟨0,[],.slice none 0 0,[],undef,undef,undef,undef,undef,undef,undef,undef,undef,undef,undef,undef,undef,undef,undef,undef,undef,undef,undef,undef,undef,undef,undef,undef,undef,undef,undef,undef,undef,undef,undef,undef,undef,undef,undef,undef,undef,undef,undef,undef,rfl,G0 _,rfl,G0 _,fun a ha=>(by cases ha),?_⟩;exact ⟨Below.refl _ _,bO,World.ownsRow_nil _ _ _ _,fun x hx=>(by cases hx),aq7,fun D hD=>(by cases hD)⟩
 case round=>
  rintro a W ⟨k,outs,outv,Ds,x13,x14,x30,x31,x32,x33,x34,x35,x36,x37,x38,x39,x40,x41,x42,x43,x44,x45,x46,x47,x48,x49,x50,x51,x52,x53,x54,x55,x56,x57,x58,x59,x60,x61,x62,x63,x64,x65,x66,x67,rfl,hk,ho,ho2,ho3,hFI⟩;obtain ⟨Ao,capo,rfl⟩:∃Ao capo,outv=.slice Ao outs.length capo:=by
   rcases hFI.row.2 with ⟨rfl,h⟩|⟨g,cap,cur,rfl,_⟩
   ·exact ⟨none,0,by rw [h]⟩
   ·exact ⟨_,_,rfl⟩
  have cO:=hFI.bx.cell;have hk64:k*64<=7*64:=lbU _ om;have hpow:∀q,(A9 (E1 t kind n) q).length<=64:=fun q=>lbS (a8Q _ q) (lbS (a86 de (show (E1 t kind n).length<=6 by omega)) de)
  by_cases hstop:k<=(E1 t kind n).length/\(short=true->outs=[])
  ·have hcase:short=false\/(short=true/\(outs.length:Int)=0):=by
    cases short with
    |false=>exact .inl rfl
    |true=>exact .inr ⟨rfl,by rw [hstop.2 rfl];rfl⟩
   have hkI:(k:Int)<=((E1 t kind n).length:Int):=by have:=hstop.1;omega
   have hnext:I6 (pX t kind n) (E1 t kind n) short (k+1)=I6 (pX t kind n) (E1 t kind n) short k++(A9 (E1 t kind n) k).filter fun s=>!((I6 (pX t kind n) (E1 t kind n) short k).any fun a=>D4 a s) && pX t kind n s:=by
    rw [I6,iC];rintro ⟨h1,h2⟩;rw [← ho,hstop.2 h1] at h2;exact h2 rfl
   rw [← ho] at hnext;rcases hcase with rfl|⟨rfl,hl0⟩
   all_goals
    gi_wp2_with (refine ⟨trivial,?_⟩;gi_at_call 36;refine (b6D 8 _ _ _ _ _).mono ?_;rintro e Wb ⟨rfl,hWb⟩)
    all_goals try omega
    try clear hl0
    clear hstop;obtain ⟨X,hX⟩:∃X,W.heap.size=X:=⟨_,rfl⟩;have hX1X:X1<X:=by have:=hFI.bx.lt;omega
    have bX:Boxed Wb X a44 (.slice none 0 0):=by
     rw [hWb,←hX];exact ((Boxed.new W a44 (.slice none 0 0)).alloc _).alloc _
    have bL:Boxed Wb (X+1) tIs (.slice Al (E1 t kind n).length capl):=by
     have:=Boxed.new (W.alloc (.cells #[.slice none 0 0] a44)) tIs (.slice Al (E1 t kind n).length capl);rw [World.size_alloc] at this;rw [hWb,←hX];exact this.alloc _
    have bN:Boxed Wb (X+2) tI (.int .i64 (k:Int)):=by
     have:=Boxed.new ((W.alloc (.cells #[.slice none 0 0] a44)).alloc (.cells #[.slice Al (E1 t kind n).length capl] tIs)) tI (.int .i64 (k:Int));rw [World.size_alloc,World.size_alloc] at this;rw [hWb,←hX];exact this
    have sb:Wb.heap.size=X+3:=by rw [hWb,←hX];simp
    have hBb:Below X W Wb:=by
     rw [hWb,←hX];exact (((Below.refl _ W).alloc (lbR _) _).alloc zq _).alloc zo _
    rw [← hWb,hX];clear hWb;have q1:∀i x,(E1 t kind n)[i]? =some x->∃b off,Al=some ⟨b,off,none⟩/\Wb.cell? ⟨b,off+i,none⟩=some (.int .i64 x)/\b<X+3/\b≠X:=fun i x hx=>by
     have ⟨b,off,h1,h2⟩:=lrow i x hx;have hb:b<W1.heap.size:=b03 h2;have z2:=hB2.size;have c1:Below W1.heap.size W1 Wb:=hB2.trans ((hB34.mono z2).trans ((hFI.bel.mono om).trans (hBb.mono om)));exact ⟨b,off,h1,(c1.cell (p:=⟨b,off+i,none⟩) hb).trans h2,om,om⟩
    refine b1b (n:=9) rfl om (gf:=63) (lb:=#[.pointer (some ⟨X+2,0,none⟩),.pointer (some ⟨X+1,0,none⟩)]) rfl trivial (enters_of Tryz.func63 zr rfl)
     (b90 (X:=X) (ns:=X+3) b68 8 om om Wb om bN bL q1 ⟨om,om,om,om,om⟩ ⟨lc1,lc2⟩) KpX.trans (fun W l o o' _ h1 h2 _=>KpX.putObj h1 h2) (Below.refl _ _) (fun _=>rfl)
     (FP X (X+3) W (fun s=>!(outs.any fun a=>D4 a.1 s) && pX t kind n s)) (by rw [sb];exact FP.own om)
     ⟨hBb,om,⟨_,bX,World.ownsRow_nil _ _ _ _⟩,fun x hx=>(by cases hx)⟩
     (fun pre x a1 W1=>a1.defers=[]/\a1.tmps.size=68/\a1.tmps.getD 3 undef=.pointer (some ⟨b3,0,none⟩)/\a1.tmps.getD 10 undef=.pointer (some ⟨b10,0,none⟩)/\a1.tmps.getD 11 undef=.pointer (some ⟨X1,0,none⟩)/\a1.tmps.getD 13 undef=.pointer (some ⟨X,0,none⟩)/\pre.length<(A9 (E1 t kind n) k).length/\
       ∃b14,a1.tmps.getD 14 undef=.pointer (some ⟨b14,0,none⟩)/\FP X (X+3) W (fun s=>!(outs.any fun a=>D4 a.1 s) && pX t kind n s) pre W1/\a2D (X+3) W1 x.1 x.2/\Boxed W1 b14 tIs x.2/\X+3<=b14/\x.1.length<=1000) ?Ab ?assign ?body ?done
    case Ab=>
     rintro pre x ac W1 l o o' hle hl hc ⟨d1,d2,d3,d10,d11,d13,jj,b14,d14,hFP,hI,hb14,hge,hsl3⟩;exact ⟨d1,d2,d3,d10,d11,d13,jj,b14,d14,(FP.own om).putObj _ hFP om hl hc,hI.put hl hc,bM0 hb14 hl hc,hge,hsl3⟩
    case assign=>
     rintro l pre ⟨s,v⟩ W1 K hFP ⟨hI,hsl3⟩ jj hK;have ⟨Av,cv,hv⟩:=a53 hI;simp only at hv hI;subst hv;have bn0:=Boxed.new W1 tIs (.slice none 0 0);have bn1:=bn0.cell;have bn2:=bn0.frozen
     gi_wp2
     have hBa:=b3U W1 (.cells #[.slice Av s.length cv] tIs);exact hK _ _ ⟨rfl,rfl,rfl,rfl,rfl,rfl,jj,W1.heap.size,rfl,hFP.kept (hBa.mono (by have:=hFP.sz;omega)) (fun b vs ty fl hb=>(hBa.block b (C2 hb)).trans hb),hI.below hBa,Boxed.new _ _ _,hFP.sz,hsl3⟩ ((KeepsOthers.alloc _ _).from _) (KpX.alloc _ _ _ _)
    case body=>
     rintro l pre ⟨s,v⟩ ac Wc ⟨d1,d2,d3,d10,d11,d13,jj,b14,d14,hFP,hI,hb14,hge,hsl3⟩;rw [bO8 ac d2 d1];simp only [List.range,List.range.loop,List.map];rw [d3,d10,d11,d13,d14];clear d1 d2 d3 d10 d11 d13 d14;generalize ac.tmps.getD 0 undef=y0;generalize ac.tmps.getD 1 undef=y1;generalize ac.tmps.getD 2 undef=y2;generalize ac.tmps.getD 4 undef=y4;generalize ac.tmps.getD 5 undef=y5;generalize ac.tmps.getD 6 undef=y6;generalize ac.tmps.getD 7 undef=y7;generalize ac.tmps.getD 8 undef=y8;generalize ac.tmps.getD 9 undef=y9;generalize ac.tmps.getD 12 undef=y12;generalize ac.tmps.getD 15 undef=y15;generalize ac.tmps.getD 16 undef=y16;generalize ac.tmps.getD 17 undef=y17;generalize ac.tmps.getD 18 undef=y18;generalize ac.tmps.getD 19 undef=y19;generalize ac.tmps.getD 20 undef=y20;generalize ac.tmps.getD 21 undef=y21;generalize ac.tmps.getD 22 undef=y22;generalize ac.tmps.getD 23 undef=y23;generalize ac.tmps.getD 24 undef=y24;generalize ac.tmps.getD 25 undef=y25;generalize ac.tmps.getD 26 undef=y26;generalize ac.tmps.getD 27 undef=y27;generalize ac.tmps.getD 28 undef=y28;generalize ac.tmps.getD 29 undef=y29;generalize ac.tmps.getD 30 undef=y30;generalize ac.tmps.getD 31 undef=y31;generalize ac.tmps.getD 32 undef=y32;generalize ac.tmps.getD 33 undef=y33;generalize ac.tmps.getD 34 undef=y34;generalize ac.tmps.getD 35 undef=y35;generalize ac.tmps.getD 36 undef=y36;generalize ac.tmps.getD 37 undef=y37;generalize ac.tmps.getD 38 undef=y38;generalize ac.tmps.getD 39 undef=y39;generalize ac.tmps.getD 40 undef=y40;generalize ac.tmps.getD 41 undef=y41;generalize ac.tmps.getD 42 undef=y42;generalize ac.tmps.getD 43 undef=y43;generalize ac.tmps.getD 44 undef=y44;generalize ac.tmps.getD 45 undef=y45;generalize ac.tmps.getD 46 undef=y46;generalize ac.tmps.getD 47 undef=y47;generalize ac.tmps.getD 48 undef=y48;generalize ac.tmps.getD 49 undef=y49;generalize ac.tmps.getD 50 undef=y50;generalize ac.tmps.getD 51 undef=y51;generalize ac.tmps.getD 52 undef=y52;generalize ac.tmps.getD 53 undef=y53;generalize ac.tmps.getD 54 undef=y54;generalize ac.tmps.getD 55 undef=y55;generalize ac.tmps.getD 56 undef=y56;generalize ac.tmps.getD 57 undef=y57;generalize ac.tmps.getD 58 undef=y58;generalize ac.tmps.getD 59 undef=y59;generalize ac.tmps.getD 60 undef=y60;generalize ac.tmps.getD 61 undef=y61;generalize ac.tmps.getD 62 undef=y62;generalize ac.tmps.getD 63 undef=y63;generalize ac.tmps.getD 64 undef=y64;generalize ac.tmps.getD 65 undef=y65;generalize ac.tmps.getD 66 undef=y66;generalize ac.tmps.getD 67 undef=y67;have ⟨Av,cv,hv⟩:=a53 hI;simp only at hv hI hb14 hsl3;subst hv;have ⟨i0,hi,hz0,hz1,hz2⟩:=info_parts b5z;have hFPb:=hFP.bel;rw [← hX] at hFPb;have hFIc:=hFI.below hFPb;rw [hX] at hFPb;have ⟨fv,hfb,hfrow⟩:=hFP.pr;have hMc:∀b,M b->b<b3:=fun b hb=>by have:=hMB b hb;omega
     have hwc:Below b3 w Wc:=by rw [← hb3];exact hB4w.trans (hFIc.bel.mono om)
     have hMBc:MB Wc M:=fun b hb=>a6P (hMB b hb) hwc.size
     have hrtO:RT Wc M (b2q (outs.map Prod.fst)) (.slice Ao outs.length capo):=bd3 hFIc.row (fun b hb=>by have:=hMc b hb;omega) fun x hx=>(hFIc.ir x hx).rt fun b hb=>by have:=hMc b hb;omega
     have hsl2:∀a ∈ outs,a.1.length<=1000000:=fun a ha=>lbS (ho3 a ha) de
     have hrtS:RT Wc M (w5 s) (.slice Av s.length cv):=hI.rt fun b hb=>by have:=hMc b hb;omega
     have hcon:=b7O 6 hMBc hrtO om hsl2 (set:=s) om hrtS hb14 (fun hb=>by have:=hMc b14 hb;omega);have e11:=hFIc.bx.cell;have e14:=hb14.cell;have hBdAll:∀Wd:World,Below Wc.heap.size Wc Wd->Below b3 w Wd/\Below W2.heap.size W2 Wd/\Wd.heap[b3]? =some (.cells #[a0,a1,a2,a3,a4,a5,a6,a7,a8,a9] 32 (0,0))/\Wd.heap[b10]? =some (.cells #[.int .i64 (t.ev.moves.length:Int),.slice A2 len2 cap2] 66 (0,0)):=fun Wd hBd=>by
      have h1:Below X1 W4 Wd:=(hFIc.below hBd).bel;refine ⟨hwc.trans (hBd.mono (by have:=hwc.size;omega)),?_,(h1.block b3 om).trans ten4,(h1.block b10 om).trans bS4⟩;rw [hb10];rw [hb10] at hB34;exact hB34.trans (h1.mono om)
     have stepFP:∀Wd:World,Below Wc.heap.size Wc Wd->FP X (X+3) W (fun s=>!(outs.any fun a=>D4 a.1 s) && pX t kind n s) pre Wd:=fun Wd hBd=>hFP.kept (hBd.mono (by have:=hFP.sz;omega)) fun b vs ty fl hb=>(hBd.block b (C2 hb)).trans hb
     have keepO:∀Wd:World,Below Wc.heap.size Wc Wd->KeepsFrom Wb.heap.size Wc Wd:=fun Wd hBd=>⟨hBd.size,fun k o _ hk _=>(hBd.block k (C2 hk)).trans hk⟩
     cases hq1:(outs.any fun a=>D4 a.1 s) with
     |true=>
      rw [hq1] at hcon;have hqf:(!(outs.any fun a=>D4 a.1 s) && pX t kind n s)=false:=by rw [hq1];rfl
      gi_wp2
      refine ⟨trivial,?_⟩;refine (a2G l hcon).mono ?_;rintro e Wd ⟨rfl,hBd⟩
      gi_wp2
      refine ⟨trivial,?_⟩
      gi_wp2
      have hf:=stepFP Wd hBd;have ⟨fv2,f1,f2⟩:=hf.pr;refine ⟨keepO Wd hBd,KpX.below hBd,hf.bel,hf.sz,⟨fv2,f1,?_⟩,?_⟩
      ·rw [a5X];simpa [hqf] using f2
      ·rw [a5X];simpa [hqf] using hf.ir
     |false=>
      rw [hq1] at hcon
      gi_wp2
      refine ⟨trivial,?_⟩;refine (a2G l hcon).mono ?_;rintro e Wd ⟨rfl,hBd⟩;have ⟨g1,g2,g3,g4⟩:=hBdAll Wd hBd;have ⟨d0,d1,d2,d3,d4,d5,d6,d7,d8,d9⟩:=cells10 Wd g3;have ⟨m0,m1,m2,m3⟩:=aG9 g4;have e14d:=(ar1 hBd hb14).cell;have hxp:=hexp 6 W2 Wd hB2w _ hsv g2 s hsl3 _ (b4C (a4I hBd (RS.c (RC.t hrtS)):RS Wd (fun _=>none) M (j7 s) _));cases hq2:pX t kind n s with
      |true=>
       rw [hq2] at hxp
       gi_wp2
       refine ⟨trivial,?_⟩;refine (a2G l hxp).mono ?_;rintro e We ⟨rfl,hBe⟩;have hBce:=hBd.trans (hBe.mono hBd.size);have hqt:(!(outs.any fun a=>D4 a.1 s) && pX t kind n s)=true:=by rw [hq1,hq2];rfl
       have hf:=stepFP We hBce;have ⟨fv2,f1,f2⟩:=hf.pr;have fc:=f1.cell;have e14e:=(ar1 hBce hb14).cell;have hcnt:(pre.filter fun x=>!(outs.any fun a=>D4 a.1 x.1) && pX t kind n x.1).length+1<=64:=by
        have h1:=lbt (fun x:XE=>!(outs.any fun a=>D4 a.1 x.1) && pX t kind n x.1) pre;have h2:=hpow k;omega
       have hml:(64:Nat)<=maxLen:=de;have hsz:=hf.sz
       gi_wp2_with (gi_at_builtin;refine wpListIn_append_own _ rfl _ _ a44 rfl (X+3) tIs i0 (.slice none 0 0) 1 24 Tryz.underlying44 hi hz0 hz1 hz2 rfl de _ _ _ rfl (f2.alloc _) ⟨We.heap.size,0,none⟩ 1 1 [.slice Av s.length cv] rfl rfl (cell_one_new _ _ _) (by simp [Value.oneCell']) om om zo ?_;intro v' w1 hown' hgrow _;obtain ⟨g',cap',rfl⟩:=ownsRow_succ hown';have ⟨hv1,hv2,hr2,hk2,hbx2,hkp2⟩:=b5X f1 f2 hsz hown' hgrow;have hc1:=hv1.cell;have hf1:=hv1.frozen)
       refine ⟨(keepO We hBce).trans (hk2.from _),(KpX.below hBce).trans hkp2,hf.bel.trans (hbx2.low om (lbR _)),lbS hsz hk2.size,⟨_,hv2,?_⟩,?_⟩
       ·rw [a5X];simpa [hqt] using hr2
       ·rw [a5X];intro x hx;rcases lbz.1 hx with hx|hx
        ·exact hkp2.irow om (hf.ir x hx)
        ·have hx:x=(s,.slice Av s.length cv):=by simpa [hqt] using hx
         subst hx;exact hkp2.irow om (hI.below hBce)
      |false=>
       rw [hq2] at hxp;have hqf:(!(outs.any fun a=>D4 a.1 s) && pX t kind n s)=false:=by rw [hq1,hq2];rfl
       gi_wp2
       refine ⟨trivial,?_⟩;refine (a2G l hxp).mono ?_;rintro e We ⟨rfl,hBe⟩;have hBce:=hBd.trans (hBe.mono hBd.size)
       gi_wp2
       have hf:=stepFP We hBce;have ⟨fv2,f1,f2⟩:=hf.pr;refine ⟨keepO We hBce,KpX.below hBce,hf.bel,hf.sz,⟨fv2,f1,?_⟩,?_⟩
       ·rw [a5X];simpa [hqf] using f2
       ·rw [a5X];simpa [hqf] using hf.ir
    case done=>
     rintro D xs Wr hD hxs hFP hdef;have hFPb:=hFP.bel;rw [← hX] at hFPb;have hFIr:=hFI.below hFPb;have ⟨i0,hi,hz0,hz1,hz2⟩:=info_parts b5z;have ⟨fv,hfb,hfrow⟩:=hFP.pr;have e11:=hFIr.bx.cell;have f11:=hFIr.bx.frozen;have eX:=hfb.cell;have hlen:(xs.filter fun x=>!(outs.any fun a=>D4 a.1 x.1) && pX t kind n x.1).length<=64:=by
      have h1:=lbt (fun x:XE=>!(outs.any fun a=>D4 a.1 x.1) && pX t kind n x.1) xs;have h2:=hpow k;have h3:=congrArg List.length hxs;rw [lbr] at h3;omega
     have hout:(outs++xs.filter fun x=>!(outs.any fun a=>D4 a.1 x.1) && pX t kind n x.1).map Prod.fst=outs.map Prod.fst++(A9 (E1 t kind n) k).filter fun s=>!((outs.map Prod.fst).any fun a=>D4 a s) && pX t kind n s:=by
      rw [lbC,←hxs,List.filter_map]
      congr 2
      refine aP3 fun x _=>?_
      show _=(!((outs.map Prod.fst).any fun a=>D4 a x.1) && pX t kind n x.1);rw [List.any_map]
      rfl
     have hlen3:∀a ∈ outs++xs.filter (fun x=>!(outs.any fun a=>D4 a.1 x.1) && pX t kind n x.1),a.1.length<=1000:=fun a ha=>by
      rcases lbz.1 ha with ha|ha
      ·exact ho3 a ha
      ·have h1:a.1 ∈ xs.map Prod.fst:=lbx.2 ⟨a,(lby.1 ha).1,rfl⟩;rw [hxs] at h1;have:=(J2.1 h1).2;omega
     have hX1r:X1+1<=Wr.heap.size:=hFIr.bx.lt;have hDs:D ∉ Ds:=fun hm=>by
      have h1:=C2 (hFI.dm D hm).2;omega
     generalize hvals:(xs.filter fun x=>!(outs.any fun a=>D4 a.1 x.1) && pX t kind n x.1)=sel at hlen hout hlen3 hfrow;have hirs:∀x ∈ sel,a2D (X+3) Wr x.1 x.2:=by rw [← hvals];exact hFP.ir
     have hml:(100000:Nat)<=maxLen:=de;have fin:∀(w1:World) (v':Value) (ac:Act),w1.ownsRow (X1+1) tIs 1 v' (outs.length+sel.length) (outs.map Prod.snd++sel.map Prod.snd)->Wr.grownBy w1 (Value.slice Ao outs.length capo).ownBlock->
      Boxed w1 X1 a44 (.slice Ao outs.length capo)/\FI X1 W4 (outs++sel) v' (D::Ds) (w1.setCell ⟨X1,0,none⟩ v'):=fun w1 v' ac hown' hgrow=>by
      have ⟨hv1,hv2,hr2,hk2,hbx2,hkp2⟩:=b6a hFIr.bx hFIr.row hX1r hown' hgrow;refine ⟨hv1,hFIr.bel.trans (hbx2.low om (lbR _)),hv2,by rw [lbq,lbC];exact hr2,fun x hx=>?_,List.nodup_cons.2 ⟨hDs,hFIr.nd⟩,fun D2 h2=>?_⟩
      ·rcases lbz.1 hx with hx|hx
       ·exact hkp2.irow om (hFIr.ir x hx)
       ·exact hkp2.irow om ((hirs x hx).mono om)
      ·rcases lbA.1 h2 with rfl|h2
       ·exact ⟨om,hk2.same _ _ hdef rfl⟩
       ·exact ⟨(hFIr.dm D2 h2).1,hk2.same _ _ (hFIr.dm D2 h2).2 rfl⟩
     rcases hfrow.2 with ⟨rfl,hsel0⟩|⟨g,capf,cur,rfl,hg1,hg2,hg3,hg4,hg5,hg6⟩
     ·have hsel:sel=[]:=lbF hsel0;subst hsel
      gi_wp2_with (gi_at_builtin;refine a7G rfl _ _ a44 rfl rfl rfl (bc6 Tryz.underlying44 hi hFIr.row _) ?_)
      have hk1:(k:Int)+1=((k+1:Nat):Int):=om;simp only [hk1];refine ⟨⟨k+1,outs++[],.slice Ao outs.length capo,D::Ds,_,_,_,_,_,_,_,_,_,_,_,_,_,_,_,_,_,_,_,_,_,_,_,_,_,_,_,_,_,_,_,_,_,_,_,_,_,_,_,_,rfl,om,?_,?_,hlen3,?_⟩,?_⟩
      ·rw [hout,hnext]
      ·rw [lbq,lbV];simp only [a15];omega
      ·exact (fin Wr _ ⟨#[],[]⟩ (by simpa using hFIr.row) (World.grownBy.refl Wr _)).2
      ·simp [intOf];omega
     ·have hgc:∀(j:Nat) (u:Value),(sel.map Prod.snd)[j]? =some u->Wr.cell? ((⟨g,0,none⟩:Addr).add j)=some u:=fun j u hj=>by
       have jj:=(lbe.1 hj).1;rw [← hg6,lbi,iB (by simp at jj;omega)] at hj;have e2:cur[j]? =some u:=by simpa using hj
       have hadd:(⟨g,0,none⟩:Addr).add j=⟨g,0+j,none⟩:=by unfold Addr.add;split<;>simp_all
       rw [hadd];simp [World.cell?,hg2,e2]
      have hone:∀u ∈ sel.map Prod.snd,u.oneCell'=true:=fun u hu=>by
       obtain ⟨x,hx,rfl⟩:=lbx.1 hu;exact (hirs x hx).one
      gi_wp2_with (gi_at_builtin;refine wpListIn_append_own _ rfl _ _ a44 rfl (X1+1) tIs i0 (.slice none 0 0) 1 24 Tryz.underlying44 hi hz0 hz1 hz2 rfl de _ _ _ rfl hFIr.row ⟨g,0,none⟩ sel.length capf (sel.map Prod.snd) rfl zq hgc hone om om hX1r ?_;intro v' w1 hown' hgrow _;obtain ⟨A',c',rfl⟩:=ba0 hown';have ⟨hv1,hFIn⟩:=fin w1 _ ⟨#[],[]⟩ hown' hgrow;have hc1:=hv1.cell;have hf1:=hv1.frozen)
      have hk1:(k:Int)+1=((k+1:Nat):Int):=om;simp only [hk1];refine ⟨⟨k+1,outs++sel,.slice A' (outs.length+sel.length) c',D::Ds,_,_,_,_,_,_,_,_,_,_,_,_,_,_,_,_,_,_,_,_,_,_,_,_,_,_,_,_,_,_,_,_,_,_,_,_,_,_,_,_,rfl,om,?_,?_,hlen3,?_⟩,?_⟩
      ·rw [hout,hnext]
      ·rw [lbq,lbV];omega
      ·exact hFIn
      ·simp [intOf];omega
  ·have hfin:outs.map Prod.fst=R8 t kind n short:=by
    rw [ho];unfold R8 aD8;by_cases hkL:k<=(E1 t kind n).length
    ·have hsh:short=true/\outs≠[]:=by
      apply a02;intro hh;exact hstop ⟨hkL,fun h1=>a02 fun h2=>hh ⟨h1,h2⟩⟩
     obtain ⟨rfl,hne⟩:=hsh;rw [show (E1 t kind n).length+1=k+((E1 t kind n).length+1 - k) by omega];exact (aG5 _ k (by rw [← ho];simpa using hne)).symm
    ·rw [show k=(E1 t kind n).length+1 by omega]
   have hgo:∀tm:Array Value,tm.getD 6 undef=.slice Ao outs.length capo->tm.getD 7 undef=.int .i64 0->LeavesInM Fence.wide 9 Tryz.prog Tryz.f22 tm (fun e w'=>∃v,e=.returned (.tuple #[v,.int .i64 0])/\RT w' M (b2q (R8 t kind n short)) v/\Below b3 w w') (Ds.map b9Y) .returning W:=fun tm h6 h7=>by
    have hrt:RT W M (b2q (outs.map Prod.fst)) (.slice Ao outs.length capo):=bd3 hFI.row (fun b hb=>by have:=hMB b hb;omega) fun x hx=>(hFI.ir x hx).rt fun b hb=>by have:=hMB b hb;omega
    refine a94 Ds W hFI.nd (fun D hD=>(hFI.dm D hD).2) fun W' z1 z2 z3 z4 z5=>?_
    refine ⟨_,results_tmp2 rfl _ _ _,_,by rw [h6,h7],?_,?_⟩
    ·rw [← hfin];refine hrt.keepC (fun b vs ty fl hb _=>?_) (fun b hb=>.inl hb);refine (z5 b fun hD=>?_).trans hb;rw [(hFI.dm b hD).2] at hb;cases hb
    ·have hBw:Below b3 w W:=by rw [← hb3];exact hB4w.trans (hFI.bel.mono (by have:=hB4w.size;omega))
     exact hBw.trans ⟨z1,z2,z3,z4,fun b hb=>z5 b fun hD=>by have:=(hFI.dm b hD).1;omega⟩
   by_cases hkL:k<=(E1 t kind n).length
   ·have hsh:short=true/\¬(outs.length:Int)=0:=by
     refine ⟨a02 fun h1=>hstop ⟨hkL,fun h2=>absurd h2 h1⟩,fun h0=>hstop ⟨hkL,fun _=>lbF om⟩⟩
    obtain ⟨rfl,hne⟩:=hsh;have hkI:(k:Int)<=((E1 t kind n).length:Int):=om
    gi_wp2
    all_goals try omega
    exact hgo _ rfl rfl
   ·have hkI:¬(k:Int)<=((E1 t kind n).length:Int):=by omega
    gi_wp2
    all_goals try omega
    all_goals first
     |exact hgo _ rfl rfl
     |(have hu:∃b,some undef=some (Value.bool b):=⟨_,by assumption⟩
       have ⟨b,hu⟩:=hu;simp [undef] at hu)
def bC8 {ι:Io} (h:a17 ι 0):ι=fun _=>none:=funext fun id=>h id (G0 _)
def bF9 (t:j9) (kind:Int) (n:Nat) (hE:ExP t kind n) (hx:XT t kind n) (short:Bool):ec 22 [trS t,eI kind,n7 short] [] (.tup [a40 (R8 t kind n short),eI 0]) []:=by
 refine ⟨⟨_,Tryz.func22,rfl,de⟩,fun w ι M vals hl hv hH hM hF=>?_⟩
 match vals,hl,hv with
 |[v0,v1,v2],_,hv=>
  have h0:=hv 0 _ rfl;have h1:=b2w (hv 1 _ rfl);have h2:=aV6 (hv 2 _ rfl);simp only [lb7,lb8] at h0 h1 h2;subst h1 h2;have hi:=bC8 hF;subst hi;refine Calls.mono (b73 hM hE hx short h0) ?_;rintro e w' ⟨v,rfl,h3,h4⟩;refine ⟨_,rfl,b0L (.tup [v,.int .i64 0] rfl fun j s hj=>?_) h4 hM hF⟩
  match j,hj with
  |0,hj=>injection hj with hj;subst hj;exact .c (.t h3)
  |1,hj=>injection hj with hj;subst hj;exact .c (.t (.atm rfl))
  |j+2,hj=>simp at hj
end
def aA7 (t:j9) (kind:Int) (hs:t.Sized) (h:a0b t kind≠0):ec 34 [trS t,eI kind] [] (.tup [j7 [],eI 1]) []:=by
 have ve:=as1 t kind hs h;refine ac Tryz.func34 ?_;conv=>whnf
 repeat' (first|refine zx ?_|apply zD<;>intro h<;>try omega)<;>conv=>whnf
 all_goals first|omega|exact n8 rz
def ae6 (t:j9) (kind:Int) (hs:t.Sized) (ht:t5 t=0) (k0:0<=kind) (k1:kind<8) (hm:t.ev.moves.length<=8) (r:Nat) (hz:H8 (p7 t kind) []=.row r):ec 34 [trS t,eI kind] [] (.tup [j7 [],eI 15]) []:=by
 have ve:=a9T t kind hs ht k0 k1 hm r hz;refine ac Tryz.func34 ?_;conv=>whnf
 repeat' (first|refine zx ?_|apply zD<;>intro<;>try omega)<;>conv=>whnf
 all_goals first|omega|exact n8 rz
def aq3 (t:j9) (kind e:Int) (he:e≠0) (hsu:ec 34 [trS t,eI kind] [] (.tup [j7 [],eI e]) []) (short:Bool):ec 22 [trS t,eI kind,n7 short] [] (.tup [a40 [],eI e]) []:=by
 refine ac Tryz.func22 ?_;conv=>whnf
 repeat' (first|refine zx ?_|apply zD<;>intro<;>try omega)<;>conv=>whnf
 all_goals first|omega|exact n8 rz
inductive XK (t:j9) (kind:Int):Prop
 |arg (h:a0b t kind≠0)
 |unsat (h:a0b t kind=0) (r:Nat) (hr:H8 (p7 t kind) []=.row r)
 |ok (n:Nat) (hE:ExP t kind n) (hx:XT t kind n)
def b5n {t:j9} {kind:Int} (hs:t.Sized) (hm:t.ev.moves.length<=8) (hh:t.ev.hhs<=6) (hf:t.finds.length<=20):XK t kind:=by
 by_cases h:a0b t kind=0
 ·have ⟨k1,k2,k3⟩:=O6.1 h;have hhs:=(a8p (H6 k1).1).2.2.1;have p:=O4 (kind:=kind) k1 hm (g:=[]) rfl (fun t ht=>by cases ht);rcases ak9 p.o.r with ho|⟨r,hr⟩
  ·exact .ok t.ev.hhs.toNat ⟨hs,k1,k2,k3,hm,om,ho⟩ ⟨hs,k1,k2,k3,hm,om,om,hf⟩
  ·exact .unsat h r hr
 ·exact .arg h
noncomputable def Y2 (t:j9) (kind:Int):Int:=open Classical in if a0b t kind≠0 then 1 else if ∃z,k7 (p7 t kind) z=true then 0 else 15
noncomputable def Y5 (t:j9) (kind:Int) (short:Bool):List LI:=open Classical in if Y2 t kind=0 then R8 t kind t.ev.hhs.toNat short else []
def a6R {t:j9} {kind:Int} (h:a0b t kind≠0):Y2 t kind=1:=by unfold Y2;rw [iB h]
def a1J {t:j9} {kind:Int} (h:a0b t kind=0) {r:Nat} (hr:H8 (p7 t kind) []=.row r):Y2 t kind=15:=by
 unfold Y2;rw [iC om,iC];rintro ⟨z,hz⟩;rw [a5i hr z] at hz;cases hz
def a7b {t:j9} {kind:Int} {n:Nat} (h:ExP t kind n):Y2 t kind=0:=by
 unfold Y2;rw [iC (by rw [O6.2 ⟨h.e,h.k0,h.k1⟩];omega),iB ⟨_,(h.vd 0).has⟩]
def a9C {t:j9} {kind:Int} {n:Nat} (h:ExP t kind n) (short:Bool):Y5 t kind short=R8 t kind n short:=by
 unfold Y5;rw [iB (a7b h)]
 congr 1
 have:=h.h;omega
def ad5 {t:j9} {kind:Int} (h:Y2 t kind≠0) (short:Bool):Y5 t kind short=[]:=by unfold Y5;rw [iC h]
def b44 (t:j9) (kind:Int) (hs:t.Sized) (hm:t.ev.moves.length<=8) (hh:t.ev.hhs<=6) (hf:t.finds.length<=20) (short:Bool):ec 22 [trS t,eI kind,n7 short] [] (.tup [a40 (Y5 t kind short),eI (Y2 t kind)]) []:=by
 rcases b5n (kind:=kind) hs hm hh hf with h|⟨h,r,hr⟩|⟨n,hE,hx⟩
 ·rw [ad5 (by rw [a6R h];decide),a6R h];exact aq3 t kind 1 de (aA7 t kind hs h) short
 ·rw [ad5 (by rw [a1J h hr];decide),a1J h hr];have ⟨k1,k2,k3⟩:=O6.1 h;exact aq3 t kind 15 de (ae6 t kind hs k1 k2 k3 hm r hr) short
 ·rw [a9C hE,a7b hE];exact bF9 t kind n hE hx short
def ar4 (t:j9) (kind:Int) (hs:t.Sized) (hm:t.ev.moves.length<=8) (hh:t.ev.hhs<=6) (hf:t.finds.length<=20):ec 13 [trS t,eI kind] [] (.tup [a40 (Y5 t kind true),eI (Y2 t kind)]) []:=by
 have fi:=b44 t kind hs hm hh hf true;generalize Y5 t kind true=L at fi;generalize Y2 t kind=E at fi;refine ac Tryz.func13 ?_;conv=>whnf
 repeat' (first|refine zx ?_|refine bl0 [4] ?_|refine bl0 [5] ?_|apply zD<;>intro<;>try omega)<;>conv=>whnf
 all_goals exact n8 rz
def a6O (bl:List Bool) (i:Nat) (x:C6) (a:List Bool):List Bool:=
 cond (a.getD x.src.toNat false) (cond x.all ((cond (bl.getD i true) a (a.set x.dst.toNat true)).set x.src.toNat false) (cond (bl.getD i true) a (a.set x.dst.toNat true))) a
def a7I (e:Ev) (bl:List Bool) (m:Nat) (d:Nat):Nat->List Bool
 |0=>(List.replicate e.places.length false).set d true
 |k+1=>match e.moves[m+1+k]? with
  |some x=>a6O bl (m+1+k) x (a7I e bl m d k)
  |none=>a7I e bl m d k
def aT1 {bl:List Bool} {i:Nat} {x:C6} {a:List Bool}:(a6O bl i x a).length=a.length:=by
 unfold a6O;cases a.getD x.src.toNat false<;>cases x.all<;>cases bl.getD i true<;>simp
def ap5 {e:Ev} {bl:List Bool} {m d:Nat}:∀k,(a7I e bl m d k).length=e.places.length
 |0=>by simp [a7I]
 |k+1=>by
  unfold a7I;split
  ·rw [aT1,ap5 k]
  ·exact ap5 k
def b6c {e:Ev} {bl:List Bool} {m d k:Nat} {x:C6} (h:e.moves[m+1+k]? =some x):a7I e bl m d (k+1)=a6O bl (m+1+k) x (a7I e bl m d k):=by
 rw [a7I,h]
def at7 (e:Ev) (bl:List Bool) (m:Int):LI:=match e.moves[m.toNat]? with
 |some x=>B7 (aQ0 e bl x.dst m.toNat) 0 e.moves
 |none=>[]
structure BQ where
 bef:LI
 que:LI
def b6v {e:Ev} {m:C6} (h:P1 e m=true):m.src≠m.dst:=by
 simp [P1] at h;exact h.1.1.1.1.1.2
def bK4:LI->LI->Bool
 |x::a,y::b=>if x=y then bK4 a b else decide (x<y)
 |_,_=>false
def bV3 (a b:LI):Bool:=if b=[]\/a.length≠b.length then decide (b=[]) || decide (a.length<b.length) else bK4 a b
def a5Z (p:LI):Int:=p.getLast?.getD 0
def a8f {p:LI} {k:Int}:a5Z (p++[k])=k:=by simp [a5Z]
def ltP (p q:LI):Prop:=p.length<q.length\/(p.length=q.length/\bK4 p q=true)
inductive Pa (fr:Int) (nxt:Int->LI):LI->Prop
 |one:Pa fr nxt [fr]
 |snoc {p:LI} {k:Int} (h:Pa fr nxt p) (hk:k ∈ nxt (a5Z p)):Pa fr nxt (p++[k])
def bS8 (ps:List LI) (k:Int):Bool:=ps.any fun q=>decide (a5Z q=k)
def bt8 (p:LI) (ps:List LI) (k:Int):List LI:=if bS8 ps k=true then ps else ps++[p++[k]]
section
variable {fr:Int} {nxt:Int->List Int}
def Pa.pos {p:LI} (h:Pa fr nxt p):0<p.length:=by cases h<;>simp
def Pa.ge (hgt:∀m k,k ∈ nxt m->m<k) {p:LI} (h:Pa fr nxt p):fr<=a5Z p:=by
 induction h with
 |one=>simp [a5Z]
 |snoc h hk ih=>rw [a8f];have:=hgt _ _ hk;omega
def bq9 (nxt:Int->LI) (ps:List LI) (p:LI):List LI:=(nxt (a5Z p)).foldl (bt8 p) ps
def bW7 (nxt:Int->LI) (ps:List LI) (b:Nat):List LI:=(ps.drop b).foldl (bq9 nxt) ps
end
def b28 {e:Ev} {bl:List Bool} (m k:Int) (h:k ∈ at7 e bl m):m<k:=by
 unfold at7 at h;split at h
 ·obtain ⟨i,z,hz,hP,rfl⟩:=a1B.1 h;simp [aQ0] at hP;omega
 ·cases h
def a9e (e:Ev) (i k:Nat):Bool:=match e.moves[i]?,e.moves[k]? with
 |some u,some v=>decide (i<k) && decide (v.src=u.dst) && a5R e u.dst i k
 |_,_=>false
def aN2 {e:Ev} {bl:List Bool} {i j:Nat}:(j:Int) ∈ at7 e bl i↔a9e e i j=true/\bl.getD j true=false:=by
 unfold at7 a9e;rw [lbY];cases hi:e.moves[i]? with
 |none=>simp
 |some u=>
  simp only;constructor
  ·intro h;have ⟨k,z,hz,hP,hk⟩:=a1B.1 h;have:k=j:=om;subst this;rw [W7] at hP;simp only [aQ0,lbN,a6X] at hP;rw [hz];exact ⟨by simp only [lbN];exact hP.1,hP.2⟩
  ·rintro ⟨h1,h2⟩;cases hj:e.moves[j]? with
   |none=>rw [hj] at h1;cases h1
   |some v=>
    rw [hj] at h1;refine a1B.2 ⟨j,v,hj,?_,om⟩;rw [W7];simp only [aQ0,lbN,a6X];simp only [lbN] at h1;exact ⟨h1,h2⟩
def b9u {e:Ev} {i j:Nat} (h:a9e e i j=true):i<j/\j<e.moves.length:=by
 unfold a9e at h;split at h
 ·rename_i u v hu hv;simp only [lbN,lbI] at h;exact ⟨h.1.1,(lbe.1 hv).1⟩
 ·cases h
def Pa.case {e:Ev} {bl:List Bool} {fr:Nat} {q:LI} (h:Pa fr (at7 e bl) q) {k:Nat} (hk:a5Z q=k):(q=[(fr:Int)]/\k=fr)\/∃(p:LI) (i:Nat),q=p++[(k:Int)]/\Pa fr (at7 e bl) p/\a5Z p=i/\fr<=i/\a9e e i k=true/\bl.getD k true=false:=by
 cases h with
 |one=>left;simp [a5Z] at hk;exact ⟨rfl,om⟩
 |@snoc p j hp hj=>
  right
  rw [a8f] at hk;subst hk;have hge:=hp.ge b28;have ⟨i,hi⟩:=a36 (show 0<=a5Z p by omega);rw [hi] at hj;have ⟨h1,h2⟩:=aN2.1 hj;exact ⟨p,i,rfl,hp,hi,om,h1,h2⟩
def aI6 {a:List Bool} {i j:Nat} {v:Bool} (h:i<a.length):(a.set i v).getD j false=if j=i then v else a.getD j false:=by
 rw [lbl,lbl];by_cases hj:j=i
 ·subst hj;rw [List.getElem?_set_self h,iB rfl];rfl
 ·rw [List.getElem?_set_ne (Ne.symm hj),iC hj]
def Rch (e:Ev) (bl:List Bool) (m v:Nat):Prop:=∃q,Pa m (at7 e bl) q/\a5Z q=(v:Int)
def Rch.self {e:Ev} {bl:List Bool} {m:Nat}:Rch e bl m m:=⟨_,.one,rfl⟩
def Rch.ge {e:Ev} {bl:List Bool} {m v:Nat} (h:Rch e bl m v):m<=v:=by
 have ⟨q,h1,h2⟩:=h;have:=h1.ge b28;omega
def Rch.step {e:Ev} {bl:List Bool} {m v k:Nat} (h:Rch e bl m v) (hs:a9e e v k=true) (hb:bl.getD k true=false):Rch e bl m k:=by
 have ⟨q,h1,h2⟩:=h;exact ⟨q++[(k:Int)],.snoc h1 (by rw [h2];exact aN2.2 ⟨hs,hb⟩),a8f⟩
def Rch.case {e:Ev} {bl:List Bool} {m k:Nat} (h:Rch e bl m k):k=m\/∃v,Rch e bl m v/\a9e e v k=true/\bl.getD k true=false:=by
 have ⟨q,h1,h2⟩:=h;rcases h1.case h2 with ⟨_,h⟩|⟨p,i,_,h4,h5,_,h7,h8⟩
 ·exact .inl h
 ·exact .inr ⟨i,⟨p,h4,h5⟩,h7,h8⟩
def a7Q (e:Ev) (bl:List Bool) (m i p:Nat):Prop:=∃(v:Nat) (u:C6),v<i/\e.moves[v]? =some u/\Rch e bl m v/\u.dst=(p:Int)/\a5R e u.dst v i=true
def a7Q.reach {e:Ev} {bl:List Bool} {m i:Nat} {x:C6} (hx:e.moves[i]? =some x) (hm:m<i) {p:Nat} (hp:x.src=(p:Int)) (hb:bl.getD i true=false):Rch e bl m i↔a7Q e bl m i p:=by
 constructor
 ·intro h;rcases h.case with h|⟨v,h1,h2,_⟩
  ·omega
  ·have h3:=b9u h2;unfold a9e at h2;split at h2
   ·rename_i u w hu hw;rw [hx] at hw;injection hw with hw;subst hw;simp only [lbN,lbI] at h2;exact ⟨v,u,h3.1,hu,h1,by rw [← h2.1.2,hp],h2.2⟩
   ·cases h2
 ·rintro ⟨v,u,h1,h2,h3,h4,h5⟩;refine h3.step ?_ hb;unfold a9e;rw [h2,hx];simp only [lbN,lbI];exact ⟨⟨h1,by rw [hp,h4]⟩,h5⟩
def aH0 {a:List Bool} {i j:Nat} (h:i<a.length):(a.set i true).getD j false=true↔j=i\/a.getD j false=true:=by
 rw [aI6 h];split
 ·rename_i hq;simp [hq]
 ·rename_i hq;simp [hq]
def b6T {a:List Bool} {i j:Nat} (h:i<a.length):(a.set i false).getD j false=true↔j≠i/\a.getD j false=true:=by
 rw [aI6 h];split
 ·rename_i hq;simp [hq]
 ·rename_i hq;simp [hq]
theorem atTo_holds {e:Ev} (h0:I4 e=0) {bl:List Bool} {m:Nat} {x0:C6} (hm:e.moves[m]? =some x0):∀k,m+1+k<=e.moves.length->∀p,(a7I e bl m x0.dst.toNat k).getD p false=true↔a7Q e bl m (m+1+k) p
 |0,_,p=>by
  have hd:=ay0 (T2 h0 (lbm hm));have hl:x0.dst.toNat<(List.replicate e.places.length false).length:=zo;rw [a7I,aH0 hl];have hr:(List.replicate e.places.length false).getD p false=false:=by simp [lbl,lbk];split<;>rfl
  rw [hr];constructor
  ·rintro (h|h)
   ·exact ⟨m,x0,om,hm,.self,om,a93⟩
   ·cases h
  ·rintro ⟨v,u,h1,h2,h3,h4,h5⟩;have:=h3.ge;obtain rfl:v=m:=om;rw [hm] at h2;injection h2 with h2;subst h2;exact .inl om
 |k+1,hk,p=>by
  have jj:m+1+k<e.moves.length:=om;obtain ⟨x,hx⟩:∃x,e.moves[m+1+k]? =some x:=⟨_,lbf jj⟩;have hmo:=T2 h0 (lbm hx);have hsr:=a1H hmo;have hdr:=ay0 hmo;have hne:=b6v hmo;have ih:=atTo_holds h0 (bl:=bl) hm k om;have hal:=ap5 (e:=e) (bl:=bl) (m:=m) (d:=x0.dst.toNat) k;have ⟨s,hs⟩:=a36 hsr.1;have ⟨d,hd⟩:=a36 hdr.1;rw [b6c hx];unfold a6O;rw [hs,hd,lbY,lbY];have hsd:s≠d:=om;have old:∀q:Nat,(∃ (v:Nat) (u:C6),v<m+1+k/\e.moves[v]? =some u/\Rch e bl m v/\u.dst=(q:Int)/\a5R e u.dst v (m+1+(k+1))=true)↔a7Q e bl m (m+1+k) q/\¬(s=q/\x.all=true):=fun q=>by
   constructor
   ·rintro ⟨v,u,h1,h2,h3,h4,h5⟩;have:=h3.ge;rw [show m+1+(k+1)=m+1+k+1 by omega,ah3 hx om,lbN] at h5;refine ⟨⟨v,u,h1,h2,h3,h4,h5.1⟩,?_⟩;rintro ⟨rfl,ha⟩;have h6:=h5.2;rw [ha,h4,hs] at h6;simp at h6
   ·rintro ⟨⟨v,u,h1,h2,h3,h4,h5⟩,h6⟩;refine ⟨v,u,h1,h2,h3,h4,?_⟩;rw [show m+1+(k+1)=m+1+k+1 by omega,ah3 hx om,h5,P5];cases ha:x.all with
    |false=>simp
    |true=>
     have:¬s=q:=fun h=>h6 ⟨h,ha⟩
     simp [hs,h4];omega
  have new:∀q:Nat,a7Q e bl m (m+1+(k+1)) q↔(a7Q e bl m (m+1+k) q/\¬(s=q/\x.all=true))\/(d=q/\Rch e bl m (m+1+k)):=fun q=>by
   rw [← old q];constructor
   ·rintro ⟨v,u,h1,h2,h3,h4,h5⟩;by_cases hv:v=m+1+k
    ·subst hv;rw [hx] at h2;injection h2 with h2;subst h2;exact .inr ⟨om,h3⟩
    ·exact .inl ⟨v,u,om,h2,h3,h4,h5⟩
   ·rintro (⟨v,u,h1,h2,h3,h4,h5⟩|⟨rfl,h⟩)
    ·exact ⟨v,u,om,h2,h3,h4,h5⟩
    ·exact ⟨m+1+k,x,om,hx,h,hd,a93⟩
  have hrch:Rch e bl m (m+1+k)↔(a7I e bl m x0.dst.toNat k).getD s false=true/\bl.getD (m+1+k) true=false:=by
   constructor
   ·intro h;have hb:bl.getD (m+1+k) true=false:=by
     rcases h.case with h'|⟨v,_,_,h'⟩
     ·omega
     ·exact h'
    exact ⟨(ih s).2 ((a7Q.reach hx om hs hb).1 h),hb⟩
   ·rintro ⟨h1,h2⟩;exact (a7Q.reach hx om hs h2).2 ((ih s).1 h1)
  rw [new p];cases ha:(a7I e bl m x0.dst.toNat k).getD s false with
  |false=>
   rw [cond_false];have hnr:¬Rch e bl m (m+1+k):=fun h=>by have:=(hrch.1 h).1;rw [ha] at this;cases this
   have hnh:¬a7Q e bl m (m+1+k) s:=fun h=>by have:=(ih s).2 h;rw [ha] at this;cases this
   rw [ih p];constructor
   ·intro h;exact .inl ⟨h,fun hq=>hnh (hq.1 ▸ h)⟩
   ·rintro (h|h)
    ·exact h.1
    ·exact absurd h.2 hnr
  |true=>
   rw [cond_true];have hr2:Rch e bl m (m+1+k)↔bl.getD (m+1+k) true=false:=by rw [hrch,ha];simp
   have h1:∀q:Nat,(cond (bl.getD (m+1+k) true) (a7I e bl m x0.dst.toNat k) ((a7I e bl m x0.dst.toNat k).set d true)).getD q false=true↔a7Q e bl m (m+1+k) q\/(d=q/\Rch e bl m (m+1+k)):=fun q=>by
    rw [hr2];cases hb:bl.getD (m+1+k) true with
    |true=>rw [cond_true,ih q];simp
    |false=>
     rw [cond_false,aH0 (by rw [hal];omega),ih q];constructor
     ·rintro (h|h)
      ·exact .inr ⟨h.symm,rfl⟩
      ·exact .inl h
     ·rintro (h|h)
      ·exact .inr h
      ·exact .inl h.1.symm
   have hlen:(cond (bl.getD (m+1+k) true) (a7I e bl m x0.dst.toNat k) ((a7I e bl m x0.dst.toNat k).set d true)).length=e.places.length:=by
    cases bl.getD (m+1+k) true<;>simp [hal]
   cases hall:x.all with
   |false=>
    rw [cond_false,h1 p];simp
   |true=>
    rw [cond_true,b6T (by rw [hlen];omega),h1 p];constructor
    ·rintro ⟨h2,h3|h3⟩
     ·exact .inl ⟨h3,fun h=>h2 h.1.symm⟩
     ·exact .inr h3
    ·rintro (⟨h2,h3⟩|⟨h2,h3⟩)
     ·exact ⟨fun h=>h3 ⟨h.symm,rfl⟩,.inl h2⟩
     ·exact ⟨om,.inr ⟨h2,h3⟩⟩
def aw7 {p q:LI->Bool} {l:LI} {short:Bool} (h:∀s,s.Sublist l->p s=q s):∀n,I6 p l short n=I6 q l short n
 |0=>rfl
 |n+1=>by
  rw [I6,I6,aw7 h n];have:(A9 l n).filter (fun s=>!((I6 q l short n).any fun a=>D4 a s) && p s)=(A9 l n).filter (fun s=>!((I6 q l short n).any fun a=>D4 a s) && q s):=by
   refine aP3 fun s hs=>?_
   rw [h s (J2.1 hs).1]
  rw [this]
def exq (gs:List LI) (s:LI):Bool:=gs.any fun g=>D4 g s
def bP0 (l:LI) (gs bs:List LI):Bool:=(List.range (l.length+1)).all fun k=>(A9 l k).all fun s=>exq gs s || bs.any fun b=>D4 s b
def a8a {t:j9} {kind:Int} {n:Nat} {l:LI} {gs bs:List LI} {short:Bool} {out:List LI} (hl:E1 t kind n=l)
 (hg:∀g ∈ gs,pX t kind n g=true) (hb:∀b ∈ bs,pX t kind n b=false) (hc:bP0 l gs bs=true) (ho:aD8 (exq gs) l short=out):R8 t kind n short=out:=by
 rw [← ho];unfold R8 aD8;rw [hl];refine aw7 (fun s hs=>?_) _;have h1:=lbv.1 hc s.length (lbB.2 (by have:=hs.length_le;omega));have h2:=lbv.1 h1 s (J2.2 ⟨hs,rfl⟩);cases hq:exq gs s with
 |true=>
  have ⟨g,hgm,hp⟩:=lbw.1 hq;exact b5d (a4r.1 hp) (hg g hgm)
 |false=>
  rw [hq,a8C] at h2;have ⟨b,hbm,hp⟩:=lbw.1 h2;rw [← lbQ];intro hps;have:=b5d (a4r.1 hp) hps;rw [hb b hbm] at this;cases this
def a4b {t:j9} {kind:Int} {n:Nat} (h:XT t kind n) {set:LI} (z:List Rat) (hz:k7 (a2e t kind n set) z=true):pX t kind n set=true:=(h.expl set).2 ⟨z,hz⟩
def ag8 {t:j9} {kind:Int} {n:Nat} (h:XT t kind n) {set:LI} (Y:List Rat) (hY:bH3 (a2e t kind n set) Y=true):pX t kind n set=false:=by
 rw [← lbQ];intro hp;have ⟨z,hz⟩:=(h.expl set).1 hp;rw [b0X (h.right set) hY z] at hz;cases hz
def a5l {t:j9} {kind:Int} {n:Nat} (h:ExP t kind n) (out:List Bool) (zs Ys:Nat->List Rat)
 (hc:∀i,i<n->if out.getD i false=true then k7 (p7 t kind) (zs i)=true/\0<n9 (I1 t (i:Int)) (zs i) else b8p (p7 t kind) (E8 (I1 t (i:Int))) (Ys i)=true/\b72 (p7 t kind) (yN (Ys i))=0):
 E1 t kind n=((List.range n).filter fun i=>out.getD i false).map fun i=>((i:Nat):Int):=by
 unfold E1
 congr 1
 refine aP3 fun i hi=>?_
 have hi:=lbB.1 hi;have hh:=hc i hi;have hv:=h.vd (i:Int);cases ho:out.getD i false with
 |true=>
  rw [iB ho] at hh;refine lbH fun h0=>?_
  rw [az6 h h0 hh.1] at hh;exact absurd hh.2 zk
 |false=>
  rw [iC (by rw [ho];decide)] at hh;refine lbJ fun h0=>h0 ?_
  refine b9L h i fun z hz=>?_
  have h1:=b6B hv.r hv.g hh.1 hh.2 hz;have h2:=hv.pos hz;grind
def exX (a b c:Int) (f:List Q4) (cl:List H5):j9:=⟨⟨1,3,0,[⟨0,0,0⟩,⟨0,1,0⟩,⟨0,2,0⟩,⟨1,-1,-1⟩,⟨5,-1,-1⟩],[⟨a,0,3,-1,0,false⟩,⟨a,1,3,-1,0,false⟩,⟨b,3,4,-1,0,true⟩,⟨c,2,3,-1,0,false⟩],[],[],[]⟩,f,cl⟩
def E6 (f:List Q4) (cl:List H5):j9:=exX 0 0 0 f cl
def ab9 (a b c:Int) (f:List Q4) (cl:List H5) (h1:f.length<=20) (h2:cl.length<=20):(exX a b c f cl).Sized:=⟨⟨by simp [exX],by simp [exX],by simp [exX],by simp [exX],by simp [exX]⟩,by simp [exX];omega,by simp [exX];omega⟩
def at4 {a b c:Int} {f:List Q4} {cl:List H5} {kind:Int} (h1:f.length<=20) (h2:cl.length<=20) (he:t5 (exX a b c f cl)=0) (k0:0<=kind) (k1:kind<8):XT (exX a b c f cl) kind 3:=
 ⟨ab9 a b c f cl h1 h2,he,k0,k1,by simp [exX],by simp [exX],de,h1⟩
def aj3 {a b c:Int} {f:List Q4} {cl:List H5} {kind:Int} (h1:f.length<=20) (h2:cl.length<=20) (he:t5 (exX a b c f cl)=0) (k0:0<=kind) (k1:kind<8) {z:List Rat} (hz:k7 (p7 (exX a b c f cl) kind) z=true):ExP (exX a b c f cl) kind 3:=
 ⟨ab9 a b c f cl h1 h2,he,k0,k1,by simp [exX],by simp [exX],bm8 he (by simp [exX]) hz⟩
def fX:Q4:=⟨2,0,5⟩
def zXR (l:LI):List Rat:=l.map fun x=>((x:Int):Rat)
def b7y:t5 (E6 [fX] [])=0:=by decide +kernel
def bL5:ExP (E6 [fX] []) 0 3:=aj3 de de b7y de de (z:=zXR [5,0,5,0]) zk
def b4W:t5 (E6 [fX,⟨0,0,1⟩] [])=0:=by decide +kernel
def b58:XT (E6 [fX,⟨0,0,1⟩] []) 0 3:=at4 de de b4W de de
def b4H:ExP (E6 [fX,⟨0,0,1⟩] []) 0 3:=aj3 de de b4W de de (z:=zXR [5,0,5,0]) zk
def bu3:E1 (E6 [fX,⟨0,0,1⟩] []) 0 3=[0,1,2]:=by
 rw [a5l b4H [true,true,true] (fun i=>if i=0 then zXR [5,0,5,0] else if i=1 then zXR [1,4,5,0] else if i=2 then zXR [5,0,5,1] else []) (fun i=>[]) zk]
 rfl
def b9F:pX (E6 [fX,⟨0,0,1⟩] []) 0 3 [0]=true:=a4b b58 (zXR [5,0,5,0]) zk
def b7g:pX (E6 [fX,⟨0,0,1⟩] []) 0 3 [1,2]=false:=ag8 b58 (zXR [1,0,0,-1]) zk
def bg5 (short:Bool):R8 (E6 [fX,⟨0,0,1⟩] []) 0 3 short=[[0]]:=by
 refine a8a bu3 (gs:=[[0]]) (bs:=[[1,2]]) (fun g hg=>?_) (fun b hb=>?_) zk (by cases short<;>decide +kernel)
 ·have hg:g=[0]:=by simpa using hg
  rcases hg with rfl
  ·exact b9F
 ·have hb:b=[1,2]:=by simpa using hb
  rcases hb with rfl
  ·exact b7g
def b52:t5 (E6 [fX] [⟨0,0⟩])=0:=by decide +kernel
def b4f:XT (E6 [fX] [⟨0,0⟩]) 0 3:=at4 de de b52 de de
def b4x:ExP (E6 [fX] [⟨0,0⟩]) 0 3:=aj3 de de b52 de de (z:=zXR [0,5,5,0]) zk
def bl6:E1 (E6 [fX] [⟨0,0⟩]) 0 3=[1,2]:=by
 rw [a5l b4x [false,true,true] (fun i=>if i=1 then zXR [0,5,5,0] else if i=2 then zXR [0,5,5,1] else []) (fun i=>if i=0 then zXR [-1,0,0] else []) zk]
 rfl
def bc4:pX (E6 [fX] [⟨0,0⟩]) 0 3 [1]=true:=a4b b4f (zXR [0,5,5,0]) zk
def b8A:pX (E6 [fX] [⟨0,0⟩]) 0 3 [2]=false:=ag8 b4f (zXR [-1,1,1,0,-1]) zk
def bo6 (short:Bool):R8 (E6 [fX] [⟨0,0⟩]) 0 3 short=[[1]]:=by
 refine a8a bl6 (gs:=[[1]]) (bs:=[[2]]) (fun g hg=>?_) (fun b hb=>?_) zk (by cases short<;>decide +kernel)
 ·have hg:g=[1]:=by simpa using hg
  rcases hg with rfl
  ·exact bc4
 ·have hb:b=[2]:=by simpa using hb
  rcases hb with rfl
  ·exact b8A
def b4O:t5 (E6 [fX,⟨1,0,1⟩] [])=0:=by decide +kernel
def b4j:XT (E6 [fX,⟨1,0,1⟩] []) 0 3:=at4 de de b4O de de
def b4T:ExP (E6 [fX,⟨1,0,1⟩] []) 0 3:=aj3 de de b4O de de (z:=zXR [4,1,5,0]) zk
def bj5:E1 (E6 [fX,⟨1,0,1⟩] []) 0 3=[0,1,2]:=by
 rw [a5l b4T [true,true,true] (fun i=>if i=0 then zXR [4,1,5,0] else if i=1 then zXR [0,5,5,0] else if i=2 then zXR [0,5,5,1] else []) (fun i=>[]) zk]
 rfl
def b7c:pX (E6 [fX,⟨1,0,1⟩] []) 0 3 [1]=true:=a4b b4j (zXR [0,5,5,0]) zk
def bb5:pX (E6 [fX,⟨1,0,1⟩] []) 0 3 [0,2]=false:=ag8 b4j (zXR [1,0,0,-1]) zk
def bn9 (short:Bool):R8 (E6 [fX,⟨1,0,1⟩] []) 0 3 short=[[1]]:=by
 refine a8a bj5 (gs:=[[1]]) (bs:=[[0,2]]) (fun g hg=>?_) (fun b hb=>?_) zk (by cases short<;>decide +kernel)
 ·have hg:g=[1]:=by simpa using hg
  rcases hg with rfl
  ·exact b7c
 ·have hb:b=[0,2]:=by simpa using hb
  rcases hb with rfl
  ·exact bb5
def b5h:t5 (E6 [fX] [⟨1,0⟩])=0:=by decide +kernel
def b4N:XT (E6 [fX] [⟨1,0⟩]) 0 3:=at4 de de b5h de de
def b4u:ExP (E6 [fX] [⟨1,0⟩]) 0 3:=aj3 de de b5h de de (z:=zXR [5,0,5,0]) zk
def bj2:E1 (E6 [fX] [⟨1,0⟩]) 0 3=[0,2]:=by
 rw [a5l b4u [true,false,true] (fun i=>if i=0 then zXR [5,0,5,0] else if i=2 then zXR [5,0,5,1] else []) (fun i=>if i=1 then zXR [-1,0,0] else []) zk]
 rfl
def b9D:pX (E6 [fX] [⟨1,0⟩]) 0 3 [0]=true:=a4b b4N (zXR [5,0,5,0]) zk
def b8G:pX (E6 [fX] [⟨1,0⟩]) 0 3 [2]=false:=ag8 b4N (zXR [-1,1,1,-1,0]) zk
def bp2 (short:Bool):R8 (E6 [fX] [⟨1,0⟩]) 0 3 short=[[0]]:=by
 refine a8a bj2 (gs:=[[0]]) (bs:=[[2]]) (fun g hg=>?_) (fun b hb=>?_) zk (by cases short<;>decide +kernel)
 ·have hg:g=[0]:=by simpa using hg
  rcases hg with rfl
  ·exact b9D
 ·have hb:b=[2]:=by simpa using hb
  rcases hb with rfl
  ·exact b8G
def b4R:t5 (E6 [fX,⟨2,0,1⟩] [])=0:=by decide +kernel
def aV0:XT (E6 [fX,⟨2,0,1⟩] []) 0 3:=at4 de de b4R de de
def b4m:ExP (E6 [fX,⟨2,0,1⟩] []) 0 3:=aj3 de de b4R de de (z:=zXR [5,0,5,0]) zk
def br1:E1 (E6 [fX,⟨2,0,1⟩] []) 0 3=[0,1,2]:=by
 rw [a5l b4m [true,true,true] (fun i=>if i=0 then zXR [5,0,5,0] else if i=1 then zXR [0,5,5,0] else if i=2 then zXR [5,0,5,1] else []) (fun i=>[]) zk]
 rfl
def b9c:pX (E6 [fX,⟨2,0,1⟩] []) 0 3 [0]=true:=a4b aV0 (zXR [5,0,5,0]) zk
def bf3:pX (E6 [fX,⟨2,0,1⟩] []) 0 3 [1]=true:=a4b aV0 (zXR [0,5,5,0]) zk
def b8g:pX (E6 [fX,⟨2,0,1⟩] []) 0 3 [2]=false:=ag8 aV0 (zXR [1,1,0,-1,-1]) zk
def bm2 (short:Bool):R8 (E6 [fX,⟨2,0,1⟩] []) 0 3 short=[[0],[1]]:=by
 refine a8a br1 (gs:=[[0],[1]]) (bs:=[[2]]) (fun g hg=>?_) (fun b hb=>?_) zk (by cases short<;>decide +kernel)
 ·have hg:g=[0]\/g=[1]:=by simpa using hg
  rcases hg with rfl|rfl
  ·exact b9c
  ·exact bf3
 ·have hb:b=[2]:=by simpa using hb
  rcases hb with rfl
  ·exact b8g
def b5w:t5 (E6 [fX,⟨3,0,1⟩] [])=0:=by decide +kernel
def an2:XT (E6 [fX,⟨3,0,1⟩] []) 0 3:=at4 de de b5w de de
def b5c:ExP (E6 [fX,⟨3,0,1⟩] []) 0 3:=aj3 de de b5w de de (z:=zXR [5,0,5,1]) zk
def bt5:E1 (E6 [fX,⟨3,0,1⟩] []) 0 3=[0,1,2]:=by
 rw [a5l b5c [true,true,true] (fun i=>if i=0 then zXR [5,0,5,1] else if i=1 then zXR [0,5,5,1] else if i=2 then zXR [5,0,5,1] else []) (fun i=>[]) zk]
 rfl
def b7f:pX (E6 [fX,⟨3,0,1⟩] []) 0 3 [0,2]=true:=a4b an2 (zXR [5,0,5,1]) zk
def b9d:pX (E6 [fX,⟨3,0,1⟩] []) 0 3 [1,2]=true:=a4b an2 (zXR [0,5,5,1]) zk
def b87:pX (E6 [fX,⟨3,0,1⟩] []) 0 3 [0,1]=false:=ag8 an2 (zXR [0,0,1,-1]) zk
def b9v:pX (E6 [fX,⟨3,0,1⟩] []) 0 3 [2]=false:=ag8 an2 (zXR [1,1,0,-1,-1]) zk
def bx9 (short:Bool):R8 (E6 [fX,⟨3,0,1⟩] []) 0 3 short=[[0,2],[1,2]]:=by
 refine a8a bt5 (gs:=[[0,2],[1,2]]) (bs:=[[0,1],[2]]) (fun g hg=>?_) (fun b hb=>?_) zk (by cases short<;>decide +kernel)
 ·have hg:g=[0,2]\/g=[1,2]:=by simpa using hg
  rcases hg with rfl|rfl
  ·exact b7f
  ·exact b9d
 ·have hb:b=[0,1]\/b=[2]:=by simpa using hb
  rcases hb with rfl|rfl
  ·exact b87
  ·exact b9v
def b5F:t5 (E6 [fX] [⟨3,0⟩])=0:=by decide +kernel
def aT7:XT (E6 [fX] [⟨3,0⟩]) 0 3:=at4 de de b5F de de
def b5I:ExP (E6 [fX] [⟨3,0⟩]) 0 3:=aj3 de de b5F de de (z:=zXR [5,0,5,0]) zk
def bv1:E1 (E6 [fX] [⟨3,0⟩]) 0 3=[0,1]:=by
 rw [a5l b5I [true,true,false] (fun i=>if i=0 then zXR [5,0,5,0] else if i=1 then zXR [0,5,5,0] else []) (fun i=>if i=2 then zXR [0,0,-1] else []) zk]
 rfl
def b8O:pX (E6 [fX] [⟨3,0⟩]) 0 3 [0]=true:=a4b aT7 (zXR [5,0,5,0]) zk
def bc0:pX (E6 [fX] [⟨3,0⟩]) 0 3 [1]=true:=a4b aT7 (zXR [0,5,5,0]) zk
def b7W:pX (E6 [fX] [⟨3,0⟩]) 0 3 []=false:=ag8 aT7 (zXR [1,1,0,-1,-1,0]) zk
def bj0 (short:Bool):R8 (E6 [fX] [⟨3,0⟩]) 0 3 short=[[0],[1]]:=by
 refine a8a bv1 (gs:=[[0],[1]]) (bs:=[[]]) (fun g hg=>?_) (fun b hb=>?_) zk (by cases short<;>decide +kernel)
 ·have hg:g=[0]\/g=[1]:=by simpa using hg
  rcases hg with rfl|rfl
  ·exact b8O
  ·exact bc0
 ·have hb:b=[]:=by simpa using hb
  rcases hb with rfl
  ·exact b7W
def b5e:t5 (E6 [fX] [⟨2,0⟩])=0:=by decide +kernel
def bg7 (z:List Rat):k7 (p7 (E6 [fX] [⟨2,0⟩]) 0) z=false:=b0X (a1M de de de) (Y:=zXR [0,1,-1]) zk z
def be0 (l:LI) (n:Int) (hl:l.length<=1000000):ec 77 [j7 l,eI n] [] (n7 (U8 l n)) []:=by
 have m1:(l.map j3).length=l.length:=zq;unfold U8;refine ac Tryz.func77 ?_;conv=>whnf
 repeat' (first|refine zx ?_|apply zD<;>intro<;>try omega)<;>conv=>whnf
 refine k6 g8 (fun k=>([j7 l,eI n,J,J,J,eI k]++Jn 12,[])) l.length (fun k=>(l.take k).any (fun x=>decide (x=n))=false) [] zq
  rz ?_
 intro k hk hI;by_cases jj:k<l.length
 ·have ⟨x,hx⟩:=iA jj;by_cases hxn:x=n
  ·have e:l.any (fun x=>decide (x=n))=true:=lbw.2 ⟨x,lbm hx,lbH hxn⟩;rw [e];conv=>whnf
   repeat' (first|refine zx ?_|refine j4 hx ?_|apply zD<;>intro<;>try omega)<;>conv=>whnf
   all_goals first|omega|exact j6 rfl
  ·conv=>whnf
   repeat' (first|refine zx ?_|refine j4 hx ?_|apply zD<;>intro<;>try omega)<;>conv=>whnf
   all_goals first|omega|exact ⟨jj,by rw [aa5 hx,List.any_append,hI];simp [hxn],[],rz⟩
 ·have hke:k=l.length:=by omega
  subst hke;rw [lbn (lbR _)] at hI;rw [hI];conv=>whnf
  repeat' (first|refine zx ?_|apply zD<;>intro<;>try omega)<;>conv=>whnf
  all_goals first|omega|exact j6 rfl
def bo2 (a b:LI) (ha:a.length<=1000000) (hb:b.length<=1000000):ec 47 [j7 a,j7 b] [] (n7 (D4 a b)) []:=by
 have m1:(a.map j3).length=a.length:=zq;refine ac Tryz.func47 ?_;conv=>whnf
 repeat' (first|refine zx ?_|apply zD<;>intro h<;>try omega)<;>conv=>whnf
 refine k6 g8 (fun k=>([j7 a,j7 b,J,J,J,eI k]++Jn 13,[])) a.length (fun k=>(a.take k).all (fun x=>U8 b x)=true) [] zq
  rz ?_
 intro k hk hI;by_cases jj:k<a.length
 ·have ⟨x,hx⟩:=iA jj;have hs:=be0 b x hb;cases hq:U8 b x with
  |false=>
   have e:D4 a b=false:=by
    rw [← lbQ];intro h;unfold D4 at h;have:=lbv.1 h x (lbm hx);unfold U8 at hq;rw [hq] at this;cases this
   rw [e];rw [hq] at hs;conv=>whnf
   repeat' (first|refine zx ?_|refine j4 hx ?_|apply zD<;>intro h<;>try omega)<;>conv=>whnf
   all_goals first
    |omega
    |exact j6 rfl
  |true=>
   rw [hq] at hs;conv=>whnf
   repeat' (first|refine zx ?_|refine j4 hx ?_|apply zD<;>intro h<;>try omega)<;>conv=>whnf
   all_goals first|omega|exact ⟨jj,by rw [aa5 hx,a0z,hI];simp [hq],[],rz⟩
 ·have hke:k=a.length:=by omega
  subst hke;rw [lbn (lbR _)] at hI;have e:D4 a b=true:=hI;rw [e];conv=>whnf
  repeat' (first|refine zx ?_|apply zD<;>intro h<;>try omega)<;>conv=>whnf
  all_goals first|omega|exact j6 rfl
def a9u (t:j9) (m:Int):Bool:=a5O t m && decide (t.ev.hhs<=3)
def b9U (t:j9) (m:Int):ec 5 [trS t,eI m] [] (n7 (a9u t m)) []:=by
 have r:=b9Q t m;unfold a9u;cases hq:a5O t m<;>rw [hq] at r<;>
 ·refine ac Tryz.func5 ?_;conv=>whnf
  repeat' (first|refine zx ?_|apply zD<;>intro<;>try omega)<;>conv=>whnf
  all_goals
   refine j6 ?_;first|rfl|(symm;simp only [P5,lbI];omega)|(symm;rw [← lbQ];simp only [P5,lbI];omega)
def aD9 {t:j9} {m:Int} (hm:m<=8) (h:a9u t m=true):t.Sized/\t.ev.moves.length<=8/\t.ev.hhs<=3/\t.finds.length<=6/\t.cleans.length<=6:=by
 unfold a9u at h;rw [lbN] at h;have ⟨h,h3⟩:=h;have h3:=lbL h3;have ⟨s1,s2,s3⟩:=aF7 om h;unfold a5O at h;simp only [lbN,lbI] at h;exact ⟨s1,om,h3,h.1.2,h.2⟩
def aO7 {n:Int}:∀{a:Int} {l:LI},Q1 n a l=true->a<=l.getLastD a
 |a,[],_=>zq
 |a,h::r,hh=>by
  rw [Q1] at hh;simp only [lbN,lbI] at hh;have ih:=aO7 (a:=h) (l:=r) hh.2;have:(h::r).getLastD a=r.getLastD h:=by cases r<;>rfl
  rw [this];omega
def b8T (e:Ev) (set:LI) (hl:set.length<=1000000):ec 78 [evS e,j7 set] [] (n7 (a4T e.hhs set)) []:=by
 have m1:(set.map j3).length=set.length:=zq
 (refine ac Tryz.func78 ?_;(conv=>whnf);repeat ((first|refine b0x ?_|refine zy ?_);conv=>whnf))
 repeat' (first|refine zx ?_|apply zD<;>intro h<;>try omega)<;>conv=>whnf
 refine k6 g8 (fun k=>([J,j7 set,S.c (C.t (T.ptr (evT e))),J,J,eI k]++Jn 37,[])) set.length (fun k=>Q1 e.hhs (-1) (set.take k)=true) [] (by simp [Q1])
  ⟨rfl,rfl,trivial,⟨rfl,m9 rfl,g9 rfl,trivial⟩⟩ ?_
 intro k hk hI;by_cases jj:k<set.length
 ·have ⟨x,hx⟩:=iA jj;have hs:=N0 hx;have hn:Q1 e.hhs (-1) (set.take (k+1))=(decide ((set.take k).getLastD (-1)<x) && decide (x<e.hhs)):=by rw [hs,ah2,hI,P5]
  have hla:=aO7 hI;have hxk:∀{K:List T->Prop},K (j3 x)->∃row,0<=(k:Int)/\(set.map j3)[(k:Int).toNat]? =some row/\K row:=fun h=>⟨_,om,by rw [show (k:Int).toNat=k by omega,lba,hx];rfl,h⟩
  by_cases hk0:k=0
  ·subst hk0;have hla0:(set.take 0).getLastD (-1)=-1:=zq;rw [hla0] at hn;by_cases h1:(-1:Int)<x/\x<e.hhs
   ·rw [lbH h1.1,lbH h1.2] at hn;conv=>whnf
    repeat' (first|refine zx ?_|refine j4 hx ?_|apply zD<;>intro h<;>try omega)<;>conv=>whnf
    all_goals first|omega|exact ⟨jj,hn,[],rfl,rfl,trivial,⟨rfl,rfl,g9 om,trivial⟩⟩
   ·have hn:Q1 e.hhs (-1) (set.take (0+1))=false:=by
     rw [hn];by_cases h2:(-1:Int)<x
     ·rw [lbJ (show ¬x<e.hhs from fun h=>h1 ⟨h2,h⟩)];simp
     ·rw [lbJ h2];simp
    rw [aI8 hn];conv=>whnf
    repeat' (first|refine zx ?_|refine j4 hx ?_|apply zD<;>intro h<;>try omega)<;>conv=>whnf
    all_goals first|omega|exact j6 rfl
  ·obtain ⟨y,hy⟩:∃y,set[k - 1]? =some y:=⟨_,lbf om⟩;have hly:(set.take k).getLastD (-1)=y:=by
    have h2:=N0 hy;rw [show k - 1+1=k by omega] at h2;rw [h2];simp
   rw [hly] at hn hla;have ek:(bif true then if 0 > (k:Int) - 1 then 0 else (k:Int) - 1 else if 0<(k:Int) - 1 then 0 else (k:Int) - 1)=((k - 1:Nat):Int):=by simp only [cond];split<;>omega
   by_cases h1:y<x/\x<e.hhs
   ·rw [lbH h1.1,lbH h1.2] at hn;conv=>whnf
    repeat' (first|refine zx ?_|refine j4 hx ?_|refine T8 (by rw [ek];omega) (by rw [ek];omega) ?_|refine N7 ek hy ?_|apply zD<;>intro h<;>try omega)<;>conv=>whnf
    all_goals first|omega|exact ⟨jj,hn,[],rfl,rfl,trivial,⟨rfl,rfl,g9 om,trivial⟩⟩
   ·have hn:Q1 e.hhs (-1) (set.take (k+1))=false:=by
     rw [hn];by_cases h2:y<x
     ·rw [lbJ (show ¬x<e.hhs from fun h=>h1 ⟨h2,h⟩)];simp
     ·rw [lbJ h2];simp
    rw [aI8 hn];conv=>whnf
    repeat' (first|refine zx ?_|refine j4 hx ?_|refine T8 (by rw [ek];omega) (by rw [ek];omega) ?_|refine N7 ek hy ?_|apply zD<;>intro h<;>try omega)<;>conv=>whnf
    all_goals first|omega|exact j6 rfl
 ·rw [lbn om] at hI;have:a4T e.hhs set=true:=hI;rw [this];conv=>whnf
  repeat' (first|refine zx ?_|apply zD<;>intro h<;>try omega)<;>conv=>whnf
  all_goals first|omega|exact j6 rfl
abbrev bd0:Blk:={ mode:=.live,elem:=66,size:=2,rows:=[[F7 (.int .i64 0),F7 (.slice none 0 0)]],box:=true }
def a91:L6 bd0.rows:=j2 [[ti 0,.sl 0 .nil []]]
def b9P (t:j9) (kind:Int) (n:Nat) (hx:XT t kind n) (set:LI) (hl:set.length<=1000000):
 ec 79 [trS t,W8 (p7 t kind),j7 set] [] (W8 (a2e t kind n set)) []:=by
 have hs:=hx.s;have hh:=hx.h;have hn4:=hx.h4;have hm:=hx.m;have hlen:=hx.len set;have i0:=a61 0 de de;have i1:=a61 1 de de;have rl0:(p7 t kind).rows.length<=700:=by
  have:(p7 t kind).rows.length<=(a3G t kind n set).length:=by unfold a3G;rw [lbq];omega
  omega
 have m3:((p7 t kind).rows.map v6).length=(p7 t kind).rows.length:=zq;have e9:(p7 t kind).rows++C8 t set n=a3G t kind n set:=rfl;have e0:(p7 t kind).rows++C8 t set 0=(p7 t kind).rows:=by simp [C8]
 (refine ac Tryz.func79 ?_;(conv=>whnf);repeat ((first|refine b0x ?_|refine zy ?_);conv=>whnf))
 repeat' (first|refine zx ?_|refine R9 rfl zu ?_|apply zD<;>intro h<;>try omega)<;>conv=>whnf
 refine k6 g8 (fun q=>([J,J,j7 set,S.c (C.t (T.ptr (trT t))),J,J,sP 0 0 0,sP 2 0 0,eI q]++Jn 46,[bd0,X3 ((p7 t kind).rows++C8 t set q),a6W t.ev.moves.length 1 ((p7 t kind).rows++C8 t set q).length])) n tT [some 0,some 1,some 2] trivial
  ⟨rfl,rfl,⟨j8 a91,i6 (rows:=((p7 t kind).rows++C8 t set 0).map v6) rfl rfl rfl (by rw [e0];rfl) rfl,⟨rfl,rfl,rfl,.inr ⟨⟨rfl,⟨rfl,rfl,by rw [e0];simp [toC],fun h=>h⟩,trivial⟩,trivial⟩⟩,trivial⟩,⟨rfl,m9 rfl,rz,rz,g9 rfl,trivial⟩⟩ ?_
 intro q hk _;by_cases jj:q<n
 ·have sc:=be0 set (q:Int) hl;have li:=b0z t.ev hs.ev (q:Int) (-1) 0 100000;cases hin:U8 set (q:Int) with
  |true=>
   rw [hin] at sc;rw [av5 hin];conv=>whnf
   repeat' (first|refine zx ?_|apply zD<;>intro h<;>try omega)<;>conv=>whnf
   all_goals first
    |omega
    |exact ⟨jj,trivial,[some 0,some 1,some 2],rfl,rfl,⟨j8 a91,j8 (j2 _),⟨rfl,rfl,rfl,.inr ⟨⟨rfl,⟨rfl,rfl,rfl,fun h=>h⟩,trivial⟩,trivial⟩⟩,trivial⟩,⟨rfl,rfl,rz,rz,g9 om,trivial⟩⟩
  |false=>
   rw [hin] at sc;rw [ai3 hin,←lbD];have hll:(a1z t (q:Int)).length<=t.ev.moves.length:=a3p;have hrl:((p7 t kind).rows++C8 t set q).length<=700:=by
    have h1:=a3K (t:=t) (set:=set) q;have h2:=O5 (t:=t) (kind:=kind) t.ev.moves.length;have h3:t.ev.moves.length*(2+t.finds.length+t.cleans.length)<=8*72:=lbT hx.m (by have:=hx.f;have:=hx.c;omega);have h4:q*t.ev.moves.length<=6*8:=lbT om hx.m;have h5:(p7 t kind).rows.length<=8*72:=lbS h2 h3;rw [lbq];omega
   have li:ec 108 [evS t.ev,eI (q:Int),eI (-1),eI 0,eI 100000] [] (j7 (a1z t (q:Int))) []:=li;generalize a1z t (q:Int)=l at li hll;have m2:(l.map j3).length=l.length:=zq;generalize hR:(p7 t kind).rows++C8 t set q=R at hrl;conv=>whnf
   repeat' (first|refine zx ?_|apply zD<;>intro h<;>try omega)<;>conv=>whnf
   all_goals try omega
   refine k6 g8 (fun i=>([J,J,j7 set,S.c (C.t (T.ptr (trT t))),J,J,sP 0 0 0,sP 2 0 0,eI q,j7 l,eI i]++Jn 44,[bd0,X3 (R++D3 (l.take i)),a6W t.ev.moves.length 1 (R++D3 (l.take i)).length])) l.length tT [some 0,some 1,some 2] trivial
    ⟨rfl,rfl,⟨j8 a91,i6 (rows:=(R++D3 (l.take 0)).map v6) rfl rfl rfl (by simp [D3]) rfl,⟨rfl,rfl,rfl,.inr ⟨⟨rfl,⟨rfl,rfl,by simp [D3],fun h=>h⟩,trivial⟩,trivial⟩⟩,trivial⟩,⟨rfl,rfl,rz,rz,rfl,rfl,g9 rfl,trivial⟩⟩ ?_
   intro i hik _;have hzl:(D3 (l.take i)).length<=l.length:=by simp [D3];omega
   by_cases hil:i<l.length
   ·have ⟨x,hxi⟩:=iA hil;rw [a7O hxi,←lbD];have lA:(R++D3 (l.take i)).length<=(X3 (R++D3 (l.take i))).rows.length:=by show _<=(toC _).length;simp [toC]
    have lB:(R++D3 (l.take i)).length<=800:=by rw [lbq];omega
    generalize R++D3 (l.take i)=R2 at lA lB;conv=>whnf
    repeat' (first|refine zz ?_|refine qp i0 ?_|refine qp i1 ?_|refine a3A.weak ?_|refine j4 hxi ?_|refine v8 lA zu ?_|refine bl0 [0,1] ?_|apply zD<;>intro h<;>try omega|refine zy ?_|fail)<;>conv=>whnf
    all_goals first|omega|skip
    all_goals
     (refine ⟨hil,trivial,[some 0,some 3,some 2],rfl,rfl,⟨j8 a91,i6 (rows:=(R2++[(⟨[(x,((1:Int):Rat))],2,((0:Int):Rat)⟩:C7)]).map v6) rfl rfl rfl ?_ rfl,⟨rfl,rfl,rfl,.inr ⟨⟨rfl,⟨rfl,rfl,?_,fun h=>h⟩,trivial⟩,trivial⟩⟩,trivial⟩,⟨rfl,rfl,rz,rz,rfl,rfl,g9 om,trivial⟩⟩
      ·exact O9 (f:=v6) (x:=(⟨[(x,((1:Int):Rat))],2,((0:Int):Rat)⟩:C7)) rfl
      ·simp [toC])
   ·have hie:i=l.length:=by omega
    subst hie;rw [lbn (lbR _)];conv=>whnf
    repeat' (first|refine zx ?_|apply zD<;>intro h<;>try omega)<;>conv=>whnf
    all_goals first|omega|exact ⟨jj,trivial,[some 0,some 1,some 2],rfl,rfl,⟨j8 a91,j8 (j2 _),⟨rfl,rfl,rfl,.inr ⟨⟨rfl,⟨rfl,rfl,rfl,fun h=>h⟩,trivial⟩,trivial⟩⟩,trivial⟩,⟨rfl,rfl,rz,rz,g9 om,trivial⟩⟩
 ·have hqe:q=n:=by omega
  subst hqe;rw [e9];have er:a3G t kind q set=(a2e t kind q set).rows:=rfl;rw [er];conv=>whnf
  repeat' (first|refine zx ?_|apply zD<;>intro h<;>try omega)<;>conv=>whnf
  all_goals first|omega|exact n8 ⟨rfl,(show VC _ (fun id=>L2 [] id=true) (C.own 1 0 _ true) (a0h (a2e t kind q set).rows) from v7 (k:=X3 (a2e t kind q set).rows) rfl rfl (fun h=>h) rfl rfl zq),trivial⟩
def b0W (t:j9) (kind:Int) (n:Nat) (hx:XT t kind n) (set:LI) (hl:set.length<=1000000):
 ec 48 [trS t,eI kind,j7 set] [] (n7 (a4T t.ev.hhs set && pX t kind n set)) []:=by
 have sy:=a4L t kind hx.s;have k0:=hx.k0;have k1:=hx.k1;have ht:=hx.e;have hc:¬(t5 t≠0\/kind<0\/8<=kind):=om;have e1:a0b t kind=0:=iC hc;have e2:a66 t kind=p7 t kind:=iC hc;rw [e1,e2] at sy;have is:=b8T t.ev set hl;have al:=b9P t kind n hx set hl;have ⟨b,hb,pc⟩:=a1l _ (hx.small set);have hbp:b=pX t kind n set:=by
  rw [Bool.eq_iff_iff,hb,hx.expl set]
 rw [hbp] at pc;generalize a4T t.ev.hhs set=b1 at is;generalize pX t kind n set=b2 at pc;cases b1<;>cases b2<;>
 ·refine ac Tryz.func48 ?_;conv=>whnf
  repeat' (first|refine zx ?_|refine bl0 [5] ?_|apply zD<;>intro<;>try omega)<;>conv=>whnf
  all_goals first|omega|(exfalso;contradiction)|exact j6 rfl
def aj8 (l:LI) (m:Nat):Nat->List LI
 |0=>[]
 |i+1=>match l[i]? with
  |none=>aj8 l m i
  |some x=>aj8 l m i++(A9 (l.drop (i+1)) m).map (x::·)
def aJ0 {l:LI} {m i:Nat} {x:Int} (h:l[i]? =some x):aj8 l m (i+1)=aj8 l m i++(A9 (l.drop (i+1)) m).map (x::·):=by rw [aj8,h]
def as7 {l:LI} {m:Nat}:∀i,i<=l.length->A9 l (m+1)=aj8 l m i++A9 (l.drop i) (m+1)
 |0,_=>by rw [aj8,a9m,a6A]
 |i+1,h=>by
  have ⟨x,hx⟩:=@iA _ l i om;rw [as7 i om,aJ0 hx,lbD]
  congr 1
  have:l.drop i=x::l.drop (i+1):=by
   rw [a3r om]
   congr 1
   rw [lbf om] at hx;injection hx
  rw [this]
  rfl
def be5 {l:LI} {m:Nat}:aj8 l m l.length=A9 l (m+1):=by
 rw [as7 l.length (lbR _),List.drop_length];simp [A9]
def a2K:∀(l:LI) (n:Nat),(A9 l n).length<=2 ^ l.length
 |l,0=>by simp only [A9,List.length_singleton];exact Nat.one_le_two_pow
 |[],n+1=>by simp [A9]
 |x::r,n+1=>by
  simp only [A9,lbq,lbr,lbu];have h1:=a2K r n;have h2:=a2K r (n+1);rw [Nat.pow_succ];omega
def b9C {l:LI} {m i:Nat} (h:i<=l.length):(aj8 l m i).length<=2 ^ l.length:=by
 have h1:=as7 (m:=m) i h;have h2:=a2K l (m+1);rw [h1,lbq] at h2;omega
abbrev aC1 (l:List LI):Blk:={ mode:=.live,elem:=33,size:=1,rows:=toC (l.map D9),box:=false }
def bw0 {l:LI} (h:l.length<=8):2 ^ l.length<=256:=by
 have:2 ^ l.length<=2 ^ 8:=a86 de h;omega
def b5D:∀(n:Nat) (l:LI),l.length<=8->n<=8->ec 46 [j7 l,eI n] [] (a40 (A9 l n)) []
 |0,l,hl,_=>by
  have e:A9 l 0=[[]]:=by cases l<;>rfl
  rw [e];refine ac Tryz.func46 ?_;conv=>whnf
  repeat' (first|refine zz ?_|refine a3A.weak ?_|apply zD<;>intro h<;>try omega|refine zy ?_|fail)<;>conv=>whnf
  all_goals first
   |omega
   |exact n8 rfl
 |n+1,l,hl,hn=>by
  have ih:=fun (r:LI) (hr:r.length<=8)=>b5D n r hr om
  have m1:(l.map j3).length=l.length:=zq;refine ac Tryz.func46 ?_;conv=>whnf
  repeat' (first|refine zx ?_|apply zD<;>intro h<;>try omega)<;>conv=>whnf
  all_goals try omega
  refine k6 g8 (fun i=>([j7 l,eI (n+1:Nat),J,J,J,S.c (C.own 0 0 (aj8 l n i).length true),eI i]++Jn 39,[aC1 (aj8 l n i)])) l.length tT [none] trivial
   ⟨rfl,rfl,rz,⟨rfl,g9 rfl,rz,g9 rfl,trivial⟩⟩ ?_
  intro i hi _;by_cases jj:i<l.length
  ·have ⟨x,hx⟩:=iA jj;have se:=ih (l.drop (i+1)) (by rw [a3S];omega);have eA:List.drop ((i:Int)+1).toNat (List.take (((l.map j3).length:Nat):Int).toNat (l.map j3))=(l.drop (i+1)).map j3:=by
    rw [show (((l.map j3).length:Nat):Int).toNat=(l.map j3).length by omega,X9,show ((i:Int)+1).toNat=i+1 by omega,List.map_drop]
   have eN:(((n+1:Nat):Nat):Int) - 1=(n:Int):=om;have se:ec 46 [.c (.t (T.sl 1 (a1N SK.any none none) (List.drop ((i:Int)+1).toNat (List.take (((l.map j3).length:Nat):Int).toNat (l.map j3))))),eI ((((n+1:Nat):Nat):Int) - 1)] [] (a40 (A9 (l.drop (i+1)) n)) []:=by
    rw [eA,eN];exact se
   have hpl:=b9C (l:=l) (m:=n) (i:=i) om;have hrl:=a2K (l.drop (i+1)) n;have hp8:=bw0 hl;have hp9:=bw0 (l:=l.drop (i+1)) (by rw [a3S];omega);rw [aJ0 hx];generalize aj8 l n i=P at hpl;have hrn:∀s ∈ A9 (l.drop (i+1)) n,s.length<=8:=fun s hs=>by have:=(J2.1 hs).2;omega
   generalize A9 (l.drop (i+1)) n=R at se hrl hrn;have m2:(R.map D9).length=R.length:=zq;conv=>whnf
   repeat' (first|refine zx ?_|refine aK3 om om om ?_|apply zD<;>intro h<;>try omega)<;>conv=>whnf
   all_goals try omega
   refine k6 g8 (fun k=>([j7 l,eI (n+1:Nat),J,J,J,S.c (C.own 0 0 (P++(R.take k).map (x::·)).length true),eI i,a40 R,eI k]++Jn 37,[aC1 (P++(R.take k).map (x::·))])) R.length tT [some 0] trivial
    ⟨rfl,rfl,⟨i6 (rows:=(P++(R.take 0).map (x::·)).map D9) rfl rfl rfl zq rfl,trivial⟩,⟨rfl,rfl,⟨rfl,rfl,zq,fun h=>h⟩,rfl,rfl,g9 rfl,trivial⟩⟩ ?_
   intro k hk _;by_cases hkl:k<R.length
   ·have ⟨r,hr⟩:=iA hkl;have hr8:=hrn r (lbm hr);have es:(R.take (k+1)).map (x::·)=(R.take k).map (x::·)++[x::r]:=by rw [N0 hr];simp
    have lA:(P++(R.take k).map (x::·)).length<=600:=by rw [lbq,lbr,lbs];omega
    rw [es,←lbD];generalize P++(R.take k).map (x::·)=P2 at lA;cases r with
    |nil=>
     conv=>whnf
     repeat' (first|refine zz ?_|refine j4 hx ?_|refine j4 hr ?_|refine a3A.own ?_|refine v8 (lbR 1) zt ?_|refine v8 zt zu ?_|refine a22 (lbR 1) ?_|refine bl0 [0,1,2,3,4,5] ?_|refine bl0 [0] ?_|apply zD<;>intro h<;>try omega|refine zy ?_|fail)<;>conv=>whnf
     all_goals try omega
     refine ⟨hkl,trivial,[some 4],rfl,rfl,⟨⟨rfl,rfl,rfl,.inr ?_⟩,trivial⟩,⟨rfl,rfl,⟨rfl,rfl,by simp [D8],fun h=>h⟩,rfl,rfl,g9 om,trivial⟩⟩;have e1:toC ((P2++[[x]]).map D9)=toC (P2.map D9)++[[C.t (w5 ([x]))]]:=by simp [toC,D9]
     show a4Y _ _ (List.take P2.length (toC (P2.map D9))++[[C.own 2 0 _ true]]) (toC ((P2++[[x]]).map D9));rw [lbn (l:=toC (P2.map D9)) zt,e1];refine ac9 ?_;refine (show VC _ (fun id=>L2 [some 4] id=true) (C.own 2 0 _ true) (w5 ([x])) from v7 (k:={ mode:=.live,elem:=3,size:=1,rows:=List.take 1 [[C.t (ti x)]]++toC [],box:=false }) rfl rfl (fun h=>h) rfl ?_ ?_)
     ·simp [D8,toC,j3]
     ·simp [toC]
    |cons y r=>
     conv=>whnf
     repeat' (first|refine zx ?_|refine j4 hx ?_|refine j4 hr ?_|refine ⟨⟨.inr ⟨zt,rfl⟩,by simp [toC];simp at hr8;omega⟩,?_⟩|refine a22 (lbR 1) ?_|refine v8 zt zu ?_|refine bl0 [0] ?_|apply zD<;>intro h<;>try omega)<;>conv=>whnf
     all_goals try omega
     refine ⟨hkl,trivial,[some 3],rfl,rfl,⟨⟨rfl,rfl,rfl,.inr ?_⟩,trivial⟩,⟨rfl,rfl,⟨rfl,rfl,by simp [D8],fun h=>h⟩,rfl,rfl,g9 om,trivial⟩⟩;have e1:toC ((P2++[x::y::r]).map D9)=toC (P2.map D9)++[[C.t (w5 (x::y::r))]]:=by simp [toC,D9]
     show a4Y _ _ (List.take P2.length (toC (P2.map D9))++[[C.own 1 0 _ true]]) (toC ((P2++[x::y::r]).map D9));rw [lbn (l:=toC (P2.map D9)) zt,e1];refine ac9 ?_;refine (show VC _ (fun id=>L2 [some 3] id=true) (C.own 1 0 _ true) (w5 (x::y::r)) from v7 (k:={ mode:=.live,elem:=3,size:=1,rows:=toC [[ti x]]++toC ((y::r).map j3),box:=false }) rfl rfl (fun h=>h) rfl ?_ ?_)
     ·simp [D8,toC,j3]
     ·simp [toC];omega
   ·have hke:k=R.length:=by omega
    subst hke;rw [lbn (lbR _)];conv=>whnf
    repeat' (first|refine zx ?_|apply zD<;>intro h<;>try omega)<;>conv=>whnf
    all_goals first|omega|exact ⟨jj,trivial,[some 0],rfl,rfl,⟨j8 (j2 _),trivial⟩,⟨rfl,rfl,⟨rfl,rfl,rfl,fun h=>h⟩,g9 om,trivial⟩⟩
  ·have hie:i=l.length:=by omega
   subst hie;rw [be5];conv=>whnf
   repeat' (first|refine zx ?_|apply zD<;>intro h<;>try omega)<;>conv=>whnf
   all_goals first|omega|exact N6 rfl (fun h=>h) rfl rfl zq
def a5S (t:j9) (kind e:Int) (he:e≠0) (st:ec 76 [trS t,eI kind] [] (.tup [j7 [],eI e]) []):ec 45 [trS t,eI kind] [] (.tup [j7 [],eI e]) []:=by
 refine ac Tryz.func45 ?_;conv=>whnf
 repeat' (first|refine zx ?_|apply zD<;>intro<;>try omega)<;>conv=>whnf
 all_goals first|omega|exact n8 rz
def aB0 (t:j9) (kind:Int) (n:Nat) (hx:ExP t kind n) (hn:n<=8):ec 45 [trS t,eI kind] [] (.tup [j7 (E1 t kind n),eI 0]) []:=by
 have st:=aQ8 t kind n hx om;have sl:=a2o t kind n;have m1:((stL t kind n).map j3).length=n:=by simp [am2]
 refine ac Tryz.func45 ?_;conv=>whnf
 repeat' (first|refine zx ?_|apply zD<;>intro h<;>try omega)<;>conv=>whnf
 all_goals try omega
 refine k6 g8 (fun k=>(Jn 6++[j7 (stL t kind n),J,S.c (C.own 0 0 (E1 t kind k).length true),eI k]++Jn 28,[y3 (E1 t kind k)])) n tT [none] trivial
  ⟨rfl,rfl,rz,⟨rfl,rz,g9 rfl,trivial⟩⟩ ?_
 intro k hk _;have slk:=a2o t kind k;have lA:(E1 t kind k).length<=(y3 (E1 t kind k)).rows.length:=by show _<=(toC _).length;simp [toC]
 by_cases jj:k<n
 ·have hv:=bm3 (t:=t) (kind:=kind) jj;have e1:=aI3 t kind k;rw [e1];generalize O0 t kind k=v at hv e1;by_cases hst:v≠0
  ·rw [iB hst];conv=>whnf
   repeat' (first|refine zx ?_|refine j4 hv ?_|refine v8 lA zu ?_|apply zD<;>intro h<;>try omega)<;>conv=>whnf
   all_goals first
    |omega
    |(refine ⟨jj,trivial,[some 1],rfl,rfl,⟨i6 (rows:=(E1 t kind k++[(k:Int)]).map j3) rfl rfl rfl ?_ rfl,trivial⟩,⟨rfl,⟨rfl,rfl,?_,fun h=>h⟩,g9 om,trivial⟩⟩
      ·exact O9 (f:=j3) (x:=(k:Int)) rfl
      ·simp [toC])
  ·rw [iC hst];conv=>whnf
   repeat' (first|refine zx ?_|refine j4 hv ?_|apply zD<;>intro h<;>try omega)<;>conv=>whnf
   all_goals first|omega|exact ⟨jj,trivial,[some 0],rfl,rfl,⟨j8 (j2 _),trivial⟩,⟨rfl,⟨rfl,rfl,rfl,fun h=>h⟩,g9 om,trivial⟩⟩
 ·have hke:k=n:=by omega
  subst hke;conv=>whnf
  repeat' (first|refine zx ?_|apply zD<;>intro h<;>try omega)<;>conv=>whnf
  all_goals first|omega|exact n8 ⟨(show VC _ (fun id=>L2 [] id=true) (C.own 0 0 _ true) _ from v7 (k:=y3 (E1 t kind k)) rfl rfl (fun h=>h) rfl rfl zq),rz⟩
def av1 (t:j9) (kind e:Int) (he:e≠0) (st:ec 45 [trS t,eI kind] [] (.tup [j7 [],eI e]) []):ec 27 [trS t,eI kind] [] (.tup [a40 [],eI e]) []:=by
 refine ac Tryz.func27 ?_;conv=>whnf
 repeat' (first|refine zx ?_|apply zD<;>intro<;>try omega)<;>conv=>whnf
 all_goals first|omega|exact n8 rz
def aE0 (t:j9) (kind e:Int) (he:e≠0) (st:ec 27 [trS t,eI kind] [] (.tup [a40 [],eI e]) []):ec 16 [trS t,eI kind] [] (.tup [a40 [],eI e]) []:=by
 refine ac Tryz.func16 ?_;conv=>whnf
 repeat' (first|refine zx ?_|apply zD<;>intro<;>try omega)<;>conv=>whnf
 all_goals first|omega|exact n8 rz
def tkS (p:LI->Bool) (M R:List LI) (i:Nat):List LI:=(R.take i).filter fun s=>!(M.any fun a=>D4 a s) && p s
def b8L {p:LI->Bool} {M R:List LI} {i:Nat} {s:LI} (h:R[i]? =some s):tkS p M R (i+1)=if (!(M.any fun a=>D4 a s) && p s)=true then tkS p M R i++[s] else tkS p M R i:=by
 unfold tkS;rw [N0 h,a5X];by_cases hp:(!(M.any fun a=>D4 a s) && p s)=true
 ·rw [iB hp,au9,iB hp,aY1]
 ·rw [iC hp,au9,iC hp,aY1,a05]
def bs4 {p:LI->Bool} {l:LI} (hl:l.Pairwise (·<·)) {M:List LI} {q i:Nat} {s:LI} (h:(A9 l q)[i]? =some s):
 ((M++tkS p M (A9 l q) i).any fun a=>D4 a s)=M.any fun a=>D4 a s:=by
 rw [List.any_append];have:(tkS p M (A9 l q) i).any (fun a=>D4 a s)=false:=by
  rw [List.any_eq_false];intro a ha hpa;have ha:=(lby.1 ha).1;have ⟨j,hj,hja⟩:=a0D ha;rw [lbs] at hj;have haj:(A9 l q)[j]? =some a:=by
   rw [List.getElem_take] at hja;rw [lbf om,hja]
  have sa:=J2.1 (lbm haj);have ss:=J2.1 (lbm h);have hsub:=a9z (am5 hl sa.1) (am5 hl ss.1) (a4r.1 hpa);have he:a=s:=hsub.eq_of_length (by rw [sa.2,ss.2]);subst he;have hpw:=b3p.1 (a9X (n:=q) hl);have hi:=(lbe.1 h).1;have h1:=hpw j i om hi om;have e1:(A9 l q)[j]' om=a:=by rw [lbf om] at haj;injection haj
  have e2:(A9 l q)[i]=a:=by rw [lbf hi] at h;injection h
  rw [e1,e2,b1i] at h1;cases h1
 rw [this,Bool.or_false]
def bm1 {p:LI->Bool} {l:LI} {q:Nat}:I6 p l false q++tkS p (I6 p l false q) (A9 l q) (A9 l q).length=I6 p l false (q+1):=by
 rw [af1];unfold tkS;rw [X9]
def ab0 {p:LI->Bool} {l:LI}:∀q,(I6 p l false q).length<=q*2 ^ l.length
 |0=>by simp [I6]
 |q+1=>by
  rw [af1,lbq];have h1:=ab0 (p:=p) (l:=l) q;have h2:=lbt (fun s=>!((I6 p l false q).any fun a=>D4 a s) && p s) (A9 l q);have h3:=a2K l q;rw [lbV];omega
def b8u {t:j9} {kind:Int} {n:Nat} {s:LI} (h:s.Sublist (E1 t kind n)):a4T (n:Int) s=true:=by
 refine b2Y.2 ⟨(a9M t kind n).sublist h,fun x hx=>?_⟩;obtain ⟨i,rfl,hi,_⟩:=b22.1 (h.subset hx);omega
def aE2 (t:j9) (kind:Int) (n:Nat) (hE:ExP t kind n) (hx:XT t kind n):ec 27 [trS t,eI kind] [] (.tup [a40 (R8 t kind n false),eI 0]) []:=by
 have hn6:=hx.h4;have hh:=hx.h;have su:=aB0 t kind n hE om;have sl:=a2o t kind n;have hasc:=a9M t kind n;have hset:=fun (s:LI) (h:s.Sublist (E1 t kind n))=>b8u h
 unfold R8 aD8;generalize E1 t kind n=l at su sl hasc hset;have m1:(l.map j3).length=l.length:=zq;have p8:=bw0 (l:=l) om;obtain ⟨p,hp⟩:∃p,p=pX t kind n:=⟨_,rfl⟩;rw [← hp]
 (refine ac Tryz.func27 ?_;(conv=>whnf);repeat ((first|refine b0x ?_|refine zy ?_);conv=>whnf))
 repeat' (first|refine zx ?_|apply zD<;>intro h<;>try omega)<;>conv=>whnf
 all_goals try omega
 refine k6 g8 (fun q=>([J,eI kind,S.c (C.t (T.ptr (trT t))),J,J,J,j7 l,J,S.c (C.own 0 0 (I6 p l false q).length true),eI q]++Jn 65,[aC1 (I6 p l false q)])) (l.length+1) tT [none] trivial
  ⟨rfl,rfl,rz,⟨rfl,m9 rfl,rfl,rz,g9 rfl,trivial⟩⟩ ?_
 intro q hq _;by_cases jj:q<l.length+1
 ·have se:=b5D q l om om;have hml:=ab0 (p:=p) (l:=l) q;have hmb:q*2 ^ l.length<=7*256:=lbT om p8;have hmem:∀a ∈ I6 p l false q,a.length<=1000:=fun a ha=>by have:=(a1f.1 ha).2.1;omega
  rw [← bm1];have hR:∀(i:Nat) (s:LI),(A9 l q)[i]? =some s->(∀ M:List LI,((M++tkS p M (A9 l q) i).any fun a=>D4 a s)=M.any fun a=>D4 a s)/\s.Sublist l/\s.length=q:=fun i s h=>⟨fun M=>bs4 hasc h,(J2.1 (lbm h)).1,(J2.1 (lbm h)).2⟩
  have hsl:=a2K l q;generalize A9 l q=R at se hR hsl;generalize I6 p l false q=M at hml hmem;have m2:(R.map D9).length=R.length:=zq;conv=>whnf
  repeat' (first|refine zx ?_|apply zD<;>intro h<;>try omega)<;>conv=>whnf
  all_goals try omega
  refine k6 g8 (fun i=>([J,eI kind,S.c (C.t (T.ptr (trT t))),J,J,J,j7 l,J,S.c (C.own 0 0 (M++tkS p M R i).length true),eI q,a40 R,eI i]++Jn 63,[aC1 (M++tkS p M R i)])) R.length tT [some 0] trivial
   ⟨rfl,rfl,⟨i6 (rows:=(M++tkS p M R 0).map D9) rfl rfl rfl (by simp [tkS]) rfl,trivial⟩,⟨rfl,rfl,rfl,⟨rfl,rfl,by simp [tkS],fun h=>h⟩,rfl,rfl,g9 rfl,trivial⟩⟩ ?_
  intro i hi _;by_cases hil:i<R.length
  ·have ⟨s,hs⟩:=iA hil;have ⟨q1,q2,q3⟩:=hR i s hs;have q1:=q1 M;have hsb:=hset s q2;have ex:=b0W t kind n hx s om;rw [hh,hsb,P5,←hp] at ex;rw [b8L hs];have hel:(tkS p M R i).length<=R.length:=lbS (lbt _ _) (by rw [lbs];omega);have helm:∀a ∈ tkS p M R i,a.length<=1000:=fun a ha=>by
    have ha:=(lby.1 ha).1;have ⟨j,hj⟩:=as3.1 (ah1 ha);have:=(hR j a hj).2.2;omega
   generalize hW:M++tkS p M R i=W at q1;have hWl:W.length<=5000:=by rw [← hW,lbq];omega
   have hWm:∀a ∈ W,a.length<=1000:=fun a ha=>by
    rw [← hW] at ha;rcases lbz.1 ha with h|h
    ·exact hmem a h
    ·exact helm a h
   have eW:(M++if (!(M.any fun a=>D4 a s) && p s)=true then tkS p M R i++[s] else tkS p M R i)=if (!(W.any fun a=>D4 a s) && p s)=true then W++[s] else W:=by
    rw [q1];split
    ·rw [← hW,lbD]
    ·exact hW
   rw [eW];have m3:(W.map D9).length=W.length:=zq;conv=>whnf
   repeat' (first|refine zx ?_|apply zD<;>intro h<;>try omega)<;>conv=>whnf
   all_goals try omega
   refine k6 g8 (fun k=>([J,eI kind,S.c (C.t (T.ptr (trT t))),J,J,J,j7 l,J,S.c (C.own 0 0 W.length true),eI q,a40 R,eI i,n7 ((W.take k).any fun a=>D4 a s),eI k]++Jn 61,[aC1 W])) W.length tT [some 0] trivial
    ⟨rfl,rfl,⟨j8 (j2 _),trivial⟩,⟨rfl,rfl,rfl,⟨rfl,rfl,rfl,fun h=>h⟩,rfl,rfl,rfl,rfl,g9 rfl,trivial⟩⟩ ?_
   intro k hk _;by_cases hkl:k<W.length
   ·have ⟨a,ha⟩:=iA hkl;have pa:=bo2 a s (by have:=hWm a (lbm ha);omega) om;have ea:(W.take (k+1)).any (fun a=>D4 a s)=((W.take k).any (fun a=>D4 a s) || D4 a s):=by rw [N0 ha,List.any_append];simp
    rw [ea];have ga:(W.map D9)[0+(k:Int).toNat]? =some (D9 a):=by rw [show 0+(k:Int).toNat=k by omega,lba,ha];rfl
    have exa:∀{K:List C->Prop},K ((D9 a).map C.t)->∃row,(aC1 W).rows[0+(k:Int).toNat]? =some row/\K row:=fun h=>⟨_,by show (toC (W.map D9))[0+(k:Int).toNat]? =_;rw [toC,lba,ga];rfl,h⟩
    generalize (W.take k).any (fun a=>D4 a s)=b1;generalize D4 a s=b2 at pa;cases b1<;>cases b2<;>
    ·conv=>whnf
     repeat' (first|refine zx ?_|refine exa ?_|refine j4 hs ?_|apply zD<;>intro h<;>try omega)<;>conv=>whnf
     all_goals first|omega|exact ⟨hkl,trivial,[some 0],rfl,rfl,⟨j8 (j2 _),trivial⟩,⟨rfl,rfl,rfl,⟨rfl,rfl,rfl,fun h=>h⟩,rfl,rfl,rfl,rfl,g9 om,trivial⟩⟩
   ·have hke:k=W.length:=by omega
    subst hke;rw [lbn (lbR _)];have lA:W.length<=(aC1 W).rows.length:=by show _<=(toC _).length;simp [toC]
    generalize (W.any fun a=>D4 a s)=b1;generalize p s=b2 at ex;cases b1<;>cases b2
    all_goals
     simp only [at0,Bool.not_false,P5,ac4,if_true,a7S,if_false];conv=>whnf
     repeat' (first|refine zx ?_|refine j4 hs ?_|refine v8 lA zu ?_|apply zD<;>intro h<;>try omega)<;>conv=>whnf
    all_goals first
     |omega
     |(exfalso;contradiction)
     |exact ⟨hil,trivial,[some 0],rfl,rfl,⟨j8 (j2 _),trivial⟩,⟨rfl,rfl,rfl,⟨rfl,rfl,rfl,fun h=>h⟩,rfl,rfl,g9 om,trivial⟩⟩
     |(refine ⟨hil,trivial,[some 1],rfl,rfl,⟨i6 (rows:=(W++[s]).map D9) rfl rfl rfl ?_ rfl,trivial⟩,⟨rfl,rfl,rfl,⟨rfl,rfl,by simp [toC],fun h=>h⟩,rfl,rfl,g9 om,trivial⟩⟩
       exact O9 (f:=D9) (x:=s) rfl)
  ·have hie:i=R.length:=by omega
   subst hie;conv=>whnf
   repeat' (first|refine zx ?_|apply zD<;>intro h<;>try omega)<;>conv=>whnf
   all_goals first|omega|exact ⟨jj,trivial,[some 0],rfl,rfl,⟨j8 (j2 _),trivial⟩,⟨rfl,rfl,rfl,⟨rfl,rfl,rfl,fun h=>h⟩,g9 om,trivial⟩⟩
 ·have hqe:q=l.length+1:=by omega
  subst hqe;conv=>whnf
  repeat' (first|refine zx ?_|apply zD<;>intro h<;>try omega)<;>conv=>whnf
  all_goals first|omega|exact n8 ⟨(show VC _ (fun id=>L2 [] id=true) (C.own 0 0 _ true) _ from v7 (k:=aC1 (I6 p l false (l.length+1))) rfl rfl (fun h=>h) rfl rfl zq),rz⟩
def lnF (m:Nat) (L:List LI):List LI:=L.filter fun s=>decide (s.length=m)
def b9q {m:Nat} {L:List LI} {k:Nat} {s:LI} (h:L[k]? =some s):lnF m (L.take (k+1))=if s.length=m then lnF m (L.take k)++[s] else lnF m (L.take k):=by
 unfold lnF;rw [N0 h,a5X,au9];by_cases hs:s.length=m
 ·rw [iB hs,iB (by simp [hs]),aY1]
 ·rw [iC hs,iC (by simp [hs]),aY1,a05]
def b3O {t:j9} {kind:Int} {n:Nat} (h:ExP t kind n):∃s0,(R8 t kind n false)[0]? =some s0/\lnF s0.length (R8 t kind n false)=R8 t kind n true:=by
 have ⟨rest,h1,h2,h3,h4⟩:=bO6 h;obtain ⟨s0,r,hs⟩:∃s0 r,R8 t kind n true=s0::r:=by
  cases hm:R8 t kind n true with
  |nil=>exact absurd hm h2
  |cons a b=>exact ⟨a,b,rfl⟩
 refine ⟨s0,by rw [h1,hs];rfl,?_⟩;have hs0:s0 ∈ R8 t kind n true:=by rw [hs];simp
 unfold lnF;rw [h1,a5X];have e1:(R8 t kind n true).filter (fun s=>decide (s.length=s0.length))=R8 t kind n true:=List.filter_eq_self.2 fun a ha=>lbH (h3 a ha s0 hs0)
 have e2:rest.filter (fun s=>decide (s.length=s0.length))=[]:=by
  rw [List.filter_eq_nil_iff];intro b hb;have:=h4 s0 hs0 b hb;simp;omega
 rw [e1,e2,a05]
def bv3 {t:j9} {kind:Int} {n:Nat} (hn:n<=6):(R8 t kind n false).length<=2000/\∀s ∈ R8 t kind n false,s.length<=1000:=by
 have sl:=a2o t kind n;have h1:=ab0 (p:=pX t kind n) (l:=E1 t kind n) ((E1 t kind n).length+1);have p8:=bw0 (l:=E1 t kind n) om;have h2:((E1 t kind n).length+1)*2 ^ (E1 t kind n).length<=7*256:=lbT om p8;exact ⟨by show (I6 _ _ _ _).length<=_;omega,fun s hs=>by have:=(a1f.1 hs).2.1;omega⟩
def aU6 (t:j9) (kind:Int) (n:Nat) (hE:ExP t kind n) (hx:XT t kind n):ec 16 [trS t,eI kind] [] (.tup [a40 (R8 t kind n true),eI 0]) []:=by
 have mi:=aE2 t kind n hE hx;have ⟨s0,h0,he⟩:=b3O hE;have ⟨sz1,sz2⟩:=bv3 (t:=t) (kind:=kind) hx.h4;rw [← he];generalize R8 t kind n false=L at mi h0 sz1 sz2;have m1:(L.map D9).length=L.length:=zq;obtain ⟨m,hm⟩:∃m,m=s0.length:=⟨_,rfl⟩;rw [← hm];refine ac Tryz.func16 ?_;conv=>whnf
 repeat' (first|refine zx ?_|apply zD<;>intro h<;>try omega)<;>conv=>whnf
 all_goals try omega
 refine k6 g8 (fun k=>(Jn 6++[a40 L,J,S.c (C.own 0 0 (lnF m (L.take k)).length true),eI k]++Jn 33,[aC1 (lnF m (L.take k))])) L.length tT [none] trivial
  ⟨rfl,rfl,rz,⟨rfl,rz,g9 rfl,trivial⟩⟩ ?_
 intro k hk _;by_cases jj:k<L.length
 ·have ⟨s,hs⟩:=iA jj;have e1:=b9q (m:=m) hs;have hl:=lbt (fun s=>decide (s.length=m)) (L.take k);have hl:(lnF m (L.take k)).length<=L.length:=lbS hl (by rw [lbs];omega);have m2:(s.map j3).length=s.length:=zq;have m3:(s0.map j3).length=s0.length:=zq;rw [e1];generalize lnF m (L.take k)=W at hl;have lA:W.length<=(aC1 W).rows.length:=by show _<=(toC _).length;simp [toC]
  have ex0:∀{K:List T->Prop},K (D9 s0)->∃row,0<=(0:Int)/\(L.map D9)[(0:Int).toNat]? =some row/\K row:=fun h=>⟨_,om,by rw [show (0:Int).toNat=0 from rfl,lba,h0];rfl,h⟩
  by_cases hsm:s.length=m
  ·rw [iB hsm];conv=>whnf
   repeat' (first|refine zx ?_|refine j4 hs ?_|refine j4 h0 ?_|refine N7 (n:=0) rfl h0 ?_|refine v8 lA zu ?_|apply zD<;>intro h<;>try omega)<;>conv=>whnf
   all_goals first
    |omega
    |(refine ⟨jj,trivial,[some 1],rfl,rfl,⟨i6 (rows:=(W++[s]).map D9) rfl rfl rfl ?_ rfl,trivial⟩,⟨rfl,⟨rfl,rfl,by simp [toC],fun h=>h⟩,g9 om,trivial⟩⟩
      exact O9 (f:=D9) (x:=s) rfl)
  ·rw [iC hsm];conv=>whnf
   repeat' (first|refine zx ?_|refine j4 hs ?_|refine j4 h0 ?_|refine N7 (n:=0) rfl h0 ?_|apply zD<;>intro h<;>try omega)<;>conv=>whnf
   all_goals first|omega|exact ⟨jj,trivial,[some 0],rfl,rfl,⟨j8 (j2 _),trivial⟩,⟨rfl,⟨rfl,rfl,rfl,fun h=>h⟩,g9 om,trivial⟩⟩
 ·have hke:k=L.length:=by omega
  subst hke;rw [lbn (lbR _)];conv=>whnf
  repeat' (first|refine zx ?_|apply zD<;>intro h<;>try omega)<;>conv=>whnf
  all_goals first|omega|exact n8 ⟨(show VC _ (fun id=>L2 [] id=true) (C.own 0 0 _ true) _ from v7 (k:=aC1 (lnF m L)) rfl rfl (fun h=>h) rfl rfl zq),rz⟩
def b8N {t:j9} {kind:Int} {r:Nat} (hr:H8 (p7 t kind) []=.row r):∀z,k7 (p7 t kind) z=false:=a5i hr
def b0q (t:j9) (kind:Int) (hs:t.Sized) (hm:t.ev.moves.length<=8) (hh:t.ev.hhs<=6) (hf:t.finds.length<=20) (h:Y2 t kind≠0):ec 45 [trS t,eI kind] [] (.tup [j7 [],eI (Y2 t kind)]) []:=by
 rcases b5n (kind:=kind) hs hm hh hf with h1|⟨h1,r,hr⟩|⟨n,hE,hx⟩
 ·rw [a6R h1];exact a5S t kind 1 de (aF9 t kind hs h1)
 ·rw [a1J h1 hr];have ⟨k1,k2,k3⟩:=O6.1 h1;exact a5S t kind 15 de (aj6 t kind hs k1 k2 k3 hm (b8N hr))
 ·exact absurd (a7b hE) h
def a9Y (t:j9) (kind:Int) (hs:t.Sized) (hm:t.ev.moves.length<=8) (hh:t.ev.hhs<=6) (hf:t.finds.length<=20):ec 16 [trS t,eI kind] [] (.tup [a40 (Y5 t kind true),eI (Y2 t kind)]) []:=by
 by_cases h:Y2 t kind=0
 ·rcases b5n (kind:=kind) hs hm hh hf with h1|⟨h1,r,hr⟩|⟨n,hE,hx⟩
  ·rw [a6R h1] at h;cases h
  ·rw [a1J h1 hr] at h;cases h
  ·rw [a9C hE,a7b hE];exact aU6 t kind n hE hx
 ·rw [ad5 h];exact aE0 t kind _ h (av1 t kind _ h (b0q t kind hs hm hh hf h))
def b0a {p:LI->Bool} {l:LI} {short:Bool}:∀n,(I6 p l short n).length<=n*2 ^ l.length
 |0=>by simp [I6]
 |n+1=>by
  have ih:=b0a (p:=p) (l:=l) (short:=short) n;have h2:(n+1)*2 ^ l.length=n*2 ^ l.length+2 ^ l.length:=lbV _ _;rw [h2];generalize n*2 ^ l.length=q at *;unfold I6;split
  ·exact lbS ih (Nat.le_add_right _ _)
  ·rw [lbq];have:=lbt (fun s=>!((I6 p l short n).any fun a=>D4 a s) && p s) (A9 l n);have:=a8Q l n;omega
def b85 {t:j9} {kind:Int} {n:Nat} {short:Bool} (h3:n<=3):(R8 t kind n short).length<=32:=by
 have h:=b0a (p:=pX t kind n) (l:=E1 t kind n) (short:=short) ((E1 t kind n).length+1);have hs:=a2o t kind n;have:(R8 t kind n short).length<=((E1 t kind n).length+1)*2 ^ (E1 t kind n).length:=h;generalize (E1 t kind n).length=m at this hs
 match m,hs with
 |0,_=>omega
 |1,_=>omega
 |2,_=>omega
 |3,_=>omega
 |m+4,h=>omega
end Go.Proofs.YtbcdidimaioapaaGreat
