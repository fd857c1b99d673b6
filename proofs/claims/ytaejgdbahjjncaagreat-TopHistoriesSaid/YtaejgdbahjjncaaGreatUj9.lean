/- Part 9. -/
import Derived.RangeFuncBox
import Derived.RangeFuncLeaves
import Derived.Shelf.Abstract
import Derived.Shelf.RegionOpen
import Derived.OwnWalkIn
import Derived.TacticsInMore
import Derived.LoopNIn
import Derived.LoopIn
import Derived.Test.YtaejgdbahjjncaaGreatProg
import Derived.Maps.AppendAt
import Derived.Test.YtaejgdbahjjncaaGreatUj8
namespace Go.Proofs.YtaejgdbahjjncaaGreat
set_option linter.unusedVariables false
set_option linter.unusedSimpArgs false
set_option maxRecDepth 100000
open Go.RowKit
open St1 St2 St3 St4 St5 St6 St7 St8 StA StB
def hpP (e:Ev) (L:List (k7 × OrP)):List (k7 × OrP)->Hp
 |[]=>hp0 e L
 |l=>hp1 e (L++l)
theorem b7Y {e:Ev} {L l:List (k7 × OrP)} {a b:k7 × OrP}:hpP e L (l++[a,b])=hp1 e (L++(l++[a,b])):=by
 cases l<;>rfl
theorem b6u {e:Ev} {i k:Nat} {p:s9} {l:List (k7 × OrP)}:l++al6 e i k p=l++[((⟨Y9 e i (-p.least) p.mat 1000,0,((0:Int):Rat)⟩:k7),(⟨3,i,-1,k⟩:OrP)),((⟨Y9 e i p.most p.mat (-1000),0,((0:Int):Rat)⟩:k7),(⟨4,i,-1,k⟩:OrP))]:=rfl
set_option maxHeartbeats 4000000 in
theorem b6I (e:Ev) (hm0:0<=e.mats) (hm6:e.mats<=6) {i:Nat} (hi2:i<=1000) (hp:e.purities.length<=1000) (hq:∀p ∈ e.purities,-1000<=p.least∧p.least<=1000∧-1000<=p.most∧p.most<=1000) (L:List (k7 × OrP)) (hL:L.length<=100000):
 b7 Tryz.prog 123 [.c (.ptr 0 0 0),a8 .i64 i] (hp0 e L) (.tup []) (hpP e L (I2 e i e.purities.length)):=by
 have m0:(e.purities.map s9.row).length=e.purities.length:=by simp
 have i0:=D2 0 (by decide) (by decide)
 (refine ac Tryz.func123 ?_;(conv=>whnf);repeat ((first|refine b0x ?_|refine zy ?_);conv=>whnf))
 repeat' (first|refine zx ?_|refine zd ?_ ?_<;>intro h<;>try omega|fail)<;>conv=>whnf
 refine f8 c7 (fun k=>([S.c (C.ptr 0 0 0),a8 .i64 i,J,J,J,J,J,J,J,J,J,S.c (C.t (P4 e.purities)),a8 .i64 e.purities.length,a8 .i64 k]++Jn 36,hpP e L (I2 e i k))) e.purities.length (fun _=>True) [some 0,some 1,some 2] trivial
  ⟨rfl,rfl,⟨a2s rfl rfl rfl,D6 rfl,D6 rfl,trivial⟩,⟨⟨rfl,rfl,rfl⟩,rfl,rfl,c6 (by simp),rfl,trivial⟩⟩ ?_
 intro k hk _
 have pl:=a8c (e:=e) (i:=i) k
 by_cases hlt:k<e.purities.length
 ·obtain ⟨p,hpk⟩:∃p,e.purities[k]? =some p:=⟨_,lbf hlt⟩
  obtain ⟨q1,q2,q3,q4⟩:=hq p (lbm hpk)
  by_cases hmv:p.move=(i:Int)
  ·have hsu:I2 e i (k+1)=I2 e i k++al6 e i k p:=by rw [I2,hpk];simp only;rw [if_pos hmv]
   show a13 _ _ _ _ (_,hpP e L (I2 e i k)).1 (_,hpP e L (I2 e i k)).2 _
   rw [hsu,b6u,b7Y]
   obtain ⟨M,hM⟩:∃M:List (k7 × OrP),M=L++I2 e i k:=⟨_,rfl⟩
   have ml:M.length<=110000:=by rw [hM];simp;omega
   obtain ⟨L1,hL1⟩:∃L1:List (k7 × OrP),L1=M++[((⟨Y9 e i (-p.least) p.mat 1000,0,((0:Int):Rat)⟩:k7),(⟨3,i,-1,k⟩:OrP))]:=⟨_,rfl⟩
   obtain ⟨L2,hL2⟩:∃L2:List (k7 × OrP),L2=L1++[((⟨Y9 e i p.most p.mat (-1000),0,((0:Int):Rat)⟩:k7),(⟨4,i,-1,k⟩:OrP))]:=⟨_,rfl⟩
   have l1:L1.length<=110001:=by rw [hL1];simp;omega
   have hE:L++(I2 e i k++[((⟨Y9 e i (-p.least) p.mat 1000,0,((0:Int):Rat)⟩:k7),(⟨3,i,-1,k⟩:OrP)),((⟨Y9 e i p.most p.mat (-1000),0,((0:Int):Rat)⟩:k7),(⟨4,i,-1,k⟩:OrP))])=L2:=by rw [hL2,hL1,hM];simp
   rw [hE]
   cases hl:I2 e i k with
   |nil=>
    have hML:M=L:=by rw [hM,hl,List.append_nil]
    subst hML
    have s1:=fun (R:Hp)=>a5z (H:=hp0 e M++R) (e:=e) (L:=M) (r:=1) (o:=2) rfl rfl rfl ⟨(by intro h;cases h),rfl,rfl,rfl⟩ ⟨(by intro h;cases h),rfl,rfl,rfl⟩ ⟨(by intro h;cases h),rfl,rfl,rfl⟩ hm0 hm6 i hi2 (0 - p.least) p.mat 1000 (by omega) (by decide)
    rw [show Y9 e i (0 - p.least) p.mat 1000=Y9 e i (-p.least) p.mat 1000 by rw [Int.zero_sub]] at s1
    have a1:=fun (R:Hp)=>a4h (H:=hp0 e M++R) (e:=e) (L:=M) (r:=1) (o:=2) rfl rfl rfl rfl rfl rfl (by decide) (by decide) (by decide) (by omega) (Y9 e i (-p.least) p.mat 1000) 0 ((0:Int):Rat) ⟨3,i,-1,k⟩
    rw [← hL1] at a1
    have s2:=fun (k1 k2 k3 k4:Blk)=>a5z (H:=[mkB e 5 6 L1.length,k1,k2,k3,k4,rB L1,oB L1]) (e:=e) (L:=L1) (r:=5) (o:=6) rfl rfl rfl ⟨(by intro h;cases h),rfl,rfl,rfl⟩ ⟨(by intro h;cases h),rfl,rfl,rfl⟩ ⟨(by intro h;cases h),rfl,rfl,rfl⟩ hm0 hm6 i hi2 p.most p.mat (-1000) (by omega) (by decide)
    have a2:=fun (k1 k2 k3 k4:Blk)=>a4h (H:=[mkB e 5 6 L1.length,k1,k2,k3,k4,rB L1,oB L1]) (e:=e) (L:=L1) (r:=5) (o:=6) rfl rfl rfl rfl rfl rfl (by decide) (by decide) (by decide) (by omega) (Y9 e i p.most p.mat (-1000)) 0 ((0:Int):Rat) ⟨4,i,-1,k⟩
    rw [← hL2] at a2
    conv=>whnf
    repeat' (first|refine zx ?_|refine qp i0 ?_|refine qp (_,_) ?_|refine qp (_,_) ?_|refine d7 hpk ?_|refine .inl ⟨_,_,s1 [_,_],?_⟩|refine .inr ⟨_,_,a1 [_,_],?_⟩|refine .inl ⟨_,_,s2 _ _ _ _,?_⟩|refine .inr ⟨_,_,a2 _ _ _ _,?_⟩|refine zd ?_ ?_<;>intro h<;>try omega|fail)<;>conv=>whnf
    all_goals first
     |omega
     |exact ⟨hlt,trivial,[some 0,some 1,some 2,some 7,some 8],rfl,rfl,⟨a2s rfl rfl rfl,p7,p7,D6 rfl,D6 rfl,trivial⟩,⟨⟨rfl,rfl,rfl⟩,rfl,rfl,rfl,rfl,trivial⟩⟩
   |cons w rr=>
    have hml:L++w::rr=M:=by rw [hM,hl]
    show a13 _ _ _ _ (_,hp1 e (L++w::rr)).1 (_,hp1 e (L++w::rr)).2 _
    rw [hml]
    have s1:=fun (R:Hp)=>a5z (H:=hp1 e M++R) (e:=e) (L:=M) (r:=3) (o:=4) rfl rfl rfl ⟨(by intro h;cases h),rfl,rfl,rfl⟩ ⟨(by intro h;cases h),rfl,rfl,rfl⟩ ⟨(by intro h;cases h),rfl,rfl,rfl⟩ hm0 hm6 i hi2 (0 - p.least) p.mat 1000 (by omega) (by decide)
    rw [show Y9 e i (0 - p.least) p.mat 1000=Y9 e i (-p.least) p.mat 1000 by rw [Int.zero_sub]] at s1
    have a1:=fun (R:Hp)=>a4h (H:=hp1 e M++R) (e:=e) (L:=M) (r:=3) (o:=4) rfl rfl rfl rfl rfl rfl (by decide) (by decide) (by decide) (by omega) (Y9 e i (-p.least) p.mat 1000) 0 ((0:Int):Rat) ⟨3,i,-1,k⟩
    rw [← hL1] at a1
    have s2:=fun (k1 k2 k3 k4 k5 k6:Blk)=>a5z (H:=[mkB e 7 8 L1.length,k1,k2,k3,k4,k5,k6,rB L1,oB L1]) (e:=e) (L:=L1) (r:=7) (o:=8) rfl rfl rfl ⟨(by intro h;cases h),rfl,rfl,rfl⟩ ⟨(by intro h;cases h),rfl,rfl,rfl⟩ ⟨(by intro h;cases h),rfl,rfl,rfl⟩ hm0 hm6 i hi2 p.most p.mat (-1000) (by omega) (by decide)
    have a2:=fun (k1 k2 k3 k4 k5 k6:Blk)=>a4h (H:=[mkB e 7 8 L1.length,k1,k2,k3,k4,k5,k6,rB L1,oB L1]) (e:=e) (L:=L1) (r:=7) (o:=8) rfl rfl rfl rfl rfl rfl (by decide) (by decide) (by decide) (by omega) (Y9 e i p.most p.mat (-1000)) 0 ((0:Int):Rat) ⟨4,i,-1,k⟩
    rw [← hL2] at a2
    conv=>whnf
    repeat' (first|refine zx ?_|refine qp i0 ?_|refine qp (_,_) ?_|refine qp (_,_) ?_|refine d7 hpk ?_|refine .inl ⟨_,_,s1 [_,_],?_⟩|refine .inr ⟨_,_,a1 [_,_],?_⟩|refine .inl ⟨_,_,s2 _ _ _ _ _ _,?_⟩|refine .inr ⟨_,_,a2 _ _ _ _ _ _,?_⟩|refine zd ?_ ?_<;>intro h<;>try omega|fail)<;>conv=>whnf
    all_goals first
     |omega
     |exact ⟨hlt,trivial,[some 0,some 1,some 2,some 9,some 10],rfl,rfl,⟨a2s rfl rfl rfl,p7,p7,D6 rfl,D6 rfl,trivial⟩,⟨⟨rfl,rfl,rfl⟩,rfl,rfl,rfl,rfl,trivial⟩⟩
  ·have hsu:I2 e i (k+1)=I2 e i k:=by rw [I2,hpk];simp only;rw [if_neg hmv]
   show a13 _ _ _ _ (_,hpP e L (I2 e i k)).1 (_,hpP e L (I2 e i k)).2 _
   rw [hsu]
   cases hl:I2 e i k with
   |nil=>
    conv=>whnf
    repeat' (first|refine zx ?_|refine d7 hpk ?_|refine zd ?_ ?_<;>intro h<;>try omega|fail)<;>conv=>whnf
    all_goals first
     |omega
     |exact ⟨hlt,trivial,[some 0,some 1,some 2],rfl,rfl,⟨a2s rfl rfl rfl,D6 rfl,D6 rfl,trivial⟩,⟨⟨rfl,rfl,rfl⟩,rfl,rfl,rfl,rfl,trivial⟩⟩
   |cons w rr=>
    conv=>whnf
    repeat' (first|refine zx ?_|refine d7 hpk ?_|refine zd ?_ ?_<;>intro h<;>try omega|fail)<;>conv=>whnf
    all_goals first
     |omega
     |exact ⟨hlt,trivial,[some 0,some 1,some 2,some 3,some 4],rfl,rfl,⟨a2s rfl rfl rfl,p7,p7,D6 rfl,D6 rfl,trivial⟩,⟨⟨rfl,rfl,rfl⟩,rfl,rfl,rfl,rfl,trivial⟩⟩
 ·have hke:k=e.purities.length:=by omega
  subst hke
  show a13 _ _ _ _ (_,hpP e L (I2 e i e.purities.length)).1 (_,hpP e L (I2 e i e.purities.length)).2 _
  cases hl:I2 e i e.purities.length with
  |nil=>
   conv=>whnf
   repeat' (first|refine zx ?_|refine zd ?_ ?_<;>intro h<;>try omega|fail)<;>conv=>whnf
   all_goals first
    |omega
    |exact ⟨⟨[some 0,some 1,some 2],rfl,rfl,⟨a2s rfl rfl rfl,D6 rfl,D6 rfl,trivial⟩,trivial⟩⟩
  |cons w rr=>
   conv=>whnf
   repeat' (first|refine zx ?_|refine zd ?_ ?_<;>intro h<;>try omega|fail)<;>conv=>whnf
   all_goals first
    |omega
    |exact ⟨⟨[some 0,some 1,some 2,some 3,some 4],rfl,rfl,⟨a2s rfl rfl rfl,p7,p7,D6 rfl,D6 rfl,trivial⟩,trivial⟩⟩
theorem bb7 {g:FuncId} {e:Ev} {L L':List (k7 × OrP)} {n:Int} (T:Blk) (h:b7 Tryz.prog g [.c (.ptr 0 0 0),a8 .i64 n] (hp0 e L) (.tup []) (hp1 e L')):
 b7 Tryz.prog g [.c (.ptr 0 0 0),a8 .i64 n] (hp0 e L++[T]) (.tup []) [mkB e 4 5 L'.length,aK2,aQ1,T,rB L',oB L']:=by
 refine N8 [0,1,2] h rfl rfl rfl (by decide) ?_ ?_ (by simp) rfl rfl (by simp) ?_ ?_
 ·intro i k hk
  match i,hk with
  |0,hk=>injection hk with hk;subst hk;exact ⟨rfl,rfl,by intro r hr;simp at hr;subst hr;rfl,_,rfl,⟨rfl,rfl,rfl,rfl,rfl⟩⟩
  |1,hk=>injection hk with hk;subst hk;exact ⟨rfl,rfl,J6 _,_,rfl,x9 rfl⟩
  |2,hk=>injection hk with hk;subst hk;exact ⟨rfl,rfl,J6 _,_,rfl,x9 rfl⟩
 ·intro k hk
  simp at hk
  rcases hk with rfl|rfl|rfl|rfl|rfl<;>(intro h;cases h)
 ·intro i k hk
  match i,hk with
  |0,hk=>injection hk with hk;subst hk;exact ⟨_,rfl,⟨rfl,rfl,rfl,rfl,rfl⟩⟩
  |1,hk=>injection hk with hk;subst hk;exact ⟨_,rfl,⟨rfl,rfl,rfl,rfl,rfl⟩⟩
  |2,hk=>injection hk with hk;subst hk;exact ⟨_,rfl,⟨rfl,rfl,rfl,rfl,rfl⟩⟩
  |3,hk=>injection hk with hk;subst hk;exact ⟨_,rfl,x9 rfl⟩
  |4,hk=>injection hk with hk;subst hk;exact ⟨_,rfl,x9 rfl⟩
 ·intro j hj hjn
  simp at hjn hj
  have:j=3:=by omega
  subst this;rfl
theorem a3v {H:Hp} {e:Ev} {r o:Nat} {L:List (k7 × OrP)} (h1:H[0]? =some (mkB e r o L.length)) (h2:H[r]? =some (rB L)) (h3:H[o]? =some (oB L)):a35 [some 0,some r,some o] H [some 0,some r,some o] (hp0 e L):=by
 refine ⟨?_,?_,?_,trivial⟩
 ·simp only [h1];exact a2s rfl rfl rfl
 ·simp only [h2];exact D6 rfl
 ·simp only [h3];exact D6 rfl
structure al3 (e:Ev):Prop where
 sz:e.Sized
 m1:1<=e.mats
 m6:e.mats<=6
 mv:e.moves.length<=8
 pu:e.purities.length<=20
 src:∀x ∈ e.moves,0<=x.src∧x.src<e.places.length
 pq:∀p ∈ e.purities,-1000<=p.least∧p.least<=1000∧-1000<=p.most∧p.most<=1000
theorem ai1 {e:Ev} (h:al3 e) {k:Nat} (hk:k<=e.moves.length):(a0M e k).length<=400:=by
 have h1:=a4l h.m6 k
 have h2:k*(8+2*e.purities.length)<=8*48:=lbS (by have:=h.mv;omega) (by have:=h.pu;omega)
 omega
theorem b2M {e:Ev} {k:Nat} {x:j6} (h:e.moves[k]? =some x):a0M e (k+1)=a0M e k++a37 e k x:=by rw [a0M,h]
set_option maxHeartbeats 4000000 in
theorem b3C (e:Ev) (hE:al3 e):b7 Tryz.prog 51 [evS e] [] (.c (.ptr 0 0 0)) (hp0 e (a0V e)):=by
 have m0:(e.moves.map j6.row).length=e.moves.length:=by simp
 have hm1:=hE.m1
 have hm6:=hE.m6
 have hmv:=hE.mv
 have hpu:=hE.pu
 (refine ac Tryz.func51 ?_;conv=>whnf)
 refine b0x ?_
 conv=>whnf
 repeat' (first|refine zx ?_|refine zd ?_ ?_<;>intro h<;>try omega|fail)<;>conv=>whnf
 refine aG9 (fun k=>([J,S.c (C.t (T.ptr (evT e))),J,S.c (C.ptr 0 0 0),J,J,J,J,J,J,S.c (C.t (Q7 e.moves)),a8 .i64 e.moves.length,a8 .i64 k]++Jn 23,hp0 e (a0M e k))) e.moves.length (fun _=>True) [some 0,none,none] trivial
  ⟨rfl,rfl,⟨⟨rfl,rfl,rfl,.inr ⟨⟨rfl,rfl,rfl,rfl,rfl,rfl,rfl,rfl,⟨rfl,rfl,rfl⟩,⟨rfl,rfl,rfl⟩,trivial⟩,trivial⟩⟩,⟨rfl,rfl⟩,⟨rfl,rfl⟩,trivial⟩,⟨rfl,⟨rfl,rfl,rfl⟩,rfl,c6 (by simp),rfl,trivial⟩⟩ ?_
 intro k hk _
 refine B6 c7 ?_
 conv=>whnf
 repeat' (first|refine zx ?_|refine zd ?_ ?_<;>intro h<;>try omega|fail)<;>conv=>whnf
 ·obtain ⟨x,hx⟩:∃x,e.moves[k]? =some x:=⟨_,lbf (by omega)⟩
  have hlt:k<e.moves.length:=by omega
  have ms:=hE.src x (lbm hx)
  obtain ⟨s,hsn⟩:∃s:Nat,x.src=s:=⟨x.src.toNat,by omega⟩
  obtain ⟨pl,hpl⟩:∃pl,e.places[s]? =some pl:=⟨_,lbf (by omega)⟩
  have hkd:F2 e x.src=pl.kind:=by rw [hsn];exact at7 hpl
  have l0:=ai1 hE (k:=k) (by omega)
  obtain ⟨M1,hM1⟩:∃M1:List (k7 × OrP),M1=a0M e k++(if pl.kind=0 then [] else G0 e k x e.mats.toNat):=⟨_,rfl⟩
  have l1:M1.length<=500:=by rw [hM1];split<;>simp [G0]<;>omega
  obtain ⟨M2,hM2⟩:∃M2:List (k7 × OrP),M2=M1++R9 e k x:=⟨_,rfl⟩
  have l2:M2.length<=502:=by rw [hM2,lbq,aP7];split<;>omega
  have hM3:a0M e (k+1)=M2++I2 e k e.purities.length:=by rw [b2M hx,hM2,hM1];unfold a37;rw [hkd];simp only [lbD]
  have st:=bb7 (mvB x) (b36 e hm1 hm6 (by omega) hx (a0M e k) (by omega))
  have pu:=b6I e (by omega) hm6 (i:=k) (by omega) (by omega) hE.pq M2 (by omega)
  refine B6 c7 ?_
  conv=>whnf
  refine a4w (a6A ?_)
  refine B6 c7 ?_
  conv=>whnf
  repeat' (first|refine zx ?_|refine d7 hx ?_|refine zd ?_ ?_<;>intro h<;>try omega|fail)<;>conv=>whnf
  refine a1a c7 ([J,S.c (C.t (T.ptr (evT e))),J,S.c (C.ptr 0 0 0),a8 .i64 k,J,J,J,J,J,S.c (C.t (Q7 e.moves)),a8 .i64 e.moves.length,a8 .i64 k]++Jn 23) (hp0 e M1) ?_ ?_
  ·by_cases hk0:pl.kind=0
   ·have eM:M1=a0M e k:=by rw [hM1,if_pos hk0,List.append_nil]
    rw [eM]
    conv=>whnf
    repeat' (first|refine zx ?_|refine G8 hsn hpl ?_|refine zd ?_ ?_<;>intro h<;>try omega|fail)<;>conv=>whnf
    all_goals first
     |omega
     |exact ⟨[some 0,some 1,some 2],rfl,rfl,a3v rfl rfl rfl,⟨rfl,⟨rfl,rfl,rfl⟩,rfl,rfl,rfl,rfl,trivial⟩⟩
   ·have eM:M1=a0M e k++G0 e k x e.mats.toNat:=by rw [hM1,if_neg hk0]
    rw [← eM] at st
    conv=>whnf
    repeat' (first|refine zx ?_|refine G8 hsn hpl ?_|refine .inr ⟨_,_,st,?_⟩|refine zd ?_ ?_<;>intro h<;>try omega|fail)<;>conv=>whnf
    all_goals first
     |omega
     |exact ⟨[some 0,some 4,some 5],rfl,rfl,a3v rfl rfl rfl,⟨rfl,⟨rfl,rfl,rfl⟩,rfl,rfl,rfl,rfl,trivial⟩⟩
  refine a1a c7 ([J,S.c (C.t (T.ptr (evT e))),J,S.c (C.ptr 0 0 0),a8 .i64 k,J,J,J,J,J,S.c (C.t (Q7 e.moves)),a8 .i64 e.moves.length,a8 .i64 k]++Jn 23) (hp0 e M2) ?_ ?_
  ·cases hiv:a2w e x with
   |none=>
    have eM:M2=M1:=by rw [hM2];unfold R9;rw [hiv];simp
    have we:=b2R e hE.sz hx M1 hiv
    rw [eM]
    conv=>whnf
    repeat' (first|refine zx ?_|refine .inr ⟨_,_,we,?_⟩|refine zd ?_ ?_<;>intro h<;>try omega|fail)<;>conv=>whnf
    exact ⟨[some 0,some 1,some 2],rfl,rfl,a3v rfl rfl rfl,⟨rfl,⟨rfl,rfl,rfl⟩,rfl,rfl,rfl,rfl,trivial⟩⟩
   |some pr=>
    obtain ⟨lo,hi⟩:=pr
    have we:=b2l e hE.sz (by omega) hm6 hx (by omega) M1 (by omega) hiv
    rw [← hM2] at we
    conv=>whnf
    repeat' (first|refine zx ?_|refine .inr ⟨_,_,we,?_⟩|refine zd ?_ ?_<;>intro h<;>try omega|fail)<;>conv=>whnf
    exact ⟨[some 0,some 3,some 4],rfl,rfl,a3v rfl rfl rfl,⟨rfl,⟨rfl,rfl,rfl⟩,rfl,rfl,rfl,rfl,trivial⟩⟩
  refine n9 c7 _ ?_
  rw [hM3]
  cases hl:I2 e k e.purities.length with
  |nil=>
   rw [hl] at pu
   conv=>whnf
   repeat' (first|refine zx ?_|refine .inr ⟨_,_,pu,?_⟩|refine zd ?_ ?_<;>intro h<;>try omega|fail)<;>conv=>whnf
   refine n9 c7 _ ?_
   conv=>whnf
   repeat' (first|refine zx ?_|refine zd ?_ ?_<;>intro h<;>try omega|fail)<;>conv=>whnf
   all_goals first
    |omega
    |skip
   rw [List.append_nil]
   exact ⟨hlt,trivial,[some 0,some 1,some 2],rfl,rfl,a3v rfl rfl rfl,⟨rfl,⟨rfl,rfl,rfl⟩,rfl,rfl,rfl,trivial⟩⟩
  |cons w rr=>
   rw [hl] at pu
   conv=>whnf
   repeat' (first|refine zx ?_|refine .inr ⟨_,_,pu,?_⟩|refine zd ?_ ?_<;>intro h<;>try omega|fail)<;>conv=>whnf
   refine n9 c7 _ ?_
   conv=>whnf
   repeat' (first|refine zx ?_|refine zd ?_ ?_<;>intro h<;>try omega|fail)<;>conv=>whnf
   all_goals first
    |omega
    |exact ⟨hlt,trivial,[some 0,some 3,some 4],rfl,rfl,a3v rfl rfl rfl,⟨rfl,⟨rfl,rfl,rfl⟩,rfl,rfl,rfl,trivial⟩⟩
 ·have hke:k=e.moves.length:=by omega
  subst hke
  refine B6 c7 ?_
  conv=>whnf
  repeat' (first|refine zx ?_|refine zd ?_ ?_<;>intro h<;>try omega|fail)<;>conv=>whnf
  refine ⟨⟨[some 0,some 1,some 2],rfl,rfl,a3v rfl rfl rfl,⟨rfl,rfl,rfl⟩⟩⟩
theorem b0I (e:Ev) (hE:al3 e) (T:Blk):b7 Tryz.prog 51 [evS e] [T] (.c (.ptr 1 0 0)) [T,mkB e 2 3 (a0V e).length,rB (a0V e),oB (a0V e)]:=by
 refine N8 [] (b3C e hE) rfl rfl rfl (by decide) ?_ ?_ (by simp) rfl rfl (by simp) ?_ ?_
 ·intro i k hk
  simp at hk
 ·intro k hk
  simp at hk
  rcases hk with rfl|rfl|rfl<;>(intro h;cases h)
 ·intro i k hk
  match i,hk with
  |0,hk=>injection hk with hk;subst hk;exact ⟨_,rfl,⟨rfl,rfl,rfl,rfl,rfl⟩⟩
  |1,hk=>injection hk with hk;subst hk;exact ⟨_,rfl,x9 rfl⟩
  |2,hk=>injection hk with hk;subst hk;exact ⟨_,rfl,x9 rfl⟩
 ·intro j hj _
  simp at hj
  subst hj;rfl
def a6B (e:Ev):g6:=if m8 e≠0 then ⟨0,[]⟩ else C3 e
theorem b5m (L:List (k7 × OrP)):(L.map Prod.fst).map C8=L.map fun w=>C8 w.1:=by rw [List.map_map];rfl
set_option maxHeartbeats 4000000 in
theorem a7V (e:Ev) (hs:e.Sized) (hE:m8 e=0->al3 e):b7 Tryz.prog 12 [evS e] [] (.tup [S7 (a6B e),a8 .i64 (m8 e)]) []:=by
 have ck:=S1 e hs
 have m0:(e.moves.map j6.row).length=e.moves.length:=by simp
 by_cases h0:m8 e≠0
 ·have e1:a6B e=⟨0,[]⟩:=by unfold a6B;rw [if_pos h0]
  rw [e1]
  (refine ac Tryz.func12 ?_;(conv=>whnf);repeat ((first|refine b0x ?_|refine zy ?_);conv=>whnf))
  repeat' (first|refine zx ?_|refine qp ck ?_|refine zd ?_ ?_<;>intro h<;>try omega|fail)<;>conv=>whnf
  all_goals first
   |omega
   |exact j3 ⟨⟨rfl,rfl,trivial⟩,rfl,trivial⟩
 ·have h0:m8 e=0:=by omega
  have hE:=hE h0
  have e1:a6B e=C3 e:=by unfold a6B;rw [if_neg (by omega)]
  rw [e1]
  rw [h0] at ck ⊢
  have h1:=hE.m1
  have h6:=hE.m6
  have hmv:=hE.mv
  have n0:0<=(e.moves.length:Int)*e.mats:=lbZ (by omega) (by omega)
  have n1:(e.moves.length:Int)*e.mats<=8*6:=Int.mul_le_mul (by omega) h6 (by omega) (by decide)
  have mm:((e.moves.map j6.row).length:Int)*e.mats=(e.moves.length:Int)*e.mats:=by rw [m0]
  have md:=b0I e hE
  (refine ac Tryz.func12 ?_;(conv=>whnf);repeat ((first|refine b0x ?_|refine zy ?_);conv=>whnf))
  repeat' (first|refine zx ?_|refine qp ck ?_|refine qp (0,1,2,3,4,5) ?_|refine bl0 [0,1,2,3,4,5] ?_|refine .inr ⟨_,_,md _,?_⟩|refine zd ?_ ?_<;>intro h<;>try omega|fail)<;>conv=>whnf
  all_goals first
   |omega
   |skip
  refine j3 ⟨⟨by rw [m0];rfl,show VC _ (fun id=>G3 [] id=true) _ _ from t8 rfl rfl (by intro h;cases h) rfl (by show (rB (a0V e)).rows=toC ((List.map Prod.fst (a0V e)).map C8);rw [b5m]) (by simp [C3]),trivial⟩,rfl,trivial⟩
theorem b8b {L:List (k7 × OrP)} {n j:Nat} {w:k7 × OrP} {K:List C->Prop} (e:j=n) (hw:L[n]? =some w) (h:K ((a3P w.2).map C.t)):∃row,(oB L).rows[j]? =some row∧K row:=by
 subst e;exact ⟨_,by simp [toC,hw],h⟩
def af9 (e:Ev) (i:Int):Option OrP:=if m8 e≠0 then none else if i<0 then none else (a0V e)[i.toNat]?.map Prod.snd
def orZ:OrP:=⟨0,0,0,0⟩
set_option maxHeartbeats 4000000 in
theorem b22 (e:Ev) (hs:e.Sized) (hE:m8 e=0->al3 e) (i:Int):b7 Tryz.prog 111 [evS e,a8 .i64 i] [] (.tup [.agg ((a3P ((af9 e i).getD orZ)).map C.t),f7 (af9 e i).isSome]) []:=by
 have ck:=S1 e hs
 by_cases h0:m8 e≠0∨i<0
 ·have e1:af9 e i=none:=by unfold af9;split;rfl;rw [if_pos (by omega)]
  rw [e1]
  (refine ac Tryz.func111 ?_;(conv=>whnf);repeat ((first|refine b0x ?_|refine zy ?_);conv=>whnf))
  repeat' (first|refine zx ?_|refine qp ck ?_|refine zd ?_ ?_<;>intro h<;>try omega|fail)<;>conv=>whnf
  all_goals first
   |omega
   |exact j3 ⟨⟨rfl,rfl,rfl,rfl,trivial⟩,rfl,trivial⟩
 ·have h1:m8 e=0:=by omega
  have hE:=hE h1
  obtain ⟨n,hn⟩:∃n:Nat,i=n:=⟨i.toNat,by omega⟩
  subst hn
  rw [h1] at ck
  have e1:af9 e n=(a0V e)[n]?.map Prod.snd:=by unfold af9;rw [if_neg (by omega),if_neg (by omega)];rfl
  rw [e1]
  have md:=b0I e hE
  have l0:=ai1 hE (lbQ _)
  cases hw:(a0V e)[n]? with
  |none=>
   have hl:(a0V e).length<=n:=List.getElem?_eq_none_iff.1 hw
   (refine ac Tryz.func111 ?_;(conv=>whnf);repeat ((first|refine b0x ?_|refine zy ?_);conv=>whnf))
   repeat' (first|refine zx ?_|refine qp ck ?_|refine .inr ⟨_,_,md _,?_⟩|refine zd ?_ ?_<;>intro h<;>try omega|fail)<;>conv=>whnf
   all_goals first
    |omega
    |exact j3 ⟨⟨rfl,rfl,rfl,rfl,trivial⟩,rfl,trivial⟩
  |some w=>
   have hl:=(lbe.1 hw).1
   (refine ac Tryz.func111 ?_;(conv=>whnf);repeat ((first|refine b0x ?_|refine zy ?_);conv=>whnf))
   repeat' (first|refine zx ?_|refine qp ck ?_|refine .inr ⟨_,_,md _,?_⟩|refine b8b (by omega) hw ?_|refine zd ?_ ?_<;>intro h<;>try omega|fail)<;>conv=>whnf
   all_goals first
    |omega
    |exact j3 ⟨⟨rfl,rfl,rfl,rfl,trivial⟩,rfl,trivial⟩
def aW8 (e:Ev) (hh:List (List Fr)):List Fr:=if m8 e≠0∨hh.length≠e.moves.length∨hh.any (fun l=>decide ((l.length:Int)≠e.mats)) then [] else hh.flatten
structure D8 where
 mv:Int
 mat:Int
def D8.row (p:D8):List T:=[ti p.mv,ti p.mat]
abbrev R0 (l:List D8):T:=.sl 2 .any (l.map D8.row)
abbrev F6 (l:List D8):S:=.c (.t (R0 l))
def U7 (hh:List (List Fr)) (p:D8):Option Rat:=
 if 0<=p.mv∧0<=p.mat then match (hh.getD p.mv.toNat [])[p.mat.toNat]? with
  |some f=>if C9 f then some (fv f) else none
  |none=>none
 else none
def a1y (hh:List (List Fr)):Rat->List D8->Option Rat
 |a,[]=>some a
 |a,p::r=>match U7 hh p with
  |none=>none
  |some v=>a1y hh (a+v) r
abbrev bd9 (o:Option Rat):List S:=match o with
 |some x=>[frS (fz x),f7 true]
 |none=>[frS I3,f7 false]
theorem bf3 {f:Fr} {n:Nat} (h:C9 f=true) (l1:f.p.dl.length<=n) (l2:f.q.dl.length<=n):rl (fv f)<=n:=by
 have e:=b45 h
 have h1:(fz (fv f)).p.dl.length<=n:=by rw [← e];exact l1
 have h2:(fz (fv f)).q.dl.length<=n:=by rw [← e];exact l2
 exact Nat.max_le.2 ⟨h1,h2⟩
set_option maxHeartbeats 4000000 in
theorem b6G (hh:List (List Fr)) (ps:List D8) (hS:a6a 200 hh) (hp:ps.length<=200):b7 Tryz.prog 28 [Z9 hh,F6 ps] [] (.tup (bd9 (a1y hh zR ps))) []:=by
 have m1:(ps.map D8.row).length=ps.length:=by simp
 have m2:(hh.map L3).length=hh.length:=by simp
 have i0:=D2 0 (by decide) (by decide)
 have h1:=hS.l1
 (refine ac Tryz.func28 ?_;(conv=>whnf);repeat ((first|refine b0x ?_|refine zy ?_);conv=>whnf))
 repeat' (first|refine zx ?_|refine qp i0 ?_|refine zd ?_ ?_<;>intro h<;>try omega|fail)<;>conv=>whnf
 refine u9 c7 (σ:=Nat × Rat) (fun|(k,a)=>([Z9 hh,J,J,J,S.c (C.ptr 0 0 0),J,S.c (C.ptr 1 0 0),J,J,J,F6 ps,a8 .i64 ps.length,a8 .i64 k]++Jn 59,[frB I3,frB (fz a)])) (fun s=>s.1<=ps.length∧a1y hh s.2 (ps.drop s.1)=a1y hh zR ps∧rl s.2<=s.1*201+1) (fun s=>ps.length - s.1) (0,zR) [some 0,some 1]
  ⟨Nat.zero_le _,rfl,by rw [a54];omega⟩ ⟨rfl,rfl,⟨⟨rfl,rfl,rfl,.inr ⟨⟨rfl,rfl,rfl,rfl,trivial⟩,trivial⟩⟩,⟨rfl,rfl,rfl,.inl ⟨rfl,m9 _⟩⟩,trivial⟩,⟨rfl,⟨rfl,rfl,rfl⟩,⟨rfl,rfl,rfl⟩,i5 rfl,c6 (by simp),rfl,trivial⟩⟩ ?_
 rintro ⟨k,a⟩ ⟨hk,hI,hr⟩
 have hk:k<=ps.length:=hk
 have hI:a1y hh a (ps.drop k)=a1y hh zR ps:=hI
 have hr:rl a<=k*201+1:=hr
 by_cases hlt:k<ps.length
 ·obtain ⟨p,hpk⟩:∃p,ps[k]? =some p:=⟨_,lbf hlt⟩
  rw [aa3 hpk] at hI
  have hI:(match U7 hh p with|none=>none|some v=>a1y hh (a+v) (ps.drop (k+1)))=a1y hh zR ps:=hI
  by_cases hmv:0<=p.mv∧p.mv<hh.length
  ·obtain ⟨l,hl⟩:∃l,hh[p.mv.toNat]? =some l:=⟨_,lbf (by omega)⟩
   have m3:(l.map j5).length=l.length:=by simp
   have hgd:hh.getD p.mv.toNat []=l:=by rw [lbl,hl];rfl
   by_cases hmt:0<=p.mat∧p.mat<l.length
   ·obtain ⟨f,hf⟩:∃f,l[p.mat.toNat]? =some f:=⟨_,lbf (by omega)⟩
    obtain ⟨q1,q2⟩:=hS.l3 l (lbm hl) f (lbm hf)
    have r:=a36 f (by omega) (by omega)
    cases hrf:C9 f with
    |false=>
     have hv:U7 hh p=none:=by unfold U7;rw [if_pos ⟨hmv.1,hmt.1⟩,hgd,hf];simp [hrf]
     rw [hv] at hI
     rw [hrf] at r
     conv=>whnf
     repeat' (first|refine zx ?_|refine qp r ?_|refine d7 hpk ?_|refine F3 (by omega) hl ?_|refine F3 (by omega) hf ?_|refine zd ?_ ?_<;>intro h<;>try omega|fail)<;>conv=>whnf
     all_goals first
      |omega
      |(rw [← hI];exact j3 ⟨⟨rfl,rfl,rfl,rfl,trivial⟩,rfl,trivial⟩)
    |true=>
     have hv:U7 hh p=some (fv f):=by unfold U7;rw [if_pos ⟨hmv.1,hmt.1⟩,hgd,hf];simp [hrf]
     rw [hv] at hI
     have hI:a1y hh (a+fv f) (ps.drop (k+1))=a1y hh zR ps:=hI
     rw [hrf] at r
     have bf:=bf3 hrf q1 q2
     have ba:=a0q a (fv f)
     have ad:=a0y a (fv f) (by omega) (by omega)
     rw [← b45 hrf] at ad
     conv=>whnf
     repeat' (first|refine zx ?_|refine qp r ?_|refine qp ad ?_|refine qp 13 ?_|refine d7 hpk ?_|refine F3 (by omega) hl ?_|refine F3 (by omega) hf ?_|refine bl0 [13] ?_|refine zd ?_ ?_<;>intro h<;>try omega|fail)<;>conv=>whnf
     all_goals first
      |omega
      |exact ⟨[some 0,some 1],(k+1,a+fv f),⟨rfl,rfl,⟨⟨rfl,rfl,rfl,.inl ⟨rfl,m9 _⟩⟩,⟨rfl,rfl,rfl,.inl ⟨rfl,m9 _⟩⟩,trivial⟩,⟨rfl,⟨rfl,rfl,rfl⟩,⟨rfl,rfl,rfl⟩,rfl,rfl,c6 (by omega),trivial⟩⟩,⟨hlt,hI,by show rl (a+fv f)<=(k+1)*201+1;omega⟩,by show ps.length - (k+1)<ps.length - k;omega⟩
   ·have hv:U7 hh p=none:=by
     unfold U7
     by_cases hc:0<=p.mv∧0<=p.mat
     ·rw [if_pos hc,hgd,lbd (by omega)]
     ·rw [if_neg hc]
    rw [hv] at hI
    conv=>whnf
    repeat' (first|refine zx ?_|refine d7 hpk ?_|refine F3 (by omega) hl ?_|refine zd ?_ ?_<;>intro h<;>try omega|fail)<;>conv=>whnf
    all_goals first
     |omega
     |(rw [← hI];exact j3 ⟨⟨rfl,rfl,rfl,rfl,trivial⟩,rfl,trivial⟩)
  ·have hv:U7 hh p=none:=by
    unfold U7
    by_cases hc:0<=p.mv∧0<=p.mat
    ·rw [if_pos hc,lbl,lbd (l:=hh) (i:=p.mv.toNat) (by omega)];rfl
    ·rw [if_neg hc]
   rw [hv] at hI
   conv=>whnf
   repeat' (first|refine zx ?_|refine d7 hpk ?_|refine zd ?_ ?_<;>intro h<;>try omega|fail)<;>conv=>whnf
   all_goals first
    |omega
    |(rw [← hI];exact j3 ⟨⟨rfl,rfl,rfl,rfl,trivial⟩,rfl,trivial⟩)
 ·have hke:k=ps.length:=by omega
  subst hke
  rw [lbo (lbQ _)] at hI
  have hI:some a=a1y hh zR ps:=hI
  rw [← hI]
  conv=>whnf
  repeat' (first|refine zx ?_|refine zd ?_ ?_<;>intro h<;>try omega|fail)<;>conv=>whnf
  all_goals first
   |omega
   |exact j3 ⟨⟨rfl,rfl,rfl,rfl,trivial⟩,rfl,trivial⟩
theorem am1 (b:Bg) (hl:b.dl.length<=1000000):b7 Tryz.prog 134 [bgS b,bgS b] [] (f7 true) []:=by
 have l2:(b.dl.map e8).length=b.dl.length:=by simp
 (refine ac Tryz.func134 ?_;(conv=>whnf);repeat ((first|refine b0x ?_|refine zy ?_);conv=>whnf))
 repeat' (first|refine zx ?_|refine zd ?_ ?_<;>intro h<;>try omega|fail)<;>conv=>whnf
 all_goals try omega
 refine f8 c7 (fun k=>([J,J,S.c (C.t (T.ptr [ti b.sg,N3 b.dl])),S.c (C.t (T.ptr [ti b.sg,N3 b.dl])),J,a8 .i64 k]++Jn 32,[])) b.dl.length (fun _=>True) [] trivial
  ⟨rfl,rfl,trivial,⟨rfl,rfl,rfl,trivial⟩⟩ ?_
 intro k hk _
 by_cases hlt:k<b.dl.length
 ·conv=>whnf
  repeat' (first|refine zx ?_|refine d7 (A9 (by omega)) ?_|refine zd ?_ ?_<;>intro h<;>try omega|fail)<;>conv=>whnf
  all_goals first
   |omega
   |exact ⟨hlt,trivial,[],rfl,rfl,trivial,⟨rfl,rfl,rfl,trivial⟩⟩
 ·conv=>whnf
  repeat' (first|refine zx ?_|refine zd ?_ ?_<;>intro h<;>try omega|fail)<;>conv=>whnf
  all_goals first
   |omega
   |exact c9 rfl
theorem b0K (f:Fr) (lp:f.p.dl.length<=1000000) (lq:f.q.dl.length<=1000000):b7 Tryz.prog 60 [frS f,frS f] [] (f7 true) []:=by
 have s1:=am1 f.p lp
 have s2:=am1 f.q lq
 (refine ac Tryz.func60 ?_;(conv=>whnf);repeat ((first|refine b0x ?_|refine zy ?_);conv=>whnf))
 repeat' (first|refine zx ?_|refine qp s1 ?_|refine qp s2 ?_|refine zd ?_ ?_<;>intro h<;>try omega|fail)<;>conv=>whnf
 all_goals first
  |(exfalso;simp_all;done)
  |exact c9 rfl
def b1E (n:Int) (f:Fr):Bool:=decide ((f.p.dl.length:Int)<=n) && decide ((f.q.dl.length:Int)<=n)
theorem b3t (f:Fr) (n:Int):b7 Tryz.prog 88 [frS f,a8 .i64 n] [] (f7 (b1E n f)) []:=by
 have l1:(f.p.dl.map e8).length=f.p.dl.length:=by simp
 have l2:(f.q.dl.map e8).length=f.q.dl.length:=by simp
 (refine ac Tryz.func88 ?_;(conv=>whnf);repeat ((first|refine b0x ?_|refine zy ?_);conv=>whnf))
 repeat' (first|refine zx ?_|refine zd ?_ ?_<;>intro h<;>try omega|fail)<;>conv=>whnf
 all_goals (refine c9 ?_;unfold b1E;simp;omega)
section
open Go.RowKit Go.Shelf
attribute [local go_sem] Oper.semAt_some
structure p8 (B n:Nat) (w w':World):Prop where
 os:w'.os=w.os
 tape:w'.tape=w.tape
 output:w'.output=w.output
 size:w.heap.size<=w'.heap.size
 block:∀k,k<n->k≠B->w'.heap[k]? =w.heap[k]?
theorem p8.refl (B n:Nat) (w:World):p8 B n w w:=⟨rfl,rfl,rfl,lbQ _,fun _ _ _=>rfl⟩
theorem p8.trans {B n:Nat} {a b c:World} (h:p8 B n a b) (k:p8 B n b c):p8 B n a c:=
 ⟨k.os.trans h.os,k.tape.trans h.tape,k.output.trans h.output,lbR h.size k.size,fun i hi hB=>(k.block i hi hB).trans (h.block i hi hB)⟩
theorem p8.of {B n:Nat} {a b:World} (h:Below n a b):p8 B n a b:=⟨h.os,h.tape,h.output,h.size,fun k hk _=>h.block k hk⟩
theorem p8.drew {B n:Nat} {a w:World} (h:p8 B n a w):p8 B n a w.drew:=⟨h.os,h.tape,h.output,h.size,h.block⟩
theorem p8.cell {B n:Nat} {w w':World} (h:p8 B n w w') {p:Addr} (hp:p.block<n) (hB:p.block≠B):w'.cell? p=w.cell? p:=World.cell?_of_block (w:=w) (h.block p.block hp hB)
theorem p8.mono {B n:Nat} {w w':World} (h:p8 B n w w') {m:Nat} (hm:m<=n):p8 B m w w':=⟨h.os,h.tape,h.output,h.size,fun k hk=>h.block k (by omega)⟩
theorem p8.low {B n:Nat} {w w':World} (h:p8 B n w w') {m:Nat} (hm:m<=n) (hB:m<=B):Below m w w':=⟨h.os,h.tape,h.output,h.size,fun k hk=>h.block k (by omega) (by omega)⟩
def ckV (b off c i:Nat):Value:=.slice (some ⟨b,off+i*c*4,none⟩) c c
set_option maxRecDepth 100000 in
set_option maxHeartbeats 2000000 in
theorem ba6 (F:Fence) (n:Nat) (hF:F.fn 138) (hro:F.round=none) (hn:1<=n) (l X Bs Bn n₀ b off c N cap:Nat) (hBs:Bs<n₀) (hBn:Bn<n₀) (xBs:Bs≠X) (xBn:Bn≠X) (hc:1<=c) (hc2:c<=1000) (hN:N<=1000) (hcap:N*c<=cap) (len:Nat) (hl:len=N*c)
 (J Jx:List Nat->World->Prop) (hJd:∀pre W,J pre W->J pre W.drew)
 (hY:∀pre x W,J pre W->pre.length<N->YieldAt F (n - 1) Tryz.prog l #[ckV b off c x] W fun e W'=>
   (e=.returned (.bool true)∧J (pre++[x]) W'∧p8 X n₀ W W')∨(e=.returned (.bool false)∧Jx (pre++[x]) W'))
 (W:World) (h1:W.cell? ⟨Bs,0,none⟩=some (.slice (some ⟨b,off,none⟩) len cap)) (h2:W.cell? ⟨Bn,0,none⟩=some (.int .i64 c)) (h0:J [] W):
 CallsIn F n Tryz.prog 138 #[.func (.yield l) #[] #[],.pointer (some ⟨Bs,0,none⟩),.pointer (some ⟨Bn,0,none⟩)] W fun e W'=>(∃ v,e=.returned v)∧
  ((∃ ys,ys=List.range N∧J ys W')∨(∃ pre,(∃ k,k<=N∧pre=List.range k)∧Jx pre W')):=by
 refine callsIn_of_wp Tryz.func138 rfl hF ?_ hro
 simp only [Tryz.ntmps138,List.size_toArray,lbu,List.length_nil,Nat.reduceAdd,Nat.reduceSub,Array.replicate_succ,Array.replicate_zero,List.push_toArray,List.append_toArray,List.nil_append,List.cons_append]
 gi_wp2
 gi_loopw [4] (fun i wr=>∃k s:Nat,k<=N∧s=k*c∧i=.int .i64 (s:Int)∧J (List.range k) wr∧p8 X n₀ W wr)
  (fun i _=>len - (intOf i).toNat)
 case atStart=>exact ⟨0,0,Nat.zero_le _,by simp,rfl,h0,p8.refl _ _ _⟩
 case round=>
  obtain ⟨k,s,hk,hs,rfl,hJs,hnx⟩:=hrel
  have q1:=(hnx.cell (p:=⟨Bs,0,none⟩) hBs xBs).trans h1
  have q2:=(hnx.cell (p:=⟨Bn,0,none⟩) hBn xBn).trans h2
  by_cases hlt:k<N
  ·obtain ⟨fn,tmps,assign,body,hy,hR⟩:=hY _ k wr.drew (hJd _ _ hJs) (by rw [List.length_range];exact hlt)
   simp only [ckV] at hy
   have b1:s+c<=len:=by
    have:(k+1)*c<=N*c:=lbT _ hlt
    rw [lbU] at this;omega
   have b2:len<=1000000:=by rw [hl];exact lbS hN hc2
   gi_wp2
   all_goals try omega
   gi_region
   all_goals try omega
   all_goals gi_wp2
   all_goals try omega
   all_goals
    refine hR.mono ?_
    rintro e W3 (⟨rfl,hJ3,hk3⟩|⟨rfl,hJx3⟩)
    ·have hnx3:p8 X n₀ W W3:=hnx.trans (((p8.refl X n₀ wr).drew).trans hk3)
     have q3:=(hnx3.cell (p:=⟨Bn,0,none⟩) hBn xBn).trans h2
     gi_wp2
     go_roundw
     case rel=>exact ⟨k+1,(k+1)*c,by omega,rfl,by simp [lbU],by rw [List.range_succ];exact hJ3,hnx3⟩
     case measure=>simp [intOf];omega
    ·gi_wp2
     refine bodyPost_ret (results_none rfl _ _ _) rfl ?_
     exact ⟨⟨_,rfl⟩,.inr ⟨_,⟨k+1,by omega,List.range_succ.symm⟩,hJx3⟩⟩
  ·obtain rfl:k=N:=by omega
   have b1:s=len:=by omega
   gi_wp2
   all_goals try omega
   go_end0
   exact ⟨⟨_,rfl⟩,.inl ⟨_,rfl,hJs⟩⟩
set_option maxRecDepth 100000 in
set_option maxHeartbeats 1000000 in
theorem b8V (F:Fence) (n:Nat) (hF:F.fn 138) (hro:F.round=none) (l Bs Bn:Nat) (A:Option Addr) (cap:Nat)
 (J:List Nat->World->Prop) (W:World) (h1:W.cell? ⟨Bs,0,none⟩=some (.slice A 0 cap)) (h0:J [] W):
 CallsIn F n Tryz.prog 138 #[.func (.yield l) #[] #[],.pointer (some ⟨Bs,0,none⟩),.pointer (some ⟨Bn,0,none⟩)] W fun e W'=>(∃ v,e=.returned v)∧J [] W':=by
 refine callsIn_of_wp Tryz.func138 rfl hF ?_ hro
 simp only [Tryz.ntmps138,List.size_toArray,lbu,List.length_nil,Nat.reduceAdd,Nat.reduceSub,Array.replicate_succ,Array.replicate_zero,List.push_toArray,List.append_toArray,List.nil_append,List.cons_append]
 gi_wp2
 gi_loopw [4] (fun i wr=>i=.int .i64 0∧J [] wr∧wr.cell? ⟨Bs,0,none⟩=some (.slice A 0 cap)) (fun _ _=>0)
 case atStart=>exact ⟨rfl,h0,h1⟩
 case round=>
  obtain ⟨rfl,hJs,q1⟩:=hrel
  gi_wp2
  go_end0
  exact ⟨⟨_,rfl⟩,hJs⟩
def be1 (b off c N:Nat) (sv:Value):Prop:=(N=0∧∃A cap,sv=.slice A 0 cap)∨∃cap,sv=.slice (some ⟨b,off,none⟩) (N*c) cap∧N*c<=cap
theorem b5V (F:Fence) (n:Nat) (hF:F.fn 138) (hro:F.round=none) (hn:1<=n) (X Bs Bn n₀ b off c N:Nat) (sv:Value) (hBs:Bs<n₀) (hBn:Bn<n₀) (xBs:Bs≠X) (xBn:Bn≠X) (hc:1<=c) (hc2:c<=1000) (hN:N<=1000) (hsv:be1 b off c N sv)
 (w:World) (hn₀:n₀<=w.heap.size) (h1:w.cell? ⟨Bs,0,none⟩=some sv) (h2:w.cell? ⟨Bn,0,none⟩=some (.int .i64 c)):
 SeqStopsK F n Tryz.prog 138 #[.pointer (some ⟨Bs,0,none⟩),.pointer (some ⟨Bn,0,none⟩)] (fun i:Nat=>#[ckV b off c i]) (p8 X n₀) (fun ys=>ys=List.range N) (fun pre=>pre <+: List.range N) N w:=fun l J Jx W hW hJ _ hY h0=>by
 have q1:=(hW.cell (p:=⟨Bs,0,none⟩) (by show Bs<w.heap.size;omega)).trans h1
 have q2:=(hW.cell (p:=⟨Bn,0,none⟩) (by show Bn<w.heap.size;omega)).trans h2
 rcases hsv with ⟨rfl,A,cap,rfl⟩|⟨cap,rfl,hcap⟩
 ·exact (b8V F n hF hro l Bs Bn A cap J W q1 h0).mono fun e W' ⟨he,hj⟩=>⟨he,.inl ⟨_,rfl,hj⟩⟩
 ·refine (ba6 F n hF hro hn l X Bs Bn n₀ b off c N cap hBs hBn xBs xBn hc hc2 hN hcap (N*c) rfl J Jx (fun pre W1 h=>?_) hY W q1 q2 h0).mono ?_
  ·exact hJ pre W1 W1.drew none h ⟨rfl,rfl,rfl,lbQ _,fun _ _ _=>rfl⟩ (fun r e=>by cases e)
  ·rintro e W' ⟨he,⟨ys,rfl,hj⟩|⟨pre,⟨k,hk,rfl⟩,hj⟩⟩
   ·exact ⟨he,.inl ⟨_,rfl,hj⟩⟩
   ·refine ⟨he,.inr ⟨_,?_,hj⟩⟩
    rw [show List.range k=(List.range N).take k by rw [List.take_range,Nat.min_eq_left hk]]
    exact List.take_prefix _ _
set_option maxRecDepth 100000 in
set_option maxHeartbeats 1000000 in
theorem b6o (A:Option Addr) (len cap c:Nat) (hc:1<=c) (hc2:c<=1000) (w:World):
 Calls Tryz.prog 64 #[.slice A len cap,.int .i64 c] w fun e w'=>e=.returned (.func (.func 138) #[] #[.pointer (some ⟨w.heap.size,0,none⟩),.pointer (some ⟨w.heap.size+1,0,none⟩)])∧
  w'=(w.alloc (.cells #[.slice A len cap] 36)).alloc (.cells #[.int .i64 c] 3):=by
 go_enter Tryz.func64,Tryz.ntmps64
 go_wp2
 all_goals try omega
 go_ret
 exact ⟨rfl,rfl⟩
end
theorem b5c (l:List Fr) (h0:0<l.length) (h1:l.length<=100000):b7 Tryz.prog 65 [j7 l] [] (j7 l) []:=by
 have m1:(l.map j5).length=l.length:=by simp
 have hl:0<(l.map j5).length:=by omega
 (refine ac Tryz.func65 ?_;(conv=>whnf);repeat (refine zy ?_;conv=>whnf))
 repeat' (first|refine zx ?_|refine qp (toC,lbr,List.length_nil) ?_|refine qp (toC,lbr) ?_|refine ⟨hl,?_⟩|refine zz ?_|refine F0 rfl (by simp only [toC,lbr,List.length_nil];omega) ?_|refine y9 (Nat.zero_le _) (by simp only [toC,lbr];omega) ?_|refine zd ?_ ?_<;>intro h<;>try omega|fail)<;>conv=>whnf
 all_goals first
  |omega
  |exact J7 rfl (by intro h;cases h) rfl rfl (by simp only [toC,lbr,List.length_nil,Nat.zero_add])
set_option maxHeartbeats 4000000 in
theorem b4F (e:Ev) (hs:e.Sized) (hE:m8 e=0->al3 e) (x:List Fr) (hx:x.length<=100000) (h:m8 e≠0∨(x.length:Int)≠(e.moves.length:Int)*e.mats):b7 Tryz.prog 23 [evS e,j7 x] [] (Z9 []) []:=by
 have ck:=S1 e hs
 have m0:(e.moves.map j6.row).length=e.moves.length:=by simp
 have m1:(x.map j5).length=x.length:=by simp
 by_cases h0:m8 e=0
 ·have hE:=hE h0
  rw [h0] at ck
  have h1:=hE.m1
  have h6:=hE.m6
  have hmv:=hE.mv
  have n0:0<=(e.moves.length:Int)*e.mats:=lbZ (by omega) (by omega)
  have n1:(e.moves.length:Int)*e.mats<=8*6:=Int.mul_le_mul (by omega) h6 (by omega) (by decide)
  have mm:((e.moves.map j6.row).length:Int)*e.mats=(e.moves.length:Int)*e.mats:=by rw [m0]
  (refine ac Tryz.func23 ?_;(conv=>whnf);repeat ((first|refine b0x ?_|refine zy ?_);conv=>whnf))
  repeat' (first|refine zx ?_|refine qp ck ?_|refine zd ?_ ?_<;>intro h<;>try omega|fail)<;>conv=>whnf
  all_goals first
   |omega
   |exact j3 rfl
 ·(refine ac Tryz.func23 ?_;(conv=>whnf);repeat ((first|refine b0x ?_|refine zy ?_);conv=>whnf))
  repeat' (first|refine zx ?_|refine qp ck ?_|refine zd ?_ ?_<;>intro h<;>try omega|fail)<;>conv=>whnf
  all_goals first
   |omega
   |exact j3 rfl
open Go.RowKit Go.Shelf
theorem a8O (w:World) (ι:Io) (M:Ms):j8 w ι M []:=
 ⟨fun id k h=>by simp at h,fun id k h=>by simp at h,fun id k h=>by simp at h,fun id id' k k' h=>by simp at h,fun id id' k k' h=>by simp at h⟩
theorem a1b {P:Program} {g:FuncId} {args:List S} {r:S} (h:b7 P g args [] r []) {w:World} {ι:Io} {M:Ms} {vals:List Value} (hl:vals.length=args.length)
 (hv:∀j s,args[j]? =some s->RS w ι M s (vals.getD j undef)) (hMB:MB w M) (hF:a0f ι 0):
 Calls P g vals.toArray w fun e w'=>∃v,e=.returned v∧(∃ ι' M',RS w' ι' M' r v∧(∀ b,M b->M' b))∧Below w.heap.size w w':=by
 have:=h.2 w ι M vals hl hv (a8O _ _ _) hMB hF
 refine Calls.mono this ?_
 rintro e w' ⟨v,rfl,ι',M',h1,h2,h3,h4,h5⟩
 have nl:∀b,¬a24 ι [] b:=by rintro b ⟨id,k,c,s,hk,_⟩;simp at hk
 refine ⟨v,rfl,⟨ι',M',h1,fun b hb=>?_⟩,⟨h5.os,h5.tape,h5.output,h5.size,fun b hb=>h5.keep b hb (nl b)⟩⟩
 rcases h5.mold b hb with h|h
 ·exact h
 ·exact absurd h (nl b)
theorem a8Y {w w':World} {ι:Io} {M:Ms} {s:S} {v:Value} (h:RS w' ι M s v) (hb:Below w.heap.size w w') (hMB:MB w M) (hF:a0f ι 0):F4 w ι M [] s [] v w':=
 ⟨ι,M,h,a8O _ _ _,fun b hm=>Nat.lt_of_lt_of_le (hMB b hm) hb.size,hF,
   ⟨hb.os,hb.tape,hb.output,hb.size,fun b hb' _=>hb.block b hb',fun _ _=>rfl,fun b h=>.inl h,fun b h=>.inl h,fun b h=>by obtain ⟨id,k,c,s,hk,_⟩:=h;simp at hk,lbQ _⟩⟩
theorem b2J {w w':World} {ι:Io} {M:Ms} (hb:Below w.heap.size w w') {s:S} {v:Value} (h:RS w ι M s v):RS w' ι M s v:=
 h.keep (fun b hb' _=>hb.block b hb') (fun b h=>.inl h) (fun _ _ h=>h)
def F8 (c N:Nat) (x:List Fr):List (List Fr):=(List.range N).map fun i=>(x.drop (i*c)).take c
theorem aa7 (c N:Nat) (x:List Fr):(F8 c N x).length=N:=by simp [F8]
theorem aq2 {c N:Nat} {x:List Fr} (hx:x.length=N*c) {i:Nat} (hi:i<N):((x.drop (i*c)).take c).length=c:=by
 have:(i+1)*c<=N*c:=lbT _ hi
 rw [lbU] at this
 simp;omega
theorem a9w {α β:Type} (l:List α) (f:α->List β) (i j:Nat):at2 (l.map f) i j=(l[i]?).bind fun a=>(f a)[j]?:=by
 simp [at2]
 cases l[i]?<;>rfl
theorem b2Y {w2 W:World} {M M2:Ms} {x:List Fr} {A:Option Addr} {len cap b off:Nat} (hx:RT w2 M2 (E9 x) (.slice A len cap)) {X:Nat} (hk:p8 X w2.heap.size w2 W) (hX:M2 X) (hM:∀k,M k->M2 k)
 {N c:Nat} (hl:x.length=N*c) (hc:1<=c) {n₀ e:Nat} {v:Value} (hrow:W.ownsRow n₀ e 1 v N ((List.range N).map (ckV b off c))) (hn:∀k,M k->k<n₀) (hc2:c<=1000) (hN:N<=maxLen) (hm:1000<=maxLen) (hA:0<N->A=some ⟨b,off,none⟩):
 RT W M (b0f (F8 c N x)) v:=by
 cases hx with
 |@sl _ _ _ b' off' cap A f hrow' hcap hmax hk1 hn1 hA' hcc hr hx1=>
 have cl:((F8 c N x).map L3).length=N:=by simp [F8]
 have row:∀i,i<N->RT W M (E9 ((x.drop (i*c)).take c)) (ckV b off c i):=by
  intro i hi
  have hlen:=aq2 hl hi
  have ml:(((x.drop (i*c)).take c).map j5).length=c:=by simp only [lbr];exact hlen
  have e0:ckV b off c i=.slice (some ⟨b,off+i*c*4,none⟩) (((x.drop (i*c)).take c).map j5).length c:=by rw [ml];rfl
  have ile:(i+1)*c<=N*c:=lbT _ hi
  rw [lbU] at ile
  have hAA:=hA' (by intro h;have h9:=congrArg List.length h;rw [lbr,List.length_nil] at h9;omega)
  rw [hA (by omega)] at hAA
  injection hAA with hAA
  injection hAA with h1 h2
  subst h1;subst h2
  rw [e0]
  have key:∀r j t,at2 (((x.drop (i*c)).take c).map j5) r j=some t->at2 (x.map j5) (i*c+r) j=some t:=by
   intro r j t h
   rw [a9w] at h ⊢
   rw [lbi] at h
   split at h
   ·rw [lbj] at h;exact h
   ·simp at h
  refine .sl (b:=b) (off:=off+i*c*4) (fun r j=>f (i*c+r) j) ?_ (by rw [ml];exact lbQ _) (by omega) (fun h=>by cases h) (fun h=>by cases h) (fun _=>rfl) ?_ ?_
  ·intro r hr'
   obtain ⟨q,hq,rfl⟩:=lbx.1 hr'
   rfl
  ·intro r j t ht
   have h3:=hcc _ _ _ (key r j t ht)
   have h4:off+i*c*4+(r*4+j)=off+((i*c+r)*4+j):=by rw [Nat.add_mul];omega
   rw [h4]
   exact ⟨(World.cell?_of_block (hk.block _ (a7L h3.1) (fun e=>h3.2 (by have e9:b=X:=e;rw [e9];exact hX)))).trans h3.1,fun h=>h3.2 (hM _ h)⟩
  ·intro r j t ht
   exact (hr _ _ _ (key r j t ht)).keep (fun b hb hb2=>hk.block b hb (fun e=>hb2 (by rw [e];exact hX))) (fun b h=>.inl (hM b h))
 have at1:∀i j t,at2 ((F8 c N x).map L3) i j=some t->i<N∧j=0∧t=E9 ((x.drop (i*c)).take c):=by
  intro i j t h
  rw [a9w,F8,lba] at h
  by_cases hi:i<N
  ·rw [lbh hi] at h
   cases j with
   |zero=>simp [L3] at h;exact ⟨hi,rfl,h.symm⟩
   |succ j=>simp [L3] at h
  ·rw [lbd (by simp;omega)] at h
   simp at h
 have size1:∀r ∈ (F8 c N x).map L3,r.length=1:=by
  intro r hr'
  obtain ⟨q,hq,rfl⟩:=lbx.1 hr'
  rfl
 rcases hrow.2 with ⟨rfl,h0⟩|⟨g,cap1,cur,rfl,hg,hcur,hcap1,hcm,hcs,htake⟩
 ·have e1:Value.slice none 0 0=.slice none ((F8 c N x).map L3).length 0:=by rw [cl,h0]
  rw [e1]
  refine .sl (b:=0) (off:=0) (fun _ _=>undef) size1 (by rw [cl];omega) (Nat.zero_le _) (fun h=>by cases h) (fun h=>by cases h) (fun h=>absurd (lbF (cl.trans h0)) h) (fun i j t h=>?_) (fun i j t h=>?_)
  ·have:=(at1 i j t h).1;omega
  ·have:=(at1 i j t h).1;omega
 ·have e1:Value.slice (some ⟨g,0,none⟩) N cap1=.slice (some ⟨g,0,none⟩) ((F8 c N x).map L3).length cap1:=by rw [cl]
  rw [e1]
  refine .sl (b:=g) (off:=0) (fun i _=>ckV b off c i) size1 (by rw [cl];exact hcap1) hcm (fun h=>by cases h) (fun h=>by cases h) (fun _=>rfl) (fun i j t h=>?_) (fun i j t h=>?_)
  ·obtain ⟨hi,rfl,rfl⟩:=at1 i j t h
   refine ⟨?_,fun h=>?_⟩
   ·have h5:cur[i]? =some (ckV b off c i):=by
     have:=congrArg (·[i]?) htake
     simp only [lbi,lba,Nat.mul_one] at this
     rw [if_pos hi,lbh hi] at this
     simpa using this
    simp [World.cell?,hcur,h5]
   ·have:=hn _ h;omega
  ·obtain ⟨hi,rfl,rfl⟩:=at1 i j t h
   exact row i hi
section
open Go.RowKit Go.Shelf
attribute [local go_sem] Oper.semAt_some
theorem b8a {w:World} {ι:Io} {M:Ms} {e:Ev} {v:Value} (h:RS w ι M (evS e) v):∃(a b:Int) (v3:Value) (A4:Option Addr) (c4:Nat) (v5 v6 v7:Value),
 v=.agg #[.int .i64 e.mats,.int .i64 a,.int .i64 b,v3,.slice A4 e.moves.length c4,v5,v6,v7]∧v3.oneCell'=true∧v5.oneCell'=true∧v6.oneCell'=true∧v7.oneCell'=true:=by
 cases h with
 |agg vs hl hr=>
  match vs,hl,hr with
  |[u0,u1,u2,u3,u4,u5,u6,u7],_,hr=>
   have h0:=hr 0 _ rfl
   have h1:=hr 1 _ rfl
   have h2:=hr 2 _ rfl
   have h3:=hr 3 _ rfl
   have h4:=hr 4 _ rfl
   have h5:=hr 5 _ rfl
   have h6:=hr 6 _ rfl
   have h7:=hr 7 _ rfl
   simp only [lb5,lb6] at h0 h1 h2 h3 h4 h5 h6 h7
   have o3:=h3.one
   have o5:=h5.one
   have o6:=h6.one
   have o7:=h7.one
   cases h0 with|t h0=>cases h0 with|atm=>
   cases h1 with|t h1=>cases h1 with|atm=>
   cases h2 with|t h2=>cases h2 with|atm=>
   cases h4 with|t h4=>
   cases h4 with|@sl _ _ _ b4 off4 cap4 A4 f4 hrow hcap hmax hk hn hA hc hr4 hx=>
   exact ⟨e.hhs,e.scs,u3,A4,cap4,u5,u6,u7,by rw [lbr],o3,o5,o6,o7⟩
theorem ax0 {w:World} {ι:Io} {M:Ms} {x:List Fr} {v:Value} (h:RS w ι M (j7 x) v):∃(A:Option Addr) (cap:Nat),v=.slice A x.length cap∧x.length<=cap∧cap<=maxLen∧(x≠[]->∃b off,A=some ⟨b,off,none⟩)∧RT w M (E9 x) v:=by
 cases h with|c h=>cases h with|t h=>
 have h':=h
 cases h with|@sl _ _ _ b4 off4 cap4 A4 f4 hrow hcap hmax hk hn hA hc hr4 hx=>
 exact ⟨A4,cap4,by rw [lbr],by simpa using hcap,hmax,fun hne=>⟨_,_,hA (by simpa using hne)⟩,h'⟩
theorem b2b {F:Fence} {n:Nat} {P:Program} {c:Code} {K:Act->World->Prop} {Q:Exit->Act->World->Prop} {a:Act} {w:World} (h:c.wpIn F n P (Exit.then K (fun _ _ _=>False)) a w):c.wpIn F n P (Exit.then K Q) a w:=
 wpIn_mono h (fun e a w h=>by cases e<;>first|exact h|exact h.elim)
theorem a40 {β:Type} {X n₀ B:Nat} {w₀:World} (hn:n₀<=w₀.heap.size) (hB:n₀<=B):OwnFrom B (fun (_:β) W=>p8 X n₀ w₀ W):=
 fun _ _ _ _ hs hg hr=>hs.trans ⟨hg.os,hg.tape,hg.output,hg.size,fun k hk _=>hg.block k (by have:=hs.size;omega) (fun e=>by have:=(hr k e.symm).1;omega)⟩
theorem b1m {W:World} {base:Nat} {e:TypeId} {size:Nat} {v:Value} {k:Nat} {xs:List Value} (h:W.ownsRow base e size v k xs):W.ownsRow 0 e size v k xs:=
 ⟨h.1,h.2.imp id fun ⟨g,cap,cur,h1,_,h2⟩=>⟨g,cap,cur,h1,Nat.zero_le _,h2⟩⟩
theorem at9 {W w1:World} {n₀ B:Nat} {t e:TypeId} {size:Nat} {v v':Value} {k m:Nat} {xs ys:List Value} {tmp:Obj}
 (hv:Boxed W B t v) (hte:t≠e) (hrow:W.ownsRow n₀ e size v k xs) (hn₀:n₀<=W.heap.size)
 (hown':w1.ownsRow n₀ e size v' m ys) (hgrow:(W.alloc tmp).grownBy w1 v.ownBlock):
 Boxed w1 B t v∧Boxed (w1.setCell ⟨B,0,none⟩ v') B t v'∧(w1.setCell ⟨B,0,none⟩ v').ownsRow n₀ e size v' m ys∧KeepsOthers W (w1.setCell ⟨B,0,none⟩ v')∧p8 B n₀ W (w1.setCell ⟨B,0,none⟩ v'):=by
 obtain ⟨h1,h2,_,h4,_⟩:=hv.appended (n₀:=0) hte (b1m hrow) (Nat.zero_le _) (Nat.zero_le _) (b1m hown') hgrow
 refine ⟨h1,h2,hown'.kept (grownBy_setCell' w1 B v') (.inr (h1.not_row hte hown').symm),h4,?_⟩
 refine (p8.of (((Below.refl n₀ W).alloc hn₀ tmp).grown hgrow (by simp;omega) fun j ej=>?_)).trans ⟨rfl,rfl,rfl,by simp [World.setCell],fun k _ hk=>Below.heap_setCell _ _ _ _ hk⟩
 rcases hrow.2 with ⟨rfl,_⟩|⟨g,cap,cur,rfl,hb,_,_⟩
 ·simp [Value.ownBlock] at ej
 ·obtain rfl:g=j:=by simpa [Value.ownBlock] using ej
  exact hb
theorem b8c:(Tryz.prog.info? 36).map (fun i=>(i.zero,i.size,i.bytes))=some (some (.slice none 0 0),1,24):=by kernel_rfl
set_option maxRecDepth 100000 in
set_option maxHeartbeats 4000000 in
theorem b2u {w:World} {ι:Io} {M:Ms} (hMB:MB w M) (hF:a0f ι 0) (e:Ev) (hE:al3 e) (hck:m8 e=0) (x:List Fr) (hx:x.length=e.moves.length*e.mats.toNat) {v0 v1:Value} (h0:RS w ι M (evS e) v0) (h1:RS w ι M (j7 x) v1)
 (hcl:∀W (M1:Ms),Below w.heap.size w W->(∀ b,M1 b->M b∨w.heap.size<=b)->MB W M1->Calls Tryz.prog 65 #[v1] W fun ee w'=>∃v,ee=.returned v∧(∃ ι' M',RS w' ι' M' (j7 x) v∧(∀ b,M1 b->M' b))∧Below W.heap.size W w'):
 Calls Tryz.prog 23 #[v0,v1] w fun ee w'=>∃v,ee=.returned v∧RT w' M (b0f (F8 e.mats.toNat e.moves.length x)) v∧Below w.heap.size w w':=by
 obtain ⟨i0,hi,hz0,hz1,hz2⟩:=info_parts b8c
 have hml:(1000:Nat)<=maxLen:=by decide
 have hchk:∀W,Below w.heap.size w W->Calls Tryz.prog 49 #[v0] W fun ee w'=>ee=.returned (.int .i64 0)∧Below W.heap.size W w':=by
  intro W hW
  have:=S1 e hE.sz
  rw [hck] at this
  refine (a1b (ι:=ι) (M:=M) this (vals:=[v0]) rfl (fun j s hj=>?_) (fun b hb=>Nat.lt_of_lt_of_le (hMB b hb) hW.size) hF).mono ?_
  ·cases j with
   |zero=>cases hj;exact b2J hW h0
   |succ j=>simp at hj
  ·rintro ee w' ⟨v,rfl,⟨ι',M',hr,_⟩,hb⟩
   cases hr with|c hr=>cases hr with|t hr=>cases hr with|atm=>
   exact ⟨rfl,hb⟩
 obtain ⟨a1,a2,v3,A4,c4,v5,v6,v7,rfl,o3,o5,o6,o7⟩:=b8a h0
 obtain ⟨A1,c1,rfl,q1,q2,q3,q4⟩:=ax0 h1
 obtain ⟨mats,hm⟩:∃n:Nat,e.mats=n:=⟨e.mats.toNat,by have:=hE.m1;omega⟩
 rw [hm] at hx
 simp only [hm,lbX] at hx hchk ⊢
 have m1:1<=mats:=by have:=hE.m1;omega
 have m6:mats<=6:=by have:=hE.m6;omega
 have mv:=hE.mv
 have hlen:e.moves.length*mats<=48:=lbS mv m6
 have hB0:Below w.heap.size w (w.alloc (.cells #[.int .i64 (mats:Int),.int .i64 a1,.int .i64 a2,v3,.slice A4 e.moves.length c4,v5,v6,v7] 28)):=(Below.refl _ w).alloc (lbQ _) _
 refine (callsIn_wide (n:=5)).1 ?_
 refine callsIn_of_wp_marks Tryz.func23 rfl trivial ?_ rfl
 simp only [Tryz.ntmps23,List.size_toArray,lbu,List.length_nil,Nat.reduceAdd,Nat.reduceSub,Array.replicate_succ,Array.replicate_zero,List.push_toArray,List.append_toArray,List.nil_append,List.cons_append]
 obtain ⟨W0,hW0⟩:∃W0,w.alloc (.cells #[.int .i64 (mats:Int),.int .i64 a1,.int .i64 a2,v3,.slice A4 e.moves.length c4,v5,v6,v7] 28)=W0:=⟨_,rfl⟩
 have b0:W0.heap[w.heap.size]? =some (.cells #[.int .i64 (mats:Int),.int .i64 a1,.int .i64 a2,v3,.slice A4 e.moves.length c4,v5,v6,v7] 28 (0,0)):=by rw [← hW0];exact World.alloc_heap_new w _
 have s0:W0.heap.size=w.heap.size+1:=by rw [← hW0];simp
 have c0:W0.cell? ⟨w.heap.size,0,none⟩=some (.int .i64 (mats:Int)):=by simp [World.cell?,b0]
 have c4':W0.cell? ⟨w.heap.size,4,none⟩=some (.slice A4 e.moves.length c4):=by simp [World.cell?,b0]
 have c1':W0.cell? ⟨w.heap.size,1,none⟩=some (.int .i64 a1):=by simp [World.cell?,b0]
 have c2':W0.cell? ⟨w.heap.size,2,none⟩=some (.int .i64 a2):=by simp [World.cell?,b0]
 have c3':W0.cell? ⟨w.heap.size,3,none⟩=some v3:=by simp [World.cell?,b0]
 have c5':W0.cell? ⟨w.heap.size,5,none⟩=some v5:=by simp [World.cell?,b0]
 have c6':W0.cell? ⟨w.heap.size,6,none⟩=some v6:=by simp [World.cell?,b0]
 have c7':W0.cell? ⟨w.heap.size,7,none⟩=some v7:=by simp [World.cell?,b0]
 rw [hW0] at hB0
 gi_wp2_with (refine ⟨trivial,?_⟩;gi_at_call 49;(try rw [hW0]);refine (callsIn_wide.2 (hchk _ hB0)).mono ?_;rintro ee W1 ⟨rfl,hB1⟩;have d0:=(hB1.cell (p:=⟨w.heap.size,0,none⟩) (by show w.heap.size<_;omega)).trans c0;have d4:=(hB1.cell (p:=⟨w.heap.size,4,none⟩) (by show w.heap.size<_;omega)).trans c4')
 rw [hx] at hcl
 have bO1:=Boxed.new W1 73 (.slice none 0 0)
 have hB2:Below W1.heap.size W1 (W1.alloc (.cells #[.slice none 0 0] 73)):=(Below.refl _ _).alloc (lbQ _) _
 have g2:=(hB2.cell (p:=⟨w.heap.size,0,none⟩) (by show w.heap.size<_;have:=hB1.size;omega)).trans d0
 have s2:(W1.alloc (.cells #[.slice none 0 0] 73)).heap.size=W1.heap.size+1:=by simp
 obtain ⟨W2,hW2⟩:∃W2,W1.alloc (.cells #[.slice none 0 0] 73)=W2:=⟨_,rfl⟩
 rw [hW2] at bO1 hB2 g2 s2 ⊢
 have hBw2:Below w.heap.size w W2:=hB0.trans ((hB1.mono (by omega)).trans (hB2.mono (by have:=hB1.size;omega)))
 have hBd:Below w.heap.size w W2.drew:=hBw2.trans ((Below.refl _ _).drew)
 have g2d:W2.drew.cell? ⟨w.heap.size,0,none⟩=some (.int .i64 (mats:Int)):=g2
 have sd:W2.drew.heap.size=W2.heap.size:=rfl
 have hmax:(if (1:Int)<(mats:Int) then (mats:Int) else 1)=(mats:Int):=by split<;>omega
 have hs02:w.heap.size<W2.heap.size:=by have:=hB1.size;omega
 have hMX:∀b,(M b∨b=W1.heap.size)->M b∨w.heap.size<=b:=fun b h=>h.imp id (fun e=>by have:=hB1.size;omega)
 have hMBX:MB W2.drew (fun b=>M b∨b=W1.heap.size):=fun b h=>by
  show b<W2.heap.size
  rcases h with h|h
  ·have:=hMB b h;have:=hB1.size;omega
  ·omega
 have hmx:Tryz.prog.follows .mixedOrders=true:=by kernel_rfl
 refine b2b ?_
 gi_region_with_o (first
  |(refine ⟨trivial,?_⟩;gi_at_call 65;refine (callsIn_wide.2 (hcl _ (fun b=>M b∨b=W1.heap.size) hBd hMX hMBX)).mono ?_;rintro ee W3 ⟨vc,rfl,⟨ι3,M3,hr3,hM3⟩,hB3⟩;have g3:=(hB3.cell (p:=⟨w.heap.size,0,none⟩) (by show w.heap.size<_;omega)).trans g2d;obtain ⟨A3,c3,rfl,r1,r2,r3,r4⟩:=ax0 hr3)
  |(refine ⟨trivial,?_⟩;gi_at_call 64;(try rw [hmax]);refine (callsIn_wide.2 (b6o _ _ _ mats m1 (by omega) _)).mono ?_;rintro ee W4 ⟨rfl,hW4⟩))
 all_goals
  have sB:W1.heap.size<W3.heap.size:=by have:=hB3.size;have e9:W2.drew.heap.size=W2.heap.size:=rfl;omega
  have o3':Boxed W3 W1.heap.size 73 (.slice none 0 0):=(hB3.block _ (by show _<W2.heap.size;omega)).trans bO1
  have bS:=Boxed.new W3 36 (.slice A3 (e.moves.length*mats) c3)
  have bN:=Boxed.new (W3.alloc (.cells #[.slice A3 (e.moves.length*mats) c3] 36)) 3 (.int .i64 (mats:Int))
  have bS2:=bS.alloc (.cells #[.int .i64 (mats:Int)] 3)
  have o5':=(o3'.alloc (.cells #[.slice A3 (e.moves.length*mats) c3] 36)).alloc (.cells #[.int .i64 (mats:Int)] 3)
  have hB5:Below W3.heap.size W3 ((W3.alloc (.cells #[.slice A3 (e.moves.length*mats) c3] 36)).alloc (.cells #[.int .i64 (mats:Int)] 3)):=((Below.refl _ W3).alloc (lbQ _) _).alloc (by simp) _
  have s5:((W3.alloc (.cells #[.slice A3 (e.moves.length*mats) c3] 36)).alloc (.cells #[.int .i64 (mats:Int)] 3)).heap.size=W3.heap.size+1+1:=by simp
  rw [World.size_alloc] at bN
  obtain ⟨W5,hW5⟩:∃W5,(W3.alloc (.cells #[.slice A3 (e.moves.length*mats) c3] 36)).alloc (.cells #[.int .i64 (mats:Int)] 3)=W5:=⟨_,rfl⟩
  rw [hW5] at bN bS2 o5' hB5 s5 ⊢
  clear hW5
  gi_wp2
  obtain ⟨b,off,hCk,hA3⟩:∃b off,be1 b off mats e.moves.length (.slice A3 (e.moves.length*mats) c3)∧(0<e.moves.length->A3=some ⟨b,off,none⟩):=by
   by_cases hz:e.moves.length=0
   ·exact ⟨0,0,.inl ⟨hz,A3,c3,by rw [hz,Nat.zero_mul]⟩,fun h=>absurd hz (by omega)⟩
   ·have hp:1*1<=e.moves.length*mats:=lbS (by omega) m1
    obtain ⟨b,off,hb⟩:=r3 (by intro h;rw [h] at hx;simp only [List.length_nil] at hx;omega)
    exact ⟨b,off,.inr ⟨c3,by rw [hb],by omega⟩,fun _=>hb⟩
  refine wpIn_rangeFunc_ownG (n:=5) rfl (by omega) (gf:=138) (lb:=#[.pointer (some ⟨W3.heap.size,0,none⟩),.pointer (some ⟨W3.heap.size+1,0,none⟩)]) rfl trivial (enters_of Tryz.func138 (by kernel_rfl) rfl)
   (b5V Fence.wide _ trivial rfl (by omega) W1.heap.size W3.heap.size (W3.heap.size+1) W5.heap.size b off mats e.moves.length _ (by omega) (by omega) (by omega) (by omega) m1 (by omega) (by omega) hCk W5 (lbQ _) bS2.cell bN.cell)
   p8.trans (fun W l o o' h1 h2 h3 h4=>p8.of (belowK_b (lbQ _) W l o o' h1 h2 h3 h4)) (Below.refl _ _) (fun _=>rfl)
   (fun pre W=>(∃ v,Boxed W W1.heap.size 73 v∧W.ownsRow W5.heap.size 36 1 v pre.length (pre.map (ckV b off mats))∧True)∧p8 W1.heap.size W5.heap.size W5 W)
   (fun _ _ _=>False)
   (OwnFrom.and (Own.from (holdsRow_own W5.heap.size W1.heap.size 73 36 1 (fun pre:List Nat=>pre.length) (fun pre:List Nat=>pre.map (ckV b off mats)) (fun _ _=>True)) _) (a40 (lbQ _) (lbQ _)))
   (fun _ _ _ _ _ hs _ _=>hs)
   ⟨⟨_,o5',World.ownsRow_nil _ _ _ _,trivial⟩,p8.refl _ _ _⟩
   (fun i=>{ tmps:=#[.agg #[.int .i64 (mats:Int),.int .i64 a1,.int .i64 a2,v3,.slice A4 e.moves.length c4,v5,v6,v7],.slice A1 (e.moves.length*mats) c1,.pointer (some ⟨w.heap.size,0,none⟩),undef,.slice none 0 0,.pointer (some ⟨W1.heap.size,0,none⟩),ckV b off mats i,
     .agg #[.int .i64 (mats:Int),.int .i64 a1,.int .i64 a2,v3,.slice A4 e.moves.length c4,v5,v6,v7],.int .i64 0,.bool false,.bool false,.slice A1 (e.moves.length*mats) c1,.int .i64 ((e.moves.length:Int)*mats),.pointer (some ⟨w.heap.size,4,none⟩),.slice A4 e.moves.length c4,.int .i64 (e.moves.length:Int),.pointer (some ⟨w.heap.size,0,none⟩),.int .i64 (mats:Int),.int .i64 ((e.moves.length:Int)*mats),.bool false,.bool false,
     .slice A1 (e.moves.length*mats) c1,.slice A3 (e.moves.length*mats) c3,.pointer (some ⟨w.heap.size,0,none⟩),.int .i64 (mats:Int),.int .i64 (mats:Int),.func (.func 138) #[] #[.pointer (some ⟨W3.heap.size,0,none⟩),.pointer (some ⟨W3.heap.size+1,0,none⟩)],ckV b off mats i,undef,undef,undef,undef,undef],defers:=[] }) ?assign ?body ?done ?stop
  case assign=>
   intro l i W K hK
   gi_wp2
   exact hK
  case body=>
   rintro l pre i W ⟨⟨v,hv,hrow,-⟩,hB⟩ hlt
   have hc:=hv.cell
   simp only [ckV]
   gi_wp2_with (gi_at_builtin;refine wpListIn_append_own _ rfl _ _ 73 rfl W5.heap.size 36 i0 (.slice none 0 0) 1 24 Tryz.underlying73 hi hz0 hz1 hz2 rfl (by decide) _ _ _ rfl (hrow.alloc _) ⟨W.heap.size,0,none⟩ 1 1 [.slice (some ⟨b,off+i*mats*4,none⟩) mats mats] rfl rfl (cell_one_new _ _ _) (by simp [Value.oneCell']) (by omega) (by omega) (by have:=hB.size;simp;omega) ?_;intro v' w1 hown' hgrow _;obtain ⟨g',cap',rfl⟩:=ownsRow_succ hown';obtain ⟨hv1,hv2,hr2,hk2,hb2⟩:=at9 hv (by decide) hrow hB.size hown' hgrow;have hc1:=hv1.cell;have hf1:=hv1.frozen)
   exact ⟨hk2.from _,hb2,⟨_,hv2,by rw [lbq,lbC];exact hr2,trivial⟩,hB.trans hb2⟩
  case done=>
   rintro D ys W hD rfl ⟨⟨v,hv,hrow,-⟩,hB⟩ hK
   have hc:=hv.cell
   gi_wp2
   refine ⟨by simp,.inl ⟨_,_,rfl,run_takeDeferred hK,?_⟩⟩
   rw [List.length_range] at hrow
   have hfin:p8 W1.heap.size W5.heap.size W5 (W.putObj D (.deferred none)):=hB.trans (p8.of (belowK_b (w:=W5) (lbQ _) W D _ _ hD hK rfl rfl))
   have e9:W2.drew.heap.size=W2.heap.size:=rfl
   have h93:=hB3.size
   have h91:=hB1.size
   have h92:=hBd.size
   refine ⟨_,results_tmp rfl _ _ _,v,rfl,b2Y (w2:=W3) (X:=W1.heap.size) r4 ((p8.of hB5).trans (hfin.mono (by omega))) (hM3 _ (.inr rfl)) (fun k h=>hM3 k (.inl h)) hx m1 (ownsRow_putObj hrow _ hK rfl) (fun k h=>by have:=hMB k h;omega) (by omega) (by omega) hml hA3,?_⟩
   exact hBd.trans ((hB3.mono (by omega)).trans ((hB5.mono (by omega)).trans (hfin.low (by omega) (by omega))))
  case stop=>
   rintro D c pre W _ _ h _
   exact h.elim
end
theorem aW5:b7 Tryz.prog 65 [.c (.t (.sl 4 .nul []))] [] (.c (.t (.sl 4 .any []))) []:=by
 (refine ac Tryz.func65 ?_;(conv=>whnf);repeat (refine zy ?_;conv=>whnf))
 repeat' (first|refine zx ?_|refine zd ?_ ?_<;>intro h<;>try omega|fail)<;>conv=>whnf
 exact j3 rfl
theorem aQ6:b7 Tryz.prog 65 [.c (.t (.sl 4 .non []))] [] (.c (.t (.sl 4 .any []))) []:=by
 (refine ac Tryz.func65 ?_;(conv=>whnf);repeat (refine zy ?_;conv=>whnf))
 repeat' (first|refine zx ?_|refine F0 rfl (by decide) ?_|refine zd ?_ ?_<;>intro h<;>try omega|fail)<;>conv=>whnf
 exact J7 rfl (by intro h;cases h) rfl rfl rfl
theorem b3J {w:World} {M:Ms} {A:Option Addr} {cap:Nat} (h:RT w M (.sl 4 .any []) (.slice A 0 cap)):RT w M (.sl 4 (if A=none then .nul else .non) []) (.slice A 0 cap):=by
 cases h with
 |@sl _ _ _ b off cap A f hrow hcap hmax hk1 hn hA hc hr hx=>
  refine .sl (rows:=[]) (b:=0) (off:=0) (fun _ _=>undef) (by simp) (Nat.zero_le _) hmax (fun h=>by split at h<;>cases h) (fun h=>by split at h<;>cases h) (fun h=>absurd rfl h) (fun i j c h=>by simp [at2] at h) (fun i j c h=>by simp [at2] at h) ⟨fun h=>⟨rfl,?_⟩,fun h=>?_⟩
  ·split at h
   ·assumption
   ·cases h
  ·split at h
   ·cases h
   ·assumption
set_option maxHeartbeats 4000000 in
theorem b56 (e:Ev) (hE:al3 e) (hck:m8 e=0) (x:List Fr) (hx:x.length=e.moves.length*e.mats.toNat):
 b7 Tryz.prog 23 [evS e,j7 x] [] (Z9 (F8 e.mats.toNat e.moves.length x)) []:=by
 refine ⟨⟨Tryz.f23,Tryz.func23,rfl,by decide⟩,fun w ι M vals hl hr hH hM hF=>?_⟩
 match vals,hl,hr with
 |[v0,v1],_,hr=>
 have h0:=hr 0 _ rfl
 have h1:=hr 1 _ rfl
 simp only [lb5,lb6] at h0 h1
 have one:∀{s:S} {v:Value} {W:World} {M1:Ms},RS W ι M1 s v->∀(j:Nat) (s':S),[s][j]? =some s'->RS W ι M1 s' ([v].getD j undef):=by
  intro s v W M1 h j s' hj
  cases j with
  |zero=>cases hj;exact h
  |succ j=>simp at hj
 refine (b2u hM hF e hE hck x hx h0 h1 ?_).mono ?_
 ·intro W M1 hW hm hMB1
  have h1':RS W ι M1 (j7 x) v1:=h1.keep (fun b hb _=>hW.block b hb) hm (fun _ _ h=>h)
  by_cases hx0:x=[]
  ·subst hx0
   obtain ⟨A,cap,rfl,_,_,_,rt⟩:=ax0 h1'
   have rt2:=b3J rt
   by_cases hA:A=none
   ·rw [if_pos hA] at rt2
    exact a1b (vals:=[_]) aW5 rfl (one (.c (.t rt2))) hMB1 hF
   ·rw [if_neg hA] at rt2
    exact a1b (vals:=[_]) aQ6 rfl (one (.c (.t rt2))) hMB1 hF
  ·have hp:0<x.length:=List.length_pos_iff.2 hx0
   have hb:x.length<=8*6:=by rw [hx];exact lbS hE.mv (by have:=hE.m6;omega)
   exact a1b (vals:=[_]) (b5c x hp (by omega)) rfl (one h1') hMB1 hF
 ·rintro ee w' ⟨v,rfl,hrt,hb⟩
  exact ⟨v,rfl,a8Y (.c (.t hrt)) hb hM hF⟩
def a9c (e:Ev) (x:List Fr):List (List Fr):=if m8 e≠0∨(x.length:Int)≠(e.moves.length:Int)*e.mats then [] else F8 e.mats.toNat e.moves.length x
theorem b7C (e:Ev) (hs:e.Sized) (hE:m8 e=0->al3 e) (x:List Fr) (hx:x.length<=100000):b7 Tryz.prog 23 [evS e,j7 x] [] (Z9 (a9c e x)) []:=by
 unfold a9c
 by_cases h:m8 e≠0∨(x.length:Int)≠(e.moves.length:Int)*e.mats
 ·rw [if_pos h];exact b4F e hs hE x hx h
 ·rw [if_neg h]
  obtain ⟨h0,h1⟩:m8 e=0∧(x.length:Int)=(e.moves.length:Int)*e.mats:=by omega
  refine b56 e (hE h0) h0 x ?_
  have hm:e.mats=(e.mats.toNat:Int):=by have:=(hE h0).m1;omega
  rw [hm] at h1
  exact_mod_cast h1
section
structure Fd where
 V:Nat->Rat
 A:Nat->Nat->Rat
 G:Nat->Rat
 O:Nat->Nat
 F:Nat->Nat
namespace Fd
def pRow (D:Fd) (r s j:Nat):Rat:=if j=s then 1 / D.A r s else D.A r j / D.A r s
def exch (D:Fd) (r s:Nat):Fd where
 V:=fun i=>if i=r then D.V r / D.A r s else D.V i - D.A i s*(D.V r / D.A r s)
 A:=fun i j=>if i=r then D.pRow r s j else if j=s then 0 - D.A i s*D.pRow r s s else D.A i j - D.A i s*D.pRow r s j
 G:=fun j=>if j=s then 0 - D.G s*D.pRow r s s else D.G j - D.G s*D.pRow r s j
 O:=fun i=>if i=r then D.F s else D.O i
 F:=fun j=>if j=s then D.O r else D.F j
end Fd
theorem D9 {f:Nat->Rat} {s:Nat}:∀{n:Nat},s<n->i7 f n=i7 (fun j=>if j=s then 0 else f j) n+f s
 |0,h=>by omega
 |n+1,h=>by
  simp only [i7]
  by_cases hs:s=n
  ·subst hs
   rw [if_pos rfl,d9 (n:=s) (f:=fun j=>if j=s then 0 else f j) (g:=f) fun m hm=>by rw [if_neg (by omega)]]
   grind
  ·rw [if_neg (show ¬n=s by omega),D9 (f:=f) (s:=s) (n:=n) (by omega)];grind
theorem I5 {f:Nat->Rat} (k:Rat):∀n:Nat,i7 (fun j=>k*f j) n=k*i7 f n
 |0=>by simp only [i7,O1];grind
 |n+1=>by simp only [i7];rw [I5 k n];grind
theorem S0 {f g:Nat->Rat}:∀n:Nat,i7 (fun j=>f j+g j) n=i7 f n+i7 g n
 |0=>by simp only [i7,O1];grind
 |n+1=>by simp only [i7];rw [S0 n];grind
theorem s7 {f:Nat->Rat}:∀{n:Nat},(∀ j,j<n->f j=0)->i7 f n=0
 |0,_=>by simp only [i7,O1]
 |n+1,h=>by simp only [i7];rw [s7 fun j hj=>h j (by omega),h n (by omega)];grind
theorem a6P {f:Nat->Rat}:∀{n:Nat},(∀ j,j<n->f j<=0)->i7 f n<=0
 |0,_=>by simp only [i7,O1];grind
 |n+1,h=>by
  simp only [i7]
  have h1:=a6P (f:=f) (n:=n) fun j hj=>h j (by omega)
  have h2:=h n (by omega)
  grind
theorem b86 {f:Nat->Rat} {n s:Nat} (h:∀j,j<n->f j<=0) (hs:s<n) (h0:f s<0):i7 f n<0:=by
 rw [D9 hs]
 have:=a6P (f:=fun j=>if j=s then 0 else f j) (n:=n) fun j hj=>by split;grind;exact h j hj
 grind
theorem b7M {f:Nat->Rat} {n s:Nat} (h:∀j,j<n->0<=f j) (hs:s<n) (h0:0<f s):0<i7 f n:=by
 rw [D9 hs]
 have:=a1D (f:=fun j=>if j=s then 0 else f j) (n:=n) fun j hj=>by
  by_cases hj2:j=s
  ·simp only [hj2,if_true];grind
  ·simp only [if_neg hj2];exact h j hj
 grind
def Ids (m n:Nat) (D:Fd) (y:Nat->Rat) (c:Rat):Prop:=∀i,i<m->y (D.O i)=c*D.V i - i7 (fun j=>D.A i j*y (D.F j)) n
theorem a9M {D:Fd} {r s n:Nat} {y:Nat->Rat} (hs:s<n) (f:Nat->Rat) (f':Nat->Rat) (k:Rat) (hf:∀j,j≠s->f' j=f j - k*D.pRow r s j):
 i7 (fun j=>f' j*y ((D.exch r s).F j)) n=i7 (fun j=>if j=s then 0 else f j*y (D.F j)) n - k*i7 (fun j=>if j=s then 0 else D.pRow r s j*y (D.F j)) n+f' s*y (D.O r):=by
 rw [D9 hs]
 have h1:(D.exch r s).F s=D.O r:=by show (if s=s then D.O r else D.F s)=_;rw [if_pos rfl]
 rw [h1]
 have h2:i7 (fun j=>if j=s then 0 else f' j*y ((D.exch r s).F j)) n=i7 (fun j=>(if j=s then 0 else f j*y (D.F j))+(-k)*(if j=s then 0 else D.pRow r s j*y (D.F j))) n:=d9 fun j hj=>by
  by_cases h:j=s
  ·rw [if_pos h,if_pos h,if_pos h];grind
  ·rw [if_neg h,if_neg h,if_neg h,hf j h]
   have:(D.exch r s).F j=D.F j:=by show (if j=s then D.O r else D.F j)=_;rw [if_neg h]
   rw [this];grind
 rw [h2,S0,I5];grind
theorem ai9 {D:Fd} {r s n:Nat} {y:Nat->Rat} {c:Rat} (hs:s<n) (hp:D.A r s≠0):
 y (D.O r)=c*D.V r - i7 (fun j=>D.A r j*y (D.F j)) n↔y (D.F s)=c*(D.V r / D.A r s) - i7 (fun j=>if j=s then 0 else D.pRow r s j*y (D.F j)) n - 1 / D.A r s*y (D.O r):=by
 have e1:i7 (fun j=>D.A r j*y (D.F j)) n=D.A r s*i7 (fun j=>if j=s then 0 else D.pRow r s j*y (D.F j)) n+D.A r s*y (D.F s):=by
  rw [D9 hs,←I5]
  congr 1
  refine d9 fun j hj=>?_
  by_cases h:j=s
  ·simp only [if_pos h];grind
  ·simp only [if_neg h]
   unfold Fd.pRow
   rw [if_neg h];grind
 rw [e1]
 generalize i7 (fun j=>if j=s then 0 else D.pRow r s j*y (D.F j)) n=R
 generalize y (D.F s)=a
 generalize y (D.O r)=b
 generalize D.V r=v
 generalize D.A r s=p at *
 constructor
 ·intro h;rw [h];grind
 ·intro h;rw [h];grind
theorem ad0 {m n:Nat} {D:Fd} {r s:Nat} {y:Nat->Rat} {c:Rat} (hr:r<m) (hs:s<n) (hp:D.A r s≠0):Ids m n D y c↔Ids m n (D.exch r s) y c:=by
 have hO:(D.exch r s).O r=D.F s:=by show (if r=r then D.F s else D.O r)=_;rw [if_pos rfl]
 have hV:(D.exch r s).V r=D.V r / D.A r s:=by show (if r=r then _ else _)=_;rw [if_pos rfl]
 have hA:∀j,(D.exch r s).A r j=D.pRow r s j:=fun j=>by show (if r=r then _ else _)=_;rw [if_pos rfl]
 have hps:D.pRow r s s=1 / D.A r s:=by unfold Fd.pRow;rw [if_pos rfl]
 have rowr:(y ((D.exch r s).O r)=c*(D.exch r s).V r - i7 (fun j=>(D.exch r s).A r j*y ((D.exch r s).F j)) n)↔y (D.O r)=c*D.V r - i7 (fun j=>D.A r j*y (D.F j)) n:=by
  rw [ai9 hs hp,hO,hV]
  have h:=a9M (D:=D) (r:=r) (y:=y) hs (fun _=>0) ((D.exch r s).A r) (-1) (fun j hj=>by rw [hA];grind)
  rw [h,hA,hps,s7 (f:=fun j=>if j=s then 0 else 0*y (D.F j)) (fun j _=>by split<;>grind)]
  constructor
  ·intro h;rw [h];grind
  ·intro h;rw [h];grind
 have rowi:∀i,i≠r->y (D.O r)=c*D.V r - i7 (fun j=>D.A r j*y (D.F j)) n->
  ((y ((D.exch r s).O i)=c*(D.exch r s).V i - i7 (fun j=>(D.exch r s).A i j*y ((D.exch r s).F j)) n)↔y (D.O i)=c*D.V i - i7 (fun j=>D.A i j*y (D.F j)) n):=fun i hi h0=>by
  rw [ai9 hs hp] at h0
  have h1:(D.exch r s).O i=D.O i:=by show (if i=r then _ else _)=_;rw [if_neg hi]
  have h2:(D.exch r s).V i=D.V i - D.A i s*(D.V r / D.A r s):=by show (if i=r then _ else _)=_;rw [if_neg hi]
  have h3:∀j,j≠s->(D.exch r s).A i j=D.A i j - D.A i s*D.pRow r s j:=fun j hj=>by show (if i=r then _ else _)=_;rw [if_neg hi,if_neg hj]
  have h4:(D.exch r s).A i s=0 - D.A i s*D.pRow r s s:=by show (if i=r then _ else _)=_;rw [if_neg hi,if_pos rfl]
  rw [h1,h2,a9M hs (D.A i) ((D.exch r s).A i) (D.A i s) h3,h4,hps,D9 (f:=fun j=>D.A i j*y (D.F j)) hs,h0]
  constructor
  ·intro h;rw [h];grind
  ·intro h;rw [h];grind
 constructor
 ·intro h i hi
  by_cases hir:i=r
  ·subst hir;exact rowr.2 (h i hi)
  ·exact (rowi i hir (h r hr)).2 (h i hi)
 ·intro h i hi
  have h0:=rowr.1 (h r hr)
  by_cases hir:i=r
  ·subst hir;exact h0
  ·exact (rowi i hir h0).1 (h i hi)
def a0n (n:Nat) (D:Fd) (g0:Nat->Rat) (m:Nat) (z:Rat):Prop:=∀y c,Ids m n D y c->i7 (fun j=>g0 j*y j) n=c*z+i7 (fun j=>D.G j*y (D.F j)) n
theorem ap9 {m n:Nat} {D:Fd} {r s:Nat} {g0:Nat->Rat} {z:Rat} (hr:r<m) (hs:s<n) (hp:D.A r s≠0) (h:a0n n D g0 m z):a0n n (D.exch r s) g0 m (z+D.G s*(D.V r / D.A r s)):=by
 intro y c hy
 have hy:=(ad0 hr hs hp).2 hy
 rw [h y c hy]
 have h0:=(ai9 hs hp).1 (hy r hr)
 have hps:D.pRow r s s=1 / D.A r s:=by unfold Fd.pRow;rw [if_pos rfl]
 have h3:∀j,j≠s->(D.exch r s).G j=D.G j - D.G s*D.pRow r s j:=fun j hj=>by show (if j=s then _ else _)=_;rw [if_neg hj]
 have h4:(D.exch r s).G s=0 - D.G s*D.pRow r s s:=by show (if s=s then _ else _)=_;rw [if_pos rfl]
 rw [a9M hs D.G (D.exch r s).G (D.G s) h3,h4,hps,D9 (f:=fun j=>D.G j*y (D.F j)) hs,h0]
 grind
end
def a9i (i:Nat):Rat:=if i % 2=0 then 1 else -1
theorem b1G (i:Nat):a9i (i+1)=-(a9i i):=by
 unfold a9i
 by_cases h:i % 2=0
 ·rw [if_pos h,if_neg (by omega)]
 ·rw [if_neg h,if_pos (by omega)];grind
def z6 (i:Nat) (M:Nat->Nat->Rat):Nat->Nat->Rat:=fun r c=>M (if r<i then r else r+1) (c+1)
def I4:Nat->(Nat->Nat->Rat)->Rat
 |0,_=>1
 |n+1,M=>i7 (fun i=>a9i i*M i 0*I4 n (z6 i M)) (n+1)
theorem M7 (n:Nat) (M:Nat->Nat->Rat):I4 (n+1) M=i7 (fun i=>a9i i*M i 0*I4 n (z6 i M)) (n+1):=rfl
theorem a1X:∀{n:Nat} {M N:Nat->Nat->Rat},(∀ i j,i<n->j<n->M i j=N i j)->I4 n M=I4 n N
 |0,_,_,_=>rfl
 |n+1,M,N,h=>by
  rw [M7,M7]
  refine d9 fun i hi=>?_
  rw [h i 0 hi (by omega),a1X (n:=n) (M:=z6 i M) (N:=z6 i N) fun r c hr hc=>?_]
  unfold z6
  split
  ·exact h _ _ (by omega) (by omega)
  ·exact h _ _ (by omega) (by omega)
def E7 (M:Nat->Nat->Rat) (r:Nat) (v:Nat->Rat):Nat->Nat->Rat:=fun i=>if i=r then v else M i
theorem a8n {M:Nat->Nat->Rat} {r:Nat}:E7 M r (M r)=M:=by
 funext i;unfold E7;by_cases h:i=r
 ·rw [if_pos h,h]
 ·rw [if_neg h]
theorem a9V {M:Nat->Nat->Rat} {r:Nat} {v:Nat->Rat}:z6 r (E7 M r v)=z6 r M:=by
 funext a c;unfold z6 E7
 by_cases h:a<r
 ·rw [if_pos h,if_neg (by omega)]
 ·rw [if_neg h,if_neg (by omega)]
theorem af7 {M:Nat->Nat->Rat} {i r:Nat} {v:Nat->Rat} (h:i<r):z6 i (E7 M r v)=E7 (z6 i M) (r - 1) (fun c=>v (c+1)):=by
 funext a c;unfold z6 E7
 by_cases ha:a<i
 ·simp only [if_pos ha]
  rw [if_neg (by omega),if_neg (by omega)]
 ·simp only [if_neg ha]
  by_cases h2:a+1=r
  ·rw [if_pos h2,if_pos (by omega)]
  ·rw [if_neg h2,if_neg (by omega)]
theorem ad3 {M:Nat->Nat->Rat} {i r:Nat} {v:Nat->Rat} (h:r<i):z6 i (E7 M r v)=E7 (z6 i M) r (fun c=>v (c+1)):=by
 funext a c;unfold z6 E7
 by_cases ha:a<i
 ·simp only [if_pos ha]
  by_cases h2:a=r
  ·rw [if_pos h2,if_pos h2]
  ·rw [if_neg h2,if_neg h2]
 ·simp only [if_neg ha]
  rw [if_neg (by omega),if_neg (by omega)]
theorem a5g:∀{n:Nat} {M:Nat->Nat->Rat} {r:Nat} {a b:Rat} {v w:Nat->Rat},r<n->I4 n (E7 M r fun c=>a*v c+b*w c)=a*I4 n (E7 M r v)+b*I4 n (E7 M r w)
 |0,_,_,_,_,_,_,h=>by omega
 |n+1,M,r,a,b,v,w,h=>by
  rw [M7,M7,M7,←I5,←I5,←S0]
  refine d9 fun i hi=>?_
  by_cases e:i=r
  ·subst e
   rw [a9V,a9V,a9V]
   unfold E7
   simp only [if_true]
   grind
  ·have e2:∀u:Nat->Rat,E7 M r u i 0=M i 0:=fun u=>by unfold E7;rw [if_neg e]
   rw [e2,e2,e2]
   by_cases h2:i<r
   ·rw [af7 h2,af7 h2,af7 h2,a5g (n:=n) (M:=z6 i M) (r:=r - 1) (a:=a) (b:=b) (v:=fun c=>v (c+1)) (w:=fun c=>w (c+1)) (by omega)]
    grind
   ·rw [ad3 (by omega),ad3 (by omega),ad3 (by omega),a5g (n:=n) (M:=z6 i M) (r:=r) (a:=a) (b:=b) (v:=fun c=>v (c+1)) (w:=fun c=>w (c+1)) (by omega)]
    grind
theorem b1z {f:Nat->Rat} {r:Nat}:∀{n:Nat},r+1<n->(∀ i,i<n->i≠r->i≠r+1->f i=0)->i7 f n=f r+f (r+1)
 |0,h,_=>by omega
 |n+1,h,h0=>by
  show i7 f n+f n=_
  by_cases e:n=r+1
  ·subst e
   show i7 f r+f r+f (r+1)=_
   rw [s7 fun j hj=>h0 j (by omega) (by omega) (by omega)];grind
  ·rw [b1z (r:=r) (by omega) (fun i hi=>h0 i (by omega)),h0 n (by omega) (by omega) e];grind
theorem a5o:∀{n:Nat} {M:Nat->Nat->Rat} {r:Nat},r+1<n->M r=M (r+1)->I4 n M=0
 |0,_,_,h,_=>by omega
 |n+1,M,r,h,he=>by
  rw [M7,b1z h fun i hi h1 h2=>?_]
  ·have em:z6 r M=z6 (r+1) M:=by
    funext a c;unfold z6
    by_cases h1:a<r
    ·rw [if_pos h1,if_pos (by omega)]
    ·rw [if_neg h1]
     by_cases h2:a<r+1
     ·have:a=r:=by omega
      subst this
      rw [if_pos h2,he]
     ·rw [if_neg h2]
   rw [em,he,b1G];grind
  ·by_cases hlt:i<r
   ·rw [a5o (n:=n) (M:=z6 i M) (r:=r - 1) (by omega) (by
     funext c;unfold z6
     rw [if_neg (by omega),if_neg (by omega),show r - 1+1=r by omega,he])]
    grind
   ·rw [a5o (n:=n) (M:=z6 i M) (r:=r) (by omega) (by
     funext c;unfold z6
     rw [if_pos (by omega),if_pos (by omega),he])]
    grind
theorem a5x {M:Nat->Nat->Rat} {r s:Nat} {v w:Nat->Rat} (h:r≠s):E7 (E7 M r v) s w=E7 (E7 M s w) r v:=by
 funext i;unfold E7
 by_cases h1:i=r
 ·subst h1;rw [if_neg h,if_pos rfl,if_pos rfl]
 ·rw [if_neg h1]
  by_cases h2:i=s
  ·simp only [if_pos h2,if_neg h1]
  ·simp only [if_neg h2,if_neg h1]
theorem a0z {M:Nat->Nat->Rat} {r:Nat} {v:Nat->Rat}:E7 M r v r=v:=by unfold E7;rw [if_pos rfl]
theorem Y2 {M:Nat->Nat->Rat} {r i:Nat} {v:Nat->Rat} (h:i≠r):E7 M r v i=M i:=by unfold E7;rw [if_neg h]
theorem aB4 {n:Nat} {M:Nat->Nat->Rat} {r:Nat} (v w:Nat->Rat) (h:r<n):I4 n (E7 M r fun c=>v c+w c)=I4 n (E7 M r v)+I4 n (E7 M r w):=by
 have:=a5g (M:=M) (a:=1) (b:=1) (v:=v) (w:=w) h
 have e:(fun c=>(1:Rat)*v c+1*w c)=fun c=>v c+w c:=by funext c;grind
 rw [e] at this;grind
theorem b3Z {n:Nat} {M:Nat->Nat->Rat} {r:Nat} (h:r+1<n) (v w:Nat->Rat):I4 n (E7 (E7 M r v) (r+1) w)=-(I4 n (E7 (E7 M r w) (r+1) v)):=by
 have key:I4 n (E7 (E7 M r fun c=>v c+w c) (r+1) fun c=>v c+w c)=0:=a5o h (by rw [a0z,Y2 (by omega),a0z])
 rw [aB4 v w h,a5x (show r≠r+1 by omega),a5x (show r≠r+1 by omega),aB4 v w (by omega),aB4 v w (by omega)] at key
 have z1:I4 n (E7 (E7 M (r+1) v) r v)=0:=a5o h (by rw [a0z,Y2 (by omega),a0z])
 have z2:I4 n (E7 (E7 M (r+1) w) r w)=0:=a5o h (by rw [a0z,Y2 (by omega),a0z])
 rw [z1,z2] at key
 rw [a5x (show r≠r+1 by omega),a5x (show r≠r+1 by omega)]
 grind
theorem aZ9:∀(d:Nat) {n:Nat} {M:Nat->Nat->Rat} {r s:Nat},s=r+1+d->s<n->M r=M s->I4 n M=0
 |0,n,M,r,s,hs,hn,he=>by subst hs;exact a5o hn he
 |d+1,n,M,r,s,hs,hn,he=>by
  obtain ⟨q,rfl⟩:∃q,s=q+1:=⟨s - 1,by omega⟩
  have e1:M=E7 (E7 M q (M q)) (q+1) (M (q+1)):=by rw [a8n,a8n]
  rw [e1,b3Z hn]
  have:=aZ9 d (n:=n) (M:=E7 (E7 M q (M (q+1))) (q+1) (M q)) (r:=r) (s:=q) (by omega) (by omega) (by
   rw [Y2 (by omega),Y2 (by omega),Y2 (by omega),a0z,he])
  rw [this];grind
theorem b4u {n:Nat} {M:Nat->Nat->Rat} {r s:Nat} (hr:r<n) (hs:s<n) (h:r≠s) (he:M r=M s):I4 n M=0:=by
 by_cases hlt:r<s
 ·exact aZ9 (s - r - 1) (by omega) hs he
 ·exact aZ9 (r - s - 1) (r:=s) (s:=r) (by omega) hr he.symm
theorem b0H {n:Nat} {M:Nat->Nat->Rat} {r:Nat} (hr:r<n) (c:Nat->Rat) (v:Nat->Nat->Rat):∀k,I4 n (E7 M r fun l=>i7 (fun i=>c i*v i l) k)=i7 (fun i=>c i*I4 n (E7 M r (v i))) k
 |0=>by
  have:=a5g (M:=M) (a:=0) (b:=0) (v:=fun _=>0) (w:=fun _=>0) hr
  have e:(fun l:Nat=>i7 (fun i=>c i*v i l) 0)=fun _=>(0:Rat)*0+0*0:=by funext l;show (0:Rat)=_;grind
  rw [e,this];show _=(0:Rat);grind
 |k+1=>by
  have ih:=b0H (M:=M) hr c v k
  have:=a5g (M:=M) (a:=1) (b:=c k) (v:=fun l=>i7 (fun i=>c i*v i l) k) (w:=v k) hr
  have e:(fun l=>i7 (fun i=>c i*v i l) (k+1))=fun l=>(1:Rat)*i7 (fun i=>c i*v i l) k+c k*v k l:=by funext l;show i7 _ k+_=_;grind
  rw [e,this,ih];show _=i7 _ k+_;grind
theorem af4 {n:Nat} {M:Nat->Nat->Rat} {c:Nat->Rat} {u:Nat->Rat} (hu:∀l,l<n->u l=i7 (fun k=>c k*M k l) n) {j:Nat} (hj:j<n):I4 n (E7 M j u)=c j*I4 n M:=by
 have e:I4 n (E7 M j u)=I4 n (E7 M j fun l=>i7 (fun k=>c k*M k l) n):=a1X fun a b ha hb=>by
  unfold E7
  split
  ·exact hu b hb
  ·rfl
 rw [e,b0H hj,D9 hj,a8n,s7 fun k hk=>?_]
 ·grind
 ·by_cases h:k=j
  ·rw [if_pos h]
  ·rw [if_neg h,b4u (r:=k) (s:=j) hk hj h (by rw [Y2 h,a0z])];grind
theorem aY8 (i:Nat):∃z:Int,a9i i=((z:Int):Rat)∧z.natAbs=1:=by
 unfold a9i
 split
 ·exact ⟨1,rfl,rfl⟩
 ·exact ⟨-1,rfl,rfl⟩
def a6R:Nat->(Nat->Nat)->Nat
 |0,_=>1
 |n+1,B=>(n+1)*(B 0*a6R n fun c=>B (c+1))
theorem aH7 {f:Nat->Rat} {B:Nat}:∀{n:Nat},(∀ i,i<n->∃z:Int,f i=((z:Int):Rat)∧z.natAbs<=B)->∃z:Int,i7 f n=((z:Int):Rat)∧z.natAbs<=n*B
 |0,_=>⟨0,rfl,by simp⟩
 |n+1,h=>by
  obtain ⟨a,ha,ha2⟩:=aH7 (n:=n) fun i hi=>h i (by omega)
  obtain ⟨b,hb,hb2⟩:=h n (by omega)
  refine ⟨a+b,by show i7 f n+f n=_;rw [ha,hb];push_cast;rfl,?_⟩
  have:=Int.natAbs_add_le a b
  rw [lbU];omega
theorem a5h:∀{n:Nat} {M:Nat->Nat->Rat} {B:Nat->Nat},(∀ i j,i<n->j<n->∃z:Int,M i j=((z:Int):Rat)∧z.natAbs<=B j)->∃z:Int,I4 n M=((z:Int):Rat)∧z.natAbs<=a6R n B
 |0,_,_,_=>⟨1,rfl,by simp [a6R]⟩
 |n+1,M,B,h=>by
  rw [M7]
  refine aH7 fun i hi=>?_
  obtain ⟨a,ha,ha2⟩:=aY8 i
  obtain ⟨b,hb,hb2⟩:=h i 0 hi (by omega)
  obtain ⟨c,hc,hc2⟩:=a5h (n:=n) (M:=z6 i M) (B:=fun c=>B (c+1)) fun r c hr hc=>by
   unfold z6
   split
   ·exact h _ _ (by omega) (by omega)
   ·exact h _ _ (by omega) (by omega)
  refine ⟨a*b*c,by rw [ha,hb,hc];push_cast;rfl,?_⟩
  rw [Int.natAbs_mul,Int.natAbs_mul,ha2,Nat.one_mul]
  exact lbS hb2 hc2
theorem a20 {f:Nat->Rat}:∀n:Nat,i7 f (n+1)=f 0+i7 (fun l=>f (l+1)) n
 |0=>by simp only [i7];grind
 |n+1=>by
  have ih:=a20 (f:=f) n
  have e:i7 f (n+1+1)=i7 f (n+1)+f (n+1):=rfl
  rw [e,ih]
  simp only [i7];grind
def a3S:Nat->Nat->Rat:=fun i j=>if i=j then 1 else 0
theorem b11:∀n,I4 n a3S=1
 |0=>rfl
 |n+1=>by
  rw [M7,a20 (f:=fun i=>a9i i*a3S i 0*I4 n (z6 i a3S)),s7 fun i hi=>?_]
  ·have e:z6 0 a3S=a3S:=by
    funext a c;unfold z6 a3S
    simp
   rw [e,b11 n]
   have:a9i 0=1:=rfl
   have h2:a3S 0 0=1:=rfl
   rw [this,h2];grind
  ·have:a3S (i+1) 0=0:=by unfold a3S;rw [if_neg (by omega)]
   rw [this];grind
def ak0 (f:Nat->Nat) (w:Nat):Nat->Option Nat
 |0=>none
 |k+1=>match ak0 f w k with
  |some i=>some i
  |none=>if f k=w then some k else none
theorem a5s {f:Nat->Nat} {w:Nat}:∀{k i:Nat},ak0 f w k=some i->i<k∧f i=w
 |0,i,h=>by cases h
 |k+1,i,h=>by
  unfold ak0 at h
  split at h
  ·rename_i i' hi;injection h with h;subst h;have:=a5s hi;exact ⟨by omega,this.2⟩
  ·split at h
   ·injection h with h;subst h;exact ⟨by omega,by assumption⟩
   ·cases h
theorem a8q {f:Nat->Nat} {w:Nat}:∀{k:Nat},ak0 f w k=none->∀i,i<k->f i≠w
 |0,_,i,hi=>by omega
 |k+1,h,i,hi=>by
  unfold ak0 at h
  split at h
  ·cases h
  ·rename_i hn
   split at h
   ·cases h
   ·by_cases hik:i=k
    ·subst hik;assumption
    ·exact a8q hn i (by omega)
structure a0U (m n:Nat) (D:Fd):Prop where
 oi:∀i i',i<m->i'<m->D.O i=D.O i'->i=i'
 fi:∀j j',j<n->j'<n->D.F j=D.F j'->j=j'
 of:∀i j,i<m->j<n->D.O i≠D.F j
 all:∀w,w<n+m->(∃ i,i<m∧D.O i=w)∨(∃ j,j<n∧D.F j=w)
 ob:∀i,i<m->D.O i<n+m
 fb:∀j,j<n->D.F j<n+m
theorem a8j {D:Fd} {r s i:Nat}:(D.exch r s).O i=if i=r then D.F s else D.O i:=rfl
theorem a1J {D:Fd} {r s j:Nat}:(D.exch r s).F j=if j=s then D.O r else D.F j:=rfl
theorem an9 {m n:Nat} {D:Fd} {r s:Nat} (hr:r<m) (hs:s<n) (h:a0U m n D):a0U m n (D.exch r s) where
 oi:=fun i i' hi hi' he=>by
  rw [a8j,a8j] at he
  by_cases h1:i=r<;>by_cases h2:i'=r
  ·omega
  ·rw [if_pos h1,if_neg h2] at he;exact absurd he.symm (h.of i' s hi' hs)
  ·rw [if_neg h1,if_pos h2] at he;exact absurd he (h.of i s hi hs)
  ·rw [if_neg h1,if_neg h2] at he;exact h.oi i i' hi hi' he
 fi:=fun j j' hj hj' he=>by
  rw [a1J,a1J] at he
  by_cases h1:j=s<;>by_cases h2:j'=s
  ·omega
  ·rw [if_pos h1,if_neg h2] at he;exact absurd he (h.of r j' hr hj')
  ·rw [if_neg h1,if_pos h2] at he;exact absurd he.symm (h.of r j hr hj)
  ·rw [if_neg h1,if_neg h2] at he;exact h.fi j j' hj hj' he
 of:=fun i j hi hj he=>by
  rw [a8j,a1J] at he
  by_cases h1:i=r<;>by_cases h2:j=s
  ·rw [if_pos h1,if_pos h2] at he;exact h.of r s hr hs he.symm
  ·rw [if_pos h1,if_neg h2] at he;exact h2 (h.fi s j hs hj he).symm
  ·rw [if_neg h1,if_pos h2] at he;exact h1 (h.oi i r hi hr he)
  ·rw [if_neg h1,if_neg h2] at he;exact h.of i j hi hj he
 all:=fun w hw=>by
  rcases h.all w hw with ⟨i,hi,he⟩|⟨j,hj,he⟩
  ·by_cases h1:i=r
   ·exact .inr ⟨s,hs,by rw [a1J,if_pos rfl,←h1];exact he⟩
   ·exact .inl ⟨i,hi,by rw [a8j,if_neg h1];exact he⟩
  ·by_cases h1:j=s
   ·exact .inl ⟨r,hr,by rw [a8j,if_pos rfl,←h1];exact he⟩
   ·exact .inr ⟨j,hj,by rw [a1J,if_neg h1];exact he⟩
 ob:=fun i hi=>by rw [a8j];split;exact h.fb s hs;exact h.ob i hi
 fb:=fun j hj=>by rw [a1J];split;exact h.ob r hr;exact h.fb j hj
def a27 (m n:Nat) (D:Fd) (c:Rat) (t:Nat->Rat) (w:Nat):Rat:=match ak0 D.F w n with
 |some j=>t j
 |none=>match ak0 D.O w m with
  |some i=>c*D.V i - i7 (fun j=>D.A i j*t j) n
  |none=>0
theorem a12 {m n:Nat} {D:Fd} (h:a0U m n D) {c:Rat} {t:Nat->Rat} {j:Nat} (hj:j<n):a27 m n D c t (D.F j)=t j:=by
 unfold a27
 cases hi:ak0 D.F (D.F j) n with
 |none=>exact absurd rfl (a8q hi j hj)
 |some i=>obtain ⟨h1,h2⟩:=a5s hi;rw [h.fi i j h1 hj h2]
theorem a5O {m n:Nat} {D:Fd} (h:a0U m n D) {c:Rat} {t:Nat->Rat} {i:Nat} (hi:i<m):a27 m n D c t (D.O i)=c*D.V i - i7 (fun j=>D.A i j*t j) n:=by
 unfold a27
 cases hj:ak0 D.F (D.O i) n with
 |some j=>obtain ⟨h1,h2⟩:=a5s hj;exact absurd h2.symm (h.of i j hi h1)
 |none=>
  cases hk:ak0 D.O (D.O i) m with
  |none=>exact absurd rfl (a8q hk i hi)
  |some k=>obtain ⟨h1,h2⟩:=a5s hk;rw [h.oi k i h1 hi h2]
theorem a0D {m n:Nat} {D:Fd} (h:a0U m n D) (c:Rat) (t:Nat->Rat):Ids m n D (a27 m n D c t) c:=fun i hi=>by
 rw [a5O h hi]
 congr 1
 exact d9 fun j hj=>by rw [a12 h hj]
def U1 (f:Nat->Nat) (p:Nat->Bool):Nat->Option Nat
 |0=>none
 |k+1=>match U1 f p k with
  |none=>if p k then some k else none
  |some a=>if p k && decide (f k<f a) then some k else some a
theorem a0N {f:Nat->Nat} {p:Nat->Bool}:∀{k:Nat},U1 f p k=none->∀i,i<k->p i=false
 |0,_,i,hi=>by omega
 |k+1,h,i,hi=>by
  unfold U1 at h
  split at h
  ·rename_i hn
   split at h
   ·cases h
   ·rename_i hp
    by_cases hik:i=k
    ·subst hik;simpa using hp
    ·exact a0N hn i (by omega)
  ·split at h<;>cases h
theorem H8 {f:Nat->Nat} {p:Nat->Bool}:∀{k a:Nat},U1 f p k=some a->a<k∧p a=true∧∀i,i<k->p i=true->f a<=f i
 |0,a,h=>by cases h
 |k+1,a,h=>by
  unfold U1 at h
  split at h
  ·rename_i hn
   split at h
   ·rename_i hp
    injection h with h;subst h
    refine ⟨by omega,hp,fun i hi hpi=>?_⟩
    by_cases hik:i=k
    ·subst hik;omega
    ·rw [a0N hn i (by omega)] at hpi;cases hpi
   ·cases h
  ·rename_i b hb
   obtain ⟨h1,h2,h3⟩:=H8 hb
   split at h
   ·rename_i hc
    injection h with h;subst h
    simp only [lbM,lbI] at hc
    refine ⟨by omega,hc.1,fun i hi hpi=>?_⟩
    by_cases hik:i=k
    ·subst hik;omega
    ·have:=h3 i (by omega) hpi;omega
   ·rename_i hc
    injection h with h;subst h
    refine ⟨by omega,h2,fun i hi hpi=>?_⟩
    by_cases hik:i=k
    ·subst hik
     have:¬(f i<f b):=fun h=>hc (by simp [hpi,h])
     omega
    ·exact h3 i (by omega) hpi
inductive b52 where
 |best
 |row (r:Nat)
 |col (s:Nat)
 |next (r s:Nat)
def a15 (n:Nat) (D:Fd) (r:Nat):b52:=match U1 D.F (fun j=>decide (D.A r j<0)) n with
 |none=>.row r
 |some s=>.next r s
def a17 (m:Nat) (D:Fd) (s:Nat):b52:=match U1 D.O (fun i=>decide (0<D.A i s)) m with
 |none=>.col s
 |some r=>.next r s
def D5 (m n:Nat) (D:Fd):b52:=match U1 D.O (fun i=>decide (D.V i<0)) m,U1 D.F (fun j=>decide (0<D.G j)) n with
 |none,none=>.best
 |some r,none=>a15 n D r
 |none,some s=>a17 m D s
 |some r,some s=>if D.O r<D.F s then a15 n D r else a17 m D s
structure aq3 (m n:Nat) (D:Fd) (r s:Nat):Prop where
 v:D.V r<0
 a:D.A r s<0
 f:∀j,j<n->D.F j<D.F s->0<=D.A r j
 o:∀i,i<m->D.O i<D.O r->0<=D.V i
 g:∀j,j<n->D.F j<D.O r->D.G j<=0
structure as9 (m n:Nat) (D:Fd) (r s:Nat):Prop where
 g:0<D.G s
 a:0<D.A r s
 o:∀i,i<m->D.O i<D.O r->D.A i s<=0
 f:∀j,j<n->D.F j<D.F s->D.G j<=0
 v:∀i,i<m->D.O i<D.F s->0<=D.V i
theorem aK3 {m n:Nat} {D:Fd} {r r' s:Nat} (hr:U1 D.O (fun i=>decide (D.V i<0)) m=some r) (hg:∀j,j<n->D.F j<D.O r->D.G j<=0) (h:a15 n D r=.next r' s):r'<m∧s<n∧aq3 m n D r' s:=by
 obtain ⟨a1,a2,a3⟩:=H8 hr
 unfold a15 at h
 split at h
 ·cases h
 ·rename_i s' hs'
  injection h with h1 h2;subst h1;subst h2
  obtain ⟨b1,b2,b3⟩:=H8 hs'
  refine ⟨a1,b1,lbL a2,lbL b2,fun j hj hlt=>?_,fun i hi hlt=>?_,hg⟩
  ·exact lb2.1 fun h=>by have:=b3 j hj (lbH h);omega
  ·exact lb2.1 fun h=>by have:=a3 i hi (lbH h);omega
theorem aP8 {m n:Nat} {D:Fd} {s s' r:Nat} (hs:U1 D.F (fun j=>decide (0<D.G j)) n=some s) (hv:∀i,i<m->D.O i<D.F s->0<=D.V i) (h:a17 m D s=.next r s'):r<m∧s'<n∧as9 m n D r s':=by
 obtain ⟨a1,a2,a3⟩:=H8 hs
 unfold a17 at h
 split at h
 ·cases h
 ·rename_i r' hr'
  injection h with h1 h2;subst h1;subst h2
  obtain ⟨b1,b2,b3⟩:=H8 hr'
  refine ⟨b1,a1,lbL a2,lbL b2,fun i hi hlt=>?_,fun j hj hlt=>?_,hv⟩
  ·exact lb2.1 fun h=>by have:=b3 i hi (lbH h);omega
  ·exact lb2.1 fun h=>by have:=a3 j hj (lbH h);omega
theorem a5p {m n:Nat} {D:Fd} {r s:Nat} (h:D5 m n D=.next r s):r<m∧s<n∧(aq3 m n D r s∨as9 m n D r s):=by
 unfold D5 at h
 cases hr:U1 D.O (fun i=>decide (D.V i<0)) m with
 |none=>
  have hv:∀i,i<m->0<=D.V i:=fun i hi=>lb2.1 (of_decide_eq_false (a0N hr i hi))
  cases hs:U1 D.F (fun j=>decide (0<D.G j)) n with
  |none=>rw [hr,hs] at h;cases h
  |some s'=>
   rw [hr,hs] at h
   obtain ⟨q1,q2,q3⟩:=aP8 hs (fun i hi _=>hv i hi) h
   exact ⟨q1,q2,.inr q3⟩
 |some r'=>
  obtain ⟨a1,a2,a3⟩:=H8 hr
  cases hs:U1 D.F (fun j=>decide (0<D.G j)) n with
  |none=>
   rw [hr,hs] at h
   obtain ⟨q1,q2,q3⟩:=aK3 (n:=n) hr (fun j hj _=>lb2.1 (of_decide_eq_false (a0N hs j hj))) h
   exact ⟨q1,q2,.inl q3⟩
  |some s'=>
   rw [hr,hs] at h
   obtain ⟨b1,b2,b3⟩:=H8 hs
   simp only at h
   split at h
   ·rename_i hlt
    obtain ⟨q1,q2,q3⟩:=aK3 (n:=n) hr (fun j hj hj2=>lb2.1 fun h=>by have:=b3 j hj (lbH h);omega) h
    exact ⟨q1,q2,.inl q3⟩
   ·rename_i hlt
    obtain ⟨q1,q2,q3⟩:=aP8 hs (fun i hi hi2=>lb2.1 fun h=>by have:=a3 i hi (lbH h);omega) h
    exact ⟨q1,q2,.inr q3⟩
theorem a7a {m n:Nat} {D:Fd} {r s:Nat} (h:aq3 m n D r s∨as9 m n D r s):D.A r s≠0:=by
 rcases h with h|h
 ·have:=h.a;intro h0;rw [h0] at this;exact absurd this (by grind)
 ·have:=h.a;intro h0;rw [h0] at this;exact absurd this (by grind)
theorem b48 {m n:Nat} {D D':Fd} {g0:Nat->Rat} {z z':Rat} (hP:a0U m n D) (hP':a0U m n D') (hI:∀y c,Ids m n D y c↔Ids m n D' y c) (hG:a0n n D g0 m z) (hG':a0n n D' g0 m z')
 {r s r' s' q:Nat} (hr:r<m) (hs:s<n) (hr':r'<m) (hs':s'<n) (h:aq3 m n D r s∨as9 m n D r s) (h':aq3 m n D' r' s'∨as9 m n D' r' s') (hq:D.F s=q) (hq':D'.O r'=q)
 (hrq:D.O r<q) (hsq:D'.F s'<q) (hst:∀w,q<w->((∃ j,j<n∧D.F j=w)↔∃j,j<n∧D'.F j=w)):False:=by
 have hfree:∀j,j<n->q<D.F j->∃k,k<n∧D'.F k=D.F j:=fun j hj hlt=>(hst _ hlt).1 ⟨j,hj,rfl⟩
 -- a vector of the second dictionary
 obtain ⟨c,y,hc,hy,ypos,yq,yfree,hobj⟩:∃(c:Rat) (y:Nat->Rat),(c=0∨c=1)∧Ids m n D' y c∧(∀ w,w<n+m->w<q->0<=y w)∧y q<0∧(∀ j,j<n->q<D.F j->y (D.F j)=0)∧
  ((c=0∧0<i7 (fun j=>g0 j*y j) n)∨(c=1∧i7 (fun j=>g0 j*y j) n=z'∧∀j,j<n->D'.F j<q->D'.G j<=0)):=by
  rcases h' with h'|h'
  ·refine ⟨1,a27 m n D' 1 (fun _=>0),.inr rfl,a0D hP' 1 _,fun w hw hwq=>?_,?_,fun j hj hlt=>?_,.inr ⟨rfl,?_,fun j hj hlt=>h'.g j hj (by rw [hq'];exact hlt)⟩⟩
   ·rcases hP'.all w hw with ⟨i,hi,rfl⟩|⟨j,hj,rfl⟩
    ·rw [a5O hP' hi,s7 fun j _=>by grind]
     have:=h'.o i hi (by rw [hq'];exact hwq)
     grind
    ·rw [a12 hP' hj];grind
   ·rw [← hq',a5O hP' hr',s7 fun j _=>by grind]
    have:=h'.v
    grind
   ·obtain ⟨k,hk,he⟩:=hfree j hj hlt
    rw [← he,a12 hP' hk]
   ·rw [hG' _ 1 (a0D hP' 1 _),s7 fun j hj=>by rw [a12 hP' hj];grind];grind
  ·refine ⟨0,a27 m n D' 0 (fun j=>if j=s' then 1 else 0),.inl rfl,a0D hP' 0 _,fun w hw hwq=>?_,?_,fun j hj hlt=>?_,.inl ⟨rfl,?_⟩⟩
   ·have hone:∀i,i7 (fun j=>D'.A i j*(if j=s' then 1 else 0)) n=D'.A i s':=fun i=>by
     rw [D9 hs',s7 fun j _=>by by_cases hj:j=s'<;>simp [hj]]
     simp;grind
    rcases hP'.all w hw with ⟨i,hi,rfl⟩|⟨j,hj,rfl⟩
    ·rw [a5O hP' hi,hone]
     have:=h'.o i hi (by rw [hq'];exact hwq)
     grind
    ·rw [a12 hP' hj];split<;>grind
   ·have hone:i7 (fun j=>D'.A r' j*(if j=s' then 1 else 0)) n=D'.A r' s':=by
     rw [D9 hs',s7 fun j _=>by by_cases hj:j=s'<;>simp [hj]]
     simp;grind
    rw [← hq',a5O hP' hr',hone]
    have:=h'.a
    grind
   ·obtain ⟨k,hk,he⟩:=hfree j hj hlt
    rw [← he,a12 hP' hk,if_neg]
    intro hks
    rw [hks] at he;omega
   ·rw [hG' _ 0 (a0D hP' 0 _)]
    have:i7 (fun j=>D'.G j*a27 m n D' 0 (fun j=>if j=s' then 1 else 0) (D'.F j)) n=D'.G s':=by
     rw [d9 (g:=fun j=>D'.G j*(if j=s' then 1 else 0)) fun j hj=>by rw [a12 hP' hj],D9 hs',s7 fun j _=>by by_cases hj:j=s'<;>simp [hj]]
     simp;grind
    rw [this]
    have:=h'.g
    grind
 have hy2:=(hI y c).2 hy
 -- the terms of the first dictionary
 have hF:∀j,j<n->(D.F j<q∧0<=y (D.F j))∨(j=s∧y (D.F j)<0)∨y (D.F j)=0:=fun j hj=>by
  rcases Nat.lt_trichotomy (D.F j) q with hlt|heq|hgt
  ·exact .inl ⟨hlt,ypos _ (hP.fb j hj) hlt⟩
  ·refine .inr (.inl ⟨hP.fi j s hj hs (by omega),by rw [heq];exact yq⟩)
  ·exact .inr (.inr (yfree j hj hgt))
 rcases h with h|h
 · -- by its row
   have hid:=hy2 r hr
   have h1:0<i7 (fun j=>D.A r j*y (D.F j)) n:=b7M (s:=s) (fun j hj=>by
    rcases hF j hj with ⟨a,b⟩|⟨rfl,b⟩|b
    ·exact lb0 (h.f j hj (by rw [hq];exact a)) b
    ·have:=h.a;exact Rat.le_of_lt (by have:=Rat.mul_pos (a:=-D.A r j) (b:=-y (D.F j)) (by grind) (by grind);grind)
    ·rw [b];grind) hs (by
    have:=h.a
    have hyq:y (D.F s)<0:=by rw [hq];exact yq
    have:=Rat.mul_pos (a:=-D.A r s) (b:=-y (D.F s)) (by grind) (by grind);grind)
   have h2:0<=y (D.O r):=ypos _ (hP.ob r hr) hrq
   have h3:=h.v
   rcases hc with rfl|rfl
   ·grind
   ·grind
 · -- by its goal
   have h1:i7 (fun j=>D.G j*y (D.F j)) n<0:=b86 (s:=s) (fun j hj=>by
    rcases hF j hj with ⟨a,b⟩|⟨rfl,b⟩|b
    ·have:=h.f j hj (by rw [hq];exact a)
     have:=lb0 (a:=-D.G j) (b:=y (D.F j)) (by grind) b
     grind
    ·have:=h.g
     have:=Rat.mul_pos (a:=D.G j) (b:=-y (D.F j)) (by grind) (by grind)
     grind
    ·rw [b];grind) hs (by
    have:=h.g
    have hyq:y (D.F s)<0:=by rw [hq];exact yq
    have:=Rat.mul_pos (a:=D.G s) (b:=-y (D.F s)) (by grind) (by grind)
    grind)
   have hg:=hG y c hy2
   rcases hobj with ⟨rfl,ho⟩|⟨rfl,ho,hneg⟩
   ·grind
   · -- the basic point of the first dictionary
     have k1:=hG (a27 m n D 1 (fun _=>0)) 1 (a0D hP 1 _)
     rw [s7 (f:=fun j=>D.G j*a27 m n D 1 (fun _=>0) (D.F j)) fun j hj=>by rw [a12 hP hj];grind] at k1
     have k2:=hG' (a27 m n D 1 (fun _=>0)) 1 ((hI _ 1).1 (a0D hP 1 _))
     have k3:i7 (fun j=>D'.G j*a27 m n D 1 (fun _=>0) (D'.F j)) n<=0:=a6P fun j hj=>by
      have hv:∀w,w<n+m->w<q->0<=a27 m n D 1 (fun _=>0) w:=fun w hw hwq=>by
       rcases hP.all w hw with ⟨i,hi,rfl⟩|⟨k,hk,rfl⟩
       ·rw [a5O hP hi,s7 fun j _=>by grind]
        have:=h.v i hi (by rw [hq];exact hwq)
        grind
       ·rw [a12 hP hk];grind
      rcases Nat.lt_trichotomy (D'.F j) q with hlt|heq|hgt
      ·have a1:=hneg j hj hlt
       have a2:=hv _ (hP'.fb j hj) hlt
       have:=lb0 (a:=-D'.G j) (by grind) a2
       grind
      ·exact absurd (hq'.trans heq.symm) (hP'.of r' j hr' hj)
      ·obtain ⟨k,hk,he⟩:=(hst _ hgt).2 ⟨j,hj,rfl⟩
       rw [← he,a12 hP hk];grind
     grind
def H3 (m n:Nat) (D:Fd):Option Fd:=match D5 m n D with
 |.next r s=>some (D.exch r s)
 |_=>none
theorem a6v {m n:Nat} {D D':Fd} (h:H3 m n D=some D'):∃r s,D5 m n D=.next r s∧D'=D.exch r s:=by
 unfold H3 at h
 split at h
 ·rename_i r s hs;injection h with h;exact ⟨r,s,hs,h.symm⟩
 ·cases h
theorem ah5 {P:Nat->Nat->Prop}:∀N:Nat,(∀ w,w<N->∃T,∀k,T<=k->¬P k w)->∃T,∀w,w<N->∀k,T<=k->¬P k w
 |0,_=>⟨0,fun w hw=>by omega⟩
 |N+1,h=>by
  obtain ⟨T,hT⟩:=ah5 (P:=P) N fun w hw=>h w (by omega)
  obtain ⟨T',hT'⟩:=h N (by omega)
  refine ⟨max T T',fun w hw k hk=>?_⟩
  by_cases hwn:w=N
  ·subst hwn;exact hT' k (by omega)
  ·exact hT w (by omega) k (by omega)
theorem a7I {p:Nat->Prop}:∀N:Nat,(∃ w,w<N∧p w)->∃q,q<N∧p q∧∀w,q<w->w<N->¬p w
 |0,⟨w,hw,_⟩=>by omega
 |N+1,⟨w,hw,hp⟩=>by
  by_cases h:p N
  ·exact ⟨N,by omega,h,fun w h1 h2=>by omega⟩
  ·have hwN:w≠N:=fun e=>h (e ▸ hp)
   obtain ⟨q,h1,h2,h3⟩:=a7I N ⟨w,by omega,hp⟩
   refine ⟨q,by omega,h2,fun w h4 h5=>?_⟩
   by_cases hw2:w=N
   ·subst hw2;exact h
   ·exact h3 w h4 (by omega)
theorem a3m (p:Nat->Prop) (h:∃n,p n):∃n,p n∧∀m,p m->n<=m:=by
 obtain ⟨n,hn⟩:=h
 induction n using Nat.strongRecOn with
 |_ n ih=>
  by_cases hex:∃m,m<n∧p m
  ·obtain ⟨m,hm,hp⟩:=hex
   exact ih m hm hp
  ·exact ⟨n,hn,fun m hm=>Nat.le_of_not_lt fun h=>hex ⟨m,h,hm⟩⟩
theorem b8J {m n:Nat} {f:Nat->Fd} {g0:Nat->Rat} (hP0:a0U m n (f 0)) (hG0:∃z,a0n n (f 0) g0 m z) (hf:∀k,H3 m n (f k)=some (f (k+1))):False:=by
 have hstep:∀k,∃rs:Nat × Nat,rs.1<m∧rs.2<n∧(aq3 m n (f k) rs.1 rs.2∨as9 m n (f k) rs.1 rs.2)∧f (k+1)=(f k).exch rs.1 rs.2:=fun k=>by
  obtain ⟨r,s,h1,h2⟩:=a6v (hf k)
  obtain ⟨a,b,c⟩:=a5p h1
  exact ⟨(r,s),a,b,c,h2⟩
 obtain ⟨W,hW⟩:=Classical.axiomOfChoice hstep
 have hP:∀k,a0U m n (f k):=fun k=>by
  induction k with
  |zero=>exact hP0
  |succ k ih=>obtain ⟨a,b,_,d⟩:=hW k;rw [d];exact an9 a b ih
 have hI:∀k y c,Ids m n (f 0) y c↔Ids m n (f k) y c:=fun k=>by
  induction k with
  |zero=>exact fun _ _=>Iff.rfl
  |succ k ih=>obtain ⟨a,b,c',d⟩:=hW k;rw [d];exact fun y c=>(ih y c).trans (ad0 a b (a7a c'))
 have hG:∀k,∃z,a0n n (f k) g0 m z:=fun k=>by
  induction k with
  |zero=>exact hG0
  |succ k ih=>obtain ⟨a,b,c',d⟩:=hW k;obtain ⟨z,hz⟩:=ih;rw [d];exact ⟨_,ap9 a b (a7a c') hz⟩
 let E:Nat->Nat:=fun k=>(f k).F (W k).2
 let L:Nat->Nat:=fun k=>(f k).O (W k).1
 have hE:∀k,E k<n+m:=fun k=>(hP k).fb _ (hW k).2.1
 have hL:∀k,L k<n+m:=fun k=>(hP k).ob _ (hW k).1
 have hEL:∀k,L k≠E k:=fun k=>(hP k).of _ _ (hW k).1 (hW k).2.1
 let fre:Nat->Nat->Prop:=fun k w=>∃j,j<n∧(f k).F j=w
 have hfre:∀k w,w≠E k->w≠L k->(fre (k+1) w↔fre k w):=fun k w h1 h2=>by
  obtain ⟨a,b,_,d⟩:=hW k
  show (∃ j,j<n∧(f (k+1)).F j=w)↔∃j,j<n∧(f k).F j=w
  rw [d]
  constructor
  ·rintro ⟨j,hj,he⟩
   rw [a1J] at he
   by_cases hjs:j=(W k).2
   ·rw [if_pos hjs] at he;exact absurd he.symm h2
   ·rw [if_neg hjs] at he;exact ⟨j,hj,he⟩
  ·rintro ⟨j,hj,he⟩
   have hjs:j≠(W k).2:=fun h=>h1 (by rw [← he,h])
   exact ⟨j,hj,by rw [a1J,if_neg hjs];exact he⟩
 have hin:∀k,fre k (E k):=fun k=>⟨_,(hW k).2.1,rfl⟩
 have hout:∀k,¬fre k (L k):=fun k=>by rintro ⟨j,hj,he⟩;exact (hP k).of _ _ (hW k).1 hj he.symm
 have hin2:∀k,fre (k+1) (L k):=fun k=>by
  obtain ⟨a,b,_,d⟩:=hW k
  show ∃j,j<n∧(f (k+1)).F j=L k
  rw [d];exact ⟨_,b,by rw [a1J,if_pos rfl]⟩
 have hout2:∀k,¬fre (k+1) (E k):=fun k=>by
  obtain ⟨a,b,_,d⟩:=hW k
  show ¬∃j,j<n∧(f (k+1)).F j=E k
  rw [d]
  rintro ⟨j,hj,he⟩
  rw [a1J] at he
  by_cases hjs:j=(W k).2
  ·rw [if_pos hjs] at he;exact hEL k he
  ·rw [if_neg hjs] at he;exact hjs ((hP k).fi _ _ hj b he)
 let mv:Nat->Nat->Prop:=fun k w=>E k=w∨L k=w
 obtain ⟨q,hqN,hio,hmax⟩:=a7I (p:=fun w=>∀T,∃k,T<=k∧mv k w) (n+m) (aL1 fun hno=>by
  have h1:∀w,w<n+m->∃T,∀k,T<=k->¬mv k w:=fun w hw=>aL1 fun h=>hno ⟨w,hw,fun T=>aL1 fun h'=>h ⟨T,fun k hk hm=>h' ⟨k,hk,hm⟩⟩⟩
  obtain ⟨T,hT⟩:=ah5 (P:=mv) _ h1
  exact hT _ (hE T) T (lbQ _) (.inl rfl))
 obtain ⟨T,hT⟩:∃T,∀w,q<w->∀k,T<=k->¬mv k w:=by
  obtain ⟨T,hT⟩:=ah5 (P:=fun k w=>q<w∧mv k w) (n+m) fun w hw=>by
   by_cases hqw:q<w
   ·have:=hmax w hqw hw
    obtain ⟨T,hT⟩:=Classical.not_forall.1 this
    exact ⟨T,fun k hk ⟨_,hm⟩=>hT ⟨k,hk,hm⟩⟩
   ·exact ⟨0,fun k _ ⟨h,_⟩=>hqw h⟩
  refine ⟨T,fun w hqw k hk hm=>?_⟩
  have hw:w<n+m:=by rcases hm with hm|hm<;>rw [← hm];exact hE k;exact hL k
  exact hT w hw k hk ⟨hqw,hm⟩
 have hEq:∀k,T<=k->E k<=q:=fun k hk=>Nat.le_of_not_lt fun h=>hT _ h k hk (.inl rfl)
 have hLq:∀k,T<=k->L k<=q:=fun k hk=>Nat.le_of_not_lt fun h=>hT _ h k hk (.inr rfl)
 have hconst:∀w,q<w->∀d,fre (T+d) w↔fre T w:=fun w hw d=>by
  induction d with
  |zero=>exact Iff.rfl
  |succ d ih=>
   have h1:=hEq (T+d) (by omega)
   have h2:=hLq (T+d) (by omega)
   exact (hfre (T+d) w (by omega) (by omega)).trans ih
 have hsame:∀w,q<w->∀t u,T<=t->T<=u->(fre t w↔fre u w):=fun w hw t u ht hu=>by
  have h1:=hconst w hw (t - T)
  have h2:=hconst w hw (u - T)
  rw [show T+(t - T)=t by omega] at h1
  rw [show T+(u - T)=u by omega] at h2
  exact h1.trans h2.symm
 -- q enters at some time, and leaves at some time
 have hnext:∀k1,T<=k1->mv k1 q->∃k2,T<=k2∧mv k2 q∧(fre k2 q↔fre (k1+1) q):=fun k1 h1 _=>by
  obtain ⟨k2,⟨h2,h3⟩,hleast⟩:=a3m (fun k=>k1+1<=k∧mv k q) (hio (k1+1))
  refine ⟨k2,by omega,h3,?_⟩
  have key:∀d,k1+1+d<=k2->(fre (k1+1+d) q↔fre (k1+1) q):=fun d=>by
   induction d with
   |zero=>exact fun _=>Iff.rfl
   |succ d ih=>
    intro hd
    have hnm:¬mv (k1+1+d) q:=fun h=>by have:=hleast (k1+1+d) ⟨by omega,h⟩;omega
    exact (hfre (k1+1+d) q (fun h=>hnm (.inl h.symm)) (fun h=>hnm (.inr h.symm))).trans (ih (by omega))
  have:=key (k2 - (k1+1)) (by omega)
  rwa [show k1+1+(k2 - (k1+1))=k2 by omega] at this
 have hboth:∃t u,T<=t∧T<=u∧E t=q∧L u=q:=by
  obtain ⟨k1,h1,hm1⟩:=hio T
  obtain ⟨k2,h2,hm2,hs⟩:=hnext k1 h1 hm1
  rcases hm1 with hm1|hm1
  ·rcases hm2 with hm2|hm2
   ·have a:=hin k2
    rw [hm2] at a
    have b:=hout2 k1
    rw [hm1] at b
    exact absurd (hs.1 a) b
   ·exact ⟨k1,k2,h1,h2,hm1,hm2⟩
  ·rcases hm2 with hm2|hm2
   ·exact ⟨k2,k1,h2,h1,hm2,hm1⟩
   ·have a:=hout k2
    rw [hm2] at a
    have b:=hin2 k1
    rw [hm1] at b
    exact absurd (hs.2 b) a
 obtain ⟨t,u,ht,hu,het,hlu⟩:=hboth
 obtain ⟨z,hz⟩:=hG t
 obtain ⟨z',hz'⟩:=hG u
 obtain ⟨a1,a2,a3,_⟩:=hW t
 obtain ⟨b1,b2,b3,_⟩:=hW u
 have hl:L t<q:=by have:=hLq t ht;have:=hEL t;omega
 have he:E u<q:=by have:=hEq u hu;have:=hEL u;omega
 exact b48 (hP t) (hP u) (fun y c=>(hI t y c).symm.trans (hI u y c)) hz hz' a1 a2 b1 b2 a3 b3 het hlu hl he (fun w hw=>hsame w hw t u ht hu)
def itS (m n:Nat):Nat->Fd->Option Fd
 |0,D=>some D
 |k+1,D=>match H3 m n D with
  |none=>none
  |some D'=>itS m n k D'
theorem Z8 {m n:Nat}:∀(k:Nat) (D:Fd),itS m n (k+1) D=(itS m n k D).bind (H3 m n)
 |0,D=>by
  show (match H3 m n D with|none=>none|some D'=>some D')=H3 m n D
  cases H3 m n D<;>rfl
 |k+1,D=>by
  show (match H3 m n D with|none=>none|some D'=>itS m n (k+1) D')=(match H3 m n D with|none=>none|some D'=>itS m n k D').bind (H3 m n)
  cases H3 m n D with
  |none=>rfl
  |some D'=>exact Z8 k D'
theorem b8v {m n:Nat} {D:Fd} {g0:Nat->Rat} (hP:a0U m n D) (hG:∃z,a0n n D g0 m z):∃k,itS m n k D=none:=aL1 fun h=>by
 have h1:∀k,∃D',itS m n k D=some D':=fun k=>by
  cases hk:itS m n k D with
  |none=>exact absurd ⟨k,hk⟩ h
  |some D'=>exact ⟨D',rfl⟩
 obtain ⟨f,hf⟩:=Classical.axiomOfChoice h1
 have hf:∀k,itS m n k D=some (f k):=hf
 have h0:f 0=D:=by have:=hf 0;injection this with this;exact this.symm
 refine b8J (f:=f) (g0:=g0) (by rw [h0];exact hP) (by rw [h0];exact hG) fun k=>?_
 have h2:=Z8 (m:=m) (n:=n) k D
 rw [hf k,hf (k+1)] at h2
 exact h2.symm
noncomputable def a96 (m n:Nat) (D:Fd):Nat:=Classical.epsilon fun k=>itS m n k D=none∧∀j,itS m n j D=none->k<=j
theorem aZ2 {m n:Nat} {D D':Fd} (h:∃k,itS m n k D=none) (hn:H3 m n D=some D'):a96 m n D'<a96 m n D:=by
 have hD:=Classical.epsilon_spec (a3m _ h)
 have h':∃k,itS m n k D'=none:=by
  obtain ⟨k,hk⟩:=h
  cases k with
  |zero=>cases hk
  |succ k=>
   have hk:(match H3 m n D with|none=>none|some D'=>itS m n k D')=none:=hk
   rw [hn] at hk;exact ⟨k,hk⟩
 have hD':=Classical.epsilon_spec (a3m _ h')
 have e:a96 m n D=Classical.epsilon fun k=>itS m n k D=none∧∀j,itS m n j D=none->k<=j:=rfl
 have e':a96 m n D'=Classical.epsilon fun k=>itS m n k D'=none∧∀j,itS m n j D'=none->k<=j:=rfl
 rw [← e] at hD
 rw [← e'] at hD'
 obtain ⟨a1,a2⟩:=hD
 obtain ⟨b1,b2⟩:=hD'
 generalize a96 m n D=k at a1 a2
 cases k with
 |zero=>cases a1
 |succ k=>
  have a1:(match H3 m n D with|none=>none|some D'=>itS m n k D')=none:=a1
  rw [hn] at a1
  have:=b2 k a1
  omega
structure EqI where
 co:Nat->Int
 rhs:Int
theorem b7x (x:Int):bl (-x)=bl x:=by unfold bl;rw [Int.natAbs_neg]
end Go.Proofs.YtaejgdbahjjncaaGreat
