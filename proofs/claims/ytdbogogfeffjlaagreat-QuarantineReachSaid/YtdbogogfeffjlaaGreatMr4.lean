/- Part 4. -/
import Derived.Test.YtdbogogfeffjlaaGreatMr3
namespace Go.Proofs.YtdbogogfeffjlaaGreat
set_option linter.unusedVariables false
set_option linter.unusedSimpArgs false
set_option maxRecDepth 100000
set_option maxHeartbeats 8000000
open Go.RowKit
open St1 St2 St3 St4 St5 St6 St7 St8 StA StB
theorem a3Y {x y:Int} (h:x<y):O1 x y=-1:=by unfold O1;rw [if_pos h]
theorem a9K {x y:Int} (h:y<x):O1 x y=1:=by unfold O1;rw [if_neg (by omega),if_pos h]
theorem b8s {x y:Int} (h:x=y):O1 x y=0:=by unfold O1;rw [if_neg (by omega),if_neg (by omega)]
theorem b0n {s:Int} {l:List Int} (h:Okd l) (hs:s=1∨s=-1∨val l=0):sgn s l=bz (s*val l):=by
 have hv:=v4 h
 unfold sgn bz
 rw [K5 h]
 by_cases h0:val l=0
 ·rw [h0,Int.mul_zero];rfl
 ·have h1:(dg (val l).toNat).length≠0:=by rw [Ne,List.length_eq_zero_iff,Q5];omega
  rw [if_neg h1]
  rcases hs with rfl|rfl|h2
  ·rw [Int.sign_eq_one_of_pos (by omega)]
   congr 2;omega
  ·rw [Int.sign_eq_neg_one_of_neg (by omega)]
   congr 2;omega
  ·exact absurd h2 h0
theorem a3e (a b:List Int) (ha:Can a) (hb:Can b) (la:a.length<=1000000) (lb:b.length<=1000000):
 a9 Tryz.prog 212 [d6 a,d6 b] [] (a7 .i64 (O1 (val a) (val b))) []:=by
 have l1:(a.map c9).length=a.length:=by simp
 have l2:(b.map c9).length=b.length:=by simp
 have key:∀{x y:List Int},Can x->Can y->x.length<y.length->val x<val y:=fun {x y} hx hy h=>by
  rw [aY1 hx,aY1 hy] at h
  have:=aD3 h
  have:=v4 hx.1
  omega
 by_cases hl:a.length=b.length
 ·(refine ac Tryz.func212 ?_;(conv=>whnf);repeat (refine zy ?_;conv=>whnf))
  repeat' (first|refine zx ?_|refine zd ?_ ?_<;>intro h<;>try omega|fail)<;>conv=>whnf
  refine n8 c8 (σ:=Nat) (fun k=>([d6 a,d6 b,J,J,J,a7 .i64 ((k:Int) - 1)]++Jn 35,[])) (fun k=>k<=a.length∧a.drop k=b.drop k) (fun k=>k) a.length []
   ⟨lbR _,by rw [lbo (lbR _),lbo (by omega)]⟩ ⟨rfl,rfl,trivial,⟨g6 rfl,g6 rfl,b8 (by simp),trivial⟩⟩ ?_
  rintro k ⟨hk,hd⟩
  have hk:k<=a.length:=hk
  have hd:a.drop k=b.drop k:=hd
  conv=>whnf
  repeat' (first|refine zx ?_|refine qp (a46 _ _) ?_|refine v6 (by omega) (a1T (by omega) hk) ?_|refine v6 (by omega) (a1T (by omega) (hl ▸ hk)) ?_|refine zd ?_ ?_<;>intro h<;>try omega|fail)<;>conv=>whnf
  all_goals first
   |(have hp:0<k:=by omega
     have e:k - 1+1=k:=by omega
     have gx:=u5 (l:=a) (i:=k - 1) (by omega)
     have gy:=u5 (l:=b) (i:=k - 1) (by omega)
     refine k6 ?_
     rcases Int.lt_trichotomy (dat a (k - 1)) (dat b (k - 1)) with h|h|h
     ·rw [a3Y h,a3Y (a98 ha.1 hb.1 hl gx gy (by rw [e];exact hd) h)]
     ·exfalso;simp_all;done
     ·rw [a9K h,a9K (a98 hb.1 ha.1 hl.symm gy gx (by rw [e];exact hd.symm) h)])
   |(have hp:0<k:=by omega
     have hq:dat a (k - 1)=dat b (k - 1):=by omega
     refine ⟨[],k - 1,⟨rfl,rfl,trivial,⟨rfl,rfl,b8 (by omega),trivial⟩⟩,⟨by omega,?_⟩,by show k - 1<k;omega⟩
     rw [List.drop_eq_getElem_cons (by omega:k - 1<a.length),List.drop_eq_getElem_cons (by omega:k - 1<b.length),show k - 1+1=k by omega,hd]
     congr 1
     have gx:=u5 (l:=a) (i:=k - 1) (by omega)
     have gy:=u5 (l:=b) (i:=k - 1) (by omega)
     rw [lbf (by omega)] at gx gy
     injection gx with gx
     injection gy with gy
     rw [gx,gy,hq])
   |(have:k=0:=by omega
     subst this
     simp only [List.drop_zero] at hd
     refine k6 ?_
     rw [hd,b8s rfl])
 ·(refine ac Tryz.func212 ?_;(conv=>whnf);repeat (refine zy ?_;conv=>whnf))
  repeat' (first|refine zx ?_|refine qp (a46 _ _) ?_|refine zd ?_ ?_<;>intro h<;>try omega|fail)<;>conv=>whnf
  all_goals first
   |omega
   |(refine k6 ?_
     rcases Nat.lt_or_gt_of_ne hl with h|h
     ·rw [a3Y (by omega),a3Y (key ha hb h)]
     ·rw [a9K (by omega),a9K (key hb ha h)])
def b35 (a b:Bg):Int:=if I3 a && I3 b then O1 (bv a) (bv b) else 0
theorem b0V (x:Int):Can (bz x).dl:=a26 _
theorem aB8 (x:Int):val (bz x).dl=x.natAbs:=o9 _
theorem C9 (x:Int):x.sign=0∧x=0∨x.sign=1∧0<x∨x.sign=-1∧x<0:=by
 rcases Int.lt_trichotomy x 0 with h|h|h
 ·exact .inr (.inr ⟨Int.sign_eq_neg_one_of_neg h,h⟩)
 ·subst h;exact .inl ⟨rfl,rfl⟩
 ·exact .inr (.inl ⟨Int.sign_eq_one_of_pos h,h⟩)
theorem b3n {x y:Int} (h:x.sign≠y.sign):O1 x.sign y.sign=O1 x y:=by
 rcases C9 x with ⟨e,h1⟩|⟨e,h1⟩|⟨e,h1⟩<;>rcases C9 y with ⟨f,h2⟩|⟨f,h2⟩|⟨f,h2⟩<;>rw [e,f] at h ⊢<;>unfold O1<;>(repeat' split)<;>omega
theorem b5j {x y:Int} (h:x.sign=y.sign):x.sign*O1 x.natAbs y.natAbs=O1 x y:=by
 rcases C9 x with ⟨e,h1⟩|⟨e,h1⟩|⟨e,h1⟩<;>rcases C9 y with ⟨f,h2⟩|⟨f,h2⟩|⟨f,h2⟩<;>rw [e,f] at h<;>try omega
 all_goals (rw [e];unfold O1;(repeat' split)<;>omega)
theorem b6e (x y:Int):-1<=O1 x y∧O1 x y<=1:=by unfold O1;split<;>(try split)<;>omega
theorem aa7 {b:Bg} (h:I3 b=true):∃z,b=bz z:=⟨_,bc6 h⟩
theorem b0T (a b:Bg) (la:a.dl.length<=1000000) (lb:b.dl.length<=1000000):
 a9 Tryz.prog 139 [bgS a,bgS b] [] (a7 .i64 (b35 a b)) []:=by
 have r1:=a39 a la
 have r2:=a39 b lb
 cases ha:I3 a with
 |false=>
  rw [ha] at r1
  (refine ac Tryz.func139 ?_;(conv=>whnf);repeat (refine zy ?_;conv=>whnf))
  repeat' (first|refine zx ?_|refine qp r1 ?_|refine qp r2 ?_|refine zd ?_ ?_<;>intro h<;>try omega|fail)<;>conv=>whnf
  all_goals (first|(exfalso;simp_all;done)|(refine k6 ?_;unfold b35;rw [ha];rfl))
 |true=>
  rw [ha] at r1
  cases hb:I3 b with
  |false=>
   rw [hb] at r2
   (refine ac Tryz.func139 ?_;(conv=>whnf);repeat (refine zy ?_;conv=>whnf))
   repeat' (first|refine zx ?_|refine qp r1 ?_|refine qp r2 ?_|refine zd ?_ ?_<;>intro h<;>try omega|fail)<;>conv=>whnf
   all_goals (first|(exfalso;simp_all;done)|(refine k6 ?_;unfold b35;rw [ha,hb];rfl))
  |true=>
   rw [hb] at r2
   obtain ⟨x,rfl⟩:=aa7 ha
   obtain ⟨y,rfl⟩:=aa7 hb
   have c:=a3e (bz x).dl (bz y).dl (b0V x) (b0V y) la lb
   rw [aB8,aB8] at c
   have e:b35 (bz x) (bz y)=O1 x y:=by unfold b35;rw [ha,hb,a4p,a4p];rfl
   rw [e]
   have hr:=b6e x y
   by_cases hs:x.sign=y.sign
   ·have hs':(bz x).sg=(bz y).sg:=hs
    have e2:=b5j hs
    (refine ac Tryz.func139 ?_;(conv=>whnf);repeat (refine zy ?_;conv=>whnf))
    repeat' (first|refine zx ?_|refine qp r1 ?_|refine qp r2 ?_|refine qp c ?_|refine ⟨_,B5 e2 (by omega) (by omega),?_⟩|refine zd ?_ ?_<;>intro h<;>try omega|fail)<;>conv=>whnf
    all_goals first
     |omega
     |(exfalso;simp_all;done)
     |exact k6 rfl
   ·have hs':(bz x).sg≠(bz y).sg:=hs
    (refine ac Tryz.func139 ?_;(conv=>whnf);repeat (refine zy ?_;conv=>whnf))
    repeat' (first|refine zx ?_|refine qp r1 ?_|refine qp r2 ?_|refine qp (a46 _ _) ?_|refine zd ?_ ?_<;>intro h<;>try omega|fail)<;>conv=>whnf
    all_goals first
     |omega
     |(exfalso;simp_all;done)
     |exact k6 (b3n hs)
def b2Z (a:Bg):Bg:=if I3 a then bz (-bv a) else ⟨0,[]⟩
theorem b9c (a:Bg) (la:a.dl.length<=1000000):a9 Tryz.prog 141 [bgS a] [] (bgS (b2Z a)) []:=by
 have r1:=a39 a la
 cases ha:I3 a with
 |false=>
  rw [ha] at r1
  have e:b2Z a=⟨0,[]⟩:=by unfold b2Z;rw [ha];rfl
  rw [e]
  (refine ac Tryz.func141 ?_;(conv=>whnf);repeat (refine zy ?_;conv=>whnf))
  repeat' (first|refine zx ?_|refine qp r1 ?_|refine zd ?_ ?_<;>intro h<;>try omega|fail)<;>conv=>whnf
  all_goals (first|(exfalso;simp_all;done)|exact k9 ⟨rfl,rfl,trivial⟩)
 |true=>
  rw [ha] at r1
  obtain ⟨x,rfl⟩:=aa7 ha
  have e:b2Z (bz x)=sgn (0 - (bz x).sg) (bz x).dl:=by
   rw [Int.zero_sub]
   unfold b2Z
   rw [ha,b0n (b0V x).1 (by rcases C9 x with ⟨h,h1⟩|⟨h,h1⟩|⟨h,h1⟩<;>rw [aq0,h]<;>simp [h1,aB8]),a4p,aB8,aq0]
   show bz (-x)=_
   congr 1
   rw [Int.neg_mul,Int.sign_mul_natAbs]
  rw [e]
  have hs:-1<=(bz x).sg∧(bz x).sg<=1:=by rcases C9 x with ⟨h,h1⟩|⟨h,h1⟩|⟨h,h1⟩<;>rw [aq0,h]<;>decide
  (refine ac Tryz.func141 ?_;(conv=>whnf);repeat (refine zy ?_;conv=>whnf))
  repeat' (first|refine zx ?_|refine qp r1 ?_|refine qp (a9I _ la) ?_|refine qp (aO5 _ _ la) ?_|refine zd ?_ ?_<;>intro h<;>try omega|fail)<;>conv=>whnf
  all_goals (first|(exfalso;simp_all;done)|exact k9 ⟨rfl,rfl,trivial⟩)
theorem a7q {a:Int} (j:Nat) (hj:j<=62):IntKind.wrap .i64 (BitVec.ofInt (IntKind.bits .i64) a &&& BitVec.ofInt (IntKind.bits .i64) ((2 ^ j - 1:Nat):Int)).toNat=a % ((2 ^ j:Nat):Int):=by
 rw [aP1 rfl a j hj]
 have hp:(2:Nat) ^ j<=2 ^ 62:=Nat.pow_le_pow_right (by decide) hj
 have h0:0<(2:Nat) ^ j:=Nat.pow_pos (by decide)
 have h1:0<=a % ((2 ^ j:Nat):Int):=Int.emod_nonneg _ (by omega)
 have h2:a % ((2 ^ j:Nat):Int)<((2 ^ j:Nat):Int):=Int.emod_lt_of_pos _ (by omega)
 rw [lbZ h1]
 exact (show F8 .i64 _ _ from a3L (by omega) (by omega)).symm
structure az6 (m n:Int):Prop where
 ok:∀a:Int,V3 .and .i64 a m (a % n)
theorem a6v:az6 1048575 1048576:=⟨fun a=>(a7q (a:=a) 20 (by decide)).symm⟩
theorem ai1:az6 1 2:=⟨fun a=>(a7q (a:=a) 1 (by decide)).symm⟩
theorem ab3 (a:Int):aK2 .i64 a 20 (a / 1048576):=by
 show a / 1048576=a.fdiv 1048576
 exact (Int.fdiv_eq_ediv_of_nonneg _ (by decide)).symm
theorem K2 {l:List Int} {i:Nat} {n:Int} {v:Int} (h:0+n.toNat=i):(toC (l.map c9)).set (0+n.toNat) [C.t (ti v)]=toC ((l.set i v).map c9):=by
 rw [h];simp [toC,c9,List.map_set]
theorem O0 {l:List Int} {n:Int} {i:Nat} (h:n.toNat=i) (hi:i<l.length):l[0+n.toNat]? =some (dat l i):=by rw [Nat.zero_add,h];exact u5 hi
theorem b9t (a b:List Int) (ha:Okd a) (hb:Okd b) (la:a.length<=400000) (lb:b.length<=400000) (hab:b.length<=a.length):
 a9 Tryz.prog 215 [d6 a,d6 b] [] (d6 (dg (val a+val b).toNat)) []:=by
 have l1:(a.map c9).length=a.length:=by simp
 have l2:(b.map c9).length=b.length:=by simp
 (refine ac Tryz.func215 ?_;(conv=>whnf);repeat (refine zy ?_;conv=>whnf))
 repeat' (first|refine zx ?_|refine a2B (by omega) (by omega) (by omega) (by decide) ?_|refine zd ?_ ?_<;>intro h<;>try omega|fail)<;>conv=>whnf
 refine n8 c8 (σ:=Nat × List Int × Int) (fun|(k,out,c)=>([d6 a,d6 b,J,J,J,M4 0 out,a7 .i64 c]++Jn 13++[d6 a,a7 .i64 a.length,a7 .i64 k]++Jn 32,[k8 out])) (fun x=>a7X a b x.1 x.2.1 x.2.2) (fun x=>a.length - x.1) (0,List.replicate (a.length+1) 0,0) [some 0]
  (a7X.init _ _) ⟨rfl,rfl,⟨a8 rfl rfl rfl ?_ rfl,trivial⟩,⟨g6 rfl,g6 rfl,f8 rfl (by simp),rfl,g6 rfl,b8 (by simp),rfl,trivial⟩⟩ ?_
 ·show List.replicate _ _=_
  simp [toC,c9,B3]
 rintro ⟨k,out,c⟩ hI
 have hI:a7X a b k out c:=hI
 have hlen:=hI.len
 have hle:=hI.le
 have hc0:=hI.c0
 have hc1:=hI.c1
 conv=>whnf
 have hda:=ha.dat k
 have hdb:=hb.dat k
 repeat' (first|refine zx ?_|refine b9 (u5 (by omega)) ?_|refine U1 (by omega) (by show _<((out.length:Nat):Int);omega) ?_|refine o5 (O0 rfl (by omega)) ?_|refine ⟨_,az6.ok (by first|exact a6v|exact ai1) _,?_⟩|refine ⟨by decide,_,ab3 _,?_⟩|refine zd ?_ ?_<;>intro h<;>try omega|fail)<;>conv=>whnf
 ·refine ⟨[some 0],(k+1,out.set k ((c+dat a k+dat b k) % 1048576),(c+dat a k+dat b k) / 1048576),⟨rfl,rfl,⟨a8 rfl rfl rfl (K2 (by omega)) rfl,trivial⟩,⟨rfl,rfl,f8 rfl (by simp),rfl,rfl,rfl,b8 (by omega),trivial⟩⟩,hI.step ha hb (by omega),?_⟩
  show a.length - (k+1)<a.length - k
  omega
 ·have e:dat b k=0:=Q1 (by omega)
  have hst:=hI.step ha hb (by omega)
  rw [e,Int.add_zero] at hst
  refine ⟨[some 0],(k+1,out.set k ((c+dat a k) % 1048576),(c+dat a k) / 1048576),⟨rfl,rfl,⟨a8 rfl rfl rfl (K2 (by omega)) rfl,trivial⟩,⟨rfl,rfl,f8 rfl (by simp),rfl,rfl,rfl,b8 (by omega),trivial⟩⟩,hst,?_⟩
  show a.length - (k+1)<a.length - k
  omega
 ·have hk:k=a.length:=by omega
  subst hk
  have hf:=hI.fin (by omega)
  have t:=a3z (out.set a.length c) (by simp;omega)
  rw [hf] at t
  refine .inr ⟨_,_,w6 [0] t ⟨a19 (u4 (by simp) rfl (by intro h;cases h) rfl (K2 (by omega)) (by simp)),trivial⟩ rfl,?_⟩
  conv=>whnf
  exact ak7 (by rw [Int.add_comm])
theorem bb4 (a b:List Int) (ha:Okd a) (hb:Okd b) (la:a.length<=400000) (lb:b.length<=400000) (hab:a.length<b.length):
 a9 Tryz.prog 215 [d6 a,d6 b] [] (d6 (dg (val a+val b).toNat)) []:=by
 have l1:(a.map c9).length=a.length:=by simp
 have l2:(b.map c9).length=b.length:=by simp
 (refine ac Tryz.func215 ?_;(conv=>whnf);repeat (refine zy ?_;conv=>whnf))
 repeat' (first|refine zx ?_|refine a2B (by omega) (by omega) (by omega) (by decide) ?_|refine zd ?_ ?_<;>intro h<;>try omega|fail)<;>conv=>whnf
 refine n8 c8 (σ:=Nat × List Int × Int) (fun|(k,out,c)=>([d6 b,d6 a,J,J,J,M4 0 out,a7 .i64 c]++Jn 13++[d6 b,a7 .i64 b.length,a7 .i64 k]++Jn 32,[k8 out])) (fun x=>a7X b a x.1 x.2.1 x.2.2) (fun x=>b.length - x.1) (0,List.replicate (b.length+1) 0,0) [some 0]
  (a7X.init _ _) ⟨rfl,rfl,⟨a8 rfl rfl rfl ?_ rfl,trivial⟩,⟨g6 rfl,g6 rfl,f8 rfl (by simp),rfl,g6 rfl,b8 (by simp),rfl,trivial⟩⟩ ?_
 ·show List.replicate _ _=_
  simp [toC,c9,B3]
 rintro ⟨k,out,c⟩ hI
 have hI:a7X b a k out c:=hI
 have hlen:=hI.len
 have hle:=hI.le
 have hc0:=hI.c0
 have hc1:=hI.c1
 conv=>whnf
 have hda:=hb.dat k
 have hdb:=ha.dat k
 repeat' (first|refine zx ?_|refine b9 (u5 (by omega)) ?_|refine U1 (by omega) (by show _<((out.length:Nat):Int);omega) ?_|refine o5 (O0 rfl (by omega)) ?_|refine ⟨_,az6.ok (by first|exact a6v|exact ai1) _,?_⟩|refine ⟨by decide,_,ab3 _,?_⟩|refine zd ?_ ?_<;>intro h<;>try omega|fail)<;>conv=>whnf
 ·refine ⟨[some 0],(k+1,out.set k ((c+dat b k+dat a k) % 1048576),(c+dat b k+dat a k) / 1048576),⟨rfl,rfl,⟨a8 rfl rfl rfl (K2 (by omega)) rfl,trivial⟩,⟨rfl,rfl,f8 rfl (by simp),rfl,rfl,rfl,b8 (by omega),trivial⟩⟩,hI.step hb ha (by omega),?_⟩
  show b.length - (k+1)<b.length - k
  omega
 ·have e:dat a k=0:=Q1 (by omega)
  have hst:=hI.step hb ha (by omega)
  rw [e,Int.add_zero] at hst
  refine ⟨[some 0],(k+1,out.set k ((c+dat b k) % 1048576),(c+dat b k) / 1048576),⟨rfl,rfl,⟨a8 rfl rfl rfl (K2 (by omega)) rfl,trivial⟩,⟨rfl,rfl,f8 rfl (by simp),rfl,rfl,rfl,b8 (by omega),trivial⟩⟩,hst,?_⟩
  show b.length - (k+1)<b.length - k
  omega
 ·have hk:k=b.length:=by omega
  subst hk
  have hf:=hI.fin (by omega)
  have t:=a3z (out.set b.length c) (by simp;omega)
  rw [hf] at t
  refine .inr ⟨_,_,w6 [0] t ⟨a19 (u4 (by simp) rfl (by intro h;cases h) rfl (K2 (by omega)) (by simp)),trivial⟩ rfl,?_⟩
  conv=>whnf
  exact ak7 (by rw [Int.add_comm])
theorem bc7 (a b:List Int) (ha:Okd a) (hb:Okd b) (la:a.length<=400000) (lb:b.length<=400000):
 a9 Tryz.prog 215 [d6 a,d6 b] [] (d6 (dg (val a+val b).toNat)) []:=by
 rcases Nat.lt_or_ge a.length b.length with h|h
 ·exact bb4 a b ha hb la lb h
 ·exact b9t a b ha hb la lb h
theorem bd7 (a b:List Int) (ha:Okd a) (hb:Okd b) (la:a.length<=400000) (lb:b.length<=a.length) (hv:val b<=val a):
 a9 Tryz.prog 216 [d6 a,d6 b] [] (d6 (dg (val a - val b).toNat)) []:=by
 have l1:(a.map c9).length=a.length:=by simp
 have l2:(b.map c9).length=b.length:=by simp
 (refine ac Tryz.func216 ?_;(conv=>whnf);repeat (refine zy ?_;conv=>whnf))
 repeat' (first|refine zx ?_|refine zd ?_ ?_<;>intro h<;>try omega|fail)<;>conv=>whnf
 refine .inr ⟨_,_,ap9 (b4O a (by omega)) rfl rfl rfl rfl,?_⟩
 conv=>whnf
 repeat' (first|refine zx ?_|refine zd ?_ ?_<;>intro h<;>try omega|fail)<;>conv=>whnf
 refine n8 c8 (σ:=Nat × List Int × Int) (fun|(k,out,c)=>([J,d6 b,J,J,J,M4 0 out,a7 .i64 c,J,J,J,J,J,a7 .i64 a.length,a7 .i64 k]++Jn 29,[k8 out])) (fun x=>ao1 a b x.1 x.2.1 x.2.2) (fun x=>a.length - x.1) (0,a,0) [some 0]
  (ao1.init ha) ⟨rfl,rfl,⟨a8 rfl rfl rfl rfl rfl,trivial⟩,⟨g6 rfl,f8 rfl rfl,rfl,b8 (by simp),rfl,trivial⟩⟩ ?_
 rintro ⟨k,out,c⟩ hI
 have hI:ao1 a b k out c:=hI
 have hlen:=hI.len
 have hle:=hI.le
 have hc0:=hI.c0
 have hc1:=hI.c1
 conv=>whnf
 have hda:=hI.ok.dat k
 have hdb:=hb.dat k
 repeat' (first|refine zx ?_|refine b9 (u5 (by omega)) ?_|refine U1 (by omega) (by show _<((out.length:Nat):Int);omega) ?_|refine o5 (O0 (i:=k) rfl (by omega)) ?_|refine ⟨_,az6.ok (by first|exact a6v|exact ai1) _,?_⟩|refine ⟨by decide,_,ab3 _,?_⟩|refine zd ?_ ?_<;>intro h<;>try omega|fail)<;>conv=>whnf
 ·refine ⟨[some 0],(k+1,out.set k ((dat out k - c - dat b k) % 1048576),(dat out k - c - dat b k) / 1048576 % 2),⟨rfl,rfl,⟨a8 rfl rfl rfl (K2 (by omega)) rfl,trivial⟩,⟨rfl,f8 rfl (by simp),rfl,rfl,b8 (by omega),trivial⟩⟩,hI.step ha hb (by omega),?_⟩
  show a.length - (k+1)<a.length - k
  omega
 ·have e:dat b k=0:=Q1 (by omega)
  have hst:=hI.step ha hb (by omega)
  rw [e,Int.sub_zero] at hst
  refine ⟨[some 0],(k+1,out.set k ((dat out k - c) % 1048576),(dat out k - c) / 1048576 % 2),⟨rfl,rfl,⟨a8 rfl rfl rfl (K2 (by omega)) rfl,trivial⟩,⟨rfl,f8 rfl (by simp),rfl,rfl,b8 (by omega),trivial⟩⟩,hst,?_⟩
  show a.length - (k+1)<a.length - k
  omega
 ·have hk:k=a.length:=by omega
  subst hk
  have hf:=hI.fin (by omega) hv
  have t:=a3z out (by omega)
  rw [hf] at t
  refine .inr ⟨_,_,w6 [0] t ⟨a19 (u4 (by simp) rfl (by intro h;cases h) rfl rfl (by simp)),trivial⟩ rfl,?_⟩
  conv=>whnf
  exact ak7 rfl
theorem b8F (a b:List Int) (ha:Okd a) (hb:Okd b) (la:a.length<=400000) (lb:b.length<=400000):
 a9 Tryz.prog 266 [d6 a,d6 b] [] (d6 (dg (val a*val b).toNat)) []:=by
 have l1:(a.map c9).length=a.length:=by simp
 have l2:(b.map c9).length=b.length:=by simp
 (refine ac Tryz.func266 ?_;(conv=>whnf);repeat (refine zy ?_;conv=>whnf))
 repeat' (first|refine zx ?_|refine a2B (by omega) (by omega) (by omega) (by decide) ?_|refine zd ?_ ?_<;>intro h<;>try omega|fail)<;>conv=>whnf
 refine n8 c8 (σ:=Nat × List Int) (fun|(i,out)=>([J,d6 b,J,J,J,M4 0 out]++Jn 12++[d6 a,a7 .i64 a.length,a7 .i64 i]++Jn 46,[k8 out])) (fun x=>a4y a b x.1 x.2) (fun x=>a.length - x.1) (0,List.replicate (a.length+b.length) 0) [some 0]
  (a4y.init a b) ⟨rfl,rfl,⟨a8 rfl rfl rfl ?_ rfl,trivial⟩,⟨g6 rfl,f8 rfl (by simp;omega),g6 rfl,b8 (by simp),rfl,trivial⟩⟩ ?_
 ·show List.replicate _ _=_
  rw [show ((((a.map c9).length:Nat):Int)+((b.map c9).length:Nat)).toNat=a.length+b.length by omega]
  simp [toC,c9,B3]
 rintro ⟨i,out⟩ hI
 have hI:a4y a b i out:=hI
 have hlen:=hI.len
 have hle:=hI.le
 conv=>whnf
 repeat' (first|refine zx ?_|refine b9 (u5 (by omega)) ?_|refine zd ?_ ?_<;>intro h<;>try omega|fail)<;>conv=>whnf
 ·have hi:i<a.length:=by omega
  refine n8 c8 (σ:=Nat × List Int × Int) (fun|(k,out,c)=>([J,d6 b,J,J,J,M4 0 out,a7 .i64 i,a7 .i64 (dat a i),a7 .i64 c,J,J,J,J,J,J,J,J,J,d6 a,a7 .i64 a.length,a7 .i64 i,J,J,J,J,d6 b,a7 .i64 b.length,a7 .i64 k]++Jn 39,[k8 out])) (fun x=>ag8 a b i x.1 x.2.1 x.2.2) (fun x=>b.length - x.1) (0,out,0) [some 0]
   hI.start ⟨rfl,rfl,⟨a8 rfl rfl rfl rfl rfl,trivial⟩,⟨g6 rfl,f8 rfl rfl,rfl,rfl,rfl,g6 rfl,rfl,rfl,g6 rfl,b8 (by simp),rfl,trivial⟩⟩ ?_
  rintro ⟨k,out,c⟩ hK
  have hK:ag8 a b i k out c:=hK
  have hlen:=hK.len
  have hle:=hK.le
  have hc0:=hK.c0
  have hc1:=hK.c1
  conv=>whnf
  have hdo:=hK.ok.dat (i+k)
  have hm:=a3N (ha.dat i) (hb.dat k)
  have e1:((i:Int)+k).toNat=i+k:=by omega
  have e2:((i:Int)+b.length).toNat=i+b.length:=by omega
  have e3:((i:Int)+((b.map c9).length:Nat)).toNat=i+b.length:=by omega
  have hz:=hK.zero (i+b.length) (lbR _)
  repeat' (first|refine zx ?_|refine b9 (u5 (by omega)) ?_|refine U1 (by omega) (by show _<((out.length:Nat):Int);omega) ?_|refine o5 (O0 e1 (by omega)) ?_|refine o5 (O0 e3 (by omega)) ?_|refine ⟨_,az6.ok (by first|exact a6v|exact ai1) _,?_⟩|refine ⟨by decide,_,ab3 _,?_⟩|refine zd ?_ ?_<;>intro h<;>try omega|fail)<;>conv=>whnf
  ·refine ⟨[some 0],(k+1,out.set (i+k) ((dat out (i+k)+dat a i*dat b k+c) % 1048576),(dat out (i+k)+dat a i*dat b k+c) / 1048576),⟨rfl,rfl,⟨a8 rfl rfl rfl (K2 (by omega)) rfl,trivial⟩,⟨rfl,f8 rfl (by simp),rfl,rfl,rfl,rfl,rfl,rfl,rfl,rfl,b8 (by omega),trivial⟩⟩,hK.step ha hb hi (by omega),?_⟩
   show b.length - (k+1)<b.length - k
   omega
  ·have hk:k=b.length:=by omega
   subst hk
   refine ⟨[some 0],(i+1,out.set (i+b.length) (dat out (i+b.length)+c)),⟨rfl,rfl,⟨a8 rfl rfl rfl (K2 (by omega)) rfl,trivial⟩,⟨rfl,f8 rfl (by simp),rfl,rfl,b8 (by omega),trivial⟩⟩,hK.done ha hb hi,?_⟩
   show a.length - (i+1)<a.length - i
   omega
 ·have hi:i=a.length:=by omega
  subst hi
  have hf:=hI.fin
  have t:=a3z out (by omega)
  rw [hf] at t
  refine .inr ⟨_,_,w6 [0] t ⟨a19 (u4 (by simp) rfl (by intro h;cases h) rfl rfl (by simp)),trivial⟩ rfl,?_⟩
  conv=>whnf
  exact ak7 rfl
theorem b9z (a b:List Int) (ha:Okd a) (hb:Okd b) (la:a.length<=400000) (lb:b.length<=400000):
 a9 Tryz.prog 266 [d6 a,d6 b] [] (.c (.own 0 0 (dg (val a*val b).toNat).length true)) [k8 (a0r (a.length+b.length) (dg (val a*val b).toNat))]:=by
 have l1:(a.map c9).length=a.length:=by simp
 have l2:(b.map c9).length=b.length:=by simp
 (refine ac Tryz.func266 ?_;(conv=>whnf);repeat (refine zy ?_;conv=>whnf))
 repeat' (first|refine zx ?_|refine a2B (by omega) (by omega) (by omega) (by decide) ?_|refine zd ?_ ?_<;>intro h<;>try omega|fail)<;>conv=>whnf
 refine n8 c8 (σ:=Nat × List Int) (fun|(i,out)=>([J,d6 b,J,J,J,M4 0 out]++Jn 12++[d6 a,a7 .i64 a.length,a7 .i64 i]++Jn 46,[k8 out])) (fun x=>a4y a b x.1 x.2) (fun x=>a.length - x.1) (0,List.replicate (a.length+b.length) 0) [some 0]
  (a4y.init a b) ⟨rfl,rfl,⟨a8 rfl rfl rfl ?_ rfl,trivial⟩,⟨g6 rfl,f8 rfl (by simp;omega),g6 rfl,b8 (by simp),rfl,trivial⟩⟩ ?_
 ·show List.replicate _ _=_
  rw [show ((((a.map c9).length:Nat):Int)+((b.map c9).length:Nat)).toNat=a.length+b.length by omega]
  simp [toC,c9,B3]
 rintro ⟨i,out⟩ hI
 have hI:a4y a b i out:=hI
 have hlen:=hI.len
 have hle:=hI.le
 conv=>whnf
 repeat' (first|refine zx ?_|refine b9 (u5 (by omega)) ?_|refine zd ?_ ?_<;>intro h<;>try omega|fail)<;>conv=>whnf
 ·have hi:i<a.length:=by omega
  refine n8 c8 (σ:=Nat × List Int × Int) (fun|(k,out,c)=>([J,d6 b,J,J,J,M4 0 out,a7 .i64 i,a7 .i64 (dat a i),a7 .i64 c,J,J,J,J,J,J,J,J,J,d6 a,a7 .i64 a.length,a7 .i64 i,J,J,J,J,d6 b,a7 .i64 b.length,a7 .i64 k]++Jn 39,[k8 out])) (fun x=>ag8 a b i x.1 x.2.1 x.2.2) (fun x=>b.length - x.1) (0,out,0) [some 0]
   hI.start ⟨rfl,rfl,⟨a8 rfl rfl rfl rfl rfl,trivial⟩,⟨g6 rfl,f8 rfl rfl,rfl,rfl,rfl,g6 rfl,rfl,rfl,g6 rfl,b8 (by simp),rfl,trivial⟩⟩ ?_
  rintro ⟨k,out,c⟩ hK
  have hK:ag8 a b i k out c:=hK
  have hlen:=hK.len
  have hle:=hK.le
  have hc0:=hK.c0
  have hc1:=hK.c1
  conv=>whnf
  have hdo:=hK.ok.dat (i+k)
  have hm:=a3N (ha.dat i) (hb.dat k)
  have e1:((i:Int)+k).toNat=i+k:=by omega
  have e2:((i:Int)+b.length).toNat=i+b.length:=by omega
  have e3:((i:Int)+((b.map c9).length:Nat)).toNat=i+b.length:=by omega
  have hz:=hK.zero (i+b.length) (lbR _)
  repeat' (first|refine zx ?_|refine b9 (u5 (by omega)) ?_|refine U1 (by omega) (by show _<((out.length:Nat):Int);omega) ?_|refine o5 (O0 e1 (by omega)) ?_|refine o5 (O0 e3 (by omega)) ?_|refine ⟨_,az6.ok (by first|exact a6v|exact ai1) _,?_⟩|refine ⟨by decide,_,ab3 _,?_⟩|refine zd ?_ ?_<;>intro h<;>try omega|fail)<;>conv=>whnf
  ·refine ⟨[some 0],(k+1,out.set (i+k) ((dat out (i+k)+dat a i*dat b k+c) % 1048576),(dat out (i+k)+dat a i*dat b k+c) / 1048576),⟨rfl,rfl,⟨a8 rfl rfl rfl (K2 (by omega)) rfl,trivial⟩,⟨rfl,f8 rfl (by simp),rfl,rfl,rfl,rfl,rfl,rfl,rfl,rfl,b8 (by omega),trivial⟩⟩,hK.step ha hb hi (by omega),?_⟩
   show b.length - (k+1)<b.length - k
   omega
  ·have hk:k=b.length:=by omega
   subst hk
   refine ⟨[some 0],(i+1,out.set (i+b.length) (dat out (i+b.length)+c)),⟨rfl,rfl,⟨a8 rfl rfl rfl (K2 (by omega)) rfl,trivial⟩,⟨rfl,f8 rfl (by simp),rfl,rfl,b8 (by omega),trivial⟩⟩,hK.done ha hb hi,?_⟩
   show a.length - (i+1)<a.length - i
   omega
 ·have hi:i=a.length:=by omega
  subst hi
  have hf:=hI.fin
  have t:=b7V out (by omega)
  have hp:=ar7 out
  rw [hf] at t hp
  refine .inr ⟨_,_,t,?_⟩
  conv=>whnf
  have hq:a0r (a.length+b.length) (dg (val a*val b).toNat)=out:=by unfold a0r;rw [← hlen];exact hp
  rw [hq]
  exact ⟨⟨[some 0],rfl,rfl,⟨a8 rfl rfl rfl rfl rfl,trivial⟩,⟨rfl,rfl,rfl,fun h=>h⟩⟩⟩
theorem b5q {r:Int} (h0:0<=r) (h1:r<4398046511104):F8 .i64 (r*2 ^ min (20:Int).toNat (IntKind.bits .i64)) (r*1048576):=by
 show F8 .i64 (r*1048576) (r*1048576)
 exact a3L (by omega) (by omega)
theorem b9K {k:IntKind} (hk:k.bits=64) (R X:Nat) (h1:R<4398046511104) (hx:X<1048576):(BitVec.ofInt k.bits ((R:Int)*1048576) ||| BitVec.ofInt k.bits (X:Int)).toNat=R*1048576+X:=by
 rw [hk,BitVec.toNat_or,BitVec.toNat_ofInt,BitVec.toNat_ofInt]
 have e1:(((R:Int)*1048576) % ((2 ^ 64:Nat):Int)).toNat=R <<< 20:=by
  rw [Nat.shiftLeft_eq];omega
 have e2:((X:Int) % ((2 ^ 64:Nat):Int)).toNat=X:=by omega
 rw [e1,e2,←Nat.shiftLeft_add_eq_or_of_lt (by omega),Nat.shiftLeft_eq]
theorem bb1 {r x:Int} (h0:0<=r) (h1:r<4398046511104) (hx0:0<=x) (hx1:x<1048576):V3 .or .i64 (r*1048576) x (r*1048576+x):=by
 obtain ⟨R,rfl⟩:=Int.eq_ofNat_of_zero_le h0
 obtain ⟨X,rfl⟩:=Int.eq_ofNat_of_zero_le hx0
 unfold V3
 simp only
 rw [b9K rfl R X (by omega) (by omega)]
 have e:((R*1048576+X:Nat):Int)=(R:Int)*1048576+X:=by simp
 rw [e]
 exact (show F8 .i64 ((R:Int)*1048576+X) _ from a3L (by omega) (by omega))
theorem b5K {a b:Int} (h0:0<=a) (h1:a<=9223372036854775807) (hb:0<b):F8 .i64 (a.tdiv b) (a / b):=by
 rw [Int.tdiv_eq_ediv_of_nonneg h0]
 have h2:0<=a / b:=Int.ediv_nonneg h0 (by omega)
 have h3:a / b<=a:=Int.ediv_le_self _ h0
 exact a3L (by omega) (by omega)
theorem b3z {l:List Int} {n:Nat} (h:0<n) (hn:n<=l.length):l[0+((n:Int) - 1).toNat]? =some (dat l (n - 1)):=by rw [Nat.zero_add];exact a1T h hn
theorem b1M (a:List Int) (d:Int) (ha:Okd a) (la:a.length<=1000000) (hd:0<d) (hd2:d<1048576):
 a9 Tryz.prog 264 [d6 a,a7 .i64 d] [] (.tup [d6 (dg (val a / d).toNat),a7 .i64 (val a % d)]) []:=by
 have l1:(a.map c9).length=a.length:=by simp
 (refine ac Tryz.func264 ?_;(conv=>whnf);repeat (refine zy ?_;conv=>whnf))
 repeat' (first|refine zx ?_|refine a2B (by omega) (by omega) (by omega) (by decide) ?_|refine zd ?_ ?_<;>intro h<;>try omega|fail)<;>conv=>whnf
 refine n8 c8 (σ:=Nat × List Int × Int) (fun|(j,out,r)=>([d6 a,a7 .i64 d,J,J,J,J,M4 0 out,a7 .i64 r,a7 .i64 ((j:Int) - 1)]++Jn 29,[k8 out])) (fun x=>a0D a d x.1 x.2.1 x.2.2) (fun x=>x.1) (a.length,List.replicate a.length 0,0) [some 0]
  (a0D.init a hd) ⟨rfl,rfl,⟨a8 rfl rfl rfl ?_ rfl,trivial⟩,⟨g6 rfl,rfl,f8 rfl (by simp),rfl,b8 (by simp),trivial⟩⟩ ?_
 ·show List.replicate _ _=_
  simp [toC,c9,B3]
 rintro ⟨j,out,r⟩ hI
 have hI:a0D a d j out r:=hI
 have hlen:=hI.len
 have hle:=hI.le
 have hr0:=hI.r0
 have hr1:=hI.r1
 have hda:=ha.dat (j - 1)
 conv=>whnf
 repeat' (first|refine zx ?_|refine v6 (by omega) (a1T (by omega) hle) ?_|refine U1 (by omega) (by show _<((out.length:Nat):Int);omega) ?_|refine o5 (b3z (by omega) (by omega)) ?_|refine ⟨by decide,_,b5q (by omega) (by omega),?_⟩|refine ⟨_,bb1 (by omega) (by omega) (by omega) (by omega),?_⟩|refine ⟨by omega,_,b5K (by omega) (by omega) (by omega),?_⟩|refine au1 (by omega) ?_|refine zd ?_ ?_<;>intro h<;>try omega|fail)<;>conv=>whnf
 ·obtain ⟨j,rfl⟩:∃i,j=i+1:=⟨j - 1,by omega⟩
  simp only [Nat.add_sub_cancel] at *
  have hst:=hI.step ha hd
  rw [← Int.tmod_eq_emod_of_nonneg (by omega)] at hst
  refine ⟨[some 0],(j,out.set j ((r*1048576+dat a j) / d),(r*1048576+dat a j).tmod d),⟨rfl,rfl,⟨a8 rfl rfl rfl (K2 (by omega)) rfl,trivial⟩,⟨rfl,rfl,f8 rfl (by simp),rfl,b8 (by omega),trivial⟩⟩,hst,?_⟩
  show j<j+1
  omega
 ·have hj:j=0:=by omega
  subst hj
  obtain ⟨hf,hr⟩:=hI.fin ha hd
  have t:=a3z out (by omega)
  rw [hf] at t
  refine .inr ⟨_,_,w6 [0] t ⟨a19 (u4 (by simp) rfl (by intro h;cases h) rfl rfl (by simp)),trivial⟩ rfl,?_⟩
  conv=>whnf
  repeat' (first|refine zx ?_|refine zd ?_ ?_<;>intro h<;>try omega|fail)<;>conv=>whnf
  exact k9 ⟨rfl,b8 hr,trivial⟩
theorem b13 {pre out post:List Int} {k:Nat} (h:k<out.length):(pre++out++post)[pre.length+(k:Int).toNat]? =some (dat out k):=by
 rw [lbD,lbc (by omega),show pre.length+(k:Int).toNat - pre.length=k by omega,lbb h]
 exact u5 h
theorem a78 {pre out post:List Int} {k:Nat} {v:Int} (h:k<out.length):(toC ((pre++out++post).map c9)).set (pre.length+(k:Int).toNat) [C.t (ti v)]=toC ((pre++out.set k v++post).map c9):=by
 have e:(pre++out++post).set (pre.length+k) v=pre++out.set k v++post:=by
  rw [lbD,List.set_append_right _ _ (by omega),show pre.length+k - pre.length=k by omega,List.set_append_left _ _ h,lbD]
 rw [← e]
 show (toC ((pre++out++post).map c9)).set (pre.length+k) _=_
 simp [toC,c9,List.map_set]
def W3 (w v g:Int):Int:=if g*v<=w then g else g - 1
theorem b5B (pre w post v:List Int) (g:Int) (hw:Okd w) (hv:Okd v) (lw:w.length<=1000000) (lv:v.length<=w.length) (hg:0<=g∧g<1048576) (hgv:g*val v<=val w+val v):
 a9 Tryz.prog 267 [.c (.own 0 pre.length w.length false),d6 v,a7 .i64 g] [k8 (pre++w++post)] (a7 .i64 (W3 (val w) (val v) g))
  [k8 (pre++a0r w.length (dg (val w - W3 (val w) (val v) g*val v).toNat)++post)]:=by
 have l1:(v.map c9).length=v.length:=by simp
 (refine ac Tryz.func267 ?_;(conv=>whnf);repeat (refine zy ?_;conv=>whnf))
 repeat' (first|refine zx ?_|refine zd ?_ ?_<;>intro h<;>try omega|fail)<;>conv=>whnf
 refine n8 c8 (σ:=Nat × List Int × Int) (fun|(k,out,c)=>([S.c (C.own 0 pre.length w.length false),d6 v,a7 .i64 g,J,J,J,J,a7 .i64 c,J,J,J,J,J,a7 .i64 w.length,a7 .i64 k]++Jn 63,[k8 (pre++out++post)])) (fun x=>a9G w v g x.1 x.2.1 x.2.2) (fun x=>w.length - x.1) (0,w,0) [some 0]
  (a9G.init g hw) ⟨rfl,rfl,⟨a8 rfl rfl rfl rfl rfl,trivial⟩,⟨⟨rfl,rfl,rfl,fun h=>h⟩,g6 rfl,rfl,rfl,rfl,rfl,trivial⟩⟩ ?_
 rintro ⟨k,out,c⟩ hI
 have hI:a9G w v g k out c:=hI
 have hlen:=hI.len
 have hle:=hI.le
 have hc0:=hI.c0
 have hc1:=hI.c1
 have hdo:=hI.ok.dat k
 have hm:=a3N hg (hv.dat k)
 conv=>whnf
 repeat' (first|refine zx ?_|refine b9 (u5 (by omega)) ?_|refine o5 (b13 (by omega)) ?_|refine ⟨_,az6.ok (by first|exact a6v|exact ai1) _,?_⟩|refine ⟨by decide,_,ab3 _,?_⟩|refine zd ?_ ?_<;>intro h<;>try omega|fail)<;>conv=>whnf
 ·have hst:=hI.step hv hg (by omega)
  refine ⟨[some 0],(k+1,out.set k ((dat out k - c - g*dat v k) % 1048576),-((dat out k - c - g*dat v k) / 1048576)),⟨rfl,rfl,⟨a8 rfl rfl rfl (a78 (by omega)) rfl,trivial⟩,⟨⟨rfl,rfl,rfl,fun h=>h⟩,rfl,rfl,b8 (Int.zero_sub _),rfl,b8 (by omega),trivial⟩⟩,hst,?_⟩
  show w.length - (k+1)<w.length - k
  omega
 ·have hst:=hI.step hv hg (by omega)
  rw [Q1 (l:=v) (i:=k) (by omega),Int.mul_zero,Int.sub_zero] at hst
  refine ⟨[some 0],(k+1,out.set k ((dat out k - c) % 1048576),-((dat out k - c) / 1048576)),⟨rfl,rfl,⟨a8 rfl rfl rfl (a78 (by omega)) rfl,trivial⟩,⟨⟨rfl,rfl,rfl,fun h=>h⟩,rfl,rfl,b8 (Int.zero_sub _),rfl,b8 (by omega),trivial⟩⟩,hst,?_⟩
  show w.length - (k+1)<w.length - k
  omega
 ·have hk:k=w.length:=by omega
  subst hk
  have hc:c=0:=by assumption
  obtain ⟨h1,h2⟩:=hI.zero lv hw hv hg.1
  have hq:W3 (val w) (val v) g=g:=by unfold W3;rw [if_pos (h1.1 hc)]
  rw [hq,←h2 hc,←b1G hI.ok hlen]
  exact ⟨⟨[some 0],rfl,rfl,⟨a8 rfl rfl rfl rfl rfl,trivial⟩,rfl⟩⟩
 ·have hk:k=w.length:=by omega
  subst hk
  have hc:¬c=0:=by assumption
  obtain ⟨h1,h2⟩:=hI.zero lv hw hv hg.1
  have hlt:¬g*val v<=val w:=fun h=>hc (h1.2 h)
  have hq:W3 (val w) (val v) g=g - 1:=by unfold W3;rw [if_neg hlt]
  have hvl:=X4 hv
  have hpw:=a1r lv
  rw [hq]
  refine n8 c8 (σ:=Nat × List Int × Int) (fun|(k,o,c)=>([S.c (C.own 0 pre.length w.length false),d6 v,a7 .i64 g,J,J,J,J,J,J,J,a7 .i64 c]++Jn 37++[a7 .i64 w.length,a7 .i64 k]++Jn 28,[k8 (pre++o++post)])) (fun x=>a7j out v x.1 x.2.1 x.2.2) (fun x=>w.length - x.1) (0,out,0) [some 0]
   (a7j.init hI.ok) ⟨rfl,rfl,⟨a8 rfl rfl rfl rfl rfl,trivial⟩,⟨⟨rfl,rfl,rfl,fun h=>h⟩,g6 rfl,rfl,rfl,rfl,rfl,trivial⟩⟩ ?_
  rintro ⟨k,o,c'⟩ hB
  have hB:a7j out v k o c':=hB
  have hlen2:=hB.len
  have hle2:=hB.le
  have hb0:=hB.c0
  have hb1:=hB.c1
  have hdo:=hB.ok.dat k
  have hdv:=hv.dat k
  conv=>whnf
  repeat' (first|refine zx ?_|refine b9 (u5 (by omega)) ?_|refine o5 (b13 (by omega)) ?_|refine ⟨_,az6.ok (by first|exact a6v|exact ai1) _,?_⟩|refine ⟨by decide,_,ab3 _,?_⟩|refine zd ?_ ?_<;>intro h<;>try omega|fail)<;>conv=>whnf
  ·have hst:=hB.step hv (by omega)
   refine ⟨[some 0],(k+1,o.set k ((c'+dat o k+dat v k) % 1048576),(c'+dat o k+dat v k) / 1048576),⟨rfl,rfl,⟨a8 rfl rfl rfl (a78 (by omega)) rfl,trivial⟩,⟨⟨rfl,rfl,rfl,fun h=>h⟩,rfl,rfl,rfl,rfl,b8 (by omega),trivial⟩⟩,hst,?_⟩
   show w.length - (k+1)<w.length - k
   omega
  ·have hst:=hB.step hv (by omega)
   rw [Q1 (l:=v) (i:=k) (by omega),Int.add_zero] at hst
   refine ⟨[some 0],(k+1,o.set k ((c'+dat o k) % 1048576),(c'+dat o k) / 1048576),⟨rfl,rfl,⟨a8 rfl rfl rfl (a78 (by omega)) rfl,trivial⟩,⟨⟨rfl,rfl,rfl,fun h=>h⟩,rfl,rfl,rfl,rfl,b8 (by omega),trivial⟩⟩,hst,?_⟩
   show w.length - (k+1)<w.length - k
   omega
  ·have hk:k=w.length:=by omega
   subst hk
   have e:=hI.back hB lv (by omega) (by omega)
   have e2:val w - (g - 1)*val v=val w - g*val v+val v:=by rw [Int.sub_mul];omega
   rw [e2,←e,←b1G hB.ok (by omega)]
   exact ⟨⟨[some 0],rfl,rfl,⟨a8 rfl rfl rfl rfl rfl,trivial⟩,rfl⟩⟩
abbrev aW1 (m n:Nat):S:=.tup [d6 (dg (m / n)),d6 (dg (m % n))]
theorem b9k (m n:Nat) (hn:0<n) (h:m<n) (lm:(dg m).length<=400000) (ln:(dg n).length<=400000):
 a9 Tryz.prog 208 [d6 (dg m),d6 (dg n)] [] (aW1 m n) []:=by
 have c:=a3e (dg m) (dg n) (a26 m) (a26 n) (by omega) (by omega)
 rw [o9,o9,a3Y (by omega)] at c
 have e1:m / n=0:=Nat.div_eq_of_lt h
 have e2:m % n=m:=Nat.mod_eq_of_lt h
 unfold aW1
 rw [e1,e2,W4]
 (refine ac Tryz.func208 ?_;(conv=>whnf);repeat (refine zy ?_;conv=>whnf))
 repeat' (first|refine zx ?_|refine qp c ?_|refine qp (a9I _ (by omega)) ?_|refine zd ?_ ?_<;>intro h<;>try omega|fail)<;>conv=>whnf
 exact k9 ⟨rfl,rfl,trivial⟩
theorem bc0 (m n:Nat) (hn:0<n) (h:n<=m) (hl:(dg n).length=1) (lm:(dg m).length<=400000):
 a9 Tryz.prog 208 [d6 (dg m),d6 (dg n)] [] (aW1 m n) []:=by
 have l2:((dg n).map c9).length=(dg n).length:=by simp
 have c:=a3e (dg m) (dg n) (a26 m) (a26 n) (by omega) (by omega)
 rw [o9,o9] at c
 have hc:0<=O1 m n:=by unfold O1;split<;>(try split)<;>omega
 have hn2:=O3 n
 rw [hl] at hn2
 have hn3:(n:Int)<1048576:=by simpa [pw] using hn2
 have hd:dg n=[(n:Int)]:=by
  rw [a6n hn,show n / 1048576=0 by omega,show n % 1048576=n by omega];rfl
 have sh:=b1M (dg m) n (t5 m) (by omega) (by omega) hn3
 rw [o9] at sh
 have e1:((m:Int) / n).toNat=m / n:=by rw [← Int.natCast_ediv];rfl
 have e2:(m:Int) % n=((m % n:Nat):Int):=by simp
 rw [e1,e2] at sh
 have hr:m % n<n:=Nat.mod_lt _ hn
 have t:=a3z [((m % n:Nat):Int)] (by simp)
 rw [K5 (by intro x hx;simp at hx;omega)] at t
 have e3:(val [((m % n:Nat):Int)]).toNat=m % n:=by simp only [val];omega
 rw [e3] at t
 (refine ac Tryz.func208 ?_;(conv=>whnf);repeat (refine zy ?_;conv=>whnf))
 repeat' (first|refine zx ?_|refine qp c ?_|refine qp sh ?_|refine qp hd ?_|refine v6 (x:=(n:Int)) (by omega) (by rw [hd];rfl) ?_|refine .inl ⟨_,_,a0K t ⟨a19 (aS2 rfl),trivial⟩ rfl,?_⟩|refine zd ?_ ?_<;>intro h<;>try omega|fail)<;>conv=>whnf
 all_goals (first|omega|exact k9 ⟨rfl,rfl,trivial⟩)
theorem b8S {n k:Nat} {top:Int} (hn:0<n) (ht:dat (dg n) ((dg n).length - 1)=top) (hk:k<=19) (h1:top*2 ^ k<1048576) (h2:¬top*2 ^ k<524288):
 (dg (n*2 ^ k)).length=(dg n).length∧524288<=dat (dg (n*2 ^ k)) ((dg n).length - 1):=by
 have hl:(dg n).length≠0:=by rw [Ne,List.length_eq_zero_iff,Q5];omega
 obtain ⟨l,hl'⟩:∃l,(dg n).length=l+1:=⟨(dg n).length - 1,by omega⟩
 rw [hl',Nat.add_sub_cancel] at ht ⊢
 have e1:=s8 (dg n) l
 rw [lbn (by omega),o9,ht] at e1
 have a1:=v4 ((t5 n).take l)
 have a2:=X4 ((t5 n).take l)
 rw [lbs,Nat.min_eq_left (by omega)] at a2
 have t0:=(t5 n).dat l
 rw [ht] at t0
 obtain ⟨T,rfl⟩:=Int.eq_ofNat_of_zero_le t0.1
 have hp:(0:Int)<2 ^ k:=Int.pow_pos (by decide)
 have hpp:=R0 l
 have e2:(2:Int) ^ k*2 ^ (20 - k)=1048576:=by rw [← Int.pow_add,show k+(20 - k)=20 by omega];rfl
 have h3:(T:Int)<2 ^ (20 - k):=by
  refine Int.lt_of_mul_lt_mul_left (a:=(2:Int) ^ k) ?_ (Int.le_of_lt hp)
  rw [e2,Int.mul_comm];exact h1
 have h4:((T:Int)+1)*2 ^ k<=1048576:=by
  have:=lbW (a:=(T:Int)+1) (b:=2 ^ (20 - k)) (c:=2 ^ k) (by omega) (Int.le_of_lt hp)
  rw [e2,Int.mul_comm] at this;exact this
 have hV:(((n*2 ^ k:Nat)):Int)=n*2 ^ k:=by simp
 have h5:((n*2 ^ k:Nat):Int)<pw (l+1):=by
  rw [hV,F3]
  have b1:(n:Int)+1<=pw l*(T+1):=by rw [Int.mul_add];omega
  have b2:=lbX (c:=(2:Int) ^ k) b1 (Int.le_of_lt hp)
  have b3:=lbW (c:=pw l) h4 (Int.le_of_lt hpp)
  rw [← Int.mul_assoc] at b3
  rw [Int.add_mul] at b2
  omega
 have h6:pw l*524288<=((n*2 ^ k:Nat):Int):=by
  rw [hV]
  have b1:pw l*T<=(n:Int):=by omega
  have b2:=lbX (c:=(2:Int) ^ k) b1 (Int.le_of_lt hp)
  have b3:=lbW (a:=524288) (b:=(T:Int)*2 ^ k) (c:=pw l) (by omega) (Int.le_of_lt hpp)
  rw [← Int.mul_assoc] at b3
  omega
 have h7:(dg (n*2 ^ k)).length=l+1:=by
  have c1:=N3 h5
  rcases Nat.lt_or_ge (dg (n*2 ^ k)).length (l+1) with c2|c2
  ·have c3:=O3 (n*2 ^ k)
   have c4:=a1r (show (dg (n*2 ^ k)).length<=l by omega)
   omega
  ·omega
 refine ⟨h7,?_⟩
 have f1:=s8 (dg (n*2 ^ k)) l
 rw [lbn (by omega),o9] at f1
 have f2:=X4 ((t5 (n*2 ^ k)).take l)
 rw [lbs,Nat.min_eq_left (by omega)] at f2
 rcases Int.lt_or_le (dat (dg (n*2 ^ k)) l) 524288 with c|c
 ·exfalso
  have:=lbW (a:=dat (dg (n*2 ^ k)) l+1) (b:=524288) (c:=pw l) (by omega) (Int.le_of_lt hpp)
  rw [Int.mul_add] at this
  omega
 ·exact c
theorem b4k {a a' b b':Nat} {x y:S} (h1:a=a') (h2:b=b'):[S.c (.own 0 a b false),x,y]=[S.c (.own 0 a' b' false),x,y]:=by rw [h1,h2]
theorem b0N {V W v1 top g r:Int} (hG:Z1 V W v1 top g r) (hV:0<V) (hW:0<=W) (h1:g<1048576) (h2:g*V<=W+V):
 0<=W3 W V g∧W3 W V g<1048576∧0<=W - W3 W V g*V∧W - W3 W V g*V<V:=by
 have h3:=hG.hi
 have h4:=hG.g0
 rw [Int.add_mul,Int.one_mul] at h3
 unfold W3
 by_cases hc:g*V<=W
 ·rw [if_pos hc];omega
 ·rw [if_neg hc,Int.sub_mul,Int.one_mul]
  have:g≠0:=by rintro rfl;simp at hc;omega
  omega
theorem b95 (m n:Nat) (hn:0<n) (hmn:n<=m) (hl:2<=(dg n).length) (lm:(dg m).length<=300000) (ln:(dg n).length<=300000):
 a9 Tryz.prog 208 [d6 (dg m),d6 (dg n)] [] (aW1 m n) []:=by
 have l1:((dg m).map c9).length=(dg m).length:=by simp
 have l2:((dg n).map c9).length=(dg n).length:=by simp
 have c:=a3e (dg m) (dg n) (a26 m) (a26 n) (by omega) (by omega)
 rw [o9,o9] at c
 have hc:0<=O1 m n:=by unfold O1;split<;>(try split)<;>omega
 have ht0:=(t5 n).dat ((dg n).length - 1)
 have ht1:dat (dg n) ((dg n).length - 1)≠0:=(a26 n).2 _ (u5 (by omega))
 generalize htop:dat (dg n) ((dg n).length - 1)=top at ht0 ht1
 (refine ac Tryz.func208 ?_;(conv=>whnf);repeat (refine zy ?_;conv=>whnf))
 repeat' (first|refine zx ?_|refine qp c ?_|refine zd ?_ ?_<;>intro h<;>try omega|fail)<;>conv=>whnf
 refine n8 c8 (σ:=Nat) (fun k=>([d6 (dg m),d6 (dg n),J,J,J,J,J,J,a7 .i64 (2 ^ k)]++Jn 161,[])) (fun k=>k<=19∧top*2 ^ k<1048576) (fun k=>20 - k) 0 []
  ⟨by omega,by omega⟩ ⟨rfl,rfl,trivial,⟨g6 rfl,g6 rfl,rfl,trivial⟩⟩ ?_
 rintro k ⟨hk1,hk2⟩
 have hk1:k<=19:=hk1
 have hk2:top*2 ^ k<1048576:=hk2
 have hp0:(0:Int)<2 ^ k:=Int.pow_pos (by decide)
 have hpt:0<top*2 ^ k:=Int.mul_pos (by omega) hp0
 have hpk:(2:Int) ^ k<=524288:=by
  have:=Nat.pow_le_pow_right (n:=2) (by decide) hk1
  have e:((2 ^ k:Nat):Int)=2 ^ k:=by simp
  omega
 have hgl:(dg n)[(((((dg n).map c9).length:Nat):Int) - 1).toNat]? =some top:=by rw [l2,←htop];exact a7g (by omega)
 conv=>whnf
 repeat' (first|refine zx ?_|refine v6 (by omega) hgl ?_|refine zd ?_ ?_<;>intro h<;>try omega|fail)<;>conv=>whnf
 ·have hlt:top*2 ^ k<524288:=by omega
  refine ⟨[],k+1,⟨rfl,rfl,trivial,⟨rfl,rfl,b8 (Int.pow_succ _ _).symm,trivial⟩⟩,⟨?_,?_⟩,?_⟩
  ·rcases Nat.lt_or_ge k 19 with h1|h1
   ·exact h1
   ·have:k=19:=by omega
    subst this
    omega
  ·rw [Int.pow_succ,←Int.mul_assoc];omega
  ·show 20 - (k+1)<20 - k
   omega
 ·have hsh:Okd [(2:Int) ^ k]:=by intro x hx;simp at hx;omega
  have mu:=b9z (dg m) [2 ^ k] (t5 m) hsh (by omega) (by simp)
  have mv:=b8F (dg n) [2 ^ k] (t5 n) hsh (by omega) (by simp)
  have ev:val [(2:Int) ^ k]=2 ^ k:=by simp [val]
  rw [ev,o9] at mu mv
  generalize hU:((m:Int)*2 ^ k).toNat=U at mu
  generalize hV:((n:Int)*2 ^ k).toNat=V at mv
  refine .inr ⟨_,_,ap9 (b0J mu ⟨ao7,a19 (aS2 rfl),trivial⟩) rfl rfl rfl rfl,?_⟩
  conv=>whnf
  have hVe:V=n*2 ^ k:=by
   have e:((n:Int)*2 ^ k)=((n*2 ^ k:Nat):Int):=by simp
   rw [← hV,e];exact lbY _
  have hUe:U=m*2 ^ k:=by
   have e:((m:Int)*2 ^ k)=((m*2 ^ k:Nat):Int):=by simp
   rw [← hU,e];exact lbY _
  obtain ⟨lV,hvt⟩:=b8S hn htop hk1 hk2 h
  rw [← hVe] at lV hvt
  have hp1:0<2 ^ k:=Nat.pow_pos (by decide)
  have lU3:(dg m).length<=(dg U).length:=p7 (by rw [hUe];exact Nat.le_mul_of_pos_right m hp1)
  have lU2:(dg U).length<=(dg m).length+1:=N3 (by
   have h1:=O3 m
   rw [F3,hUe]
   have h2:=lbW (a:=2 ^ k) (b:=1048576) (c:=(m:Int)+1) (by omega) (by omega)
   have h3:(((m*2 ^ k:Nat)):Int)=m*2 ^ k:=by simp
   rw [Int.add_mul] at h2
   omega)
  have lU1:(a0r ((dg m).length+[(2:Int) ^ k].length) (dg U)).length<=300001:=by rw [au0 (by simpa using lU2)];simp;omega
  have l3:((dg V).map c9).length=(dg V).length:=by simp
  have lmn:(dg n).length<=(dg m).length:=p7 hmn
  have l4:(toC [[T.atm (Value.int .i64 0)]]).length=1:=rfl
  repeat' (first|refine zx ?_|refine qp (toC,a0r) ?_|refine qp toC ?_|refine o8 (by simp [toC,a0r]) (by simp [toC];omega) ?_|refine .inl ⟨_,_,a0K mv ⟨ao7,a19 (aS2 rfl),trivial⟩ rfl,?_⟩|refine a2B (by omega) (by omega) (by omega) (by decide) ?_|refine zd ?_ ?_<;>intro h<;>try omega|fail)<;>conv=>whnf
  have hV0:0<V:=by rw [hVe];exact Nat.mul_pos hn hp1
  refine n8 c8 (σ:=Nat × List Int × List Int) (fun|(j,u,q)=>(Jn 8++[a7 .i64 (2 ^ k),M4 0 u,d6 (dg V),a7 .i64 (dg V).length,M4 1 q,a7 .i64 ((j:Int) - 1)]++Jn 156,[k8 u,k8 q])) (fun x=>a9w U V ((dg U).length+1) (dg V).length x.1 x.2.1 x.2.2) (fun x=>x.1)
   ((dg U).length+1 - (dg V).length,dg U++[0],List.replicate ((dg U).length+1 - (dg V).length) 0) [some 1,some 2]
   (a9w.init hV0 (by omega)) ⟨rfl,rfl,⟨a8 rfl rfl rfl ?_ rfl,a8 rfl rfl rfl ?_ rfl,trivial⟩,⟨rfl,f8 rfl ?_,g6 rfl,b8 (by omega),f8 rfl ?_,b8 ?_,trivial⟩⟩ ?_
  ·simp [toC,y5,a0r,lbC,List.take_append,c9]
  ·show List.replicate _ _=_
   simp [toC,c9,B3]
  ·simp [toC]
  ·simp [toC]
  ·simp [toC]
  rintro ⟨j,u,q⟩ hD
  have hD:a9w U V ((dg U).length+1) (dg V).length j u q:=hD
  have hlu:=hD.lu
  have hlq:=hD.lq
  have hle:=hD.le
  have hdt:0<j->dat u (j - 1+(dg V).length)=dat u (j - 1+(dg V).length):=fun _=>rfl
  have gu0:0<j->u[0+(((j:Int) - 1)+(dg V).length).toNat]? =some (dat u (j - 1+(dg V).length)):=fun h=>O0 (by omega) (by omega)
  have gu1:0<j->u[0+(((j:Int) - 1)+(dg V).length - 1).toNat]? =some (dat u (j - 1+(dg V).length - 1)):=fun h=>O0 (by omega) (by omega)
  have d0:=hD.oku.dat (j - 1+(dg V).length)
  have d1:=hD.oku.dat (j - 1+(dg V).length - 1)
  have dv:=(t5 V).dat ((dg V).length - 1)
  have hvt2:524288<=dat (dg V) ((dg V).length - 1):=by rw [lV];exact hvt
  conv=>whnf
  repeat' (first|refine zx ?_|refine U1 (by omega) (by show _<((u.length:Nat):Int);omega) ?_|refine o5 (gu0 (by omega)) ?_|refine o5 (gu1 (by omega)) ?_|refine ⟨by decide,_,b5q (by omega) (by omega),?_⟩|refine ⟨_,bb1 (by omega) (by omega) (by omega) (by omega),?_⟩|refine v6 (by omega) (a7g (by omega)) ?_|refine ⟨by omega,_,b5K (by omega) (by omega) (by omega),?_⟩|refine au1 (by omega) ?_|refine zd ?_ ?_<;>intro h<;>try omega|fail)<;>conv=>whnf
  ·have hj:0<j:=by omega
   obtain ⟨i,rfl⟩:∃i,j=i+1:=⟨j - 1,by omega⟩
   simp only [Nat.add_sub_cancel] at *
   obtain ⟨L,hL⟩:∃L,(dg V).length=L+2:=⟨(dg V).length - 2,by omega⟩
   obtain ⟨w3,w2,w0,wv,wz,wlt⟩:=hD.window rfl
   generalize hw:(u.drop i).take ((dg V).length+1)=w at w3 w2 wv wlt
   have hwo:Okd w:=by rw [← hw];exact (hD.oku.drop i).take _
   have dw:∀t,t<=(dg V).length->dat w t=dat u (i+t):=fun t ht=>by
    rw [← hw];unfold dat
    rw [lbl,lbi,if_pos (by omega),lbj,←lbl]
   have win:=Win.of (t5 V) hwo hL (by omega) (by rw [hL] at hvt2;exact hvt2) (by rw [o9];exact wlt)
   rw [dw (L+2) (by omega),dw (L+1) (by omega),dw L (by omega),o9] at win
   have eL1:(dg V).length - 1=L+1:=by omega
   have eu0:i+(L+2)=i+(dg V).length:=by omega
   have eu1:i+(L+1)=i+(dg V).length - 1:=by omega
   rw [eu0,eu1] at win
   generalize ht:dat u (i+(dg V).length)*1048576+dat u (i+(dg V).length - 1)=top2 at win
   have win':=win
   have ht0:=win.t0
   refine n8 c8 (σ:=Int × Int) (fun|(g,r)=>(Jn 8++[a7 .i64 (2 ^ k),M4 0 u,d6 (dg V),a7 .i64 (dg V).length,M4 1 q,a7 .i64 i,J,a7 .i64 g,a7 .i64 r]++Jn 153,[k8 u,k8 q])) (fun x=>Z1 V (val w) (dat (dg V) (L+1)) top2 x.1 x.2) (fun x=>x.1.toNat)
    (top2 / dat (dg V) (L+1),top2 % dat (dg V) (L+1)) [some 0,some 1]
    (Z1.init win) ⟨rfl,rfl,⟨a8 rfl rfl rfl rfl rfl,a8 rfl rfl rfl rfl rfl,trivial⟩,⟨rfl,f8 rfl rfl,g6 rfl,rfl,f8 rfl rfl,b8 (by omega),b8 ?_,b8 ?_,trivial⟩⟩ ?_
   ·rw [eL1]
   ·rw [eL1,Int.tmod_eq_emod_of_nonneg ht0]
   rintro ⟨g,r⟩ hG
   have hG:Z1 V (val w) (dat (dg V) (L+1)) top2 g r:=hG
   have hg0:=hG.g0
   have hgu:=hG.gu
   have hr0:=hG.r0
   have hru:=hG.ru
   have dv2:=(t5 V).dat L
   have dv1:=(t5 V).dat (L+1)
   have du2:=hD.oku.dat (i+L)
   have hgm:0<=g*dat (dg V) L∧g*dat (dg V) L<=2097152*1048576:=⟨lb0 hg0 dv2.1,Int.mul_le_mul hgu (by omega) dv2.1 (by omega)⟩
   have gv2:(dg V)[((((dg V).length:Nat):Int) - 2).toNat]? =some (dat (dg V) L):=by rw [show ((((dg V).length:Nat):Int) - 2).toNat=L by omega];exact u5 (by omega)
   have gv1:(dg V)[((((dg V).length:Nat):Int) - 1).toNat]? =some (dat (dg V) (L+1)):=by rw [show ((((dg V).length:Nat):Int) - 1).toNat=L+1 by omega];exact u5 (by omega)
   have gu2:u[0+((i:Int)+((dg V).length:Nat) - 2).toNat]? =some (dat u (i+L)):=O0 (by omega) (by omega)
   conv=>whnf
   repeat' (first|refine zx ?_|refine U1 (by omega) (by show _<((u.length:Nat):Int);omega) ?_|refine v6 (by omega) gv2 ?_|refine v6 (by omega) gv1 ?_|refine o5 gu2 ?_|refine ⟨by decide,_,b5q (by omega) (by omega),?_⟩|refine ⟨_,bb1 (by omega) (by omega) (by omega) (by omega),?_⟩|refine a4r (by omega) (by omega) (by show _<=((u.length:Nat):Int);omega) ?_|refine zd ?_ ?_<;>intro h<;>try omega|fail)<;>conv=>whnf
   ·have hgc:1048576<=g:=by omega
    have hst:=Z1.step win hG (.inl hgc) (v4 hwo)
    exact ⟨[some 0,some 1],(g - 1,r+dat (dg V) (L+1)),⟨rfl,rfl,⟨a8 rfl rfl rfl rfl rfl,a8 rfl rfl rfl rfl rfl,trivial⟩,⟨rfl,f8 rfl rfl,rfl,rfl,f8 rfl rfl,rfl,rfl,rfl,trivial⟩⟩,hst,by have:=hst.g0;show (g - 1).toNat<g.toNat;omega⟩
   ·have hgc:r<1048576∧r*1048576+dat u (i+L)<g*dat (dg V) L:=by omega
    have hst:=Z1.step win hG (.inr hgc) (v4 hwo)
    exact ⟨[some 0,some 1],(g - 1,r+dat (dg V) (L+1)),⟨rfl,rfl,⟨a8 rfl rfl rfl rfl rfl,a8 rfl rfl rfl rfl rfl,trivial⟩,⟨rfl,f8 rfl rfl,rfl,rfl,f8 rfl rfl,rfl,rfl,rfl,trivial⟩⟩,hst,by have:=hst.g0;show (g - 1).toNat<g.toNat;omega⟩
   all_goals
    have hgc:¬(1048576<=g∨(r<1048576∧r*1048576+dat u (i+L)<g*dat (dg V) L)):=by omega
    obtain ⟨hg1,hgV⟩:=Z1.fin win hG hgc (by
     have h1:=win.Vl
     have h3:=win.v1l
     have h2:=lbW (a:=1048576) (b:=dat (dg V) (L+1)*1048576+dat (dg V) L) (by omega) (Int.le_of_lt win.P0)
     omega)
    have st:=b5B (u.take i) w (u.drop (i+((dg V).length+1))) (dg V) g hwo (t5 V) (by omega) (by omega) ⟨hg0,hg1⟩ (by rw [o9];exact hgV)
    rw [o9] at st
    obtain ⟨q0,q1,q2,q3⟩:=b0N hG (by omega) (v4 hwo) hg1 hgV
    have hds:=hD.step rfl hV0 ⟨q0,q1⟩ (by rw [hw];exact q2) (by rw [hw];exact q3)
    rw [hw] at hds
    generalize W3 (val w) V g=Q at st q0 q1 q2 q3 hds
    rw [← w3,w2] at st
    generalize hu':u.take i++a0r ((dg V).length+1) (dg (val w - Q*V).toNat)++u.drop (i+((dg V).length+1))=u' at st hds
    refine .inr ⟨_,_,O6 (H':=[k8 u',k8 q]) [0] st (b4k (by rw [w0];omega) (by omega)) rfl rfl (by decide) ?_ (by simp) (by simp) rfl rfl rfl ?_ ?_,?_⟩
    ·intro i k hk
     match i,hk with
     |0,hk=>
      injection hk with hk
      subst hk
      exact ⟨rfl,rfl,a2i _,_,rfl,C0 rfl⟩
    ·intro i k hk
     match i,hk with
     |0,hk=>
      injection hk with hk
      subst hk
      exact ⟨_,rfl,C0 rfl⟩
    ·intro j hj hn
     match j,hj with
     |0,_=>simp at hn
     |1,_=>rfl
    conv=>whnf
    have hlu':=hds.lu
    refine zz ?_
    conv=>whnf
    repeat' (first|refine zx ?_|refine o5 (O0 rfl (by omega)) ?_|refine zd ?_ ?_<;>intro h<;>try omega|fail)<;>conv=>whnf
    exact ⟨[some 0,some 1],(i,u',q.set i Q),⟨rfl,rfl,⟨a8 rfl rfl rfl rfl rfl,a8 rfl rfl rfl (K2 (i:=i) (n:=(i:Int)) (by simp)) rfl,trivial⟩,⟨rfl,f8 rfl (hlu.trans hlu'.symm),rfl,rfl,f8 rfl (by simp),rfl,trivial⟩⟩,hds,by show i<i+1;omega⟩
  ·have hj:j=0:=by omega
   subst hj
   obtain ⟨fq,fu⟩:=hD.fin hV0
   have tu:=a3z u (by omega)
   rw [K5 hD.oku,fu,lbY] at tu
   have tq:=a3z q (by omega)
   rw [K5 hD.okq,fq,lbY] at tq
   have lUV:(dg (U % V)).length<=(dg U).length:=p7 (Nat.mod_le _ _)
   have sh:=b1M (dg (U % V)) (2 ^ k) (t5 _) (by omega) (by omega) (by omega)
   have e1:U % V / 2 ^ k=m % n:=by rw [hUe,hVe,Nat.mul_mod_mul_right,Nat.mul_div_cancel _ hp1]
   have e2:U / V=m / n:=by rw [hUe,hVe,Nat.mul_div_mul_right _ _ hp1]
   have e3:((U % V:Nat):Int) / 2 ^ k=((m % n:Nat):Int):=by rw [← e1];simp
   rw [o9,e3,lbY] at sh
   rw [e2] at tq
   refine .inr ⟨_,_,w6 [0] tu ⟨a19 (u4 (by simp) rfl (by intro h;cases h) rfl rfl (by simp)),trivial⟩ rfl,?_⟩
   conv=>whnf
   repeat' (first|refine zx ?_|refine qp sh ?_|refine zd ?_ ?_<;>intro h<;>try omega|fail)<;>conv=>whnf
   refine .inr ⟨_,_,w6 [1] tq ⟨a19 (u4 (by simp) rfl (by intro h;cases h) rfl rfl (by simp)),trivial⟩ rfl,?_⟩
   conv=>whnf
   exact k9 ⟨rfl,rfl,trivial⟩
theorem b8L (m n:Nat) (hn:0<n) (lm:(dg m).length<=300000) (ln:(dg n).length<=300000):
 a9 Tryz.prog 208 [d6 (dg m),d6 (dg n)] [] (aW1 m n) []:=by
 rcases Nat.lt_or_ge m n with h|h
 ·exact b9k m n hn h (by omega) (by omega)
 ·have h1:(dg n).length≠0:=by rw [Ne,List.length_eq_zero_iff,Q5];omega
  by_cases hl:(dg n).length=1
  ·exact bc0 m n hn h hl (by omega)
  ·exact b95 m n hn h (by omega) lm ln
set_option maxHeartbeats 1000000
theorem b4T (m n:Nat) (lm:(dg m).length<=300000) (ln:(dg n).length<=300000):
 a9 Tryz.prog 215 [d6 (dg m),d6 (dg n)] [] (d6 (dg (m+n))) []:=by
 have h:=bc7 (dg m) (dg n) (t5 m) (t5 n) (by omega) (by omega)
 rw [o9,o9,show ((m:Int)+n).toNat=m+n by omega] at h
 exact h
theorem aa5 (m n:Nat) (lm:(dg m).length<=300000) (h:n<=m):
 a9 Tryz.prog 216 [d6 (dg m),d6 (dg n)] [] (d6 (dg (m - n))) []:=by
 have h:=bd7 (dg m) (dg n) (t5 m) (t5 n) (by omega) (p7 h) (by rw [o9,o9];omega)
 rw [o9,o9,show ((m:Int) - n).toNat=m - n by omega] at h
 exact h
theorem b9W (m n:Nat) (lm:(dg m).length<=300000) (ln:(dg n).length<=300000):
 a9 Tryz.prog 266 [d6 (dg m),d6 (dg n)] [] (d6 (dg (m*n))) []:=by
 have h:=b8F (dg m) (dg n) (t5 m) (t5 n) (by omega) (by omega)
 rw [o9,o9,show ((m:Int)*n).toNat=m*n by rw [← Int.natCast_mul];rfl] at h
 exact h
theorem b9U (m n:Nat) (lm:(dg m).length<=300000) (ln:(dg n).length<=300000):
 a9 Tryz.prog 212 [d6 (dg m),d6 (dg n)] [] (a7 .i64 (O1 m n)) []:=by
 have h:=a3e (dg m) (dg n) (a26 m) (a26 n) (by omega) (by omega)
 rw [o9,o9] at h
 exact h
theorem w7 (s:Int) (k:Nat) (h:s=1∨s=-1∨k=0) (lk:(dg k).length<=700000):
 a9 Tryz.prog 209 [a7 .i64 s,d6 (dg k)] [] (bgS (bz (s*k))) []:=by
 have e:=aO5 s (dg k) (by omega)
 rw [b0n (t5 k) (by rw [o9];omega),o9] at e
 exact e
def Sg (s:Int) (m:Nat):Prop:=(s=0∧m=0)∨(s=1∧0<m)∨(s=-1∧0<m)
theorem a67 (x:Int):Sg x.sign x.natAbs:=by
 rcases C9 x with ⟨e,h1⟩|⟨e,h1⟩|⟨e,h1⟩
 ·exact .inl ⟨e,by omega⟩
 ·exact .inr (.inl ⟨e,by omega⟩)
 ·exact .inr (.inr ⟨e,by omega⟩)
theorem a7C {s:Int} {m:Nat} (h:Sg s m):bz (s*m)=⟨s,dg m⟩:=by
 rcases h with ⟨rfl,rfl⟩|⟨rfl,h⟩|⟨rfl,h⟩
 ·rfl
 ·unfold bz;rw [Int.one_mul,Int.sign_eq_one_of_pos (by omega)];rfl
 ·unfold bz;rw [Int.sign_eq_neg_one_of_neg (by omega)];congr 2;omega
theorem a2c (s:Int) (m:Nat) (h:Sg s m) (lm:(dg m).length<=300000):a9 Tryz.prog 135 [bgS ⟨s,dg m⟩] [] (e8 true) []:=by
 have:=a39 ⟨s,dg m⟩ (show (dg m).length<=1000000 by omega)
 rw [← a7C h,a0i,a7C h] at this
 exact this
theorem a6o {b b':Bg} {e:Int} {H1:Hp} (h:b=b'):Fin 0 (.tup [bgS b,a7 .i64 e]) H1 (.tup [bgS b',a7 .i64 e]) []:=by
 subst h;exact k9 ⟨⟨rfl,rfl,trivial⟩,rfl,trivial⟩
theorem F6 {a b c d:Nat} (h:a<=max b c+1) (h2:max b c+1<=d):a<=d:=lbS h h2
theorem b9N (s t:Int) (m n:Nat) (hs:Sg s m) (ht:Sg t n) (lm:(dg m).length<=200000) (ln:(dg n).length<=200000):
 a9 Tryz.prog 142 [bgS ⟨s,dg m⟩,bgS ⟨t,dg n⟩] [] (.tup [bgS (bz (s*m+t*n)),a7 .i64 0]) []:=by
 have r1:=a2c s m hs (by omega)
 have r2:=a2c t n ht (by omega)
 have ad:=b4T m n (by omega) (by omega)
 have c:=b9U m n (by omega) (by omega)
 have ls:=a40 m n
 have fin:∀(z:Int) (H1:Hp),z=s*m+t*n->Fin 0 (.tup [bgS (if true then bz z else ⟨0,[]⟩),a7 .i64 0]) H1 (.tup [bgS (bz (s*m+t*n)),a7 .i64 0]) []:=fun z H1 h=>a6o (by rw [h];rfl)
 rcases hs with ⟨rfl,rfl⟩|⟨rfl,h1⟩|⟨rfl,h1⟩<;>rcases ht with ⟨rfl,rfl⟩|⟨rfl,h2⟩|⟨rfl,h2⟩
 case inl.inl=>
  have sg:=w7 (0) _ (by omega) (F6 ls (by omega))
  have co:=a4h (0) (0)
  (refine ac Tryz.func142 ?_;(conv=>whnf);repeat (refine zy ?_;conv=>whnf))
  repeat' (first|refine zx ?_|refine qp r1 ?_|refine qp r2 ?_|refine qp ad ?_|refine qp sg ?_|refine qp (H8 true _) ?_|refine qp co ?_|refine ⟨_,B5 (y:=0) rfl (by decide) (by decide),?_⟩|refine zd ?_ ?_<;>intro h<;>try omega|fail)<;>conv=>whnf
  all_goals first|omega|exact fin _ _ (by omega)
 case inl.inr.inl=>
  have sg:=w7 (1) _ (by omega) (F6 ls (by omega))
  have co:=a4h (0) (1)
  (refine ac Tryz.func142 ?_;(conv=>whnf);repeat (refine zy ?_;conv=>whnf))
  repeat' (first|refine zx ?_|refine qp r1 ?_|refine qp r2 ?_|refine qp ad ?_|refine qp sg ?_|refine qp (H8 true _) ?_|refine qp co ?_|refine ⟨_,B5 (y:=0) rfl (by decide) (by decide),?_⟩|refine zd ?_ ?_<;>intro h<;>try omega|fail)<;>conv=>whnf
  all_goals first|omega|exact fin _ _ (by omega)
 case inl.inr.inr=>
  have sg:=w7 (-1) _ (by omega) (F6 ls (by omega))
  have co:=a4h (0) (-1)
  (refine ac Tryz.func142 ?_;(conv=>whnf);repeat (refine zy ?_;conv=>whnf))
  repeat' (first|refine zx ?_|refine qp r1 ?_|refine qp r2 ?_|refine qp ad ?_|refine qp sg ?_|refine qp (H8 true _) ?_|refine qp co ?_|refine ⟨_,B5 (y:=0) rfl (by decide) (by decide),?_⟩|refine zd ?_ ?_<;>intro h<;>try omega|fail)<;>conv=>whnf
  all_goals first|omega|exact fin _ _ (by omega)
 case inr.inl.inl=>
  have sg:=w7 (1) _ (by omega) (F6 ls (by omega))
  have co:=a4h (1) (0)
  (refine ac Tryz.func142 ?_;(conv=>whnf);repeat (refine zy ?_;conv=>whnf))
  repeat' (first|refine zx ?_|refine qp r1 ?_|refine qp r2 ?_|refine qp ad ?_|refine qp sg ?_|refine qp (H8 true _) ?_|refine qp co ?_|refine ⟨_,B5 (y:=0) rfl (by decide) (by decide),?_⟩|refine zd ?_ ?_<;>intro h<;>try omega|fail)<;>conv=>whnf
  all_goals first|omega|exact fin _ _ (by omega)
 case inr.inr.inl=>
  have sg:=w7 (-1) _ (by omega) (F6 ls (by omega))
  have co:=a4h (-1) (0)
  (refine ac Tryz.func142 ?_;(conv=>whnf);repeat (refine zy ?_;conv=>whnf))
  repeat' (first|refine zx ?_|refine qp r1 ?_|refine qp r2 ?_|refine qp ad ?_|refine qp sg ?_|refine qp (H8 true _) ?_|refine qp co ?_|refine ⟨_,B5 (y:=0) rfl (by decide) (by decide),?_⟩|refine zd ?_ ?_<;>intro h<;>try omega|fail)<;>conv=>whnf
  all_goals first|omega|exact fin _ _ (by omega)
 case inr.inl.inr.inl=>
  have sg:=w7 (1) _ (by omega) (F6 ls (by omega))
  have co:=a4h (1) (1)
  (refine ac Tryz.func142 ?_;(conv=>whnf);repeat (refine zy ?_;conv=>whnf))
  repeat' (first|refine zx ?_|refine qp r1 ?_|refine qp r2 ?_|refine qp ad ?_|refine qp sg ?_|refine qp (H8 true _) ?_|refine qp co ?_|refine ⟨_,B5 (y:=1) rfl (by decide) (by decide),?_⟩|refine zd ?_ ?_<;>intro h<;>try omega|fail)<;>conv=>whnf
  all_goals first|omega|exact fin _ _ (by omega)
 case inr.inr.inr.inr=>
  have sg:=w7 (-1) _ (by omega) (F6 ls (by omega))
  have co:=a4h (-1) (-1)
  (refine ac Tryz.func142 ?_;(conv=>whnf);repeat (refine zy ?_;conv=>whnf))
  repeat' (first|refine zx ?_|refine qp r1 ?_|refine qp r2 ?_|refine qp ad ?_|refine qp sg ?_|refine qp (H8 true _) ?_|refine qp co ?_|refine ⟨_,B5 (y:=1) rfl (by decide) (by decide),?_⟩|refine zd ?_ ?_<;>intro h<;>try omega|fail)<;>conv=>whnf
  all_goals first|omega|exact fin _ _ (by omega)
 case inr.inl.inr.inr=>
  rcases Nat.lt_or_ge m n with hmn|hmn
  ·rw [a3Y (by omega)] at c
   have l3:=p7 (Nat.sub_le n m)
   (refine ac Tryz.func142 ?_;(conv=>whnf);repeat (refine zy ?_;conv=>whnf))
   repeat' (first|refine zx ?_|refine qp r1 ?_|refine qp r2 ?_|refine qp c ?_|refine qp (aa5 n m (by omega) (by omega)) ?_|refine qp (w7 (-1) (n - m) (by omega) (by omega)) ?_|refine qp (H8 true _) ?_|refine ⟨_,B5 (y:=-1) rfl (by decide) (by decide),?_⟩|refine zd ?_ ?_<;>intro h<;>try omega|fail)<;>conv=>whnf
   all_goals first|omega|exact fin _ _ (by omega)
  ·have hc:0<=O1 m n:=by unfold O1;split<;>(try split)<;>omega
   have l3:=p7 (Nat.sub_le m n)
   (refine ac Tryz.func142 ?_;(conv=>whnf);repeat (refine zy ?_;conv=>whnf))
   repeat' (first|refine zx ?_|refine qp r1 ?_|refine qp r2 ?_|refine qp c ?_|refine qp (aa5 m n (by omega) (by omega)) ?_|refine qp (w7 (1) (m - n) (by omega) (by omega)) ?_|refine qp (H8 true _) ?_|refine ⟨_,B5 (y:=-1) rfl (by decide) (by decide),?_⟩|refine zd ?_ ?_<;>intro h<;>try omega|fail)<;>conv=>whnf
   all_goals first|omega|exact fin _ _ (by omega)
 case inr.inr.inr.inl=>
  rcases Nat.lt_or_ge m n with hmn|hmn
  ·rw [a3Y (by omega)] at c
   have l3:=p7 (Nat.sub_le n m)
   (refine ac Tryz.func142 ?_;(conv=>whnf);repeat (refine zy ?_;conv=>whnf))
   repeat' (first|refine zx ?_|refine qp r1 ?_|refine qp r2 ?_|refine qp c ?_|refine qp (aa5 n m (by omega) (by omega)) ?_|refine qp (w7 (1) (n - m) (by omega) (by omega)) ?_|refine qp (H8 true _) ?_|refine ⟨_,B5 (y:=-1) rfl (by decide) (by decide),?_⟩|refine zd ?_ ?_<;>intro h<;>try omega|fail)<;>conv=>whnf
   all_goals first|omega|exact fin _ _ (by omega)
  ·have hc:0<=O1 m n:=by unfold O1;split<;>(try split)<;>omega
   have l3:=p7 (Nat.sub_le m n)
   (refine ac Tryz.func142 ?_;(conv=>whnf);repeat (refine zy ?_;conv=>whnf))
   repeat' (first|refine zx ?_|refine qp r1 ?_|refine qp r2 ?_|refine qp c ?_|refine qp (aa5 m n (by omega) (by omega)) ?_|refine qp (w7 (-1) (m - n) (by omega) (by omega)) ?_|refine qp (H8 true _) ?_|refine ⟨_,B5 (y:=-1) rfl (by decide) (by decide),?_⟩|refine zd ?_ ?_<;>intro h<;>try omega|fail)<;>conv=>whnf
   all_goals first|omega|exact fin _ _ (by omega)
theorem sgm (x:Int):x.sign*x.natAbs=x:=Int.sign_mul_natAbs x
theorem a4R (x:Int) (lx:bl x<=300000):a9 Tryz.prog 135 [bgS (bz x)] [] (e8 true) []:=a2c _ _ (a67 x) lx
theorem b9R (x y:Int) (lx:bl x<=200000) (ly:bl y<=200000):a9 Tryz.prog 142 [bgS (bz x),bgS (bz y)] [] (.tup [bgS (bz (x+y)),a7 .i64 0]) []:=by
 have h:=b9N _ _ _ _ (a67 x) (a67 y) lx ly
 rw [sgm,sgm] at h
 exact h
theorem a8g (x:Int) (lx:bl x<=300000):a9 Tryz.prog 141 [bgS (bz x)] [] (bgS (bz (-x))) []:=by
 have h:=b9c (bz x) (show bl x<=1000000 by omega)
 unfold b2Z at h
 rw [a0i,a4p] at h
 exact h
abbrev bg2 (s:Int) (l:List Int):S:=.agg [.t (ti s),.t (K4 l)]
theorem b9M (s t:Int) (m n:Nat) (hs:Sg s m) (ht:Sg t n) (lm:(dg m).length<=200000) (ln:(dg n).length<=200000):
 a9 Tryz.prog 213 [bgS ⟨s,dg m⟩,bgS ⟨t,dg n⟩] [] (.tup [bgS (bz ((s*t)*(m*n:Nat))),a7 .i64 0]) []:=by
 have r1:=a2c s m hs (by omega)
 have r2:=a2c t n ht (by omega)
 have mu:=b9W m n (by omega) (by omega)
 have ls:=a3K m n
 have hst:-1<=s*t∧s*t<=1∧(s*t=1∨s*t=-1∨m*n=0):=by
  rcases hs with ⟨rfl,rfl⟩|⟨rfl,h1⟩|⟨rfl,h1⟩<;>rcases ht with ⟨rfl,rfl⟩|⟨rfl,h2⟩|⟨rfl,h2⟩<;>simp
 obtain ⟨q1,q2,q3⟩:=hst
 have sg:=w7 (s*t) (m*n) q3 (by omega)
 have ck:=H8 true (bz ((s*t)*(m*n:Nat)))
 (refine ac Tryz.func213 ?_;(conv=>whnf);repeat (refine zy ?_;conv=>whnf))
 repeat' (first|refine zx ?_|refine qp r1 ?_|refine qp r2 ?_|refine qp mu ?_|refine qp sg ?_|refine qp ck ?_|refine ⟨_,B5 (y:=s*t) rfl (by omega) (by omega),?_⟩|refine zd ?_ ?_<;>intro h<;>try omega|fail)<;>conv=>whnf
 all_goals first|(exfalso;simp_all;done)|exact a6o rfl
theorem b9B (x y:Int) (lx:bl x<=200000) (ly:bl y<=200000):a9 Tryz.prog 213 [bgS (bz x),bgS (bz y)] [] (.tup [bgS (bz (x*y)),a7 .i64 0]) []:=by
 have h:=b9M _ _ _ _ (a67 x) (a67 y) lx ly
 have e:(x.sign*y.sign)*((x.natAbs*y.natAbs:Nat):Int)=x*y:=by
  rw [Int.natCast_mul]
  have h1:=sgm x
  have h2:=sgm y
  grind
 rw [e] at h
 exact h
theorem b05 (x y:Int) (lx:bl x<=300000) (ly:bl y<=300000):a9 Tryz.prog 139 [bgS (bz x),bgS (bz y)] [] (a7 .i64 (O1 x y)) []:=by
 have h:=b0T (bz x) (bz y) (show bl x<=1000000 by omega) (show bl y<=1000000 by omega)
 unfold b35 at h
 rw [a0i,a0i,a4p,a4p] at h
 exact h
theorem b1D {b b' c c':Bg} {e:Int} {H1:Hp} (h:b=b') (h2:c=c'):Fin 0 (.tup [bgS b,bgS c,a7 .i64 e]) H1 (.tup [bgS b',bgS c',a7 .i64 e]) []:=by
 subst h h2;exact k9 ⟨⟨rfl,rfl,trivial⟩,⟨rfl,rfl,trivial⟩,rfl,trivial⟩
theorem b9u (s:Int) (m n:Nat) (hs:Sg s m) (hn:0<n) (lm:(dg m).length<=200000) (ln:(dg n).length<=200000):
 a9 Tryz.prog 217 [bgS ⟨s,dg m⟩,bgS ⟨1,dg n⟩] [] (.tup [bgS (bz (s*m / n)),bgS (bz (s*m % n)),a7 .i64 0]) []:=by
 show a9 Tryz.prog 217 [bg2 s (dg m),bg2 1 (dg n)] [] _ []
 have r1:=a2c s m hs (by omega)
 have r2:=a2c 1 n (.inr (.inl ⟨rfl,hn⟩)) (by omega)
 have dv:=b8L m n hn (by omega) (by omega)
 have lq:=p7 (Nat.div_le_self m n)
 have hr:=Nat.mod_lt m hn
 have lr:=p7 (Nat.le_of_lt hr)
 have lr2:((dg (m % n)).map c9).length=(dg (m % n)).length:=by simp
 have hz:(dg (m % n)).length=0↔m % n=0:=by rw [List.length_eq_zero_iff,Q5]
 have hm:=Nat.div_add_mod m n
 have fin:∀(a b:Int) (H1:Hp),a=s*m / n->b=s*m % n->Fin 0 (.tup [bgS (bz a),bgS (bz b),a7 .i64 0]) H1 (.tup [bgS (bz (s*m / n)),bgS (bz (s*m % n)),a7 .i64 0]) []:=fun a b H1 h1 h2=>b1D (by rw [h1]) (by rw [h2])
 rcases hs with ⟨rfl,rfl⟩|⟨rfl,h1⟩|⟨rfl,h1⟩
 ·have s1:=w7 0 (0 / n) (by simp) (by omega)
  have s2:=w7 0 (0 % n) (by simp) (by omega)
  (refine ac Tryz.func217 ?_;(conv=>whnf);repeat (refine zy ?_;conv=>whnf))
  repeat' (first|refine zx ?_|refine qp r1 ?_|refine qp r2 ?_|refine qp dv ?_|refine qp s1 ?_|refine qp s2 ?_|refine ⟨_,B5 (y:=0) rfl (by decide) (by decide),?_⟩|refine zd ?_ ?_<;>intro h<;>try omega|fail)<;>conv=>whnf
  all_goals first|omega|exact fin _ _ _ (by first|rfl|simp) (by first|rfl|simp)
 ·have s1:=w7 1 (m / n) (by simp) (by omega)
  have s2:=w7 1 (m % n) (by simp) (by omega)
  (refine ac Tryz.func217 ?_;(conv=>whnf);repeat (refine zy ?_;conv=>whnf))
  repeat' (first|refine zx ?_|refine qp r1 ?_|refine qp r2 ?_|refine qp dv ?_|refine qp s1 ?_|refine qp s2 ?_|refine ⟨_,B5 (y:=1) rfl (by decide) (by decide),?_⟩|refine zd ?_ ?_<;>intro h<;>try omega|fail)<;>conv=>whnf
  all_goals first|omega|exact fin _ _ _ (by first|rfl|simp) (by first|rfl|simp)
 ·by_cases h0:m % n=0
  ·have hz0:=hz.2 h0
   have s1:=w7 (-1) (m / n) (by simp) (by omega)
   have s2:=w7 (-1) (m % n) (by simp) (by omega)
   have e1:-1*((m / n:Nat):Int)=-1*(m:Int) / n:=by
    have e:(m:Int)=n*(m / n:Nat):=by rw [← Int.natCast_mul];congr 1;omega
    rw [e,show -1*((n:Int)*(m / n:Nat))=n*(-1*(m / n:Nat)) by grind,Int.mul_ediv_cancel_left _ (by omega)]
   have e2:-1*((m % n:Nat):Int)=-1*(m:Int) % n:=by
    have e:(m:Int)=n*(m / n:Nat):=by rw [← Int.natCast_mul];congr 1;omega
    rw [h0,e,show -1*((n:Int)*(m / n:Nat))=n*(-1*(m / n:Nat)) by grind,Int.mul_emod_right]
    simp
   (refine ac Tryz.func217 ?_;(conv=>whnf);repeat (refine zy ?_;conv=>whnf))
   repeat' (first|refine zx ?_|refine qp r1 ?_|refine qp r2 ?_|refine qp dv ?_|refine qp s1 ?_|refine qp s2 ?_|refine ⟨_,B5 (y:=-1) rfl (by decide) (by decide),?_⟩|refine zd ?_ ?_<;>intro h<;>try omega|fail)<;>conv=>whnf
   all_goals first|omega|exact fin _ _ _ e1 e2
  ·have hz0:(dg (m % n)).length≠0:=fun h=>h0 (hz.1 h)
   have one:dg 1=[1]:=rfl
   have ad:=b4T (m / n) 1 (by omega) (by simp [one])
   have sb:=aa5 n (m % n) (by omega) (by omega)
   have l1:=a40 (m / n) 1
   have l2:=p7 (Nat.sub_le n (m % n))
   have s1:=w7 (-1) (m / n+1) (by simp) (by rw [one] at l1;simp at l1;omega)
   have s2:=w7 1 (n - m % n) (by simp) (by omega)
   have key:(-1*(m:Int))=(n - m % n:Nat)+n*(-1*((m / n+1:Nat):Int)):=by
    have e:(m:Int)=n*(m / n:Nat)+(m % n:Nat):=by rw [← Int.natCast_mul];omega
    have e2:((n - m % n:Nat):Int)=n - (m % n:Nat):=by omega
    have e3:((m / n+1:Nat):Int)=(m / n:Nat)+1:=by omega
    rw [e2,e3]
    grind
   have e1:-1*((m / n+1:Nat):Int)=-1*(m:Int) / n:=by
    rw [key,Int.add_mul_ediv_left _ _ (by omega),Int.ediv_eq_zero_of_lt (by omega) (by omega)]
    simp
   have e2:1*((n - m % n:Nat):Int)=-1*(m:Int) % n:=by
    rw [key,Int.add_mul_emod_self_left,Int.emod_eq_of_lt (by omega) (by omega)]
    simp
   (refine ac Tryz.func217 ?_;(conv=>whnf);repeat (refine zy ?_;conv=>whnf))
   repeat' (first|refine zx ?_|refine qp r1 ?_|refine qp r2 ?_|refine qp dv ?_|refine qp s1 ?_|refine qp s2 ?_|refine qp sb ?_|refine .inl ⟨_,_,a0K ad ⟨ao7,a19 (aS2 rfl),trivial⟩ rfl,?_⟩|refine ⟨_,B5 (y:=-1) rfl (by decide) (by decide),?_⟩|refine zd ?_ ?_<;>intro h<;>try omega|fail)<;>conv=>whnf
   all_goals first|omega|exact fin _ _ _ e1 e2
theorem az8 (x y:Int) (hy:0<y) (lx:bl x<=200000) (ly:bl y<=200000):a9 Tryz.prog 217 [bgS (bz x),bgS (bz y)] [] (.tup [bgS (bz (x / y)),bgS (bz (x % y)),a7 .i64 0]) []:=by
 have h:=b9u _ _ y.natAbs (a67 x) (by omega) lx ly
 rw [sgm,show (y.natAbs:Int)=y by omega] at h
 unfold bz at *
 rw [Int.sign_eq_one_of_pos hy]
 exact h
abbrev b3d:Blk:={ mode:=.live,elem:=81,size:=2,rows:=[[B3 (.int .i64 0),B3 (.slice none 0 0)]],box:=true }
theorem W5:I9 [[B3 (.int .i64 0),B3 (.slice none 0 0)]]:=by
 intro r hr c hc
 simp at hr
 subst hr
 simp at hc
 rcases hc with rfl|rfl<;>rfl
structure b7R (x y:Int) (X Y:Nat):Prop where
 g:Nat.gcd X Y=Nat.gcd x.natAbs y.natAbs
 lx:(dg X).length<=200000
 ly:(dg Y).length<=200000
theorem b0R (x y:Int) (lx:bl x<=200000) (ly:bl y<=200000):a9 Tryz.prog 136 [bgS (bz x),bgS (bz y)] [] (.tup [bgS (bz (Int.gcd x y)),a7 .i64 0]) []:=by
 have r1:=a4R x (by omega)
 have r2:=a4R y (by omega)
 have cl:=a9I (bz x).dl (show bl x<=1000000 by omega)
 (refine ac Tryz.func136 ?_;(conv=>whnf);repeat (refine zy ?_;conv=>whnf))
 repeat' (first|refine zx ?_|refine qp r1 ?_|refine qp r2 ?_|refine qp cl ?_|refine zd ?_ ?_<;>intro h<;>try omega|fail)<;>conv=>whnf
 all_goals first
  |(exfalso;simp_all;done)
  |skip
 refine n8 c8 (σ:=Nat × Nat) (fun|(X,Y)=>([J,J,J,J,S.c (C.ptr 0 0 0),J,d6 (dg X),d6 (dg Y)]++Jn 36,[b3d])) (fun s=>b7R x y s.1 s.2) (fun s=>s.2) (x.natAbs,y.natAbs) [some 2]
  ⟨rfl,lx,ly⟩ ⟨rfl,rfl,⟨⟨rfl,rfl,rfl,.inl ⟨rfl,W5⟩⟩,trivial⟩,⟨⟨rfl,rfl,rfl⟩,rfl,rfl,trivial⟩⟩ ?_
 rintro ⟨X,Y⟩ hI
 have hI:b7R x y X Y:=hI
 obtain ⟨g1,g2,g3⟩:=hI
 have l2:((dg Y).map c9).length=(dg Y).length:=by simp
 conv=>whnf
 by_cases hY:0<Y
 ·have hp:(dg Y).length≠0:=by rw [Ne,List.length_eq_zero_iff,Q5];omega
  have dv:=b8L X Y hY (by omega) (by omega)
  repeat' (first|refine zx ?_|refine qp dv ?_|refine zd ?_ ?_<;>intro h<;>try omega|fail)<;>conv=>whnf
  all_goals first
   |omega
   |skip
  exact ⟨[some 0],(Y,X % Y),⟨rfl,rfl,⟨⟨rfl,rfl,rfl,.inl ⟨rfl,W5⟩⟩,trivial⟩,⟨⟨rfl,rfl,rfl⟩,rfl,rfl,trivial⟩⟩,⟨by rw [← g1,Nat.gcd_comm Y,←Nat.gcd_rec,Nat.gcd_comm],g3,lbS (p7 (Nat.le_of_lt (Nat.mod_lt X hY))) g3⟩,Nat.mod_lt X hY⟩
 ·have hY:Y=0:=by omega
  subst hY
  have hp:(dg 0).length=0:=rfl
  have c2:=a9I (dg X) (by omega)
  have s1:=w7 1 X (by simp) (by omega)
  have ck:=H8 true (bz (1*X))
  repeat' (first|refine zx ?_|refine qp c2 ?_|refine qp s1 ?_|refine qp ck ?_|refine zd ?_ ?_<;>intro h<;>try omega|fail)<;>conv=>whnf
  all_goals first
   |omega
   |skip
  refine a6o ?_
  rw [Int.one_mul,show X=Int.gcd x y by rw [Int.gcd,←g1,Nat.gcd_zero_right]]
  rfl
theorem a1y {x y:Int} (h:x % 18446744073709551616=y):F8 .u64 x y:=by
 unfold F8
 simp only [IntKind.wrap,IntKind.bits,IntKind.signed]
 simp
 omega
theorem b26 (a:Int):V3 .and .u64 a 1048575 (a % 1048576):=(a7l (a:=a) 20 (by decide)).symm
theorem b5i (a:Int):aK2 .u64 a 20 (a / 1048576):=by
 show a / 1048576=a.fdiv 1048576
 exact (Int.fdiv_eq_ediv_of_nonneg _ (by decide)).symm
structure OfI (n:Int) (acc:List Int) (u:Nat):Prop where
 eq:acc++dg u=dg n.natAbs
theorem OfI.len {n:Int} {acc:List Int} {u:Nat} (h:OfI n acc u) (h0:-9223372036854775808<=n) (h1:n<=9223372036854775807):acc.length<=4:=by
 have h2:(dg n.natAbs).length<=4:=N3 (by simp only [pw];omega)
 have h3:=congrArg List.length h.eq
 simp at h3
 omega
theorem OfI.step {n:Int} {acc:List Int} {u:Nat} (h:OfI n acc u) (hu:0<u):OfI n (acc++[(u:Int) % 1048576]) (u / 1048576):=by
 refine ⟨?_⟩
 rw [← h.eq,a6n hu]
 simp
theorem OfI.le {n:Int} {acc:List Int} {u:Nat} (h:OfI n acc u):u<=n.natAbs:=by
 have h1:=congrArg val h.eq
 rw [L7,o9,o9] at h1
 have h2:Okd acc:=fun x hx=>t5 n.natAbs x (by rw [← h.eq];simp [hx])
 have h3:=v4 h2
 have h4:=R0 acc.length
 have h5:=lbX (a:=1) (b:=pw acc.length) (c:=(u:Int)) (by omega) (by omega)
 omega
theorem a29 {xs:List Int} {x:Int}:(toC (xs.map c9)).take xs.length++toC [[ti x]]=toC ((xs++[x]).map c9):=b1q (f:=c9)
theorem b15 (n:Int) (h0:-9223372036854775808<=n) (h1:n<=9223372036854775807):a9 Tryz.prog 138 [a7 .i64 n] [] (bgS (bz n)) []:=by
 by_cases hn:n<0
 ·(refine ac Tryz.func138 ?_;(conv=>whnf);repeat (refine zy ?_;conv=>whnf))
  repeat' (first|refine zx ?_|refine ⟨_,a1y (y:=n+18446744073709551616) (by omega),?_⟩|refine ⟨_,a1y (y:=(n.natAbs:Int)) (by omega),?_⟩|refine zd ?_ ?_<;>intro h<;>try omega|fail)<;>conv=>whnf
  refine n8 c8 (σ:=List Int × Nat) (fun|(acc,u)=>([J,J,S.c (C.ptr 0 0 0),a7 .i64 (-1),a7 .u64 u,M4 1 acc]++Jn 19,[b3d,k8 acc])) (fun s=>OfI n s.1 s.2) (fun s=>s.2) ([],n.natAbs) [some 0,none]
   ⟨rfl⟩ ⟨rfl,rfl,⟨⟨rfl,rfl,rfl,.inl ⟨rfl,W5⟩⟩,⟨rfl,rfl⟩,trivial⟩,⟨⟨rfl,rfl,rfl⟩,rfl,b8 (by omega),⟨rfl,rfl,rfl⟩,trivial⟩⟩ ?_
  rintro ⟨acc,u⟩ hI
  have hI:OfI n acc u:=hI
  have hl:=hI.len h0 h1
  have hu:=hI.le
  conv=>whnf
  repeat' (first|refine zx ?_|refine qp toC ?_|refine qp toC ?_|refine ⟨_,b26 _,?_⟩|refine ⟨by decide,_,b5i _,?_⟩|refine o8 (by simp [toC]) (by simp [toC];omega) ?_|refine ⟨_,a1y (by omega),?_⟩|refine zd ?_ ?_<;>intro h<;>try omega|fail)<;>conv=>whnf
  ·refine ⟨[some 0,some 2],(acc++[(u:Int) % 1048576],u / 1048576),⟨rfl,rfl,⟨⟨rfl,rfl,rfl,.inl ⟨rfl,W5⟩⟩,a8 rfl rfl rfl a29 rfl,trivial⟩,⟨⟨rfl,rfl,rfl⟩,rfl,b8 (by simp),f8 rfl (by simp [toC]),trivial⟩⟩,hI.step (by omega),by show u / 1048576<u;omega⟩
  ·have h0u:u=0:=by omega
   subst h0u
   have e:acc=dg n.natAbs:=by have:=hI.eq;rw [W4,List.append_nil] at this;exact this
   have sg:=w7 (-1) n.natAbs (by omega) (by rw [← e];omega)
   rw [← e,show (-1)*(n.natAbs:Int)=n by omega] at sg
   refine .inr ⟨_,_,w6 [1] sg ⟨ao7,a19 (u4 (by simp) rfl (by intro h;cases h) rfl rfl (by simp)),trivial⟩ rfl,?_⟩
   conv=>whnf
   exact k9 ⟨rfl,rfl,trivial⟩
 ·(refine ac Tryz.func138 ?_;(conv=>whnf);repeat (refine zy ?_;conv=>whnf))
  repeat' (first|refine zx ?_|refine ⟨_,a1y (y:=(n.natAbs:Int)) (by omega),?_⟩|refine zd ?_ ?_<;>intro h<;>try omega|fail)<;>conv=>whnf
  refine n8 c8 (σ:=List Int × Nat) (fun|(acc,u)=>([J,J,S.c (C.ptr 0 0 0),a7 .i64 1,a7 .u64 u,M4 1 acc]++Jn 19,[b3d,k8 acc])) (fun s=>OfI n s.1 s.2) (fun s=>s.2) ([],n.natAbs) [some 0,none]
   ⟨rfl⟩ ⟨rfl,rfl,⟨⟨rfl,rfl,rfl,.inl ⟨rfl,W5⟩⟩,⟨rfl,rfl⟩,trivial⟩,⟨⟨rfl,rfl,rfl⟩,rfl,b8 (by omega),⟨rfl,rfl,rfl⟩,trivial⟩⟩ ?_
  rintro ⟨acc,u⟩ hI
  have hI:OfI n acc u:=hI
  have hl:=hI.len h0 h1
  have hu:=hI.le
  conv=>whnf
  repeat' (first|refine zx ?_|refine qp toC ?_|refine qp toC ?_|refine ⟨_,b26 _,?_⟩|refine ⟨by decide,_,b5i _,?_⟩|refine o8 (by simp [toC]) (by simp [toC];omega) ?_|refine ⟨_,a1y (by omega),?_⟩|refine zd ?_ ?_<;>intro h<;>try omega|fail)<;>conv=>whnf
  ·refine ⟨[some 0,some 2],(acc++[(u:Int) % 1048576],u / 1048576),⟨rfl,rfl,⟨⟨rfl,rfl,rfl,.inl ⟨rfl,W5⟩⟩,a8 rfl rfl rfl a29 rfl,trivial⟩,⟨⟨rfl,rfl,rfl⟩,rfl,b8 (by simp),f8 rfl (by simp [toC]),trivial⟩⟩,hI.step (by omega),by show u / 1048576<u;omega⟩
  ·have h0u:u=0:=by omega
   subst h0u
   have e:acc=dg n.natAbs:=by have:=hI.eq;rw [W4,List.append_nil] at this;exact this
   have sg:=w7 (1) n.natAbs (by omega) (by rw [← e];omega)
   rw [← e,show (1)*(n.natAbs:Int)=n by omega] at sg
   refine .inr ⟨_,_,w6 [1] sg ⟨ao7,a19 (u4 (by simp) rfl (by intro h;cases h) rfl rfl (by simp)),trivial⟩ rfl,?_⟩
   conv=>whnf
   exact k9 ⟨rfl,rfl,trivial⟩
theorem aE6 (i:Nat):pw i=((2 ^ (20*i):Nat):Int):=by
 unfold pw;rw [show (1048576:Int)=((2 ^ 20:Nat):Int) by decide,←Int.natCast_pow,←Nat.pow_mul]
theorem bl1 {d:Int} {i:Nat} {b:Int} (hi:i<=3) (h:0<=d) (h2:d*pw i<18446744073709551616) (hb:b=20*i):F8 .u64 (d*2 ^ min b.toNat (IntKind.bits .u64)) (d*pw i):=by
 have e:min b.toNat (IntKind.bits .u64)=20*i:=by show min b.toNat 64=_;omega
 have hp:=R0 i
 have h3:0<=d*pw i:=lb0 h (by omega)
 rw [e,show (2:Int) ^ (20*i)=pw i by rw [aE6];simp]
 exact a33 h3 h2
theorem oru {u d:Int} {i:Nat} (hu:0<=u) (hu2:u<pw i) (h:0<=d) (h2:u+d*pw i<18446744073709551616):V3 .or .u64 u (d*pw i) (u+d*pw i):=by
 obtain ⟨U,rfl⟩:=Int.eq_ofNat_of_zero_le hu
 obtain ⟨D,rfl⟩:=Int.eq_ofNat_of_zero_le h
 have hp:=R0 i
 have e2:(U:Int)+D*pw i=((U+2 ^ (20*i)*D:Nat):Int):=by rw [aE6];simp [Int.mul_comm]
 have e3:(D:Int)*pw i=((2 ^ (20*i)*D:Nat):Int):=by rw [aE6];simp [Int.mul_comm]
 rw [e2] at h2
 have hU:U<2 ^ (20*i):=by rw [aE6] at hu2;omega
 have k1:(BitVec.ofInt (IntKind.bits .u64) (U:Int) ||| BitVec.ofInt (IntKind.bits .u64) ((2 ^ (20*i)*D:Nat):Int)).toNat=U+2 ^ (20*i)*D:=by
  show (BitVec.ofInt 64 _ ||| BitVec.ofInt 64 _).toNat=_
  rw [BitVec.toNat_or,BitVec.toNat_ofInt,BitVec.toNat_ofInt]
  rw [Int.emod_eq_of_lt (by omega) (by omega),Int.emod_eq_of_lt (by omega) (by omega),lbY,lbY,Nat.or_comm,←Nat.two_pow_add_eq_or_of_lt hU,Nat.add_comm]
 rw [e2,e3]
 unfold V3
 simp only
 rw [k1]
 exact (ae2 (by omega) h2).symm
structure b0a (n:Nat) (k:Nat) (u:Int):Prop where
 eq:u=val ((dg n).take k)
 le:k<=(dg n).length
 lt:k=4->u<9*1152921504606846976
theorem b0a.rng {n k:Nat} {u:Int} (h:b0a n k u):0<=u∧u<pw k:=by
 have h1:=v4 ((t5 n).take k)
 have h2:=X4 ((t5 n).take k)
 rw [lbs,Nat.min_eq_left h.le,←h.eq] at h2
 rw [← h.eq] at h1
 exact ⟨h1,h2⟩
theorem b0a.step {n k:Nat} {u:Int} (h:b0a n k u) (hk:k<(dg n).length) (hd:k=3->dat (dg n) k<=8):b0a n (k+1) (u+dat (dg n) k*pw k):=by
 have hr:=h.rng
 refine ⟨by rw [s8,h.eq,Int.mul_comm],hk,fun h4=>?_⟩
 have:k=3:=by omega
 subst this
 have:=hd rfl
 simp only [pw] at hr ⊢
 omega
theorem b9S {k:Nat} (h:k<=3):pw k<=1152921504606846976:=by
 have:=a1r h
 simp only [pw] at this ⊢
 omega
theorem b8T {k:Nat} (h:k<=2):pw k<=1099511627776:=by
 have:=a1r h
 simp only [pw] at this ⊢
 omega
theorem aE0 {a a':Int} {b b':Bool} {k:IntKind} {H1:Hp} (h:a=a') (h2:b=b'):Fin 0 (.tup [a7 k a,e8 b]) H1 (.tup [a7 k a',e8 b']) []:=by
 subst h h2;exact k9 ⟨rfl,rfl,trivial⟩
theorem b0t {x:Int} (h1:9223372036854775808<=x) (h2:x<18446744073709551616):F8 .i64 x (x - 18446744073709551616):=by
 unfold F8
 simp only [IntKind.wrap,IntKind.bits,IntKind.signed]
 simp
 omega
abbrev a8E (x:Int):Prop:=-9223372036854775808<=x∧x<=9223372036854775807
theorem b9s (x:Int) (lx:bl x<=200000):a9 Tryz.prog 210 [bgS (bz x)] [] (.tup [a7 .i64 (if a8E x then x else 0),e8 (decide (a8E x))]) []:=by
 have r1:=a4R x (by omega)
 have l1:((bz x).dl.map c9).length=(dg x.natAbs).length:=by simp [bz]
 have l2:(bz x).dl=dg x.natAbs:=rfl
 have hlast:∀k:Nat,k<(dg x.natAbs).length->pw k<=x.natAbs:=fun k hk=>Int.le_trans (a1r (by omega)) (aB4 (by
  rcases Nat.eq_zero_or_pos x.natAbs with h|h
  ·rw [h,W4] at hk;simp at hk
  ·exact h))
 (refine ac Tryz.func210 ?_;(conv=>whnf);repeat (refine zy ?_;conv=>whnf))
 repeat' (first|refine zx ?_|refine qp r1 ?_|refine zd ?_ ?_<;>intro h<;>try omega|fail)<;>conv=>whnf
 ·have hl:4<(dg x.natAbs).length:=by omega
  have:=hlast 4 hl
  simp only [pw] at this
  have hn:¬a8E x:=by unfold a8E;omega
  exact aE0 (by rw [if_neg hn]) (by simp [hn])
 ·refine n8 c8 (σ:=Nat × Int) (fun|(k,u)=>([J,S.c (C.ptr 0 0 0),J,J,a7 .u64 u]++Jn 12++[d6 (dg x.natAbs),a7 .i64 (dg x.natAbs).length,a7 .i64 k]++Jn 39,[bgB (bz x)])) (fun s=>b0a x.natAbs s.1 s.2) (fun s=>(dg x.natAbs).length - s.1) (0,0) [some 0]
   ⟨by simp [val],by omega,by omega⟩ ⟨rfl,rfl,⟨⟨rfl,rfl,rfl,.inl ⟨rfl,a4V _⟩⟩,trivial⟩,⟨⟨rfl,rfl,rfl⟩,rfl,g6 rfl,b8 (by omega),rfl,trivial⟩⟩ ?_
  rintro ⟨k,u⟩ hI
  have hI:b0a x.natAbs k u:=hI
  have hr:=hI.rng
  have hle:=hI.le
  have hd:=(t5 x.natAbs).dat k
  have hp:=R0 k
  have hp3:k<=3->pw k<=1152921504606846976:=b9S
  have hdm:0<=dat (dg x.natAbs) k*pw k:=lb0 hd.1 (by omega)
  have l3:((dg x.natAbs).map c9).length=(dg x.natAbs).length:=by simp
  have hp2:k<=2->pw k<=1099511627776:=b8T
  have hA:k<=3->(k=3->dat (dg x.natAbs) k<=8)->u+dat (dg x.natAbs) k*pw k<18446744073709551616:=fun h3 h8=>by
   by_cases hk:k=3
   ·have:=lbX (c:=pw k) (h8 hk) (by omega)
    have:=hp3 h3
    omega
   ·have:=lbX (c:=pw k) (show dat (dg x.natAbs) k<=1048575 by omega) (by omega)
    have:=hp2 (by omega)
    omega
  have hE:k=(dg x.natAbs).length->u=x.natAbs:=fun h=>by
   have:=hI.eq
   rw [h,lbn (lbR _),o9] at this
   exact this
  have hs:=C9 x
  have hsg:(bz x).sg=x.sign:=rfl
  conv=>whnf
  repeat' (first|refine zx ?_|refine b9 (u5 (by omega)) ?_|refine ⟨_,a33 (by omega) (by omega),?_⟩|refine ⟨by omega,_,bl1 (i:=k) (by omega) (by omega) (by omega) (by omega),?_⟩|refine ⟨_,oru (by omega) (by omega) (by omega) (by omega),?_⟩|refine ⟨_,a1y (y:=18446744073709551616 - u) (by omega),?_⟩|refine ⟨_,b0t (by omega) (by omega),?_⟩|refine zd ?_ ?_<;>intro h<;>try omega|fail)<;>conv=>whnf
  ·have hk:k=3:=by omega
   have h8:9<=dat (dg x.natAbs) k:=by omega
   have h1:=s8 (dg x.natAbs) k
   have h4:val (dg x.natAbs)=val ((dg x.natAbs).take (k+1)):=by rw [lbn (by omega)]
   rw [o9] at h4
   have h5:=v4 ((t5 x.natAbs).take k)
   have h6:=lbW (a:=9) (b:=dat (dg x.natAbs) k) (c:=pw k) h8 (by omega)
   have h7:pw k=1152921504606846976:=by rw [hk];rfl
   have hn:¬a8E x:=by unfold a8E;omega
   exact aE0 (by rw [if_neg hn]) (by simp [hn])
  ·have hst:=hI.step (by omega) (by omega)
   exact ⟨[some 0],(k+1,u+dat (dg x.natAbs) k*pw k),⟨rfl,rfl,⟨⟨rfl,rfl,rfl,.inl ⟨rfl,a4V _⟩⟩,trivial⟩,⟨⟨rfl,rfl,rfl⟩,rfl,rfl,rfl,b8 (by omega),trivial⟩⟩,hst,by show (dg x.natAbs).length - (k+1)<(dg x.natAbs).length - k;omega⟩
  ·have hst:=hI.step (by omega) (by omega)
   exact ⟨[some 0],(k+1,u+dat (dg x.natAbs) k*pw k),⟨rfl,rfl,⟨⟨rfl,rfl,rfl,.inl ⟨rfl,a4V _⟩⟩,trivial⟩,⟨⟨rfl,rfl,rfl⟩,rfl,rfl,rfl,b8 (by omega),trivial⟩⟩,hst,by show (dg x.natAbs).length - (k+1)<(dg x.natAbs).length - k;omega⟩
  all_goals
   have hu:=hE (by omega)
   first
    |(have hn:a8E x:=by unfold a8E;omega
      exact aE0 (by rw [if_pos hn];omega) (by simp [hn]))
    |(have hn:¬a8E x:=by unfold a8E;omega
      exact aE0 (by rw [if_neg hn]) (by simp [hn]))
abbrev frC (f:Fr):List C:=[.t (ti f.p.sg),.t (K4 f.p.dl),.t (ti f.q.sg),.t (K4 f.q.dl)]
abbrev frS (f:Fr):S:=.agg (frC f)
theorem bh5 (x:Int) (lx:bl x<=200000):a9 Tryz.prog 137 [bgS (bz x)] [] (e8 (x == 1)) []:=by
 have i:=b9s x lx
 by_cases h:a8E x
 ·rw [if_pos h,show decide (a8E x)=true by simp [h]] at i
  (refine ac Tryz.func137 ?_;(conv=>whnf);repeat (refine zy ?_;conv=>whnf))
  repeat' (first|refine zx ?_|refine qp i ?_|refine zd ?_ ?_<;>intro h<;>try omega|fail)<;>conv=>whnf
  all_goals (refine c7 ?_;simp;omega)
 ·rw [if_neg h,show decide (a8E x)=false by simp [h]] at i
  have hx:x≠1:=by rintro rfl;exact h (by decide)
  (refine ac Tryz.func137 ?_;(conv=>whnf);repeat (refine zy ?_;conv=>whnf))
  repeat' (first|refine zx ?_|refine qp i ?_|refine zd ?_ ?_<;>intro h<;>try omega|fail)<;>conv=>whnf
  all_goals (refine c7 ?_;simp;omega)
theorem aR8 (f:Fr) (lp:f.p.dl.length<=200000) (lq:f.q.dl.length<=200000):a9 Tryz.prog 65 [frS f] [] (e8 (N5 f)) []:=by
 obtain ⟨p,q⟩:=f
 simp only at lp lq
 have r1:=a39 p (by omega)
 have r2:=a39 q (by omega)
 cases hp:I3 p with
 |false=>
  rw [hp] at r1
  (refine ac Tryz.func65 ?_;(conv=>whnf);repeat (refine zy ?_;conv=>whnf))
  repeat' (first|refine zx ?_|refine qp r1 ?_|refine qp r2 ?_|refine zd ?_ ?_<;>intro h<;>try omega|fail)<;>conv=>whnf
  all_goals (first|(exfalso;simp_all;done)|(refine c7 ?_;unfold N5;simp [hp]))
 |true=>
  rw [hp] at r1
  cases hq:I3 q with
  |false=>
   rw [hq] at r2
   (refine ac Tryz.func65 ?_;(conv=>whnf);repeat (refine zy ?_;conv=>whnf))
   repeat' (first|refine zx ?_|refine qp r1 ?_|refine qp r2 ?_|refine zd ?_ ?_<;>intro h<;>try omega|fail)<;>conv=>whnf
   all_goals (first|(exfalso;simp_all;done)|(refine c7 ?_;unfold N5;simp [hq]))
  |true=>
   rw [hq] at r2
   obtain ⟨x,rfl⟩:=aa7 hp
   obtain ⟨y,rfl⟩:=aa7 hq
   have g:=b0R x y lp lq
   have o:=bh5 (Int.gcd x y) (ab4 x y lp lq)
   (refine ac Tryz.func65 ?_;(conv=>whnf);repeat (refine zy ?_;conv=>whnf))
   repeat' (first|refine zx ?_|refine qp r1 ?_|refine qp r2 ?_|refine qp g ?_|refine qp o ?_|refine zd ?_ ?_<;>intro h<;>try omega|fail)<;>conv=>whnf
   all_goals (refine c7 ?_;unfold N5;simp only [a0i,a4p,Bool.true_and];symm;simp_all<;>omega)
theorem a1q (x y:Int) (lx:bl x<=200000) (ly:bl y<=200000):a9 Tryz.prog 140 [bgS (bz x),bgS (bz y)] [] (bgS (bz (x*y))) []:=by
 have mu:=b9B x y lx ly
 (refine ac Tryz.func140 ?_;(conv=>whnf);repeat (refine zy ?_;conv=>whnf))
 repeat' (first|refine zx ?_|refine qp mu ?_|refine zd ?_ ?_<;>intro h<;>try omega|fail)<;>conv=>whnf
 exact k9 ⟨rfl,rfl,trivial⟩
theorem Y0 {f f':Fr} {e:Int} {H1:Hp} (h:f=f'):Fin 0 (.tup [frS f,a7 .i64 e]) H1 (.tup [frS f',a7 .i64 e]) []:=by
 subst h;exact k9 ⟨⟨rfl,rfl,rfl,rfl,trivial⟩,rfl,trivial⟩
theorem aB0 (p q:Int) (hq:q≠0) (lp:bl p<=200000) (lq:bl q<=200000):a9 Tryz.prog 143 [bgS (bz p),bgS (bz q)] [] (.tup [frS (fz (Rat.divInt p q)),a7 .i64 0]) []:=by
 have r1:=a4R p (by omega)
 have r2:=a4R q (by omega)
 have hs:=C9 q
 have hsg:(bz q).sg=q.sign:=rfl
 by_cases h:q<0
 ·have n1:=a8g p (by omega)
  have n2:=a8g q (by omega)
  have lg:=ab4 (-p) (-q) (by rw [a2h];exact lp) (by rw [a2h];exact lq)
  have hg:0<(Int.gcd (-p) (-q):Int):=by have:=Int.gcd_pos_of_ne_zero_right (-p) (b:=-q) (by omega);omega
  have g:=b0R (-p) (-q) (by rw [a2h];exact lp) (by rw [a2h];exact lq)
  have d1:=az8 (-p) _ hg (by rw [a2h];exact lp) lg
  have d2:=az8 (-q) _ hg (by rw [a2h];exact lq) lg
  have e:=a8O (p:=-p) (q:=-q) (by omega) rfl
  rw [Rat.neg_divInt_neg] at e
  (refine ac Tryz.func143 ?_;(conv=>whnf);repeat (refine zy ?_;conv=>whnf))
  repeat' (first|refine zx ?_|refine qp r1 ?_|refine qp r2 ?_|refine qp n1 ?_|refine qp n2 ?_|refine qp g ?_|refine qp d1 ?_|refine qp d2 ?_|refine zd ?_ ?_<;>intro h<;>try omega|fail)<;>conv=>whnf
  all_goals first
   |(exfalso;simp_all;done)
   |omega
   |exact Y0 e.symm
 ·have lg:=ab4 p q lp lq
  have hg:0<(Int.gcd p q:Int):=by have:=Int.gcd_pos_of_ne_zero_right p (b:=q) (by omega);omega
  have g:=b0R p q lp lq
  have d1:=az8 p _ hg lp lg
  have d2:=az8 q _ hg lq lg
  have e:=a8O (p:=p) (q:=q) (by omega) rfl
  (refine ac Tryz.func143 ?_;(conv=>whnf);repeat (refine zy ?_;conv=>whnf))
  repeat' (first|refine zx ?_|refine qp r1 ?_|refine qp r2 ?_|refine qp g ?_|refine qp d1 ?_|refine qp d2 ?_|refine zd ?_ ?_<;>intro h<;>try omega|fail)<;>conv=>whnf
  all_goals first
   |omega
   |(exfalso;simp_all;done)
   |exact Y0 e.symm
theorem I2 (x:Rat) (lx:rl x<=200000):a9 Tryz.prog 65 [frS (fz x)] [] (e8 true) []:=by
 have h:=aR8 (fz x) (lbS (G9 x) lx) (lbS (I0 x) lx)
 rw [ad8] at h
 exact h
theorem a3Z (x y:Rat) (lx:rl x<=60000) (ly:rl y<=60000):a9 Tryz.prog 73 [frS (fz x),frS (fz y)] [] (.tup [frS (fz (x+y)),a7 .i64 0]) []:=by
 have r1:=I2 x (by omega)
 have r2:=I2 y (by omega)
 have x1:=G9 x
 have x2:=I0 x
 have y1:=G9 y
 have y2:=I0 y
 have l1:=E9 x.num y.den
 have l2:=E9 y.num x.den
 have l3:=E9 x.den y.den
 have l4:=a7Z (x.num*y.den) (y.num*x.den)
 have t1:=a1q x.num y.den (by omega) (by omega)
 have t2:=a1q y.num x.den (by omega) (by omega)
 have t3:=a1q x.den y.den (by omega) (by omega)
 have a:=b9R (x.num*y.den) (y.num*x.den) (by omega) (by omega)
 have n:=aB0 (x.num*y.den+y.num*x.den) (x.den*y.den) (a9S x y) (by omega) (by omega)
 rw [← aa0] at n
 (refine ac Tryz.func73 ?_;(conv=>whnf);repeat (refine zy ?_;conv=>whnf))
 repeat' (first|refine zx ?_|refine qp r1 ?_|refine qp r2 ?_|refine qp t1 ?_|refine qp t2 ?_|refine qp t3 ?_|refine qp a ?_|refine qp n ?_|refine qp 13 ?_|refine bl0 [13] ?_|refine zd ?_ ?_<;>intro h<;>try omega|fail)<;>conv=>whnf
 all_goals first
  |(exfalso;simp_all;done)
  |exact Y0 rfl
theorem b45 (x y:Rat) (lx:rl x<=60000) (ly:rl y<=60000):a9 Tryz.prog 72 [frS (fz x),frS (fz y)] [] (.tup [frS (fz (x - y)),a7 .i64 0]) []:=by
 have r1:=I2 x (by omega)
 have r2:=I2 y (by omega)
 have y1:=G9 y
 have n:=a8g y.num (by omega)
 have a:=a3Z x (-y) lx (by rw [T5];exact ly)
 rw [← Rat.sub_eq_add_neg] at a
 have e:fz (-y)=⟨bz (-y.num),bz y.den⟩:=rfl
 rw [e] at a
 (refine ac Tryz.func72 ?_;(conv=>whnf);repeat (refine zy ?_;conv=>whnf))
 repeat' (first|refine zx ?_|refine qp r1 ?_|refine qp r2 ?_|refine qp n ?_|refine qp a ?_|refine zd ?_ ?_<;>intro h<;>try omega|fail)<;>conv=>whnf
 all_goals first
  |(exfalso;simp_all;done)
  |exact Y0 rfl
theorem al6 (x y:Rat) (lx:rl x<=60000) (ly:rl y<=60000):a9 Tryz.prog 179 [frS (fz x),frS (fz y)] [] (.tup [frS (fz (x*y)),a7 .i64 0]) []:=by
 have r1:=I2 x (by omega)
 have r2:=I2 y (by omega)
 have x1:=G9 x
 have x2:=I0 x
 have y1:=G9 y
 have y2:=I0 y
 have l1:=E9 x.num y.num
 have l3:=E9 x.den y.den
 have t1:=a1q x.num y.num (by omega) (by omega)
 have t3:=a1q x.den y.den (by omega) (by omega)
 have n:=aB0 (x.num*y.num) (x.den*y.den) (a9S x y) (by omega) (by omega)
 rw [← ay5] at n
 (refine ac Tryz.func179 ?_;(conv=>whnf);repeat (refine zy ?_;conv=>whnf))
 repeat' (first|refine zx ?_|refine qp r1 ?_|refine qp r2 ?_|refine qp t1 ?_|refine qp t3 ?_|refine qp n ?_|refine zd ?_ ?_<;>intro h<;>try omega|fail)<;>conv=>whnf
 all_goals first
  |(exfalso;simp_all;done)
  |exact Y0 rfl
theorem aN1 (x y:Rat):O1 (x.num*y.den) (y.num*x.den)=a42 x y:=by
 unfold O1 a42
 simp only [← Rat.lt_iff]
theorem aV4 (x y:Rat) (lx:rl x<=60000) (ly:rl y<=60000):a9 Tryz.prog 68 [frS (fz x),frS (fz y)] [] (a7 .i64 (a42 x y)) []:=by
 have r1:=I2 x (by omega)
 have r2:=I2 y (by omega)
 have x1:=G9 x
 have x2:=I0 x
 have y1:=G9 y
 have y2:=I0 y
 have l1:=E9 x.num y.den
 have l2:=E9 y.num x.den
 have t1:=a1q x.num y.den (by omega) (by omega)
 have t2:=a1q y.num x.den (by omega) (by omega)
 have c:=b05 (x.num*y.den) (y.num*x.den) (by omega) (by omega)
 rw [aN1] at c
 (refine ac Tryz.func68 ?_;(conv=>whnf);repeat (refine zy ?_;conv=>whnf))
 repeat' (first|refine zx ?_|refine qp r1 ?_|refine qp r2 ?_|refine qp t1 ?_|refine qp t2 ?_|refine qp c ?_|refine zd ?_ ?_<;>intro h<;>try omega|fail)<;>conv=>whnf
 all_goals first
  |(exfalso;simp_all;done)
  |exact k6 rfl
theorem a9Y (x:Rat) (lx:rl x<=60000):a9 Tryz.prog 69 [frS (fz x)] [] (a7 .i64 (sgR x)) []:=by
 have r1:=I2 x (by omega)
 (refine ac Tryz.func69 ?_;(conv=>whnf);repeat (refine zy ?_;conv=>whnf))
 repeat' (first|refine zx ?_|refine qp r1 ?_|refine zd ?_ ?_<;>intro h<;>try omega|fail)<;>conv=>whnf
 all_goals first
  |(exfalso;simp_all;done)
  |exact k6 (a6X x)
theorem b5y (p q:Int) (hq:q≠0) (p0:-9223372036854775808<=p) (p1:p<=9223372036854775807) (q0:-9223372036854775808<=q) (q1:q<=9223372036854775807):
 a9 Tryz.prog 222 [a7 .i64 p,a7 .i64 q] [] (.tup [frS (fz (Rat.divInt p q)),a7 .i64 0]) []:=by
 have l1:=U7 p0 p1
 have l2:=U7 q0 q1
 have o1:=b15 p p0 p1
 have o2:=b15 q q0 q1
 have n:=aB0 p q hq (by omega) (by omega)
 (refine ac Tryz.func222 ?_;(conv=>whnf);repeat (refine zy ?_;conv=>whnf))
 repeat' (first|refine zx ?_|refine qp o1 ?_|refine qp o2 ?_|refine qp n ?_|refine zd ?_ ?_<;>intro h<;>try omega|fail)<;>conv=>whnf
 all_goals exact Y0 rfl
theorem ba1 (n:Int):fz (n:Rat)=⟨bz n,bz 1⟩:=by unfold fz;rw [Rat.num_intCast,Rat.den_intCast];rfl
theorem N4 (n:Int) (p0:-9223372036854775808<=n) (p1:n<=9223372036854775807):a9 Tryz.prog 66 [a7 .i64 n] [] (frS (fz (n:Rat))) []:=by
 have o1:=b15 n p0 p1
 have o2:=b15 1 (by decide) (by decide)
 rw [ba1]
 (refine ac Tryz.func66 ?_;(conv=>whnf);repeat (refine zy ?_;conv=>whnf))
 repeat' (first|refine zx ?_|refine qp o1 ?_|refine qp o2 ?_|refine zd ?_ ?_<;>intro h<;>try omega|fail)<;>conv=>whnf
 all_goals exact k9 ⟨rfl,rfl,rfl,rfl,trivial⟩
theorem aj7 (x:Int) (lx:bl x<=200000):a9 Tryz.prog 290 [bgS (bz x)] [] (bgS (bz x)) []:=by
 have n1:=a8g x (by omega)
 have n2:=a8g (-x) (by rw [a2h];omega)
 rw [Int.neg_neg] at n2
 (refine ac Tryz.func290 ?_;(conv=>whnf);repeat (refine zy ?_;conv=>whnf))
 repeat' (first|refine zx ?_|refine qp n1 ?_|refine qp n2 ?_|refine zd ?_ ?_<;>intro h<;>try omega|fail)<;>conv=>whnf
 all_goals exact k9 ⟨rfl,rfl,trivial⟩
theorem aF8 {x y:Rat}:a42 x y<0↔x<y:=by unfold a42;split<;>(try split)<;>simp_all
theorem b5w (x y:Rat):-1<=a42 x y∧a42 x y<=1:=by unfold a42;split<;>(try split)<;>omega
theorem bb9 (x y:Rat) (lx:rl x<=60000) (ly:rl y<=60000):a9 Tryz.prog 193 [frS (fz x),frS (fz y)] [] (.tup [frS (fz (aF0 x y)),a7 .i64 0]) []:=by
 have e:a9 Tryz.prog 252 [frS (fz x),frS (fz y),a7 .i64 1] [] (.tup [frS (fz (aF0 x y)),a7 .i64 0]) []:=by
  have r1:=I2 x (by omega)
  have r2:=I2 y (by omega)
  have x1:=G9 x
  have x2:=I0 x
  have y1:=G9 y
  have y2:=I0 y
  have c:=aV4 x y lx ly
  have hr:=b5w x y
  have s1:=aj7 x.num (by omega)
  have s2:=aj7 x.den (by omega)
  have s3:=aj7 y.num (by omega)
  have s4:=aj7 y.den (by omega)
  (refine ac Tryz.func252 ?_;(conv=>whnf);repeat (refine zy ?_;conv=>whnf))
  repeat' (first|refine zx ?_|refine qp r1 ?_|refine qp r2 ?_|refine qp c ?_|refine qp s1 ?_|refine qp s2 ?_|refine qp s3 ?_|refine qp s4 ?_|refine zd ?_ ?_<;>intro h<;>try omega|fail)<;>conv=>whnf
  ·have h:a42 x y<0:=by omega
   refine Y0 (f:=fz y) ?_
   unfold aF0;rw [if_pos (aF8.1 h)]
  ·have h:¬a42 x y<0:=by omega
   refine Y0 (f:=fz x) ?_
   unfold aF0;rw [if_neg (fun h'=>h (aF8.2 h'))]
 (refine ac Tryz.func193 ?_;(conv=>whnf);repeat (refine zy ?_;conv=>whnf))
 repeat' (first|refine zx ?_|refine qp e ?_|refine zd ?_ ?_<;>intro h<;>try omega|fail)<;>conv=>whnf
 all_goals exact Y0 rfl
theorem a5e (n m:Int):a9 Tryz.prog 251 [a7 .i64 n,a7 .i64 m] [] (e8 (btw n 0 m)) []:=by
 (refine ac Tryz.func251 ?_;(conv=>whnf);repeat (refine zy ?_;conv=>whnf))
 repeat' (first|refine zx ?_|refine zd ?_ ?_<;>intro h<;>try omega|fail)<;>conv=>whnf
 all_goals (refine c7 ?_;unfold btw;simp;omega)
abbrev aJ3 (c:J2):S:=.agg (c.row.map .t)
theorem as2 (n:Int):btw n 0 29=idx n 30:=b1B n 30
theorem aJ1 (c:J2):a9 Tryz.prog 288 [aJ3 c] [] (e8 (N0 c)) []:=by
 have w1:=a5e c.scale 29
 have w2:=a5e c.grams 1099511627776
 have w3:=a5e c.permille 1000
 have w4:=a5e c.drift 10000000
 rw [as2] at w1
 unfold N0
 cases h1:idx c.scale 30<;>cases h2:btw c.grams 0 1099511627776<;>cases h3:btw c.permille 0 1000<;>cases h4:btw c.drift 0 10000000<;>rw [h1] at w1<;>rw [h2] at w2<;>rw [h3] at w3<;>rw [h4] at w4<;>
 ·(refine ac Tryz.func288 ?_;(conv=>whnf);repeat (refine zy ?_;conv=>whnf))
  repeat' (first|refine zx ?_|refine qp w1 ?_|refine qp w2 ?_|refine qp w3 ?_|refine qp w4 ?_|refine zd ?_ ?_<;>intro h<;>try omega|fail)<;>conv=>whnf
  all_goals (refine c7 ?_;simp;try omega)
theorem aJ5 (c:J2) (day:Int):a9 Tryz.prog 248 [aJ3 c,a7 .i64 day] [] (e8 (I1 c day)) []:=by
 have w1:=aJ1 c
 unfold I1
 cases h1:N0 c<;>rw [h1] at w1<;>
 ·(refine ac Tryz.func248 ?_;(conv=>whnf);repeat (refine zy ?_;conv=>whnf))
  repeat' (first|refine zx ?_|refine qp w1 ?_|refine zd ?_ ?_<;>intro h<;>try omega|fail)<;>conv=>whnf
  all_goals (refine c7 ?_;simp [btw];try omega)
theorem aP3 {cs:List J2} {k:Nat} {c:J2} (h:cs[k]? =some c):aC9 cs k=c.since:=by unfold aC9;rw [h];rfl
abbrev aQ9 (n:Int):T:=.ptr [ti n]
theorem b1g {a b:Bool} {ρ:List (Option Nat)} {H:Hp} (h:a=b):a4z ρ H (e8 a) (e8 b):=by subst h;exact rfl
def a8c (o:Option Nat):Nat:=o.getD 0
theorem b9w (cs:List J2) (scale day:Int) (hl:cs.length<=1000000):
 a9 Tryz.prog 190 [.c (.t (X7 cs)),a7 .i64 scale,a7 .i64 day] [] (.tup [a7 .i64 (a8c (A0 cs scale day cs.length)),e8 (A0 cs scale day cs.length).isSome]) []:=by
 have l1:(cs.map J2.row).length=cs.length:=by simp
 (refine ac Tryz.func190 ?_;(conv=>whnf);repeat (refine zy ?_;conv=>whnf))
 repeat' (first|refine zx ?_|refine zd ?_ ?_<;>intro h<;>try omega|fail)<;>conv=>whnf
 refine d8 c8 (fun k=>([S.c (C.t (X7 cs)),a7 .i64 scale,a7 .i64 day,J,J,J,J,J,a7 .i64 (a8c (A0 cs scale day k)),e8 (A0 cs scale day k).isSome,J,J,S.c (C.t (X7 cs)),a7 .i64 cs.length,a7 .i64 k]++Jn 31,[])) cs.length (fun _=>True) [] trivial
  ⟨rfl,rfl,trivial,⟨g6 rfl,rfl,rfl,rfl,rfl,g6 rfl,b8 (by simp),rfl,trivial⟩⟩ ?_
 intro k hk _
 by_cases hlt:k<cs.length
 ·obtain ⟨c,hc⟩:∃c,cs[k]? =some c:=⟨_,lbf hlt⟩
  have cv:=aJ5 c day
  have hst:A0 cs scale day (k+1)=if decide (c.scale=scale) && I1 c day && a3p cs (A0 cs scale day k) c then some k else A0 cs scale day k:=by
   conv=>lhs;unfold A0
   rw [hc]
  cases hcv:I1 c day with
  |false=>
   rw [hcv] at cv hst
   simp only [Bool.and_false,Bool.false_and,Bool.false_eq_true,if_false] at hst
   rw [← hst]
   conv=>whnf
   repeat' (first|refine zx ?_|refine qp cv ?_|refine b9 hc ?_|refine zd ?_ ?_<;>intro h<;>try omega|fail)<;>conv=>whnf
   all_goals first
    |omega
    |exact ⟨hlt,trivial,[],rfl,rfl,trivial,⟨rfl,rfl,rfl,rfl,rfl,rfl,rfl,rfl,trivial⟩⟩
  |true=>
   rw [hcv] at cv hst
   cases hf:A0 cs scale day k with
   |none=>
    rw [hf] at hst
    conv=>whnf
    repeat' (first|refine zx ?_|refine qp cv ?_|refine b9 hc ?_|refine zd ?_ ?_<;>intro h<;>try omega|fail)<;>conv=>whnf
    ·exact ⟨hlt,trivial,[],rfl,rfl,trivial,⟨rfl,rfl,rfl,b8 (by rw [hst];simp [*,a3p,a8c]),b1g (by rw [hst];simp [*,a3p]),rfl,rfl,rfl,trivial⟩⟩
    ·exact ⟨hlt,trivial,[],rfl,rfl,trivial,⟨rfl,rfl,rfl,b8 (by rw [hst];simp [*,a3p,a8c]),b1g (by rw [hst];simp [*,a3p]),rfl,rfl,rfl,trivial⟩⟩
   |some b=>
    rw [hf] at hst
    obtain ⟨hb,cb,hcb,_⟩:=K9 hf
    have hsb:=aP3 hcb
    conv=>whnf
    repeat' (first|refine zx ?_|refine qp cv ?_|refine b9 hc ?_|refine b9 hcb ?_|refine zd ?_ ?_<;>intro h<;>try omega|fail)<;>conv=>whnf
    all_goals first
     |exact ⟨hlt,trivial,[],rfl,rfl,trivial,⟨rfl,rfl,rfl,b8 (by rw [hst];simp [*,a3p,a8c]),b1g (by rw [hst];simp [*,a3p]),rfl,rfl,rfl,trivial⟩⟩
     |(exfalso;simp_all;done)
 ·have hke:k=cs.length:=by omega
  subst hke
  conv=>whnf
  repeat' (first|refine zx ?_|refine zd ?_ ?_<;>intro h<;>try omega|fail)<;>conv=>whnf
  all_goals first
   |omega
   |exact k9 ⟨rfl,rfl,trivial⟩
theorem aB9 (r:C2) (scale day:Int):a9 Tryz.prog 250 (.agg (r.row.map .t)::[aQ9 scale,aQ9 day].map fun x=>.c (.t x)) [] (e8 (decide (r.scale=scale) && decide (r.since<=day))) []:=by
 (refine ac Tryz.func250 ?_;(conv=>whnf);repeat (refine zy ?_;conv=>whnf))
 repeat' (first|refine zx ?_|refine zd ?_ ?_<;>intro h<;>try omega|fail)<;>conv=>whnf
 all_goals (refine c7 ?_;simp [*];try omega)
abbrev b9I (r:C2):S:=.agg (r.row.map .t)
def D6 {α:Type} (q:α->Bool):List α->Nat->Int
 |[],_=>-1
 |x::r,k=>if q x then k else D6 q r (k+1)
theorem a3F {α:Type} (q:α->Bool):∀(l:List α) (k:Nat),decide (0<=D6 q l k)=l.any q
 |[],k=>by simp [D6]
 |x::r,k=>by
  unfold D6
  rw [List.any_cons]
  cases h:q x with
  |true=>simp
  |false=>simpa using a3F q r (k+1)
theorem aU4 (rs:List C2) (hl:rs.length<=1000000) (g:FuncId) (caps:List T) (q:C2->Bool) (hg:∀r ∈ rs,a9 Tryz.prog g (b9I r::caps.map fun x=>.c (.t x)) [] (e8 (q r)) []):
 a9 Tryz.prog 289 [.c (.t (G2 rs)),.c (.t (.fn (.func g) caps))] [] (a7 .i64 (D6 q rs 0)) []:=by
 have l1:(rs.map C2.row).length=rs.length:=by simp
 (refine ac Tryz.func289 ?_;(conv=>whnf);repeat (refine zy ?_;conv=>whnf))
 repeat' (first|refine zx ?_|refine zd ?_ ?_<;>intro h<;>try omega|fail)<;>conv=>whnf
 refine d8 c8 (fun k=>([S.c (C.t (G2 rs)),S.c (C.t (T.fn (.func g) caps)),J,J,J,J,J,a7 .i64 rs.length,a7 .i64 k]++Jn 10,[])) rs.length (fun k=>D6 q (rs.drop k) k=D6 q rs 0) [] rfl
  ⟨rfl,rfl,trivial,⟨g6 rfl,g6 rfl,b8 (by simp),rfl,trivial⟩⟩ ?_
 intro k hk hI
 by_cases hlt:k<rs.length
 ·obtain ⟨r,hr⟩:∃r,rs[k]? =some r:=⟨_,lbf hlt⟩
  have hd:rs.drop k=r::rs.drop (k+1):=by
   rw [List.drop_eq_getElem_cons hlt]
   rw [lbf hlt] at hr
   injection hr with hr
   rw [hr]
  have hgr:=hg r (lbm hr)
  have ha:(b9I r::caps.map fun x=>S.c (C.t x)).all S.isT=true:=by simp [S.isT,C.isT,C2.row]
  rw [hd] at hI
  have hI:(if q r then (k:Int) else D6 q (rs.drop (k+1)) (k+1))=D6 q rs 0:=hI
  cases hq:q r with
  |true=>
   rw [hq] at hgr hI
   conv=>whnf
   repeat' (first|refine zx ?_|refine .inl ⟨_,_,z9 hgr ha rfl,?_⟩|refine b9 hr ?_|refine zd ?_ ?_<;>intro h<;>try omega|fail)<;>conv=>whnf
   all_goals first
    |omega
    |exact k6 hI
  |false=>
   rw [hq] at hgr hI
   conv=>whnf
   repeat' (first|refine zx ?_|refine .inl ⟨_,_,z9 hgr ha rfl,?_⟩|refine b9 hr ?_|refine zd ?_ ?_<;>intro h<;>try omega|fail)<;>conv=>whnf
   all_goals first
    |omega
    |exact ⟨hlt,by simpa using hI,[],rfl,rfl,trivial,⟨rfl,rfl,rfl,rfl,trivial⟩⟩
 ·have hke:k=rs.length:=by omega
  subst hke
  rw [lbo (lbR _)] at hI
  conv=>whnf
  repeat' (first|refine zx ?_|refine zd ?_ ?_<;>intro h<;>try omega|fail)<;>conv=>whnf
  all_goals first
   |omega
   |exact k6 hI
theorem ao3 (rs:List C2) (hl:rs.length<=1000000) (g:FuncId) (caps:List T) (q:C2->Bool) (hg:∀r ∈ rs,a9 Tryz.prog g (b9I r::caps.map fun x=>.c (.t x)) [] (e8 (q r)) []):
 a9 Tryz.prog 249 [.c (.t (G2 rs)),.c (.t (.fn (.func g) caps))] [] (e8 (rs.any q)) []:=by
 have ix:=aU4 rs hl g caps q hg
 (refine ac Tryz.func249 ?_;(conv=>whnf);repeat (refine zy ?_;conv=>whnf))
 repeat' (first|refine zx ?_|refine qp ix ?_|refine zd ?_ ?_<;>intro h<;>try omega|fail)<;>conv=>whnf
 all_goals (refine c7 ?_;rw [← a3F q rs 0];simp;omega)
theorem aZ1 (rs:List C2) (hl:rs.length<=1000000) (scale day:Int):a9 Tryz.prog 191 [.c (.t (G2 rs)),a7 .i64 scale,a7 .i64 day] [] (e8 (a28 rs scale day)) []:=by
 have ct:=ao3 rs hl 250 [aQ9 scale,aQ9 day] _ (fun r _=>aB9 r scale day)
 (refine ac Tryz.func191 ?_;(conv=>whnf);repeat ((first|refine b0x ?_|refine zy ?_);conv=>whnf))
 repeat' (first|refine zx ?_|refine qp ct ?_|refine zd ?_ ?_<;>intro h<;>try omega|fail)<;>conv=>whnf
 all_goals (refine c7 ?_;symm;assumption)
theorem a3D {c:J2} {day:Int} (h:I1 c day=true):0<=c.since∧c.since<=day∧day<=c.till∧c.till<=100000∧0<=c.grams∧c.grams<=1099511627776∧0<=c.permille∧c.permille<=1000∧0<=c.drift∧c.drift<=10000000:=by
 unfold I1 N0 btw at h
 simp only [lbN,lbI] at h
 omega
abbrev U6:Fr:=⟨⟨0,[]⟩,⟨0,[]⟩⟩
theorem b44 {f f':Fr} {b b':Bool} {H1:Hp} (h:f=f') (h2:b=b'):Fin 0 (.tup [frS f,e8 b]) H1 (.tup [frS f',e8 b']) []:=by
 subst h h2;exact k9 ⟨⟨rfl,rfl,rfl,rfl,trivial⟩,rfl,trivial⟩
structure b3E (c:J2) (reading day:Int):Prop where
 p0:0<=c.permille*reading
 p1:c.permille*reading<=1000*1099511627776
 d0:0<=c.drift*(day - c.since)
 d1:c.drift*(day - c.since)<=10000000*100000
theorem b3E.of {c:J2} {reading day:Int} (h:I1 c day=true) (hr:btw reading 0 1099511627776=true):b3E c reading day:=by
 have hc:=a3D h
 rw [W6] at hr
 exact ⟨lb0 (by omega) (by omega),Int.mul_le_mul (by omega) (by omega) (by omega) (by omega),lb0 (by omega) (by omega),Int.mul_le_mul (by omega) (by omega) (by omega) (by omega)⟩
theorem aU5 {c:J2} {reading day:Int} (h:I1 c day=true) (hr:btw reading 0 1099511627776=true):rl (a2R c reading day)<=9:=by
 have i:=b3E.of h hr
 have hc:=a3D h
 obtain ⟨p0,p1,d0,d1⟩:=i
 unfold a2R
 have h1:=a4H (Rat.divInt (c.permille*reading) 1000) ((c.grams+c.drift*(day - c.since):Int):Rat)
 have h2:rl (Rat.divInt (c.permille*reading) 1000)<=4:=lbS (Q4 (by decide)) (by have:=U7 (x:=c.permille*reading) (by omega) (by omega);have:=U7 (x:=1000) (by decide) (by decide);omega)
 have h3:rl ((c.grams+c.drift*(day - c.since):Int):Rat)<=4:=by rw [a2K];have:=U7 (x:=c.grams+c.drift*(day - c.since)) (by omega) (by omega);omega
 omega
theorem b6N (c:J2) (reading day:Int) (h:I1 c day=true):a9 Tryz.prog 192 [aJ3 c,a7 .i64 reading,a7 .i64 day] []
 (.tup [frS (if btw reading 0 1099511627776 then fz (a2R c reading day) else U6),e8 (btw reading 0 1099511627776)]) []:=by
 have cv:=aJ5 c day
 have wi:=a5e reading 1099511627776
 rw [h] at cv
 have hc:=a3D h
 cases hr:btw reading 0 1099511627776 with
 |false=>
  rw [hr] at wi
  (refine ac Tryz.func192 ?_;(conv=>whnf);repeat (refine zy ?_;conv=>whnf))
  repeat' (first|refine zx ?_|refine qp cv ?_|refine qp wi ?_|refine zd ?_ ?_<;>intro h<;>try omega|fail)<;>conv=>whnf
  all_goals first
   |(exfalso;simp_all;done)
   |exact k9 ⟨⟨rfl,rfl,rfl,rfl,trivial⟩,rfl,trivial⟩
 |true=>
  rw [hr] at wi
  obtain ⟨p0,p1,d0,d1⟩:=b3E.of h hr
  rw [W6] at hr
  have fo:=b5y (c.permille*reading) 1000 (by decide) (by omega) (by omega) (by decide) (by decide)
  have fi:=N4 (c.grams+c.drift*(day - c.since)) (by omega) (by omega)
  have h2:rl (Rat.divInt (c.permille*reading) 1000)<=4:=lbS (Q4 (by decide)) (by have:=U7 (x:=c.permille*reading) (by omega) (by omega);have:=U7 (x:=1000) (by decide) (by decide);omega)
  have h3:rl ((c.grams+c.drift*(day - c.since):Int):Rat)<=4:=by rw [a2K];have:=U7 (x:=c.grams+c.drift*(day - c.since)) (by omega) (by omega);omega
  have ad:=a3Z (Rat.divInt (c.permille*reading) 1000) ((c.grams+c.drift*(day - c.since):Int):Rat) (by omega) (by omega)
  (refine ac Tryz.func192 ?_;(conv=>whnf);repeat (refine zy ?_;conv=>whnf))
  repeat' (first|refine zx ?_|refine qp cv ?_|refine qp wi ?_|refine qp fo ?_|refine qp fi ?_|refine qp ad ?_|refine qp 7 ?_|refine qp 15 ?_|refine bl0 [7] ?_|refine bl0 [15] ?_|refine zd ?_ ?_<;>intro h<;>try omega|fail)<;>conv=>whnf
  all_goals first
   |(exfalso;simp_all;done)
   |exact b44 rfl rfl
abbrev ivL (o:Option (Rat × Rat)):List S:=match o with
 |some (lo,hi)=>[frS (fz lo),frS (fz hi),e8 true]
 |none=>[frS U6,frS U6,e8 false]
theorem b7T {x y:Rat} {n:Nat} (h1:rl x<=n) (h2:rl y<=n):rl (aF0 x y)<=n:=by unfold aF0;split<;>assumption
theorem a9p {cs:List J2} {rs:List C2} {scale reading day:Int} {lo hi:Rat} (h:G4 cs rs scale reading day=some (lo,hi)):rl lo<=20∧rl hi<=20:=by
 unfold G4 at h
 split at h
 ·cases h
 ·rename_i i hi
  obtain ⟨hb,c,hc,_,hcv⟩:=K9 hi
  have e:a1c cs i=c:=by unfold a1c;rw [hc];rfl
  rw [e] at h
  split at h
  ·cases h
  ·split at h
   ·rename_i hr
    injection h with h
    injection h with h1 h2
    have l1:=aU5 hcv hr
    rw [W6] at hr
    have l2:rl (reading:Rat)<=4:=by rw [a2K];have:=U7 (x:=reading) (by omega) (by omega);omega
    have l3:=a4H (reading:Rat) (a2R c reading day)
    have l4:=aU3 (reading:Rat) (a2R c reading day)
    refine ⟨?_,by rw [← h2];omega⟩
    rw [← h1]
    exact b7T (by omega) (by rw [b1j];omega)
   ·cases h
theorem ag4 (cs:List J2) (rs:List C2) (hl:cs.length<=1000000) (hl2:rs.length<=1000000) (scale reading day:Int):
 a9 Tryz.prog 116 [.c (.t (X7 cs)),.c (.t (G2 rs)),a7 .i64 scale,a7 .i64 reading,a7 .i64 day] [] (.tup (ivL (G4 cs rs scale reading day))) []:=by
 have f:=b9w cs scale day hl
 have r:=aZ1 rs hl2 scale day
 unfold G4
 cases hf:A0 cs scale day cs.length with
 |none=>
  rw [hf] at f
  (refine ac Tryz.func116 ?_;(conv=>whnf);repeat (refine zy ?_;conv=>whnf))
  repeat' (first|refine zx ?_|refine qp f ?_|refine qp r ?_|refine qp 1 ?_|refine qp 6 ?_|refine bl0 [1] ?_|refine bl0 [6] ?_|refine zd ?_ ?_<;>intro h<;>try omega|fail)<;>conv=>whnf
  all_goals first
   |(exfalso;simp_all;done)
   |exact k9 ⟨⟨rfl,rfl,rfl,rfl,trivial⟩,⟨rfl,rfl,rfl,rfl,trivial⟩,rfl,trivial⟩
 |some i=>
  rw [hf] at f
  obtain ⟨hb,c,hc,_,hcv⟩:=K9 hf
  have e:a1c cs i=c:=by unfold a1c;rw [hc];rfl
  have er:=b6N c reading day hcv
  simp only [e]
  cases hrec:a28 rs scale day with
  |true=>
   rw [hrec] at r
   (refine ac Tryz.func116 ?_;(conv=>whnf);repeat (refine zy ?_;conv=>whnf))
   repeat' (first|refine zx ?_|refine qp f ?_|refine qp r ?_|refine qp 1 ?_|refine qp 6 ?_|refine bl0 [1] ?_|refine bl0 [6] ?_|refine zd ?_ ?_<;>intro h<;>try omega|fail)<;>conv=>whnf
   all_goals first
    |(exfalso;simp_all;done)
    |exact k9 ⟨⟨rfl,rfl,rfl,rfl,trivial⟩,⟨rfl,rfl,rfl,rfl,trivial⟩,rfl,trivial⟩
  |false=>
   rw [hrec] at r
   cases hr:btw reading 0 1099511627776 with
   |false=>
    rw [hr] at er
    (refine ac Tryz.func116 ?_;(conv=>whnf);repeat (refine zy ?_;conv=>whnf))
    repeat' (first|refine zx ?_|refine qp f ?_|refine qp r ?_|refine qp er ?_|refine qp 1 ?_|refine qp 9 ?_|refine b9 hc ?_|refine bl0 [1] ?_|refine bl0 [9] ?_|refine zd ?_ ?_<;>intro h<;>try omega|fail)<;>conv=>whnf
    all_goals first
     |exact k9 ⟨⟨rfl,rfl,rfl,rfl,trivial⟩,⟨rfl,rfl,rfl,rfl,trivial⟩,rfl,trivial⟩
     |(exfalso;simp_all;done)
   |true=>
    have l1:=aU5 hcv hr
    rw [hr] at er
    rw [W6] at hr
    have l2:rl (reading:Rat)<=4:=by rw [a2K];have:=U7 (x:=reading) (by omega) (by omega);omega
    have fi:=N4 reading (by omega) (by omega)
    have f0:=N4 0 (by omega) (by omega)
    have sb:=b45 (reading:Rat) (a2R c reading day) (by omega) (by omega)
    have ad:=a3Z (reading:Rat) (a2R c reading day) (by omega) (by omega)
    have l4:=aU3 (reading:Rat) (a2R c reading day)
    have mx:=bb9 ((reading:Rat) - a2R c reading day) ((0:Int):Rat) (by omega) (by rw [b1j];omega)
    (refine ac Tryz.func116 ?_;(conv=>whnf);repeat (refine zy ?_;conv=>whnf))
    repeat' (first|refine zx ?_|refine qp f ?_|refine qp r ?_|refine qp er ?_|refine qp fi ?_|refine qp f0 ?_|refine qp sb ?_|refine qp ad ?_|refine qp mx ?_|refine qp 1 ?_|refine qp 9 ?_|refine qp 5 ?_|refine b9 hc ?_|refine bl0 [1] ?_|refine bl0 [9] ?_|refine bl0 [5] ?_|refine zd ?_ ?_<;>intro h<;>try omega|fail)<;>conv=>whnf
    all_goals first
     |exact k9 ⟨⟨rfl,rfl,rfl,rfl,trivial⟩,⟨rfl,rfl,rfl,rfl,trivial⟩,rfl,trivial⟩
     |(exfalso;simp_all;done)
def t6 (f:Fr):List T:=[ti f.p.sg,K4 f.p.dl,ti f.q.sg,K4 f.q.dl]
abbrev D7 (l:List Fr):T:=.sl 4 .any (l.map t6)
abbrev t4 (l:List Fr):S:=.c (.t (D7 l))
def a1F (l:List Fr):List T:=[D7 l]
abbrev bd4 (h:List (List Fr)):T:=.sl 1 .any (h.map a1F)
abbrev aT7 (h:List (List Fr)):S:=.c (.t (bd4 h))
theorem a3r (l:List Rat) {k:Nat} {x:Rat} (h:l[k]? =some x):(l.map fz)[k]? =some (fz x):=by rw [lba,h];rfl
theorem aN3 {f f':Fr} {H1:Hp} (h:f=f'):Fin 0 (frS f) H1 (frS f') []:=by subst h;exact k9 ⟨rfl,rfl,rfl,rfl,trivial⟩
abbrev frB (f:Fr):Blk:={ mode:=.live,elem:=83,size:=4,rows:=[frC f],box:=true }
theorem N9 (f:Fr):I9 [frC f]:=by
 intro r hr c hc
 simp at hr
 subst hr
 simp [frC] at hc
 rcases hc with rfl|rfl|rfl|rfl<;>rfl
theorem b8r {x:Rat}:sgR x<0↔x<0:=by unfold sgR;split<;>(try split)<;>simp_all
theorem b8v {x y:Rat}:a42 x y<=0↔x<=y:=by
 unfold a42
 split
 ·simp;grind
 ·split
  ·simp;grind
  ·simp;grind
theorem aQ4 {x y:Rat}:a42 x y > 0↔y<x:=by
 have:=b8v (x:=x) (y:=y)
 constructor
 ·intro h;have h2:¬x<=y:=fun h'=>by have:=this.2 h';omega
  grind
 ·intro h;have h2:¬a42 x y<=0:=fun h'=>by have:=this.1 h';grind
  omega
def L0.row (f:L0):List T:=[ti f.mv,ti f.kind,ti f.grams]
def Q3.row (c:Q3):List T:=[ti c.mv,ti c.kind]
abbrev ag0 (l:List L0):T:=.sl 3 .any (l.map L0.row)
abbrev a2t (l:List Q3):T:=.sl 2 .any (l.map Q3.row)
def trT (t:d9):List T:=[ti t.ev.mats,ti t.ev.hhs,ti t.ev.scs,a1p t.ev.places,a1g t.ev.moves,X7 t.ev.certs,G2 t.ev.recalls,a0F t.ev.purities,ag0 t.finds,a2t t.cleans]
def trC (t:d9):List C:=[.t (ti t.ev.mats),.t (ti t.ev.hhs),.t (ti t.ev.scs),.t (a1p t.ev.places),.t (a1g t.ev.moves),.t (X7 t.ev.certs),.t (G2 t.ev.recalls),.t (a0F t.ev.purities),.t (ag0 t.finds),.t (a2t t.cleans)]
abbrev trS (t:d9):S:=.agg (trC t)
structure d9.Sized (t:d9):Prop where
 ev:t.ev.Sized
 f:t.finds.length<=1000000
 c:t.cleans.length<=1000000
theorem a4N {x:Rat}:sgR x=0↔x=0:=by unfold sgR;split<;>(try split)<;>simp_all<;>grind
theorem b5c (e:Ev) (mv kind:Int):a9 Tryz.prog 59 [evS e,a7 .i64 mv,a7 .i64 kind] [] (a7 .i64 (a1n e mv kind)) []:=by
 have l2:(e.moves.map n9.row).length=e.moves.length:=by simp
 (refine ac Tryz.func59 ?_;(conv=>whnf);repeat ((first|refine b0x ?_|refine zy ?_);conv=>whnf))
 repeat' (first|refine zx ?_|refine zd ?_ ?_<;>intro h<;>try omega|fail)<;>conv=>whnf
 all_goals (refine k6 ?_;unfold a1n;(repeat' split)<;>first|rfl|omega)
theorem ae1 (t:d9) (hs:t.Sized):a9 Tryz.prog 16 [trS t] [] (a7 .i64 (v3 t)) []:=by
 have l1:=hs.f
 have l2:=hs.c
 have ck:=b8b t.ev hs.ev
 have m1:(t.finds.map L0.row).length=t.finds.length:=by simp
 have m2:(t.cleans.map Q3.row).length=t.cleans.length:=by simp
 by_cases h0:y8 t.ev≠0
 ·have e1:v3 t=y8 t.ev:=by unfold v3;rw [if_pos h0]
  rw [e1]
  (refine ac Tryz.func16 ?_;(conv=>whnf);repeat ((first|refine b0x ?_|refine zy ?_);conv=>whnf))
  repeat' (first|refine zx ?_|refine qp ck ?_|refine zd ?_ ?_<;>intro h<;>try omega|fail)<;>conv=>whnf
  all_goals first
   |omega
   |exact k6 rfl
 have h0:y8 t.ev=0:=by omega
 rw [h0] at ck
 by_cases h1:20<t.finds.length∨50<t.cleans.length
 ·have e1:v3 t=6:=by unfold v3;rw [if_neg (by omega),if_pos h1]
  rw [e1]
  (refine ac Tryz.func16 ?_;(conv=>whnf);repeat ((first|refine b0x ?_|refine zy ?_);conv=>whnf))
  repeat' (first|refine zx ?_|refine qp ck ?_|refine zd ?_ ?_<;>intro h<;>try omega|fail)<;>conv=>whnf
  all_goals first
   |omega
   |exact k6 rfl
 have e1:v3 t=if N2 t.ev t.finds≠0 then N2 t.ev t.finds else M5 t.ev t.cleans:=by unfold v3;rw [if_neg (by omega),if_neg h1]
 rw [e1]
 (refine ac Tryz.func16 ?_;(conv=>whnf);repeat ((first|refine b0x ?_|refine zy ?_);conv=>whnf))
 repeat' (first|refine zx ?_|refine qp ck ?_|refine zd ?_ ?_<;>intro h<;>try omega|fail)<;>conv=>whnf
 all_goals try omega
 refine d8 c8 (fun k=>([J,S.c (C.t (T.ptr (trT t)))]++Jn 25++[S.c (C.t (ag0 t.finds)),a7 .i64 t.finds.length,a7 .i64 k]++Jn 40,[])) t.finds.length (fun k=>N2 t.ev t.finds=N2 t.ev (t.finds.drop k)) [] rfl
  ⟨rfl,rfl,trivial,⟨rfl,rfl,b8 (by simp),rfl,trivial⟩⟩ ?_
 intro k hk hI
 by_cases hlt:k<t.finds.length
 ·obtain ⟨f,hf⟩:∃f,t.finds[k]? =some f:=⟨_,lbf hlt⟩
  have mk:=b5c t.ev f.mv f.kind
  rw [a12 hf,N2] at hI
  by_cases hm:a1n t.ev f.mv f.kind≠0
  ·rw [if_pos hm] at hI
   rw [hI,if_pos hm]
   conv=>whnf
   repeat' (first|refine zx ?_|refine qp mk ?_|refine b9 hf ?_|refine zd ?_ ?_<;>intro h<;>try omega|fail)<;>conv=>whnf
   all_goals first
    |omega
    |exact k6 rfl
  ·rw [if_neg hm] at hI
   by_cases hg:f.grams<1∨1099511627776<f.grams
   ·rw [if_pos hg] at hI
    rw [hI]
    conv=>whnf
    repeat' (first|refine zx ?_|refine qp mk ?_|refine b9 hf ?_|refine zd ?_ ?_<;>intro h<;>try omega|fail)<;>conv=>whnf
    all_goals first
     |omega
     |exact k6 rfl
   ·rw [if_neg hg] at hI
    conv=>whnf
    repeat' (first|refine zx ?_|refine qp mk ?_|refine b9 hf ?_|refine zd ?_ ?_<;>intro h<;>try omega|fail)<;>conv=>whnf
    all_goals first
     |omega
     |exact ⟨hlt,hI,[],rfl,rfl,trivial,⟨rfl,rfl,rfl,rfl,trivial⟩⟩
 ·rw [lbo (by omega)] at hI
  have hI:N2 t.ev t.finds=0:=hI
  rw [hI,if_neg (by omega)]
  conv=>whnf
  repeat' (first|refine zx ?_|refine zd ?_ ?_<;>intro h<;>try omega|fail)<;>conv=>whnf
  all_goals try omega
  refine d8 c8 (fun k=>([J,S.c (C.t (T.ptr (trT t)))]++Jn 51++[S.c (C.t (a2t t.cleans)),a7 .i64 t.cleans.length,a7 .i64 k]++Jn 14,[])) t.cleans.length (fun k=>M5 t.ev t.cleans=M5 t.ev (t.cleans.drop k)) [] rfl
   ⟨rfl,rfl,trivial,⟨rfl,rfl,b8 (by simp),rfl,trivial⟩⟩ ?_
  intro j hj hJ
  by_cases hjt:j<t.cleans.length
  ·obtain ⟨c,hc⟩:∃c,t.cleans[j]? =some c:=⟨_,lbf hjt⟩
   have mk:=b5c t.ev c.mv c.kind
   rw [a12 hc,M5] at hJ
   by_cases hm:a1n t.ev c.mv c.kind≠0
   ·rw [if_pos hm] at hJ
    rw [hJ]
    conv=>whnf
    repeat' (first|refine zx ?_|refine qp mk ?_|refine b9 hc ?_|refine zd ?_ ?_<;>intro h<;>try omega|fail)<;>conv=>whnf
    all_goals first
     |omega
     |exact k6 rfl
   ·rw [if_neg hm] at hJ
    conv=>whnf
    repeat' (first|refine zx ?_|refine qp mk ?_|refine b9 hc ?_|refine zd ?_ ?_<;>intro h<;>try omega|fail)<;>conv=>whnf
    all_goals first
     |omega
     |exact ⟨hjt,hJ,[],rfl,rfl,trivial,⟨rfl,rfl,rfl,rfl,trivial⟩⟩
  ·rw [lbo (by omega)] at hJ
   have hJ:M5 t.ev t.cleans=0:=hJ
   rw [hJ]
   conv=>whnf
   repeat' (first|refine zx ?_|refine zd ?_ ?_<;>intro h<;>try omega|fail)<;>conv=>whnf
   all_goals first
    |omega
    |exact k6 rfl
theorem bc5 (e:Ev) {i:Nat} {x:n9} (h0:y8 e=0) (hx:e.moves[i]? =some x):a9 Tryz.prog 70 [evS e,a7 .i64 i] [] (e8 (decide (j9 e x.src=0))) []:=by
 have hm:=p8 h0 (lbm hx)
 have ms:=B6 hm
 obtain ⟨s,hsn⟩:∃s:Nat,x.src=s:=⟨x.src.toNat,by omega⟩
 obtain ⟨pl,hpl⟩:∃pl,e.places[s]? =some pl:=⟨_,lbf (by omega)⟩
 have hkd:j9 e x.src=pl.kind:=by rw [hsn];exact a8J hpl
 rw [hkd]
 (refine ac Tryz.func70 ?_;(conv=>whnf);repeat ((first|refine b0x ?_|refine zy ?_);conv=>whnf))
 repeat' (first|refine zx ?_|refine b9 hx ?_|refine F4 hsn hpl ?_|refine zd ?_ ?_<;>intro h<;>try omega|fail)<;>conv=>whnf
 all_goals (refine c7 ?_;simp [*])
def k5 (x:Int × Rat):List T:=ti x.1::t6 (fz x.2)
abbrev a8e (l:List (Int × Rat)):T:=.sl 5 .any (l.map k5)
def y4 (w:D3):List T:=a8e w.terms::ti w.kind::t6 (fz w.value)
def bj4 (w:D3):List C:=.t (a8e w.terms)::.t (ti w.kind)::frC (fz w.value)
abbrev aJ0 (w:D3):S:=.agg (bj4 w)
abbrev O7 (l:List D3):T:=.sl 6 .any (l.map y4)
abbrev a3c (s:g4):S:=.agg [.t (ti s.n),.t (O7 s.rows)]
abbrev zR:Rat:=((0:Int):Rat)
theorem a0e {e:Ev} (h:y8 e=0):1<=e.mats∧e.mats<=6∧e.places.length<=100∧e.moves.length<=200:=by
 obtain ⟨h1,h2,_⟩:=a6K h
 unfold a1M at h1
 simp only [Bool.or_eq_false_iff,lbK] at h1
 omega
abbrev s7 (l:List (Int × Rat)):S:=.c (.t (a8e l))
def a3f (l:List (Int × Rat)):Nat->Int
 |0=>-1
 |k+1=>((l[k]?).map (·.1)).getD 0
theorem T0 {l:List (Int × Rat)} {k:Nat} {t:Int × Rat} (h:l[k]? =some t):a3f l (k+1)=t.1:=by simp [a3f,h]
theorem P4 (l:List (Int × Rat)) (n:Int) (hl:l.length<=1000000) (hB:∀t ∈ l,rl t.2<=200):a9 Tryz.prog 161 [s7 l,a7 .i64 n] [] (e8 (decide (0<=n) && f9 (-1) n l)) []:=by
 have m1:(l.map k5).length=l.length:=by simp
 by_cases h0:n<0
 ·rw [lbJ (by omega),Bool.false_and]
  (refine ac Tryz.func161 ?_;(conv=>whnf);repeat ((first|refine b0x ?_|refine zy ?_);conv=>whnf))
  repeat' (first|refine zx ?_|refine zd ?_ ?_<;>intro h<;>try omega|fail)<;>conv=>whnf
  all_goals first
   |omega
   |exact c7 rfl
 rw [lbH (by omega),Bool.true_and]
 (refine ac Tryz.func161 ?_;(conv=>whnf);repeat ((first|refine b0x ?_|refine zy ?_);conv=>whnf))
 repeat' (first|refine zx ?_|refine zd ?_ ?_<;>intro h<;>try omega|fail)<;>conv=>whnf
 all_goals try omega
 refine d8 c8 (fun k=>([J,a7 .i64 n,J,J,J,a7 .i64 (a3f l k),J,J,J,J,s7 l,a7 .i64 l.length,a7 .i64 k]++Jn 22,[])) l.length (fun k=>f9 (-1) n l=f9 (a3f l k) n (l.drop k)) [] rfl
  ⟨rfl,rfl,trivial,⟨rfl,rfl,rfl,b8 (by simp),rfl,trivial⟩⟩ ?_
 intro k hk hI
 by_cases hlt:k<l.length
 ·obtain ⟨t,ht⟩:∃t,l[k]? =some t:=⟨_,lbf hlt⟩
  obtain ⟨v,c⟩:=t
  have bc:=hB _ (lbm ht)
  simp only at bc
  have sg:=a9Y c (by omega)
  have sz:=a4N (x:=c)
  rw [a12 ht,f9] at hI
  simp only at hI
  by_cases hok:a3f l k<v∧v<n∧c≠0
  ·rw [lbH hok.1,lbH hok.2.1,lbH hok.2.2] at hI
   simp only [Bool.true_and] at hI
   have hne:sgR c≠0:=fun h=>hok.2.2 (sz.1 h)
   obtain ⟨q1,q2,_⟩:=hok
   conv=>whnf
   repeat' (first|refine zx ?_|refine qp sg ?_|refine b9 ht ?_|refine zd ?_ ?_<;>intro h<;>try omega|fail)<;>conv=>whnf
   all_goals first
    |omega
    |exact ⟨hlt,by rw [T0 ht];exact hI,[],rfl,rfl,trivial,⟨rfl,b8 (by rw [T0 ht]),rfl,rfl,rfl,trivial⟩⟩
  ·have hF:f9 (-1) n l=false:=by
    rw [hI]
    rw [← lbQ]
    simp only [lbN,lbI]
    exact fun h=>hok ⟨h.1.1.1,h.1.1.2,h.1.2⟩
   rw [hF]
   have hor:v<=a3f l k∨n<=v∨sgR c=0:=by
    by_cases q1:a3f l k<v
    ·by_cases q2:v<n
     ·refine .inr (.inr (sz.2 ?_))
      by_cases q3:c=0
      ·exact q3
      ·exact absurd ⟨q1,q2,q3⟩ hok
     ·exact .inr (.inl (by omega))
    ·exact .inl (by omega)
   clear hI hok
   conv=>whnf
   repeat' (first|refine zx ?_|refine qp sg ?_|refine b9 ht ?_|refine zd ?_ ?_<;>intro h<;>try omega|fail)<;>conv=>whnf
   all_goals first
    |omega
    |exact c7 rfl
 ·rw [lbo (by omega)] at hI
  have hI:f9 (-1) n l=true:=hI
  rw [hI]
  conv=>whnf
  repeat' (first|refine zx ?_|refine zd ?_ ?_<;>intro h<;>try omega|fail)<;>conv=>whnf
  all_goals first
   |omega
   |exact c7 rfl
structure aL2 (s:g4):Prop where
 n0:s.rows.length<=1000000
 t:∀w ∈ s.rows,w.terms.length<=100∧(∀ t ∈ w.terms,rl t.2<=200)∧rl w.value<=200
theorem aI0 (s:g4) (hb:aL2 s):a9 Tryz.prog 108 [a3c s] [] (e8 (j8 s)) []:=by
 have m1:(s.rows.map y4).length=s.rows.length:=by simp
 have l1:=hb.n0
 by_cases h0:¬(0<=s.n∧s.n<=1500∧s.rows.length<=6000)
 ·have e1:j8 s=false:=by
   unfold j8
   rw [← lbQ]
   simp only [lbN,lbI]
   exact fun h=>h0 ⟨h.1.1.1,h.1.1.2,h.1.2⟩
  rw [e1]
  (refine ac Tryz.func108 ?_;(conv=>whnf);repeat ((first|refine b0x ?_|refine zy ?_);conv=>whnf))
  repeat' (first|refine zx ?_|refine zd ?_ ?_<;>intro h<;>try omega|fail)<;>conv=>whnf
  all_goals first
   |omega
   |exact c7 rfl
 obtain ⟨c1,c2,c3⟩:=ai7.1 h0
 have e1:j8 s=s.rows.all (v7 s.n):=by
  unfold j8
  rw [lbH c1,lbH c2,lbH c3];rfl
 rw [e1]
 clear h0
 (refine ac Tryz.func108 ?_;(conv=>whnf);repeat ((first|refine b0x ?_|refine zy ?_);conv=>whnf))
 repeat' (first|refine zx ?_|refine zd ?_ ?_<;>intro h<;>try omega|fail)<;>conv=>whnf
 all_goals try omega
 refine d8 c8 (fun k=>([J,S.c (C.t (T.ptr [ti s.n,O7 s.rows]))]++Jn 18++[S.c (C.t (O7 s.rows)),a7 .i64 s.rows.length,a7 .i64 k]++Jn 26,[])) s.rows.length (fun k=>(s.rows.take k).all (v7 s.n)=true) [] rfl
  ⟨rfl,rfl,trivial,⟨rfl,rfl,b8 (by simp),rfl,trivial⟩⟩ ?_
 intro k hk hI
 by_cases hlt:k<s.rows.length
 ·obtain ⟨w,hw⟩:∃w,s.rows[k]? =some w:=⟨_,lbf hlt⟩
  obtain ⟨b1,b2,b3⟩:=hb.t w (lbm hw)
  have rt:=P4 w.terms s.n (by omega) b2
  rw [lbH c1,Bool.true_and] at rt
  have rv:=I2 w.value (by omega)
  cases hrt:f9 (-1) s.n w.terms with
  |false=>
   rw [hrt] at rt
   have hF:v7 s.n w=false:=by unfold v7;rw [hrt];rfl
   rw [x9 hw hF]
   conv=>whnf
   repeat' (first|refine zx ?_|refine qp rt ?_|refine qp rv ?_|refine b9 hw ?_|refine zd ?_ ?_<;>intro h<;>try omega|fail)<;>conv=>whnf
   all_goals first
    |omega
    |(exfalso;simp_all;done)
    |exact c7 rfl
  |true=>
   rw [hrt] at rt
   by_cases hk3:0<=w.kind∧w.kind<3
   ·have hT:v7 s.n w=true:=by unfold v7;rw [hrt,lbH hk3.1,lbH hk3.2];rfl
    conv=>whnf
    repeat' (first|refine zx ?_|refine qp rt ?_|refine qp rv ?_|refine b9 hw ?_|refine zd ?_ ?_<;>intro h<;>try omega|fail)<;>conv=>whnf
    all_goals first
     |omega
     |(exfalso;simp_all;done)
     |exact ⟨hlt,by rw [u6 hw,hI,hT];rfl,[],rfl,rfl,trivial,⟨rfl,rfl,rfl,rfl,trivial⟩⟩
   ·have hF:v7 s.n w=false:=by
     unfold v7
     rw [← lbQ]
     simp only [lbN,lbI]
     exact fun h=>hk3 ⟨h.1.2,h.2⟩
    rw [x9 hw hF]
    conv=>whnf
    repeat' (first|refine zx ?_|refine qp rt ?_|refine qp rv ?_|refine b9 hw ?_|refine zd ?_ ?_<;>intro h<;>try omega|fail)<;>conv=>whnf
    all_goals first
     |omega
     |(exfalso;simp_all;done)
     |exact c7 rfl
 ·rw [lbn (by omega)] at hI
  rw [hI]
  conv=>whnf
  repeat' (first|refine zx ?_|refine zd ?_ ?_<;>intro h<;>try omega|fail)<;>conv=>whnf
  all_goals first
   |omega
   |exact c7 rfl
theorem b2i (rs:List Fr) (hl:rs.length<=1000000) (g:FuncId) (caps:List T) (q:Fr->Bool) (hg:∀r ∈ rs,a9 Tryz.prog g (frS r::caps.map fun x=>.c (.t x)) [] (e8 (q r)) []):
 a9 Tryz.prog 243 [.c (.t (D7 rs)),.c (.t (.fn (.func g) caps))] [] (a7 .i64 (D6 q rs 0)) []:=by
 have l1:(rs.map t6).length=rs.length:=by simp
 (refine ac Tryz.func243 ?_;(conv=>whnf);repeat (refine zy ?_;conv=>whnf))
 repeat' (first|refine zx ?_|refine zd ?_ ?_<;>intro h<;>try omega|fail)<;>conv=>whnf
 refine d8 c8 (fun k=>([S.c (C.t (D7 rs)),S.c (C.t (T.fn (.func g) caps)),J,J,J,J,J,a7 .i64 rs.length,a7 .i64 k]++Jn 10,[])) rs.length (fun k=>D6 q (rs.drop k) k=D6 q rs 0) [] rfl
  ⟨rfl,rfl,trivial,⟨g6 rfl,g6 rfl,b8 (by simp),rfl,trivial⟩⟩ ?_
 intro k hk hI
 by_cases hlt:k<rs.length
 ·obtain ⟨r,hr⟩:∃r,rs[k]? =some r:=⟨_,lbf hlt⟩
  have hd:rs.drop k=r::rs.drop (k+1):=by
   rw [List.drop_eq_getElem_cons hlt]
   rw [lbf hlt] at hr
   injection hr with hr
   rw [hr]
  have hgr:=hg r (lbm hr)
  have ha:(frS r::caps.map fun x=>S.c (C.t x)).all S.isT=true:=by simp [S.isT,C.isT,t6]
  rw [hd] at hI
  have hI:(if q r then (k:Int) else D6 q (rs.drop (k+1)) (k+1))=D6 q rs 0:=hI
  cases hq:q r with
  |true=>
   rw [hq] at hgr hI
   conv=>whnf
   repeat' (first|refine zx ?_|refine .inl ⟨_,_,z9 hgr ha rfl,?_⟩|refine b9 hr ?_|refine zd ?_ ?_<;>intro h<;>try omega|fail)<;>conv=>whnf
   all_goals first
    |omega
    |exact k6 hI
  |false=>
   rw [hq] at hgr hI
   conv=>whnf
   repeat' (first|refine zx ?_|refine .inl ⟨_,_,z9 hgr ha rfl,?_⟩|refine b9 hr ?_|refine zd ?_ ?_<;>intro h<;>try omega|fail)<;>conv=>whnf
   all_goals first
    |omega
    |exact ⟨hlt,by simpa using hI,[],rfl,rfl,trivial,⟨rfl,rfl,rfl,rfl,trivial⟩⟩
 ·have hke:k=rs.length:=by omega
  subst hke
  rw [lbo (lbR _)] at hI
  conv=>whnf
  repeat' (first|refine zx ?_|refine zd ?_ ?_<;>intro h<;>try omega|fail)<;>conv=>whnf
  all_goals first
   |omega
   |exact k6 hI
theorem aG6 (rs:List Fr) (hl:rs.length<=1000000) (g:FuncId) (caps:List T) (q:Fr->Bool) (hg:∀r ∈ rs,a9 Tryz.prog g (frS r::caps.map fun x=>.c (.t x)) [] (e8 (q r)) []):
 a9 Tryz.prog 177 [.c (.t (D7 rs)),.c (.t (.fn (.func g) caps))] [] (e8 (rs.any q)) []:=by
 have ix:=b2i rs hl g caps q hg
 (refine ac Tryz.func177 ?_;(conv=>whnf);repeat (refine zy ?_;conv=>whnf))
 repeat' (first|refine zx ?_|refine qp ix ?_|refine zd ?_ ?_<;>intro h<;>try omega|fail)<;>conv=>whnf
 all_goals (refine c7 ?_;rw [← a3F q rs 0];simp;omega)
theorem b6q (f:Fr) (lp:f.p.dl.length<=200000) (lq:f.q.dl.length<=200000):a9 Tryz.prog 178 (frS f::[].map fun x=>.c (.t x)) [] (e8 (!N5 f)) []:=by
 have r:=aR8 f lp lq
 (refine ac Tryz.func178 ?_;(conv=>whnf);repeat ((first|refine b0x ?_|refine zy ?_);conv=>whnf))
 repeat' (first|refine zx ?_|refine qp r ?_|refine zd ?_ ?_<;>intro h<;>try omega|fail)<;>conv=>whnf
 all_goals (refine c7 ?_;simp [*])
theorem b6v (z:List Fr) (hl:z.length<=1000000) (hd:∀f ∈ z,f.p.dl.length<=200000∧f.q.dl.length<=200000):a9 Tryz.prog 109 [t4 z] [] (e8 (z.all N5)) []:=by
 have ct:=aG6 z hl 178 [] _ (fun f hf=>b6q f (hd f hf).1 (hd f hf).2)
 have e:(z.any fun f=>!N5 f)=!(z.all N5):=by rw [List.not_all_eq_any_not]
 rw [e] at ct
 cases hz:z.all N5<;>rw [hz] at ct<;>
 ·(refine ac Tryz.func109 ?_;(conv=>whnf);repeat ((first|refine b0x ?_|refine zy ?_);conv=>whnf))
  repeat' (first|refine zx ?_|refine qp ct ?_|refine zd ?_ ?_<;>intro h<;>try omega|fail)<;>conv=>whnf
  all_goals exact c7 rfl
theorem a8T {n:Int}:∀{l:List (Int × Rat)} {last:Int},f9 last n l=true->∀t ∈ l,last<t.1∧t.1<n
 |[],_,_,t,ht=>by cases ht
 |u::r,last,h,t,ht=>by
  unfold f9 at h
  simp only [lbN,lbI] at h
  rcases lbA.1 ht with rfl|ht
  ·exact ⟨h.1.1.1,h.1.1.2⟩
  ·have:=a8T h.2 t ht
   omega
def rF (n:Nat) (g:Nat->Rat):List Fr:=(List.range n).map fun j=>fz (g j)
def mF (m n:Nat) (A:Nat->Nat->Rat):List (List Fr):=(List.range m).map fun i=>rF n (A i)
theorem O8 (n:Nat) (g:Nat->Rat):(rF n g).length=n:=by simp [rF]
theorem b7 (m n:Nat) (A:Nat->Nat->Rat):(mF m n A).length=m:=by simp [mF]
theorem F7 {n:Nat} {g:Nat->Rat} {j:Nat} (h:j<n):(rF n g)[j]? =some (fz (g j)):=by simp [rF,h]
theorem Q9 {m n:Nat} {A:Nat->Nat->Rat} {i:Nat} (h:i<m):(mF m n A)[i]? =some (rF n (A i)):=by simp [mF,h]
theorem T3 {n:Nat} {g:Nat->Rat} {s:Nat} {v:Rat} (h:s<n):(rF n g).set s (fz v)=rF n (fun j=>if j=s then v else g j):=by
 apply List.ext_getElem?
 intro j
 by_cases hj:j<n
 ·rw [F7 hj,lbg,O8]
  by_cases hjm:s=j
  ·subst hjm;simp [h]
  ·rw [if_neg hjm,F7 hj,if_neg (by omega)]
 ·rw [lbd (by simp [O8];omega),lbd (by simp [O8];omega)]
theorem w9 {n:Nat} {g h:Nat->Rat} (e:∀j,j<n->g j=h j):rF n g=rF n h:=lbp fun j hj=>by rw [e j (lbB.1 hj)]
theorem aL6 {m n:Nat} {A B:Nat->Nat->Rat} (e:∀i,i<m->∀j,j<n->A i j=B i j):mF m n A=mF m n B:=lbp fun i hi=>w9 (e i (lbB.1 hi))
theorem b56 {m n:Nat} {A:Nat->Nat->Rat} {r:Nat} {g:Nat->Rat} (h:r<m):(mF m n A).set r (rF n g)=mF m n (fun i=>if i=r then g else A i):=by
 apply List.ext_getElem?
 intro j
 by_cases hj:j<m
 ·rw [Q9 hj,lbg,b7]
  by_cases hjm:r=j
  ·subst hjm;simp [h]
  ·rw [if_neg hjm,Q9 hj,if_neg (by omega)]
 ·rw [lbd (by simp [b7];omega),lbd (by simp [b7];omega)]
abbrev flB (l:List Fr):Blk:={ mode:=.live,elem:=83,size:=4,rows:=toC (l.map t6),box:=false }
theorem I5 {row:List Fr} {i n:Nat} {y:Fr} (h:n=i):t8 (flB row) ((toC (row.map t6)).set n (frC y))=flB (row.set i y):=by
 subst h
 unfold t8
 simp [toC,List.map_set,t6]
def T4 (b m n:Nat) (V:Nat->Rat):List (List C):=(List.range m).map fun i=>frC (fz (V i))++[C.own (i+b) 0 n true]
def a18 (m:Nat) (O:Nat->Nat):List (List T):=(List.range m).map fun i=>[ti (O i)]
def a0p (l:List (Nat × Bool)):List (List T):=l.map fun f=>[ti f.1,tb f.2]
theorem C1 (b m n:Nat) (V:Nat->Rat):(T4 b m n V).length=m:=by simp [T4]
theorem x3 (m:Nat) (O:Nat->Nat):(a18 m O).length=m:=by simp [a18]
theorem a3j {b m n:Nat} {V:Nat->Rat} {i:Nat} (h:i<m):(T4 b m n V)[i]? =some (frC (fz (V i))++[C.own (i+b) 0 n true]):=by simp [T4,h]
theorem a7s {m:Nat} {O:Nat->Nat} {i:Nat} (h:i<m):(a18 m O)[i]? =some [ti (O i)]:=by simp [a18,h]
theorem b2F {b m n:Nat} {V:Nat->Rat} {r:Nat} {v:Rat} (h:r<m):(T4 b m n V).set r (frC (fz v)++[C.own (r+b) 0 n true])=T4 b m n (fun i=>if i=r then v else V i):=by
 apply List.ext_getElem?
 intro j
 by_cases hj:j<m
 ·rw [a3j hj,lbg,C1]
  by_cases hjm:r=j
  ·subst hjm;simp [h]
  ·rw [if_neg hjm,a3j hj,if_neg (by omega)]
 ·rw [lbd (by simp [C1];omega),lbd (by simp [C1];omega)]
theorem b4S {m:Nat} {O:Nat->Nat} {r v:Nat} (h:r<m):(a18 m O).set r [ti v]=a18 m (fun i=>if i=r then v else O i):=by
 apply List.ext_getElem?
 intro j
 by_cases hj:j<m
 ·rw [a7s hj,lbg,x3]
  by_cases hjm:r=j
  ·subst hjm;simp [h]
  ·rw [if_neg hjm,a7s hj,if_neg (by omega)]
 ·rw [lbd (by simp [x3];omega),lbd (by simp [x3];omega)]
abbrev b02 (m n k:Nat):Blk:={ mode:=.live,elem:=256,size:=6,rows:=[[C.t (ti n),.own 1 0 m true,.own 2 0 n true,.own 3 0 m true,.own 4 0 n true,.own 5 0 k true]],box:=true }
abbrev a0Z (b m n:Nat) (V:Nat->Rat):Blk:={ mode:=.live,elem:=259,size:=5,rows:=T4 b m n V,box:=false }
abbrev Z9 (m:Nat) (O:Nat->Nat):Blk:={ mode:=.live,elem:=3,size:=1,rows:=toC (a18 m O),box:=false }
abbrev a1X (l:List (Nat × Bool)):Blk:={ mode:=.live,elem:=284,size:=2,rows:=toC (a0p l),box:=false }
abbrev a0d (m n:Nat) (fr:List (Nat × Bool)) (D:Fd):Hp:=
 b02 m n fr.length::a0Z 6 m n D.V::flB (rF n D.G)::Z9 m D.O::Z9 n D.F::a1X fr::(mF m n D.A).map flB
theorem a3b {m n:Nat} {fr:List (Nat × Bool)} {D:Fd}:(a0d m n fr D).length=m+6:=by simp [b7]
theorem ae9 {b m n N:Nat} {V:Nat->Rat} (h:m+b<=N):okB N (a0Z b m n V):=by
 intro r hr c hc
 obtain ⟨i,hi,rfl⟩:=lbx.1 hr
 have:=lbB.1 hi
 simp [frC] at hc
 rcases hc with rfl|rfl|rfl|rfl|rfl<;>first|trivial|(simp only;omega)
theorem b27 {m n k N:Nat} (h:6<=N):okB N (b02 m n k):=by
 intro r hr c hc
 simp at hr
 subst hr
 simp at hc
 rcases hc with rfl|rfl|rfl|rfl|rfl|rfl<;>first|trivial|(simp only;omega)
theorem a7p {m n:Nat} {fr:List (Nat × Bool)} {D:Fd}:∀k ∈ a0d m n fr D,okB (m+6) k:=by
 intro k hk
 simp only [lbA] at hk
 rcases hk with rfl|rfl|rfl|rfl|rfl|rfl|hk
 ·exact b27 (by omega)
 ·exact ae9 (lbR _)
 ·exact F2 rfl
 ·exact F2 rfl
 ·exact F2 rfl
 ·exact F2 rfl
 ·obtain ⟨l,_,rfl⟩:=lbx.1 hk
  exact F2 rfl
theorem b1n (x:Rat):(fz x).p.sg=0↔x=0:=by
 show x.num.sign=0↔_
 rw [Int.sign_eq_zero_iff_zero,Rat.num_eq_zero]
theorem rl0:rl 0<=1:=by
 have h0:=s9 (x:=0) (by decide) (by decide)
 have h1:=s9 (x:=1) (by decide) (by decide)
 show max (bl 0) (bl 1)<=1
 omega
theorem rl1:rl 1<=1:=by
 have h1:=s9 (x:=1) (by decide) (by decide)
 show max (bl 1) (bl 1)<=1
 omega
theorem b9q (x y:Rat) (hy:y≠0) (lx:rl x<=60000) (ly:rl y<=60000):a9 Tryz.prog 301 [frS (fz x),frS (fz y)] [] (.tup [frS (fz (x / y)),a7 .i64 0]) []:=by
 have r1:=I2 x (by omega)
 have r2:=I2 y (by omega)
 have x1:=G9 x
 have x2:=I0 x
 have y1:=G9 y
 have y2:=I0 y
 have hn:y.num≠0:=fun h=>hy (Rat.num_eq_zero.1 h)
 have hs:y.num.sign≠0:=fun h=>hn (Int.sign_eq_zero_iff_zero.1 h)
 have hsg:=b1n y
 have l1:=E9 x.num y.den
 have l3:=E9 x.den y.num
 have t1:=a1q x.num y.den (by omega) (by omega)
 have t3:=a1q x.den y.num (by omega) (by omega)
 have n:=aB0 (x.num*y.den) (x.den*y.num) (Int.mul_ne_zero (aX9 x) hn) (by omega) (by omega)
 rw [← b8g] at n
 (refine ac Tryz.func301 ?_;(conv=>whnf);repeat (refine zy ?_;conv=>whnf))
 repeat' (first|refine zx ?_|refine qp r1 ?_|refine qp r2 ?_|refine qp t1 ?_|refine qp t3 ?_|refine qp n ?_|refine zd ?_ ?_<;>intro h<;>try omega|fail)<;>conv=>whnf
 all_goals first
  |(exfalso;simp_all;done)
  |exact Y0 rfl
theorem a3J (x:Rat) (lx:rl x<=60000):a9 Tryz.prog 256 [frS (fz x)] [] (frS (fz (-x))) []:=by
 have r1:=I2 x (by omega)
 have x1:=G9 x
 have x2:=I0 x
 have n:=a8g x.num (by omega)
 have s:=aj7 x.den (by omega)
 have e:fz (-x)=⟨bz (-x.num),bz x.den⟩:=rfl
 rw [e]
 (refine ac Tryz.func256 ?_;(conv=>whnf);repeat (refine zy ?_;conv=>whnf))
 repeat' (first|refine zx ?_|refine qp r1 ?_|refine qp n ?_|refine qp s ?_|refine zd ?_ ?_<;>intro h<;>try omega|fail)<;>conv=>whnf
 all_goals first
  |(exfalso;simp_all;done)
  |exact k9 ⟨rfl,rfl,rfl,rfl,trivial⟩
theorem ag9 (x:Rat):a9 Tryz.prog 294 [frS (fz x)] [] (e8 (decide (x=0))) []:=by
 have h:=b1n x
 (refine ac Tryz.func294 ?_;(conv=>whnf);repeat (refine zy ?_;conv=>whnf))
 repeat' (first|refine zx ?_|refine zd ?_ ?_<;>intro h<;>try omega|fail)<;>conv=>whnf
 all_goals (refine c7 ?_;simp_all)
theorem b0O (a b c:Rat) (la:rl a<=60000) (lb:rl b<=30000) (lc:rl c<=30000):a9 Tryz.prog 295 [frS (fz a),frS (fz b),frS (fz c)] [] (frS (fz (a - b*c))) []:=by
 have z1:=ag9 b
 have z2:=ag9 c
 have m:=al6 b c (by omega) (by omega)
 have lm:=a45 b c
 have s:=b45 a (b*c) la (by omega)
 by_cases hb:b=0
 ·have e:a - b*c=a:=by rw [hb];grind
  rw [e]
  (refine ac Tryz.func295 ?_;(conv=>whnf);repeat (refine zy ?_;conv=>whnf))
  repeat' (first|refine zx ?_|refine qp z1 ?_|refine qp z2 ?_|refine qp m ?_|refine qp s ?_|refine zd ?_ ?_<;>intro h<;>try omega|fail)<;>conv=>whnf
  all_goals first
   |(exfalso;simp_all;done)
   |exact k9 ⟨rfl,rfl,rfl,rfl,trivial⟩
 ·by_cases hc:c=0
  ·have e:a - b*c=a:=by rw [hc];grind
   rw [e]
   (refine ac Tryz.func295 ?_;(conv=>whnf);repeat (refine zy ?_;conv=>whnf))
   repeat' (first|refine zx ?_|refine qp z1 ?_|refine qp z2 ?_|refine qp m ?_|refine qp s ?_|refine zd ?_ ?_<;>intro h<;>try omega|fail)<;>conv=>whnf
   all_goals first
    |(exfalso;simp_all;done)
    |exact k9 ⟨rfl,rfl,rfl,rfl,trivial⟩
  ·(refine ac Tryz.func295 ?_;(conv=>whnf);repeat (refine zy ?_;conv=>whnf))
   repeat' (first|refine zx ?_|refine qp z1 ?_|refine qp z2 ?_|refine qp m ?_|refine qp s ?_|refine zd ?_ ?_<;>intro h<;>try omega|fail)<;>conv=>whnf
   all_goals first
    |(exfalso;simp_all;done)
    |exact k9 ⟨rfl,rfl,rfl,rfl,trivial⟩
theorem aU7 (a b:Rat) (hb:b≠0) (la:rl a<=60000) (lb:rl b<=60000):a9 Tryz.prog 293 [frS (fz a),frS (fz b)] [] (frS (fz (a / b))) []:=by
 have d:=b9q a b hb la lb
 (refine ac Tryz.func293 ?_;(conv=>whnf);repeat (refine zy ?_;conv=>whnf))
 repeat' (first|refine zx ?_|refine qp d ?_|refine zd ?_ ?_<;>intro h<;>try omega|fail)<;>conv=>whnf
 all_goals exact k9 ⟨rfl,rfl,rfl,rfl,trivial⟩
def tkF (a row:Nat->Rat) (s k:Nat):Nat->Rat:=fun j=>if j<k∧j≠s then a j - a s*row j else a j
def tkA (a row:Nat->Rat) (s:Nat):Nat->Rat:=fun j=>if j=s then 0 - a s*row s else a j - a s*row j
def pZ (k n:Nat):List Fr:=(List.range n).map fun j=>if j<k then fz 0 else U6
theorem aC4 (k n:Nat):(pZ k n).length=n:=by simp [pZ]
theorem aB3 {k n j:Nat} (h:j<n):(pZ k n)[j]? =some (if j<k then fz 0 else U6):=by simp [pZ,h]
theorem b9F {k n:Nat} (h:k<n):(pZ k n).set k (fz 0)=pZ (k+1) n:=by
 apply List.ext_getElem?
 intro j
 by_cases hj:j<n
 ·rw [aB3 hj,lbg,aC4]
  by_cases hjk:k=j
  ·subst hjk;simp [h]
  ·rw [if_neg hjk,aB3 hj]
   have:(j<k+1)↔(j<k):=by omega
   simp only [this]
 ·rw [lbd (by simp [aC4];omega),lbd (by simp [aC4];omega)]
theorem b99 (n:Nat):pZ n n=rF n (fun _=>0):=lbp fun j hj=>by rw [if_pos (lbB.1 hj)]
theorem b7E (n:Nat) (hn:n<=1000):a9 Tryz.prog 254 [a7 .i64 n] [] (.c (.own 0 0 n true)) [flB (rF n fun _=>0)]:=by
 have i0:=N4 0 (by decide) (by decide)
 have hnn:(n:Int).toNat=n:=by omega
 (refine ac Tryz.func254 ?_;(conv=>whnf);repeat (refine zy ?_;conv=>whnf))
 repeat' (first|refine zx ?_|refine a2B (by omega) (by omega) (by omega) (by decide) ?_|refine zd ?_ ?_<;>intro h<;>try omega|fail)<;>conv=>whnf
 refine d8 c8 (fun k=>([a7 .i64 n,J,J,S.c (C.own 0 0 n true),J,J,J,J,a7 .i64 n,a7 .i64 k]++Jn 8,[flB (pZ k n)])) n (fun _=>True) [some 0] trivial
  ⟨rfl,rfl,⟨⟨rfl,rfl,rfl,.inr (aa2 ?_ ?_)⟩,trivial⟩,⟨g6 rfl,⟨rfl,rfl,by omega,fun h=>h⟩,b8 (by omega),b8 rfl,trivial⟩⟩ ?_
 ·simp [y5,toC,aC4]
 ·intro i x y hx hy
  simp only [y5,lbk] at hx
  split at hx
  ·rename_i hi
   injection hx with hx
   subst hx
   have hy:(toC ((pZ 0 n).map t6))[i]? =some y:=hy
   rw [toC,lba,lba,aB3 (by omega),if_neg (by omega)] at hy
   injection hy with hy
   subst hy
   exact ⟨rfl,rfl,rfl,rfl,trivial⟩
  ·cases hx
 intro k hk _
 by_cases hlt:k<n
 ·obtain ⟨pf,hpf⟩:∃pf,(pZ k n)[k]? =some pf:=⟨_,aB3 hlt⟩
  have gp:(pZ k n)[0+(k:Int).toNat]? =some pf:=by rw [Nat.zero_add,show (k:Int).toNat=k by omega];exact hpf
  have eM:0+(k:Int).toNat=k:=by omega
  conv=>whnf
  repeat' (first|refine zx ?_|refine qp i0 ?_|refine o5 gp ?_|refine zd ?_ ?_<;>intro h<;>try omega|fail)<;>conv=>whnf
  all_goals first
   |omega
   |(refine ⟨hlt,trivial,[some 0],rfl,rfl,⟨a8 (rows:=(pZ (k+1) n).map t6) rfl rfl rfl ?_ rfl,trivial⟩,⟨rfl,⟨rfl,rfl,rfl,fun h=>h⟩,rfl,b8 (by omega),trivial⟩⟩
     have e:=I5 (row:=pZ k n) (y:=fz 0) eM
     rw [b9F hlt] at e
     exact congrArg Blk.rows e)
 ·have hke:k=n:=by omega
  subst hke
  conv=>whnf
  repeat' (first|refine zx ?_|refine zd ?_ ?_<;>intro h<;>try omega|fail)<;>conv=>whnf
  all_goals first
   |omega
   |exact ⟨[some 0],rfl,rfl,⟨a8 (rows:=(rF k fun _=>0).map t6) rfl rfl rfl (by rw [← b99]) rfl,trivial⟩,⟨rfl,rfl,rfl,fun h=>h⟩⟩
theorem b5b (a row:Nat->Rat) (s:Nat):tkF a row s 0=a:=by funext j;unfold tkF;rw [if_neg (by omega)]
theorem b9r (a row:Nat->Rat) (s k:Nat):tkF a row s k k=a k:=by unfold tkF;rw [if_neg (by omega)]
theorem bd1 (a row:Nat->Rat) (s k:Nat):tkF a row s k s=a s:=by unfold tkF;rw [if_neg (by omega)]
theorem b5t {a row:Nat->Rat} {s k:Nat} (h:k≠s):(fun j=>if j=k then a k - a s*row k else tkF a row s k j)=tkF a row s (k+1):=by
 funext j
 by_cases hj:j=k
 ·subst hj;rw [if_pos rfl];unfold tkF;rw [if_pos ⟨by omega,h⟩]
 ·rw [if_neg hj];unfold tkF
  have:(j<k∧j≠s)↔(j<k+1∧j≠s):=by omega
  simp only [this]
theorem b5L {a row:Nat->Rat} {s:Nat}:tkF a row s s=tkF a row s (s+1):=by
 funext j;unfold tkF
 have:(j<s∧j≠s)↔(j<s+1∧j≠s):=by omega
 simp only [this]
theorem b7Y {a row:Nat->Rat} {s n:Nat}:rF n (fun j=>if j=s then 0 - a s*row s else tkF a row s n j)=rF n (tkA a row s):=w9 fun j hj=>by
 unfold tkA tkF
 by_cases h:j=s
 ·rw [if_pos h,if_pos h]
 ·rw [if_neg h,if_neg h,if_pos ⟨hj,h⟩]
abbrev frX (x:Rat):Blk:={ mode:=.live,elem:=83,size:=4,rows:=[frC (fz x)],box:=true }
theorem aV8 {ρ:List (Option Nat)} {H:Hp} (x:Rat):a5q ρ H (frX x) (frX x):=⟨rfl,rfl,rfl,.inl ⟨rfl,c6 [t6 (fz x)]⟩⟩
theorem b9y (n s:Nat) (a row:Nat->Rat) (hn:n<=1000) (hs:s<n) (ha:∀j,j<n->rl (a j)<=30000) (hr:∀j,j<n->rl (row j)<=30000):
 a9 Tryz.prog 296 [.c (.own 0 0 n true),.c (.own 1 0 n true),a7 .i64 s] [flB (rF n a),flB (rF n row)] (.tup []) [flB (rF n (tkA a row s)),flB (rF n row)]:=by
 have i0:=N4 0 (by decide) (by decide)
 have ls:=ha s hs
 have eS:0+(s:Int).toNat=s:=by omega
 have gs:(rF n a)[0+(s:Int).toNat]? =some (fz (a s)):=by rw [eS,F7 hs]
 (refine ac Tryz.func296 ?_;(conv=>whnf);repeat (refine zy ?_;conv=>whnf))
 repeat' (first|refine zx ?_|refine o5 gs ?_|refine zd ?_ ?_<;>intro h<;>try omega|fail)<;>conv=>whnf
 refine d8 c8 (fun k=>([S.c (C.own 0 0 n true),S.c (C.own 1 0 n true),a7 .i64 s,J,J,J,S.c (C.ptr 2 0 0),J,J,J,J,J,J,a7 .i64 n,a7 .i64 k]++Jn 29,[flB (rF n (tkF a row s k)),flB (rF n row),frX (a s)])) n (fun _=>True) [some 0,some 1,some 2] trivial
  ⟨rfl,rfl,⟨a8 (rows:=(rF n a).map t6) rfl rfl rfl rfl (by rw [b5b]),a8 rfl rfl rfl rfl rfl,aV8 _,trivial⟩,⟨⟨rfl,rfl,rfl,fun h=>h⟩,⟨rfl,rfl,rfl,fun h=>h⟩,rfl,⟨rfl,rfl,rfl⟩,b8 rfl,b8 rfl,trivial⟩⟩ ?_
 intro k hk _
 by_cases hlt:k<n
 ·have eM:0+(k:Int).toNat=k:=by omega
  have lk:=ha k hlt
  have lr:=hr k hlt
  have g1:(rF n (tkF a row s k))[0+(k:Int).toNat]? =some (fz (a k)):=by rw [eM,F7 hlt,b9r]
  have g2:(rF n row)[0+(k:Int).toNat]? =some (fz (row k)):=by rw [eM,F7 hlt]
  have le:=b0O (a k) (a s) (row k) (by omega) (by omega) (by omega)
  by_cases hks:k=s
  ·subst hks
   conv=>whnf
   repeat' (first|refine zx ?_|refine qp le ?_|refine o5 g1 ?_|refine o5 g2 ?_|refine zd ?_ ?_<;>intro h<;>try omega|fail)<;>conv=>whnf
   all_goals first
    |omega
    |exact ⟨hlt,trivial,[some 0,some 1,some 2],rfl,rfl,⟨a8 (rows:=(rF n (tkF a row k k)).map t6) rfl rfl rfl rfl (by rw [b5L]),a8 rfl rfl rfl rfl rfl,aV8 _,trivial⟩,⟨⟨rfl,rfl,rfl,fun h=>h⟩,⟨rfl,rfl,rfl,fun h=>h⟩,rfl,⟨rfl,rfl,rfl⟩,b8 rfl,b8 rfl,trivial⟩⟩
  ·conv=>whnf
   repeat' (first|refine zx ?_|refine qp le ?_|refine o5 g1 ?_|refine o5 g2 ?_|refine zd ?_ ?_<;>intro h<;>try omega|fail)<;>conv=>whnf
   all_goals first
    |omega
    |(refine ⟨hlt,trivial,[some 0,some 1,some 2],rfl,rfl,⟨a8 (rows:=(rF n (tkF a row s (k+1))).map t6) rfl rfl rfl ?_ rfl,a8 rfl rfl rfl rfl rfl,aV8 _,trivial⟩,⟨⟨rfl,rfl,rfl,fun h=>h⟩,⟨rfl,rfl,rfl,fun h=>h⟩,rfl,⟨rfl,rfl,rfl⟩,b8 rfl,b8 rfl,trivial⟩⟩
      have e:=I5 (row:=rF n (tkF a row s k)) (y:=fz (a k - a s*row k)) eM
      rw [T3 hlt,b5t hks] at e
      exact congrArg Blk.rows e)
 ·have hke:k=n:=by omega
  subst hke
  have g2:(rF k row)[0+(s:Int).toNat]? =some (fz (row s)):=by rw [eS,F7 hs]
  have lr:=hr s hs
  have le:=b0O 0 (a s) (row s) (by have:=rl0;omega) (by omega) (by omega)
  have le:a9 Tryz.prog 295 [frS (fz ((0:Int):Rat)),frS (fz (a s)),frS (fz (row s))] [] (frS (fz (0 - a s*row s))) []:=le
  conv=>whnf
  have g1:(rF k (tkF a row s k))[0+(s:Int).toNat]? =some (fz (a s)):=by rw [eS,F7 hs,bd1]
  repeat' (first|refine zx ?_|refine qp i0 ?_|refine qp le ?_|refine o5 g2 ?_|refine o5 g1 ?_|refine zd ?_ ?_<;>intro h<;>try omega|fail)<;>conv=>whnf
  all_goals first
   |omega
   |(refine ⟨[some 0,some 1],rfl,rfl,⟨a8 (rows:=(rF k (tkA a row s)).map t6) rfl rfl rfl ?_ rfl,a8 rfl rfl rfl rfl rfl,trivial⟩,trivial⟩
     have e:=I5 (row:=rF k (tkF a row s k)) (y:=fz (0 - a s*row s)) eS
     rw [T3 hs,b7Y] at e
     exact congrArg Blk.rows e)
def leI:Option Nat->Int
 |none=>-1
 |some a=>a
theorem a5H (f:Nat->Nat) (p:Nat->Bool) (k:Nat):W0 f p (k+1)=match W0 f p k with
 |none=>if p k then some k else none
 |some a=>if p k && decide (f k<f a) then some k else some a:=rfl
theorem M7 {m:Nat} {f:Nat->Nat} {n:Int} {i:Nat} {K:List T->Prop} (e:n=i) (h:i<m) (k:K [ti (f i)]):∃row,0<=n∧(a18 m f)[n.toNat]? =some row∧K row:=by
 subst e;exact ⟨_,by omega,by rw [show (i:Int).toNat=i by omega,a7s h],k⟩
abbrev a8Q (m:Nat) (f:Nat->Nat):S:=.c (.t (.sl 1 .any (a18 m f)))
theorem a5O (m:Nat) (hm:m<=100000) (f:Nat->Nat) (p:Nat->Bool) (g:FuncId) (caps:List T) (hg:∀i:Nat,i<m->a9 Tryz.prog g (a7 .i64 i::caps.map fun x=>.c (.t x)) [] (e8 (p i)) []):
 a9 Tryz.prog 257 [a8Q m f,.c (.t (.fn (.func g) caps))] [] (a7 .i64 (leI (W0 f p m))) []:=by
 have m1:(a18 m f).length=m:=x3 m f
 (refine ac Tryz.func257 ?_;(conv=>whnf);repeat (refine zy ?_;conv=>whnf))
 repeat' (first|refine zx ?_|refine zd ?_ ?_<;>intro h<;>try omega|fail)<;>conv=>whnf
 refine d8 c8 (fun k=>([a8Q m f,S.c (C.t (T.fn (.func g) caps)),J,J,J,a7 .i64 (leI (W0 f p k)),J,J,a8Q m f,a7 .i64 m,a7 .i64 k]++Jn 22,[])) m (fun _=>True) [] trivial
  ⟨rfl,rfl,trivial,⟨g6 rfl,g6 rfl,b8 rfl,g6 rfl,b8 (by omega),b8 rfl,trivial⟩⟩ ?_
 intro k hk _
 by_cases hlt:k<m
 ·have hgr:=hg k hlt
  have ha:(a7 .i64 (k:Int)::caps.map fun x=>S.c (C.t x)).all S.isT=true:=by simp [S.isT,C.isT,a7]
  cases hp:p k with
  |false=>
   rw [hp] at hgr
   have e1:leI (W0 f p k)=leI (W0 f p (k+1)):=by
    rw [a5H,hp];cases W0 f p k<;>rfl
   conv=>whnf
   repeat' (first|refine zx ?_|refine .inl ⟨_,_,z9 hgr ha rfl,?_⟩|refine M7 rfl hlt ?_|refine zd ?_ ?_<;>intro h<;>try omega|fail)<;>conv=>whnf
   all_goals first
    |omega
    |exact ⟨hlt,trivial,[],rfl,rfl,trivial,⟨rfl,rfl,b8 e1,rfl,rfl,b8 rfl,trivial⟩⟩
  |true=>
   rw [hp] at hgr
   cases hl:W0 f p k with
   |none=>
    have hle:leI none=-1:=rfl
    have e1:(k:Int)=leI (W0 f p (k+1)):=by rw [a5H,hl,hp];rfl
    conv=>whnf
    repeat' (first|refine zx ?_|refine .inl ⟨_,_,z9 hgr ha rfl,?_⟩|refine M7 rfl hlt ?_|refine zd ?_ ?_<;>intro h<;>try omega|fail)<;>conv=>whnf
    all_goals first
     |omega
     |exact ⟨hlt,trivial,[],rfl,rfl,trivial,⟨rfl,rfl,b8 e1,rfl,rfl,b8 rfl,trivial⟩⟩
   |some b=>
    have hb:=(G6 hl).1
    have hle:leI (some b)=b:=rfl
    by_cases hc:f k<f b
    ·have e1:(k:Int)=leI (W0 f p (k+1)):=by rw [a5H,hl,hp];simp [hc,leI]
     conv=>whnf
     repeat' (first|refine zx ?_|refine .inl ⟨_,_,z9 hgr ha rfl,?_⟩|refine M7 rfl hlt ?_|refine M7 (i:=b) hle (by omega) ?_|refine zd ?_ ?_<;>intro h<;>try omega|fail)<;>conv=>whnf
     all_goals first
      |omega
      |exact ⟨hlt,trivial,[],rfl,rfl,trivial,⟨rfl,rfl,b8 e1,rfl,rfl,b8 rfl,trivial⟩⟩
    ·have e1:leI (some b)=leI (W0 f p (k+1)):=by rw [a5H,hl,hp];simp [hc,leI]
     conv=>whnf
     repeat' (first|refine zx ?_|refine .inl ⟨_,_,z9 hgr ha rfl,?_⟩|refine M7 rfl hlt ?_|refine M7 (i:=b) hle (by omega) ?_|refine zd ?_ ?_<;>intro h<;>try omega|fail)<;>conv=>whnf
     all_goals first
      |omega
      |exact ⟨hlt,trivial,[],rfl,rfl,trivial,⟨rfl,rfl,b8 e1,rfl,rfl,b8 rfl,trivial⟩⟩
 ·have hke:k=m:=by omega
  subst hke
  conv=>whnf
  repeat' (first|refine zx ?_|refine zd ?_ ?_<;>intro h<;>try omega|fail)<;>conv=>whnf
  all_goals first
   |omega
   |exact k6 rfl
def a9s (m n:Nat) (D:Fd):List (List T):=(List.range m).map fun i=>t6 (fz (D.V i))++[T.sl 4 .any ((rF n (D.A i)).map t6)]
def b83 (m n:Nat) (fr:List (Nat × Bool)) (D:Fd):List T:=[ti n,.sl 5 .any (a9s m n D),.sl 4 .any ((rF n D.G).map t6),.sl 1 .any (a18 m D.O),.sl 1 .any (a18 n D.F),.sl 2 .any (a0p fr)]
theorem a8w {m n:Nat} {D:Fd} {i:Nat} (h:i<m):(a9s m n D)[i]? =some (t6 (fz (D.V i))++[T.sl 4 .any ((rF n (D.A i)).map t6)]):=by simp [a9s,h]
theorem a5W (m n:Nat) (D:Fd):(a9s m n D).length=m:=by simp [a9s]
theorem a3a {m n:Nat} {D:Fd} {x:Int} {i:Nat} {K:List T->Prop} (e:x=i) (h:i<m) (k:K (t6 (fz (D.V i))++[T.sl 4 .any ((rF n (D.A i)).map t6)])):∃row,0<=x∧(a9s m n D)[x.toNat]? =some row∧K row:=by
 subst e;exact ⟨_,by omega,by rw [show (i:Int).toNat=i by omega,a8w h],k⟩
theorem a4S {n:Nat} {g:Nat->Rat} {x:Int} {j:Nat} {K:List T->Prop} (e:x=j) (h:j<n) (k:K (t6 (fz (g j)))):∃row,0<=x∧((rF n g).map t6)[x.toNat]? =some row∧K row:=by
 subst e;exact ⟨_,by omega,by rw [show (j:Int).toNat=j by omega,lba,F7 h];rfl,k⟩
theorem b4d (x:Rat):(fz x).p.sg<0↔x<0:=by
 show x.num.sign<0↔_
 rw [a6X];unfold sgR;split<;>(try split)<;>simp_all
theorem b3P (x:Rat):(fz x).p.sg > 0↔0<x:=by
 show x.num.sign > 0↔_
 rw [a6X];unfold sgR
 split
 ·constructor
  ·intro h;omega
  ·intro h;grind
 ·split<;>simp_all
abbrev a6p (m n:Nat) (fr:List (Nat × Bool)) (D:Fd):T:=.ptr [.ptr (b83 m n fr D)]
theorem b3i (m n:Nat) (fr:List (Nat × Bool)) (D:Fd) (i:Nat) (hi:i<m):
 a9 Tryz.prog 258 (a7 .i64 i::[a6p m n fr D].map fun x=>.c (.t x)) [] (e8 (decide (D.V i<0))) []:=by
 have h:=b4d (D.V i)
 (refine ac Tryz.func258 ?_;(conv=>whnf);repeat (refine zy ?_;conv=>whnf))
 repeat' (first|refine zx ?_|refine a3a rfl hi ?_|refine zd ?_ ?_<;>intro h<;>try omega|fail)<;>conv=>whnf
 all_goals (refine c7 ?_;simp_all)
theorem b2J (m n:Nat) (fr:List (Nat × Bool)) (D:Fd) (j:Nat) (hj:j<n):
 a9 Tryz.prog 259 (a7 .i64 j::[a6p m n fr D].map fun x=>.c (.t x)) [] (e8 (decide (0<D.G j))) []:=by
 have h:=b3P (D.G j)
 (refine ac Tryz.func259 ?_;(conv=>whnf);repeat (refine zy ?_;conv=>whnf))
 repeat' (first|refine zx ?_|refine a4S rfl hj ?_|refine zd ?_ ?_<;>intro h<;>try omega|fail)<;>conv=>whnf
 all_goals (refine c7 ?_;simp_all)
theorem ar5 (m n:Nat) (fr:List (Nat × Bool)) (D:Fd) (r j:Nat) (hr:r<m) (hj:j<n):
 a9 Tryz.prog 260 (a7 .i64 j::[a6p m n fr D,T.ptr [ti r]].map fun x=>.c (.t x)) [] (e8 (decide (D.A r j<0))) []:=by
 have h:=b4d (D.A r j)
 (refine ac Tryz.func260 ?_;(conv=>whnf);repeat (refine zy ?_;conv=>whnf))
 repeat' (first|refine zx ?_|refine a3a rfl hr ?_|refine a4S rfl hj ?_|refine zd ?_ ?_<;>intro h<;>try omega|fail)<;>conv=>whnf
 all_goals (refine c7 ?_;simp_all)
theorem av0 (m n:Nat) (fr:List (Nat × Bool)) (D:Fd) (i s:Nat) (hi:i<m) (hs:s<n):
 a9 Tryz.prog 261 (a7 .i64 i::[a6p m n fr D,T.ptr [ti s]].map fun x=>.c (.t x)) [] (e8 (decide (0<D.A i s))) []:=by
 have h:=b3P (D.A i s)
 (refine ac Tryz.func261 ?_;(conv=>whnf);repeat (refine zy ?_;conv=>whnf))
 repeat' (first|refine zx ?_|refine a3a rfl hi ?_|refine a4S rfl hs ?_|refine zd ?_ ?_<;>intro h<;>try omega|fail)<;>conv=>whnf
 all_goals (refine c7 ?_;simp_all)
theorem b2a {H:Hp} {ia ir n s:Nat} {a row:Nat->Rat} (hne:ia≠ir) (ga:H[ia]? =some (flB (rF n a))) (gr:H[ir]? =some (flB (rF n row))) (hn:n<=1000) (hs:s<n) (ha:∀j,j<n->rl (a j)<=30000) (hr:∀j,j<n->rl (row j)<=30000):
 a9 Tryz.prog 296 [.c (.own ia 0 n true),.c (.own ir 0 n true),a7 .i64 s] H (.tup []) (H.set ia (flB (rF n (tkA a row s)))):=by
 have la:ia<H.length:=(lbe.1 ga).1
 refine O6 [ia,ir] (b9y n s a row hn hs ha hr) rfl rfl rfl (by simp;exact hne) ?_ ?_ (by simp) rfl rfl (by simp) ?_ ?_
 ·intro i k hk
  match i,hk with
  |0,hk=>injection hk with hk;subst hk;exact ⟨rfl,rfl,a2i _,_,ga,C0 rfl⟩
  |1,hk=>injection hk with hk;subst hk;exact ⟨rfl,rfl,a2i _,_,gr,C0 rfl⟩
 ·intro k hk
  simp at hk
  rcases hk with rfl|rfl<;>(intro h;cases h)
 ·intro i k hk
  match i,hk with
  |0,hk=>
   injection hk with hk;subst hk
   refine ⟨_,?_,C0 rfl⟩
   show (H.set ia _)[ia]? =_
   rw [lbg,if_pos rfl,if_pos la]
  |1,hk=>
   injection hk with hk;subst hk
   refine ⟨_,?_,C0 rfl⟩
   show (H.set ia _)[ir]? =_
   rw [lbg,if_neg hne];exact gr
 ·intro j hj hjn
  simp at hjn
  rw [lbg,if_neg (fun h=>hjn.1 h.symm)]
theorem a2W {b m n i r:Nat} {V:Nat->Rat} {K:List C->Prop} (e:i=r) (h:r<m) (k:K (frC (fz (V r))++[C.own (r+b) 0 n true])):∃row,(T4 b m n V)[i]? =some row∧K row:=by
 subst e;exact ⟨_,a3j h,k⟩
theorem b20 {rows:List (List C)} {i:Nat} {x:List C} {K:List C->Prop} (h:i<rows.length) (k:K x):∃row,(rows.set i x)[i]? =some row∧K row:=⟨x,List.getElem?_set_self h,k⟩
theorem b73 {rows:List (List C)} {i j:Nat} {x:List C} {K:List C->Prop} (h:i≠j) (k:∃row,rows[j]? =some row∧K row):∃row,(rows.set i x)[j]? =some row∧K row:=by
 rw [List.getElem?_set_ne h];exact k
def a4I (a:Nat->Rat) (p:Rat) (s k:Nat):Nat->Rat:=fun j=>if j<k∧j≠s then a j / p else a j
def A1 (D:Fd) (r s k:Nat):Nat->Nat->Rat:=fun i=>if i=r then a4I (D.A r) (D.A r s) s k else D.A i
theorem bd0 {D:Fd} {r s k:Nat}:A1 D r s k r k=D.A r k:=by unfold A1 a4I;rw [if_pos rfl,if_neg (by omega)]
theorem bl2 {D:Fd} {r s k:Nat}:A1 D r s k r s=D.A r s:=by unfold A1 a4I;rw [if_pos rfl,if_neg (by omega)]
theorem b7G {D:Fd} {r s k:Nat} (h:k≠s):(fun i=>if i=r then (fun j=>if j=k then D.A r k / D.A r s else A1 D r s k r j) else A1 D r s k i)=A1 D r s (k+1):=by
 funext i j
 by_cases hi:i=r
 ·subst hi
  simp only [if_true]
  unfold A1 a4I
  simp only [if_true]
  by_cases hj:j=k
  ·subst hj;rw [if_pos rfl,if_pos ⟨by omega,h⟩]
  ·rw [if_neg hj]
   have:(j<k∧j≠s)↔(j<k+1∧j≠s):=by omega
   simp only [this]
 ·rw [if_neg hi];unfold A1;rw [if_neg hi,if_neg hi]
theorem b6x {D:Fd} {r s:Nat}:A1 D r s s=A1 D r s (s+1):=by
 funext i j;unfold A1 a4I
 have:(j<s∧j≠s)↔(j<s+1∧j≠s):=by omega
 split
 ·simp only [this]
 ·rfl
theorem b6Y {D:Fd} {r s k:Nat} (h:D.A r k=0):A1 D r s k=A1 D r s (k+1):=by
 funext i j;unfold A1 a4I
 split
 ·show (if j<k∧j≠s then D.A r j / D.A r s else D.A r j)=if j<k+1∧j≠s then D.A r j / D.A r s else D.A r j
  by_cases hj:j=k
  ·subst hj
   rw [if_neg (show ¬(j<j∧j≠s) by omega)]
   split
   ·rw [h];grind
   ·rfl
  ·have:(j<k∧j≠s)↔(j<k+1∧j≠s):=by omega
   simp only [this]
 ·rfl
theorem b12 {m n r:Nat} {A B:Nat->Nat->Rat} {g:Nat->Rat} (h:r<m) (e:(fun i=>if i=r then g else A i)=B):(mF m n A).set r (rF n g)=mF m n B:=by rw [b56 h,e]
def V1 (D:Fd) (r s:Nat):Nat->Rat:=fun i=>if i=r then D.V r / D.A r s else D.V i
def V2 (D:Fd) (r s k:Nat):Nat->Rat:=fun i=>if i=r then D.V r / D.A r s else if i<k then D.V i - D.A i s*(D.V r / D.A r s) else D.V i
def A2 (D:Fd) (r s k:Nat):Nat->Nat->Rat:=fun i=>if i=r then D.pRow r s else if i<k then tkA (D.A i) (D.pRow r s) s else D.A i
theorem aP6 {a row:Nat->Rat} {s:Nat} (h:a s=0):tkA a row s=a:=by
 funext j;unfold tkA
 by_cases hj:j=s
 ·rw [if_pos hj,hj,h];grind
 ·rw [if_neg hj,h];grind
theorem a1a {m i r:Nat} {f:Nat->Nat} {K:List C->Prop} (e:i=r) (h:r<m) (k:K [C.t (ti (f r))]):∃row,(toC (a18 m f))[i]? =some row∧K row:=by
 subst e;exact ⟨_,by simp [toC,a7s h],k⟩
theorem K6 {α β:Type} {f:β->α} {M:List β} {T:List α} {i:Nat} {x:β} (h:M[i]? =some x):(M.map f++T)[i]? =some (f x):=by
 rw [lbb (by simpa using (lbe.1 h).1),lba,h];rfl
theorem b4X {α β:Type} {f:β->α} {M:List β} {T:List α} {i:Nat} {x:β} (h:i<M.length):(M.map f++T).set i (f x)=(M.set i x).map f++T:=by
 rw [List.set_append_left _ _ (by simpa using h),←List.map_set]
theorem b6K {m n:Nat} {D:Fd} {r s:Nat} (hr:r<m) (hs:s<n):(mF m n (A1 D r s n)).set r ((rF n (A1 D r s n r)).set s (fz (((1:Int):Rat) / D.A r s)))=mF m n (A2 D r s 0):=by
 rw [T3 hs,b56 hr]
 refine aL6 fun i hi j hj=>?_
 unfold A2
 by_cases hir:i=r
 ·rw [if_pos hir,if_pos hir]
  unfold Fd.pRow A1 a4I
  rw [if_pos rfl]
  by_cases hjs:j=s
  ·rw [if_pos hjs,if_pos hjs];rfl
  ·rw [if_neg hjs,if_neg hjs,if_pos ⟨hj,hjs⟩]
 ·rw [if_neg hir,if_neg hir,if_neg (by omega)];unfold A1;rw [if_neg hir]
theorem b8f {D:Fd} {r s:Nat}:V2 D r s 0=V1 D r s:=by
 funext i;unfold V2 V1;split
 ·rfl
 ·rw [if_neg (by omega)]
theorem be2 {D:Fd} {r s k:Nat}:V2 D r s k r=D.V r / D.A r s:=by unfold V2;rw [if_pos rfl]
theorem b4f {D:Fd} {r s k:Nat} (h:k≠r):V2 D r s k k=D.V k:=by unfold V2;rw [if_neg h,if_neg (by omega)]
theorem bj6 {D:Fd} {r s k:Nat}:A2 D r s k r=D.pRow r s:=by unfold A2;rw [if_pos rfl]
theorem b8z {D:Fd} {r s k:Nat} (h:k≠r):A2 D r s k k=D.A k:=by unfold A2;rw [if_neg h,if_neg (by omega)]
theorem b1O {D:Fd} {r s k:Nat} (h:k≠r):(fun i=>if i=k then D.V k - D.A k s*(D.V r / D.A r s) else V2 D r s k i)=V2 D r s (k+1):=by
 funext i
 by_cases hi:i=k
 ·subst hi;rw [if_pos rfl];unfold V2;rw [if_neg h,if_pos (by omega)]
 ·rw [if_neg hi];unfold V2
  have:(i<k)↔(i<k+1):=by omega
  simp only [this]
theorem b14 {D:Fd} {r s k:Nat} (h:k≠r):(fun i=>if i=k then tkA (D.A k) (D.pRow r s) s else A2 D r s k i)=A2 D r s (k+1):=by
 funext i
 by_cases hi:i=k
 ·subst hi;rw [if_pos rfl];unfold A2;rw [if_neg h,if_pos (by omega)]
 ·rw [if_neg hi];unfold A2
  have:(i<k)↔(i<k+1):=by omega
  simp only [this]
theorem b82 {D:Fd} {r s:Nat}:V2 D r s r=V2 D r s (r+1):=by
 funext i;unfold V2
 by_cases h:i=r
 ·rw [if_pos h,if_pos h]
 ·have:(i<r)↔(i<r+1):=by omega
  simp only [this]
theorem b8w {D:Fd} {r s:Nat}:A2 D r s r=A2 D r s (r+1):=by
 funext i;unfold A2
 by_cases h:i=r
 ·rw [if_pos h,if_pos h]
 ·have:(i<r)↔(i<r+1):=by omega
  simp only [this]
theorem b7w {D:Fd} {r s k:Nat} (h:k≠r) (hz:D.A k s=0):V2 D r s k=V2 D r s (k+1):=by
 rw [← b1O h,hz];funext i
 by_cases hi:i=k
 ·subst hi;rw [if_pos rfl,b4f h];grind
 ·rw [if_neg hi]
theorem b7i {D:Fd} {r s k:Nat} (h:k≠r) (hz:D.A k s=0):A2 D r s k=A2 D r s (k+1):=by
 rw [← b14 h,aP6 hz];funext i
 by_cases hi:i=k
 ·subst hi;rw [if_pos rfl,b8z h]
 ·rw [if_neg hi]
theorem bb5 {D:Fd} {r s m i:Nat} (h:i<m):V2 D r s m i=(D.exch r s).V i:=by
 unfold V2 Fd.exch;simp only
 split
 ·rfl
 ·first|rfl|rw [if_pos h]
theorem bb6 {D:Fd} {r s m i j:Nat} (h:i<m):A2 D r s m i j=(D.exch r s).A i j:=by
 unfold A2 Fd.exch;simp only
 split
 ·rfl
 ·first|rfl|(rw [if_pos h];rfl)
abbrev K8 (m n:Nat) (fr:List (Nat × Bool)) (V:Nat->Rat) (G:Nat->Rat) (O F:Nat->Nat) (A:Nat->Nat->Rat) (T:Hp):Hp:=
 b02 m n fr.length::a0Z 6 m n V::flB (rF n G)::Z9 m O::Z9 n F::a1X fr::((mF m n A).map flB++T)
structure BdD (m n B:Nat) (D:Fd):Prop where
 v:∀i,i<m->rl (D.V i)<=B
 a:∀i,i<m->∀j,j<n->rl (D.A i j)<=B
 g:∀j,j<n->rl (D.G j)<=B
theorem aV3 {b m n r i:Nat} {V:Nat->Rat} {x:List C} {v:Rat} (e:i=r) (h:r<m) (hx:x=frC (fz v)++[C.own (r+b) 0 n true]):(T4 b m n V).set i x=T4 b m n (fun i=>if i=r then v else V i):=by
 subst e hx;exact b2F h
theorem aH1 {m n:Nat} {fr:List (Nat × Bool)} {V G:Nat->Rat} {O F:Nat->Nat} {A:Nat->Nat->Rat} {T T':Hp}:K8 m n fr V G O F A (T++T')=K8 m n fr V G O F A T++T':=by
 show b02 m n fr.length::a0Z 6 m n V::flB (rF n G)::Z9 m O::Z9 n F::a1X fr::((mF m n A).map flB++(T++T'))=b02 m n fr.length::a0Z 6 m n V::flB (rF n G)::Z9 m O::Z9 n F::a1X fr::(((mF m n A).map flB++T)++T')
 rw [lbD]
theorem a7r {m n:Nat} {fr:List (Nat × Bool)} {V G:Nat->Rat} {O F:Nat->Nat} {A:Nat->Nat->Rat} {T:Hp}:(K8 m n fr V G O F A T).length=m+6+T.length:=by simp [b7];omega
theorem b28 {m n N:Nat} {fr:List (Nat × Bool)} {V G:Nat->Rat} {O F:Nat->Nat} {A:Nat->Nat->Rat} {T:Hp} (h:m+6<=N) (hT:∀k ∈ T,okB N k):∀k ∈ K8 m n fr V G O F A T,okB N k:=by
 intro k hk
 simp only [lbA,lbz] at hk
 rcases hk with rfl|rfl|rfl|rfl|rfl|rfl|hk|hk
 ·exact b27 (by omega)
 ·exact ae9 h
 ·exact F2 rfl
 ·exact F2 rfl
 ·exact F2 rfl
 ·exact F2 rfl
 ·obtain ⟨l,_,rfl⟩:=lbx.1 hk
  exact F2 rfl
 ·exact hT k hk
theorem V5 {n0 N m n:Nat} {fr:List (Nat × Bool)} {V G:Nat->Rat} {O F:Nat->Nat} {A:Nat->Nat->Rat} {T T' H:Hp} {env env':Env} (hH:H=K8 m n fr V G O F A (T++T')) (hN:m+6+T.length=N) (h0:n0<=N) (hT:∀k ∈ T,okB N k)
 (hE:a14 (idR N) H env env'):Ent n0 (idR N) env H env' (K8 m n fr V G O F A T):=by
 refine a8K (by rw [a7r];exact hN) h0 (b28 (by omega) hT) (fun i hi=>?_) hE
 rw [hH,aH1,lbb (by rw [a7r];omega)]
theorem ai4 {n0 N m n:Nat} {fr:List (Nat × Bool)} {V G:Nat->Rat} {O F:Nat->Nat} {A:Nat->Nat->Rat} {T H:Hp} {r s:S} (hH:H=K8 m n fr V G O F A T) (hN:m+6=N) (h0:n0<=N) (hE:a9F (idR N) H r s):
 Fin n0 r H s (K8 m n fr V G O F A []):=by
 refine au5 (by rw [a7r];exact hN) h0 (b28 (by omega) (by simp)) (fun i hi=>?_) hE
 have e:K8 m n fr V G O F A T=K8 m n fr V G O F A []++T:=aH1 (T:=[]) (T':=T)
 rw [hH,e,lbb (by rw [a7r];simp;omega)]
theorem a1b {b0 b1 b2 b3 b4 b5 c0 c1 c2 c3 c4 c5:Blk} {L L':Hp} (h0:b0=c0) (h1:b1=c1) (h2:b2=c2) (h3:b3=c3) (h4:b4=c4) (h5:b5=c5) (h6:L=L'):b0::b1::b2::b3::b4::b5::L=c0::c1::c2::c3::c4::c5::L':=by
 subst h0 h1 h2 h3 h4 h5 h6;rfl
theorem ar2 {b m n r i:Nat} {V V':Nat->Rat} {x:List C} {v:Rat} (e:i=r) (h:r<m) (hx:x=frC (fz v)++[C.own (r+b) 0 n true]) (hV:(fun i=>if i=r then v else V i)=V'):t8 (a0Z b m n V) ((a0Z b m n V).rows.set i x)=a0Z b m n V':=by
 have:=aV3 (V:=V) e h hx
 subst hV
 unfold t8
 simp only [this]
theorem a7h {m r i v:Nat} {O:Nat->Nat} (e:i=r) (h:r<m):t8 (Z9 m O) ((Z9 m O).rows.set i [C.t (ti v)])=Z9 m (fun i=>if i=r then v else O i):=by
 subst e
 have:(toC (a18 m O)).set i [C.t (ti v)]=toC (a18 m (fun j=>if j=i then v else O j)):=by
  rw [← b4S h];simp [toC,List.map_set]
 unfold t8
 simp only [this]
theorem aC8 {N:Nat} {x:Rat}:okB N (frX x):=F2 (rows:=[t6 (fz x)]) rfl
theorem b0A (m n:Nat) (fr:List (Nat × Bool)) (D:Fd) (r s:Nat) (hm:m<=100000) (hn:n<=1000) (hr:r<m) (hs:s<n) (hp:D.A r s≠0) (hB:BdD m n 30000 D) (hB':BdD m n 30000 (D.exch r s)):
 a9 Tryz.prog 262 [.c (.ptr 0 0 0),a7 .i64 r,a7 .i64 s] (a0d m n fr D) (.tup []) (a0d m n fr (D.exch r s)):=by
 have eR:0+(r:Int).toNat=r:=by omega
 have eS:0+(s:Int).toNat=s:=by omega
 have gA:(mF m n D.A)[r]? =some (rF n (D.A r)):=Q9 hr
 have gs:(rF n (D.A r))[0+(s:Int).toNat]? =some (fz (D.A r s)):=by rw [eS,F7 hs]
 have bp:=hB.a r hr s hs
 have ov:=aU7 (D.V r) (D.A r s) hp (by have:=hB.v r hr;omega) (by omega)
 (refine ac Tryz.func262 ?_;(conv=>whnf);repeat (refine zy ?_;conv=>whnf))
 repeat' (first|refine zx ?_|refine qp ov ?_|refine qp C1 ?_|refine a5k (b7 _ _ _) ?_|refine G3 ?_|refine a3T ?_|refine a2W eR hr ?_|refine aH6 gA ?_|refine Z7 gA ?_|refine D4 (b7 _ _ _) ?_|refine a8z (b7 _ _ _) ?_|refine o5 gs ?_|refine b20 (by show _<(T4 _ _ _ _).length;rw [C1];omega) ?_|refine zd ?_ ?_<;>intro h<;>try omega|fail)<;>conv=>whnf
 refine d8 c8 (fun k=>([S.c (C.ptr 0 0 0),a7 .i64 r,a7 .i64 s,J,J,J,S.c (C.ptr 1 r 0),S.c (C.ptr (m+6) 0 0)]++Jn 29++[a7 .i64 n,a7 .i64 k]++Jn 144,K8 m n fr (V1 D r s) D.G D.O D.F (A1 D r s k) [frX (D.A r s)])) n (fun _=>True) (idR (m+7)) trivial ?_ ?_
 ·refine V5 (T':=[]) ?_ rfl (by simp [b7]) (by intro k hk;simp at hk;subst hk;exact aC8) ?_
  ·refine a1b rfl (ar2 eR hr rfl rfl) rfl rfl rfl rfl ?_
   have:A1 D r s 0=D.A:=by funext i j;unfold A1 a4I;split<;>simp_all
   rw [this];rfl
  ·exact ⟨⟨p6 (by omega),rfl,rfl⟩,rfl,rfl,⟨p6 (by omega),eR,rfl⟩,⟨p6 (by omega),rfl,rfl⟩,b8 (by omega),b8 rfl,trivial⟩
 intro k hk _
 have gA1:(mF m n (A1 D r s k))[r]? =some (rF n (A1 D r s k r)):=Q9 hr
 have lA:r<(mF m n (A1 D r s k)).length:=by rw [b7];exact hr
 by_cases hlt:k<n
 ·have eK:0+(k:Int).toNat=k:=by omega
  have gk:(rF n (A1 D r s k r))[0+(k:Int).toNat]? =some (fz (D.A r k)):=by rw [eK,F7 hlt,bd0]
  have bk:=hB.a r hr k hlt
  have ze:=ag9 (D.A r k)
  have ovk:=aU7 (D.A r k) (D.A r s) hp (by omega) (by omega)
  by_cases hks:k=s
  ·subst hks
   conv=>whnf
   repeat' (first|refine zx ?_|refine qp ze ?_|refine qp ovk ?_|refine n6 (b7 _ _ _) ?_|refine G3 ?_|refine k7 ?_|refine a2W rfl hr ?_|refine Z7 gA1 ?_|refine D4 (b7 _ _ _) ?_|refine o5 gk ?_|refine zd ?_ ?_<;>intro h<;>try omega|fail)<;>conv=>whnf
   all_goals first
    |omega
    |exact ⟨hlt,trivial,idR (m+7),V5 (T':=[]) (a1b rfl rfl rfl rfl rfl rfl (by rw [← b6x];rfl)) rfl (by simp [b7]) (by intro k hk;simp at hk;subst hk;exact aC8) ⟨⟨p6 (by omega),rfl,rfl⟩,rfl,rfl,⟨p6 (by omega),rfl,rfl⟩,⟨p6 (by omega),rfl,rfl⟩,rfl,b8 (by omega),trivial⟩⟩
  ·by_cases hz:D.A r k=0
   ·rw [lbH hz] at ze
    conv=>whnf
    repeat' (first|refine zx ?_|refine qp ze ?_|refine qp ovk ?_|refine n6 (b7 _ _ _) ?_|refine G3 ?_|refine k7 ?_|refine a2W rfl hr ?_|refine Z7 gA1 ?_|refine D4 (b7 _ _ _) ?_|refine o5 gk ?_|refine zd ?_ ?_<;>intro h<;>try omega|fail)<;>conv=>whnf
    all_goals first
     |omega
     |exact ⟨hlt,trivial,idR (m+7),V5 (T':=[]) (a1b rfl rfl rfl rfl rfl rfl (by rw [← b6Y hz];rfl)) rfl (by simp [b7]) (by intro k hk;simp at hk;subst hk;exact aC8) ⟨⟨p6 (by omega),rfl,rfl⟩,rfl,rfl,⟨p6 (by omega),rfl,rfl⟩,⟨p6 (by omega),rfl,rfl⟩,rfl,b8 (by omega),trivial⟩⟩
   ·rw [lbJ hz] at ze
    conv=>whnf
    repeat' (first|refine zx ?_|refine qp ze ?_|refine qp ovk ?_|refine n6 (b7 _ _ _) ?_|refine G3 ?_|refine k7 ?_|refine a2W rfl hr ?_|refine Z7 gA1 ?_|refine D4 (b7 _ _ _) ?_|refine o5 gk ?_|refine at6 lA (I5 (y:=fz (D.A r k / D.A r s)) eK) ?_|refine zd ?_ ?_<;>intro h<;>try omega|fail)<;>conv=>whnf
    all_goals first
     |omega
     |exact ⟨hlt,trivial,idR (m+7),V5 (T':=[]) (a1b rfl rfl rfl rfl rfl rfl (by rw [T3 hlt,b12 hr (b7G hks)];rfl)) rfl (by simp [b7]) (by intro k hk;simp at hk;subst hk;exact aC8) ⟨⟨p6 (by omega),rfl,rfl⟩,rfl,rfl,⟨p6 (by omega),rfl,rfl⟩,⟨p6 (by omega),rfl,rfl⟩,rfl,b8 (by omega),trivial⟩⟩
 ·have hke:k=n:=by omega
  subst hke
  have gs1:(rF k (A1 D r s k r))[0+(s:Int).toNat]? =some (fz (D.A r s)):=by rw [eS,F7 hs,bl2]
  have i1:=N4 1 (by decide) (by decide)
  have ov1:=aU7 ((1:Int):Rat) (D.A r s) hp (by have:=rl1;show rl 1<=_;omega) (by omega)
  conv=>whnf
  repeat' (first|refine zx ?_|refine qp i1 ?_|refine qp ov1 ?_|refine n6 (b7 _ _ _) ?_|refine G3 ?_|refine k7 ?_|refine a2W rfl hr ?_|refine Z7 gA1 ?_|refine D4 (b7 _ _ _) ?_|refine o5 gs1 ?_|refine at6 lA (I5 (y:=fz (((1:Int):Rat) / D.A r s)) eS) ?_|refine zd ?_ ?_<;>intro h<;>try omega|fail)<;>conv=>whnf
  all_goals try omega
  refine d8 c8 (fun q=>([S.c (C.ptr 0 0 0),a7 .i64 r,a7 .i64 s,J,J,J,S.c (C.ptr 1 r 0)]++Jn 77++[a7 .i64 m,a7 .i64 q]++Jn 97,K8 m k fr (V2 D r s q) D.G D.O D.F (A2 D r s q) [])) m (fun _=>True) (idR (m+6)) trivial ?_ ?_
  ·refine V5 (T:=[]) (T':=[frX (D.A r s)]) (a1b rfl (by rw [b8f]) rfl rfl rfl rfl (by rw [b6K hr hs];rfl)) rfl (by simp [b7]) (by simp) ⟨⟨p6 (by omega),rfl,rfl⟩,rfl,rfl,⟨p6 (by omega),rfl,rfl⟩,b8 (by omega),b8 rfl,trivial⟩
  have eP:∀j,(D.exch r s).A r j=D.pRow r s j:=fun j=>by show (if r=r then _ else _)=_;rw [if_pos rfl]
  have har:∀j,j<k->rl (D.pRow r s j)<=30000:=fun j hj=>by rw [← eP];exact hB'.a r hr j hj
  intro q hq _
  have gAr:(mF m k (A2 D r s q))[r]? =some (rF k (D.pRow r s)):=by rw [Q9 hr,bj6]
  by_cases hqm:q<m
  ·have eQ:0+(q:Int).toNat=q:=by omega
   have lQ:q<(mF m k (A2 D r s q)).length:=by rw [b7];exact hqm
   have ze:=ag9 (D.A q s)
   by_cases hqr:q=r
   ·subst hqr
    conv=>whnf
    repeat' (first|refine zx ?_|refine n6 (b7 _ _ _) ?_|refine G3 ?_|refine k7 ?_|refine zd ?_ ?_<;>intro h<;>try omega|fail)<;>conv=>whnf
    all_goals first
     |omega
     |exact ⟨hqm,trivial,idR (m+6),V5 (T:=[]) (T':=[]) (a1b rfl (by rw [← b82]) rfl rfl rfl rfl (by rw [← b8w];rfl)) rfl (by simp [b7]) (by simp) ⟨⟨p6 (by omega),rfl,rfl⟩,rfl,rfl,⟨p6 (by omega),rfl,rfl⟩,rfl,b8 (by omega),trivial⟩⟩
   ·have gAq:(mF m k (A2 D r s q))[q]? =some (rF k (D.A q)):=by rw [Q9 hqm,b8z hqr]
    have gqs:(rF k (D.A q))[0+(s:Int).toNat]? =some (fz (D.A q s)):=by rw [eS,F7 hs]
    by_cases hz:D.A q s=0
    ·rw [lbH hz] at ze
     conv=>whnf
     repeat' (first|refine zx ?_|refine qp ze ?_|refine n6 (b7 _ _ _) ?_|refine G3 ?_|refine k7 ?_|refine a2W eQ hqm ?_|refine Z7 gAq ?_|refine o5 gqs ?_|refine zd ?_ ?_<;>intro h<;>try omega|fail)<;>conv=>whnf
     all_goals first
      |omega
      |exact ⟨hqm,trivial,idR (m+6),V5 (T:=[]) (T':=[]) (a1b rfl (by rw [← b7w hqr hz]) rfl rfl rfl rfl (by rw [← b7i hqr hz];rfl)) rfl (by simp [b7]) (by simp) ⟨⟨p6 (by omega),rfl,rfl⟩,rfl,rfl,⟨p6 (by omega),rfl,rfl⟩,rfl,b8 (by omega),trivial⟩⟩
    ·rw [lbJ hz] at ze
     have b1:=hB.v q hqm
     have b2:=hB.a q hqm s hs
     have b3:=hB'.v r hr
     have haq:∀j,j<k->rl (D.A q j)<=30000:=hB.a q hqm
     have le:=b0O (V2 D r s q q) (D.A q s) (V2 D r s q r) (by rw [b4f hqr];omega) (by omega) (by rw [be2];have e:(D.exch r s).V r=D.V r / D.A r s:=(by show (if r=r then _ else _)=_;rw [if_pos rfl]);rw [← e];omega)
     conv=>whnf
     repeat' (first|refine zx ?_|refine qp ze ?_|refine qp le ?_|refine qp C1 ?_|refine n6 (b7 _ _ _) ?_|refine G3 ?_|refine k7 ?_|refine a2W eQ hqm ?_|refine a2W rfl hr ?_|refine Z7 gAq ?_|refine o5 gqs ?_|refine b20 (by show _<(T4 _ _ _ _).length;rw [C1];omega) ?_|refine b73 (by omega) (a2W rfl hr ?_)|refine .inr ⟨_,_,b2a (ia:=q+6) (ir:=r+6) (by omega) (K6 gAq) (K6 gAr) hn hs haq har,?_⟩|refine zd ?_ ?_<;>intro h<;>try omega|fail)<;>conv=>whnf
     all_goals first
      |omega
      |exact ⟨hqm,trivial,idR (m+6),V5 (T:=[]) (T':=[]) (a1b rfl (ar2 (v:=V2 D r s q q - D.A q s*V2 D r s q r) eQ hqm rfl (by rw [b4f hqr,be2];exact b1O hqr)) rfl rfl rfl rfl (by rw [b4X lQ,b12 hqm (b14 hqr)];rfl)) rfl (by simp [b7]) (by simp) ⟨⟨p6 (by omega),rfl,rfl⟩,rfl,rfl,⟨p6 (by omega),rfl,rfl⟩,rfl,b8 (by omega),trivial⟩⟩
  ·have hqe:q=m:=by omega
   subst hqe
   have ggs:(rF k D.G)[0+(s:Int).toNat]? =some (fz (D.G s)):=by rw [eS,F7 hs]
   have ze:=ag9 (D.G s)
   have eL:a0Z 6 q k (V2 D r s q)=a0Z 6 q k (D.exch r s).V:=by
    have:T4 6 q k (V2 D r s q)=T4 6 q k (D.exch r s).V:=lbp fun i hi=>by rw [bb5 (lbB.1 hi)]
    unfold a0Z;rw [this]
   have eA:mF q k (A2 D r s q)=mF q k (D.exch r s).A:=aL6 fun i hi j _=>bb6 hi
   have eO:a18 q (fun i=>if i=r then D.F s else D.O i)=a18 q (D.exch r s).O:=rfl
   have eF:a18 k (fun j=>if j=s then D.O r else D.F j)=a18 k (D.exch r s).F:=rfl
   have e0:a0d q k fr (D.exch r s)=K8 q k fr (D.exch r s).V (D.exch r s).G (D.exch r s).O (D.exch r s).F (D.exch r s).A []:=by
    show _::_::_::_::_::_::_=_::_::_::_::_::_::(_++[])
    rw [List.append_nil]
   by_cases hz:D.G s=0
   ·have eG:(D.exch r s).G=D.G:=by have:=aP6 (row:=D.pRow r s) hz;exact this
    rw [lbH hz] at ze
    conv=>whnf
    repeat' (first|refine zx ?_|refine qp ze ?_|refine qp 9 ?_|refine n6 (b7 _ _ _) ?_|refine G3 ?_|refine k7 ?_|refine o5 ggs ?_|refine a1a eR hr ?_|refine a1a eS hs ?_|refine bl0 [9] ?_|refine zd ?_ ?_<;>intro h<;>try omega|fail)<;>conv=>whnf
    all_goals first
     |omega
     |(rw [e0];exact ai4 (T:=[]) (a1b rfl eL (by rw [eG]) (a7h eR hr) (a7h eS hs) rfl (by rw [eA])) rfl (by simp [b7]) trivial)
   ·have eG:(D.exch r s).G=tkA D.G (D.pRow r s) s:=rfl
    rw [lbJ hz] at ze
    conv=>whnf
    repeat' (first|refine zx ?_|refine qp ze ?_|refine qp 9 ?_|refine n6 (b7 _ _ _) ?_|refine G3 ?_|refine k7 ?_|refine o5 ggs ?_|refine a2W rfl hr ?_|refine a1a eR hr ?_|refine a1a eS hs ?_|refine bl0 [9] ?_|refine .inr ⟨_,_,b2a (ia:=2) (ir:=r+6) (by omega) rfl (K6 gAr) hn hs hB.g har,?_⟩|refine zd ?_ ?_<;>intro h<;>try omega|fail)<;>conv=>whnf
    all_goals first
     |omega
     |(rw [e0];exact ai4 (T:=[]) (a1b rfl eL (by rw [eG]) (a7h eR hr) (a7h eS hs) rfl (by rw [eA])) rfl (by simp [b7]) trivial)
theorem aG7 {H:Hp} {p:Nat->Prop} {ys:List C} {us:List T} (h2:VYL H p ys us):∀{ts:List T},VYL H p (ts.map C.t++ys) (ts++us)
 |[]=>h2
 |t::r=>⟨b2t,aG7 h2⟩
theorem b7C {m n:Nat} {fr:List (Nat × Bool)} {D:Fd} {X:Hp}:VY (K8 m n fr D.V D.G D.O D.F D.A X) (fun _=>True) (.own 1 0 m true) (.sl 5 .any (a9s m n D)):=by
 refine b3U (k:=a0Z 6 m n D.V) trivial rfl (fun h=>h) rfl (a5W m n D) ?_ ?_
 ·intro r hr
  obtain ⟨i,_,rfl⟩:=lbx.1 hr
  rfl
 ·intro i r hi
  have him:i<m:=by have:=(lbe.1 hi).1;rwa [a5W] at this
  rw [a8w him] at hi
  injection hi with hi
  subst hi
  refine ⟨_,a3j him,?_⟩
  show VYL _ _ ((t6 (fz (D.V i))).map C.t++[C.own (i+6) 0 n true]) _
  have hv:VY (K8 m n fr D.V D.G D.O D.F D.A X) (fun _=>True) (C.own (i+6) 0 n true) (T.sl 4 .any ((rF n (D.A i)).map t6)):=
   .vc (u4 (k:=flB (rF n (D.A i))) trivial (K6 (Q9 him)) (fun h=>h) rfl rfl (by simp [O8]))
  exact aG7 (ys:=[C.own (i+6) 0 n true]) (us:=[T.sl 4 .any ((rF n (D.A i)).map t6)]) (show _∧True from ⟨hv,trivial⟩)
theorem b9i {m n:Nat} {fr:List (Nat × Bool)} {D:Fd} {X:Hp}:VY (K8 m n fr D.V D.G D.O D.F D.A X) (fun _=>True) (.ptr 0 0 0) (.ptr (b83 m n fr D)):=by
 refine ak2 (k:=b02 m n fr.length) trivial rfl (fun h=>h) rfl ⟨b2t,b7C,?_,?_,?_,?_,trivial⟩
 ·exact .vc (u4 (k:=flB (rF n D.G)) trivial rfl (fun h=>h) rfl rfl (by simp [O8]))
 ·exact .vc (u4 (k:=Z9 m D.O) trivial rfl (fun h=>h) rfl rfl (by simp [x3]))
 ·exact .vc (u4 (k:=Z9 n D.F) trivial rfl (fun h=>h) rfl rfl (by simp [x3]))
 ·exact .vc (u4 (k:=a1X fr) trivial rfl (fun h=>h) rfl rfl (by simp [a0p]))
abbrev bxD:Blk:={ mode:=.live,elem:=217,size:=1,rows:=[[.ptr 0 0 0]],box:=true }
abbrev bxI (i:Int):Blk:={ mode:=.live,elem:=3,size:=1,rows:=[[.t (ti i)]],box:=true }
theorem az4 {m n:Nat} {fr:List (Nat × Bool)} {D:Fd} {X:Hp}:VY (K8 m n fr D.V D.G D.O D.F D.A (bxD::X)) (fun _=>True) (.ptr (m+6) 0 0) (a6p m n fr D):=by
 refine ak2 (k:=bxD) trivial ?_ (fun h=>h) rfl ⟨b9i,trivial⟩
 show (((mF m n D.A).map flB)++bxD::X)[m]? =_
 rw [lbc (by simp [b7])]
 simp [b7]
theorem b6n {m n t:Nat} {fr:List (Nat × Bool)} {D:Fd} {X:Hp} {i:Int} (h:X[t]? =some (bxI i)):VY (K8 m n fr D.V D.G D.O D.F D.A X) (fun _=>True) (.ptr (m+6+t) 0 0) (.ptr [ti i]):=by
 refine ak2 (k:=bxI i) trivial ?_ (fun h=>h) rfl ⟨b2t,trivial⟩
 show (K8 m n fr D.V D.G D.O D.F D.A X)[m+6+t]? =_
 rw [show m+6+t=m+t+6 by omega]
 show (((mF m n D.A).map flB)++X)[m+t]? =_
 rw [lbc (by simp [b7])]
 simpa [b7] using h
theorem bg8 {m n:Nat} {fr:List (Nat × Bool)} {D:Fd} {X:Hp}:VYS (K8 m n fr D.V D.G D.O D.F D.A X) (fun _=>True) (.c (.own 3 0 m true)) (a8Q m D.O):=.vc (u4 (k:=Z9 m D.O) trivial rfl (fun h=>h) rfl rfl (by simp [x3]))
theorem be5 {m n:Nat} {fr:List (Nat × Bool)} {D:Fd} {X:Hp}:VYS (K8 m n fr D.V D.G D.O D.F D.A X) (fun _=>True) (.c (.own 4 0 n true)) (a8Q n D.F):=.vc (u4 (k:=Z9 n D.F) trivial rfl (fun h=>h) rfl rfl (by simp [x3]))
theorem a9Z {m n:Nat} {fr:List (Nat × Bool)} {D:Fd} {r s:Nat} (X:Hp) (h:a9 Tryz.prog 262 [.c (.ptr 0 0 0),a7 .i64 r,a7 .i64 s] (a0d m n fr D) (.tup []) (a0d m n fr (D.exch r s))):
 a9 Tryz.prog 262 [.c (.ptr 0 0 0),a7 .i64 r,a7 .i64 s] (K8 m n fr D.V D.G D.O D.F D.A X) (.tup []) (K8 m n fr (D.exch r s).V (D.exch r s).G (D.exch r s).O (D.exch r s).F (D.exch r s).A X):=by
 have hl:∀{D:Fd},∀k ∈ a0d m n fr D,k.mode=.live∧k.app=false:=by
  intro D k hk
  simp only [lbA] at hk
  rcases hk with rfl|rfl|rfl|rfl|rfl|rfl|hk
  ·exact ⟨rfl,rfl⟩
  ·exact ⟨rfl,rfl⟩
  ·exact ⟨rfl,rfl⟩
  ·exact ⟨rfl,rfl⟩
  ·exact ⟨rfl,rfl⟩
  ·exact ⟨rfl,rfl⟩
  ·obtain ⟨l,_,rfl⟩:=lbx.1 hk
   exact ⟨rfl,rfl⟩
 exact a96 (n:=m+6) X h a3b a3b (by simp [okS,okC,a7,Nat.blt_eq]) (fun k hk=>⟨(hl k hk).1,(hl k hk).2,a7p k hk⟩) (fun k hk=>⟨(by rw [(hl k hk).1];intro h;cases h),a7p k hk⟩) rfl rfl
def b0P:b4y->Int × Int
 |.best=>(-1,-1)
 |.row r=>(r,-1)
 |.col s=>(-1,s)
 |.next r s=>(r,s)
theorem b5U {N:Nat} (h:0<N):okB N bxD:=by
 intro r hr c hc
 simp at hr;subst hr
 simp at hc;subst hc
 exact h
theorem b3S (m n:Nat) (fr:List (Nat × Bool)) (D0:Fd) (g0:Nat->Rat) (hm:m<=100000) (hn:n<=1000) (h0:a6E m n D0 g0 D0) (hB:∀D,X5 m n D0 D->BdD m n 30000 D):
 a9 Tryz.prog 200 [.c (.ptr 0 0 0)] (a0d m n fr D0) (.tup [a7 .i64 (b0P (B8 m n (al5 m n D0))).1,a7 .i64 (b0P (B8 m n (al5 m n D0))).2]) (a0d m n fr (al5 m n D0)):=by
 (refine ac Tryz.func200 ?_;(conv=>whnf);repeat (refine zy ?_;conv=>whnf))
 repeat' (first|refine zx ?_|refine a5k (b7 _ _ _) ?_|refine a3T ?_|refine zd ?_ ?_<;>intro h<;>try omega|fail)<;>conv=>whnf
 refine n8 c8 (σ:=Fd) (fun D=>([J,S.c (C.ptr (m+6) 0 0)]++Jn 69,K8 m n fr D.V D.G D.O D.F D.A [bxD])) (fun D=>X5 m n D0 D) (fun D=>a91 m n D) D0 (idR (m+7)) aW3 ?_ ?_
 ·refine V5 (T':=[]) (a1b rfl rfl rfl rfl rfl rfl (by rw [List.append_nil,List.append_nil];rfl)) rfl (by simp [b7]) (by intro k hk;simp at hk;subst hk;exact b5U (by omega)) ⟨⟨p6 (by omega),rfl,rfl⟩,trivial⟩
 intro D hD
 have bd:=hB D hD
 have inv:a6E m n D0 g0 D:=by obtain ⟨k,hk⟩:=hD;exact a31 h0 hk
 have l1:=a5O m hm D.O (fun i=>decide (D.V i<0)) 258 [a6p m n fr D] (fun i hi=>b3i m n fr D i hi)
 have l2:=a5O n (by omega) D.F (fun j=>decide (0<D.G j)) 259 [a6p m n fr D] (fun j hj=>b2J m n fr D j hj)
 have va1:∀X,a1P (K8 m n fr D.V D.G D.O D.F D.A (bxD::X)) (fun _=>True) [.c (.own 3 0 m true),.c (.fn (.func 258) [.ptr (m+6) 0 0])] [a8Q m D.O,.c (.t (.fn (.func 258) [a6p m n fr D]))]:=
  fun X=>⟨bg8,aT2 (show _∧True from ⟨az4,trivial⟩),trivial⟩
 have va2:∀X,a1P (K8 m n fr D.V D.G D.O D.F D.A (bxD::X)) (fun _=>True) [.c (.own 4 0 n true),.c (.fn (.func 259) [.ptr (m+6) 0 0])] [a8Q n D.F,.c (.t (.fn (.func 259) [a6p m n fr D]))]:=
  fun X=>⟨be5,aT2 (show _∧True from ⟨az4,trivial⟩),trivial⟩
 have va3:∀X (r:Nat),a1P (K8 m n fr D.V D.G D.O D.F D.A (bxD::bxI r::X)) (fun _=>True) [.c (.own 4 0 n true),.c (.fn (.func 260) [.ptr (m+6) 0 0,.ptr (m+7) 0 0])] [a8Q n D.F,.c (.t (.fn (.func 260) [a6p m n fr D,.ptr [ti r]]))]:=
  fun X r=>⟨be5,aT2 (show _∧_∧True from ⟨az4,b6n (t:=1) rfl,trivial⟩),trivial⟩
 have va4:∀X (x:Int) (s:Nat),a1P (K8 m n fr D.V D.G D.O D.F D.A (bxD::bxI x::bxI s::X)) (fun _=>True) [.c (.own 3 0 m true),.c (.fn (.func 261) [.ptr (m+6) 0 0,.ptr (m+8) 0 0])] [a8Q m D.O,.c (.t (.fn (.func 261) [a6p m n fr D,.ptr [ti s]]))]:=
  fun X x s=>⟨bg8,aT2 (show _∧_∧True from ⟨az4,b6n (t:=2) rfl,trivial⟩),trivial⟩
 have fin0:∀(X:Hp) (r c:Int),E8 m n D=none->(r,c)=b0P (B8 m n D)->Fin (a0d m n fr D0).length (.tup [a7 .i64 r,a7 .i64 c]) (K8 m n fr D.V D.G D.O D.F D.A X) (.tup [a7 .i64 (b0P (B8 m n (al5 m n D0))).1,a7 .i64 (b0P (B8 m n (al5 m n D0))).2]) (a0d m n fr (al5 m n D0)):=by
  intro X r c hn ho
  have e:=b9H h0 hD hn
  rw [← e,←ho]
  have e0:a0d m n fr D=K8 m n fr D.V D.G D.O D.F D.A []:=by
   show _::_::_::_::_::_::_=_::_::_::_::_::_::(_++[])
   rw [List.append_nil]
  rw [e0]
  exact ai4 (N:=m+6) rfl rfl (by simp [b7]) ⟨rfl,rfl,trivial⟩
 have go:∀(X:Hp) (env:Env) (r s:Nat),B8 m n D=.next r s->a14 (idR (m+7)) (K8 m n fr (D.exch r s).V (D.exch r s).G (D.exch r s).O (D.exch r s).F (D.exch r s).A (bxD::X)) env ([J,S.c (C.ptr (m+6) 0 0)]++Jn 69)->
  ∃ρ x',Ent (a0d m n fr D0).length ρ env (K8 m n fr (D.exch r s).V (D.exch r s).G (D.exch r s).O (D.exch r s).F (D.exch r s).A (bxD::X)) ([J,S.c (C.ptr (m+6) 0 0)]++Jn 69) (K8 m n fr x'.V x'.G x'.O x'.F x'.A [bxD])∧X5 m n D0 x'∧a91 m n x'<a91 m n D:=by
  intro X env r s hs hE
  have hnx:E8 m n D=some (D.exch r s):=by unfold E8;rw [hs]
  exact ⟨idR (m+7),D.exch r s,V5 (T:=[bxD]) (T':=X) rfl rfl (by simp [b7]) (by intro k hk;simp at hk;subst hk;exact b5U (by omega)) hE,ak5 hD hnx,b09 (b8M inv.p inv.g) hnx⟩
 have exc:∀r s:Nat,B8 m n D=.next r s->a9 Tryz.prog 262 [.c (.ptr 0 0 0),a7 .i64 r,a7 .i64 s] (a0d m n fr D) (.tup []) (a0d m n fr (D.exch r s)):=fun r s hs=>by
  obtain ⟨q1,q2,q3⟩:=a5T hs
  exact b0A m n fr D r s hm hn q1 q2 (a7D q3) bd (hB _ (ak5 hD (by unfold E8;rw [hs])))
 cases hR:W0 D.O (fun i=>decide (D.V i<0)) m with
 |none=>
  rw [hR,show leI none=-1 from rfl] at l1
  cases hS:W0 D.F (fun j=>decide (0<D.G j)) n with
  |none=>
   rw [hS,show leI none=-1 from rfl] at l2
   have hst:B8 m n D=.best:=by unfold B8;rw [hR,hS]
   conv=>whnf
   repeat' (first|refine zx ?_|refine .inl ⟨_,_,n7 l1 (va1 _) rfl,?_⟩|refine .inl ⟨_,_,n7 l2 (va2 _) rfl,?_⟩|refine n6 (b7 _ _ _) ?_|refine k7 ?_|refine D4 (b7 _ _ _) ?_|refine g8 (t:=1) (b7 _ _ _) ?_|refine g8 (t:=2) (b7 _ _ _) ?_|refine g9 (t:=1) (b7 _ _ _) ?_|refine g9 (t:=2) (b7 _ _ _) ?_|refine zd ?_ ?_<;>intro h<;>try omega|fail)<;>conv=>whnf
   all_goals first
    |omega
    |exact fin0 _ _ _ (by unfold E8;rw [hst]) (by rw [hst];rfl)
  |some ss=>
   rw [hS,show leI (some ss)=ss from rfl] at l2
   have hss:=(G6 hS).1
   have l4:=a5O m hm D.O (fun i=>decide (0<D.A i ss)) 261 [a6p m n fr D,T.ptr [ti ss]] (fun i hi=>av0 m n fr D i ss hi hss)
   cases hC:W0 D.O (fun i=>decide (0<D.A i ss)) m with
   |none=>
    rw [hC,show leI none=-1 from rfl] at l4
    have hst:B8 m n D=.col ss:=by unfold B8;rw [hR,hS];show a1i m D ss=_;unfold a1i;rw [hC]
    conv=>whnf
    repeat' (first|refine zx ?_|refine .inl ⟨_,_,n7 l1 (va1 _) rfl,?_⟩|refine .inl ⟨_,_,n7 l2 (va2 _) rfl,?_⟩|refine .inl ⟨_,_,n7 l4 (va4 _ _ ss) rfl,?_⟩|refine n6 (b7 _ _ _) ?_|refine k7 ?_|refine D4 (b7 _ _ _) ?_|refine g8 (t:=1) (b7 _ _ _) ?_|refine g8 (t:=2) (b7 _ _ _) ?_|refine g9 (t:=1) (b7 _ _ _) ?_|refine g9 (t:=2) (b7 _ _ _) ?_|refine zd ?_ ?_<;>intro h<;>try omega|fail)<;>conv=>whnf
    all_goals first
     |omega
     |exact fin0 _ _ _ (by unfold E8;rw [hst]) (by rw [hst];rfl)
   |some rq=>
    rw [hC,show leI (some rq)=rq from rfl] at l4
    have hst:B8 m n D=.next rq ss:=by unfold B8;rw [hR,hS];show a1i m D ss=_;unfold a1i;rw [hC]
    have exr:=exc _ _ hst
    conv=>whnf
    repeat' (first|refine zx ?_|refine .inl ⟨_,_,n7 l1 (va1 _) rfl,?_⟩|refine .inl ⟨_,_,n7 l2 (va2 _) rfl,?_⟩|refine .inl ⟨_,_,n7 l4 (va4 _ _ ss) rfl,?_⟩|refine .inr ⟨_,_,a9Z _ exr,?_⟩|refine n6 (b7 _ _ _) ?_|refine k7 ?_|refine D4 (b7 _ _ _) ?_|refine g8 (t:=1) (b7 _ _ _) ?_|refine g8 (t:=2) (b7 _ _ _) ?_|refine g9 (t:=1) (b7 _ _ _) ?_|refine g9 (t:=2) (b7 _ _ _) ?_|refine zd ?_ ?_<;>intro h<;>try omega|fail)<;>conv=>whnf
    all_goals first
     |omega
     |exact go _ _ _ _ hst ⟨⟨p6 (by omega),rfl,rfl⟩,trivial⟩
 |some rr=>
  rw [hR,show leI (some rr)=rr from rfl] at l1
  cases hS:W0 D.F (fun j=>decide (0<D.G j)) n with
  |none=>
   rw [hS,show leI none=-1 from rfl] at l2
   have hrr:=(G6 hR).1
   have l3:=a5O n (by omega) D.F (fun j=>decide (D.A rr j<0)) 260 [a6p m n fr D,T.ptr [ti rr]] (fun j hj=>ar5 m n fr D rr j hrr hj)
   cases hC:W0 D.F (fun j=>decide (D.A rr j<0)) n with
   |none=>
    rw [hC,show leI none=-1 from rfl] at l3
    have hst:B8 m n D=.row rr:=by unfold B8;rw [hR,hS];show a1m n D rr=_;unfold a1m;rw [hC]
    conv=>whnf
    repeat' (first|refine zx ?_|refine .inl ⟨_,_,n7 l1 (va1 _) rfl,?_⟩|refine .inl ⟨_,_,n7 l2 (va2 _) rfl,?_⟩|refine .inl ⟨_,_,n7 l3 (va3 _ rr) rfl,?_⟩|refine n6 (b7 _ _ _) ?_|refine k7 ?_|refine D4 (b7 _ _ _) ?_|refine g8 (t:=1) (b7 _ _ _) ?_|refine g8 (t:=2) (b7 _ _ _) ?_|refine g9 (t:=1) (b7 _ _ _) ?_|refine g9 (t:=2) (b7 _ _ _) ?_|refine zd ?_ ?_<;>intro h<;>try omega|fail)<;>conv=>whnf
    all_goals first
     |omega
     |exact fin0 _ _ _ (by unfold E8;rw [hst]) (by rw [hst];rfl)
   |some sq=>
    rw [hC,show leI (some sq)=sq from rfl] at l3
    have hst:B8 m n D=.next rr sq:=by unfold B8;rw [hR,hS];show a1m n D rr=_;unfold a1m;rw [hC]
    have exr:=exc _ _ hst
    conv=>whnf
    repeat' (first|refine zx ?_|refine .inl ⟨_,_,n7 l1 (va1 _) rfl,?_⟩|refine .inl ⟨_,_,n7 l2 (va2 _) rfl,?_⟩|refine .inl ⟨_,_,n7 l3 (va3 _ rr) rfl,?_⟩|refine .inr ⟨_,_,a9Z _ exr,?_⟩|refine n6 (b7 _ _ _) ?_|refine k7 ?_|refine D4 (b7 _ _ _) ?_|refine g8 (t:=1) (b7 _ _ _) ?_|refine g8 (t:=2) (b7 _ _ _) ?_|refine g9 (t:=1) (b7 _ _ _) ?_|refine g9 (t:=2) (b7 _ _ _) ?_|refine zd ?_ ?_<;>intro h<;>try omega|fail)<;>conv=>whnf
    all_goals first
     |omega
     |exact go _ _ _ _ hst ⟨⟨p6 (by omega),rfl,rfl⟩,trivial⟩
  |some ss=>
   rw [hS,show leI (some ss)=ss from rfl] at l2
   have hrr:=(G6 hR).1
   have hss:=(G6 hS).1
   by_cases hlt:D.O rr<D.F ss
   ·skip
    have l3:=a5O n (by omega) D.F (fun j=>decide (D.A rr j<0)) 260 [a6p m n fr D,T.ptr [ti rr]] (fun j hj=>ar5 m n fr D rr j hrr hj)
    cases hC:W0 D.F (fun j=>decide (D.A rr j<0)) n with
    |none=>
     rw [hC,show leI none=-1 from rfl] at l3
     have hst:B8 m n D=.row rr:=by unfold B8 a1m;rw [hR,hS];simp only [if_pos hlt];rw [hC]
     conv=>whnf
     repeat' (first|refine zx ?_|refine .inl ⟨_,_,n7 l1 (va1 _) rfl,?_⟩|refine .inl ⟨_,_,n7 l2 (va2 _) rfl,?_⟩|refine .inl ⟨_,_,n7 l3 (va3 _ rr) rfl,?_⟩|refine n6 (b7 _ _ _) ?_|refine k7 ?_|refine D4 (b7 _ _ _) ?_|refine g8 (t:=1) (b7 _ _ _) ?_|refine g8 (t:=2) (b7 _ _ _) ?_|refine g9 (t:=1) (b7 _ _ _) ?_|refine g9 (t:=2) (b7 _ _ _) ?_|refine a1a (r:=rr) (by omega) hrr ?_|refine a1a (r:=ss) (by omega) hss ?_|refine zd ?_ ?_<;>intro h<;>try omega|fail)<;>conv=>whnf
     all_goals first
      |omega
      |exact fin0 _ _ _ (by unfold E8;rw [hst]) (by rw [hst];rfl)
    |some sq=>
     rw [hC,show leI (some sq)=sq from rfl] at l3
     have hst:B8 m n D=.next rr sq:=by unfold B8 a1m;rw [hR,hS];simp only [if_pos hlt];rw [hC]
     have exr:=exc _ _ hst
     conv=>whnf
     repeat' (first|refine zx ?_|refine .inl ⟨_,_,n7 l1 (va1 _) rfl,?_⟩|refine .inl ⟨_,_,n7 l2 (va2 _) rfl,?_⟩|refine .inl ⟨_,_,n7 l3 (va3 _ rr) rfl,?_⟩|refine .inr ⟨_,_,a9Z _ exr,?_⟩|refine n6 (b7 _ _ _) ?_|refine k7 ?_|refine D4 (b7 _ _ _) ?_|refine g8 (t:=1) (b7 _ _ _) ?_|refine g8 (t:=2) (b7 _ _ _) ?_|refine g9 (t:=1) (b7 _ _ _) ?_|refine g9 (t:=2) (b7 _ _ _) ?_|refine a1a (r:=rr) (by omega) hrr ?_|refine a1a (r:=ss) (by omega) hss ?_|refine zd ?_ ?_<;>intro h<;>try omega|fail)<;>conv=>whnf
     all_goals first
      |omega
      |exact go _ _ _ _ hst ⟨⟨p6 (by omega),rfl,rfl⟩,trivial⟩
   ·skip
    have l4:=a5O m hm D.O (fun i=>decide (0<D.A i ss)) 261 [a6p m n fr D,T.ptr [ti ss]] (fun i hi=>av0 m n fr D i ss hi hss)
    cases hC:W0 D.O (fun i=>decide (0<D.A i ss)) m with
    |none=>
     rw [hC,show leI none=-1 from rfl] at l4
     have hst:B8 m n D=.col ss:=by unfold B8 a1i;rw [hR,hS];simp only [if_neg hlt];rw [hC]
     conv=>whnf
     repeat' (first|refine zx ?_|refine .inl ⟨_,_,n7 l1 (va1 _) rfl,?_⟩|refine .inl ⟨_,_,n7 l2 (va2 _) rfl,?_⟩|refine .inl ⟨_,_,n7 l4 (va4 _ _ ss) rfl,?_⟩|refine n6 (b7 _ _ _) ?_|refine k7 ?_|refine D4 (b7 _ _ _) ?_|refine g8 (t:=1) (b7 _ _ _) ?_|refine g8 (t:=2) (b7 _ _ _) ?_|refine g9 (t:=1) (b7 _ _ _) ?_|refine g9 (t:=2) (b7 _ _ _) ?_|refine a1a (r:=rr) (by omega) hrr ?_|refine a1a (r:=ss) (by omega) hss ?_|refine zd ?_ ?_<;>intro h<;>try omega|fail)<;>conv=>whnf
     all_goals first
      |omega
      |exact fin0 _ _ _ (by unfold E8;rw [hst]) (by rw [hst];rfl)
    |some rq=>
     rw [hC,show leI (some rq)=rq from rfl] at l4
     have hst:B8 m n D=.next rq ss:=by unfold B8 a1i;rw [hR,hS];simp only [if_neg hlt];rw [hC]
     have exr:=exc _ _ hst
     conv=>whnf
     repeat' (first|refine zx ?_|refine .inl ⟨_,_,n7 l1 (va1 _) rfl,?_⟩|refine .inl ⟨_,_,n7 l2 (va2 _) rfl,?_⟩|refine .inl ⟨_,_,n7 l4 (va4 _ _ ss) rfl,?_⟩|refine .inr ⟨_,_,a9Z _ exr,?_⟩|refine n6 (b7 _ _ _) ?_|refine k7 ?_|refine D4 (b7 _ _ _) ?_|refine g8 (t:=1) (b7 _ _ _) ?_|refine g8 (t:=2) (b7 _ _ _) ?_|refine g9 (t:=1) (b7 _ _ _) ?_|refine g9 (t:=2) (b7 _ _ _) ?_|refine a1a (r:=rr) (by omega) hrr ?_|refine a1a (r:=ss) (by omega) hss ?_|refine zd ?_ ?_<;>intro h<;>try omega|fail)<;>conv=>whnf
     all_goals first
      |omega
      |exact go _ _ _ _ hst ⟨⟨p6 (by omega),rfl,rfl⟩,trivial⟩
theorem a5J {P:Program} {g:FuncId} {args:List S} {H:Hp} {b:Blk} {n:Nat} {app:Bool} (h:a9 P g args [] (.c (.own 0 0 n app)) [b]) (ha:args.all S.isT=true) (hm:b.mode=.live) (hb:I9 b.rows):
 Z5 P g args H (.c (.own H.length 0 n app)) [b]:=by
 refine ⟨h.1,fun w ι M vals hl hv hH hM hf=>?_⟩
 have:=h.2 w (fun _=>none) M vals hl (fun j s hj=>(hv j s hj).tree (lbv.1 ha s (lbm hj)))
  ⟨by simp,by simp,by simp,by simp,by simp⟩ hM (fun _ _=>rfl)
 refine Calls.mono this ?_
 rintro e w' ⟨v,rfl,ι',M',h1,h2,h3,h4,h5⟩
 have hnl:∀x,¬a48 (fun _=>none) ([]:Hp) x:=by rintro x ⟨id,k,_,_,hk,_⟩;simp at hk
 obtain ⟨l,hl0⟩:∃l,ι' 0=some l:=by
  cases h1 with
  |c h1=>cases h1 with
   |own hi=>exact ⟨_,hi⟩
   |nil hi=>exact ⟨_,hi⟩
 have hnew:y7 ι H.length [b].length (fun _=>l) H.length=some l:=by unfold y7;simp
 have hMM:∀x,a4G M [b].length (fun _=>l) x->M' x:=by
  intro x hx
  rcases hx with hx|⟨k,hk,cap,size,he⟩
  ·rcases h5.mold x hx with h|h
   ·exact h
   ·exact absurd h (hnl x)
  ·have he:l=.blk x cap size:=he
   subst he
   exact h2.liv 0 b rfl hm x cap size hl0
 refine ⟨v,rfl,fun _=>l,?_,⟨h5.os,h5.tape,h5.output,h5.size,fun x hx=>h5.keep x hx (hnl x)⟩,?_,?_,?_⟩
 ·cases h1 with
  |c h1=>cases h1 with
   |own hi q1 q2 q3 q4 q5=>
    rw [hl0] at hi;injection hi with hi
    subst hi
    exact .c (.own hnew q1 q2 q3 q4 q5)
   |nil hi=>
    rw [hl0] at hi;injection hi with hi
    subst hi
    exact .c (.nil hnew)
 ·intro k blk hk
  cases k with
  |succ k=>simp at hk
  |zero=>
   simp at hk
   subst hk
   refine ⟨hm,?_⟩
   have hbr:=h2.blk 0 b rfl (by rw [hm];intro h;cases h) l hl0
   cases l with
   |nil=>exact hbr
   |blk x cap size=>
    obtain ⟨r1,r2,r3,r4,r5,cur,r6,r7,r8⟩:=hbr
    refine ⟨r1,r2,r3,r4,r5,cur,r6,r7,fun i j c hc=>?_⟩
    obtain ⟨u,u1,u2⟩:=r8 i j c hc
    exact ⟨u,u1,ac0 hMM hb hc u2⟩
 ·intro k x cap size hk he
  have he:l=.blk x cap size:=he
  subst he
  refine ⟨?_,h3 x (h2.liv 0 b rfl hm x cap size hl0)⟩
  rcases h5.live x ⟨0,b,cap,size,rfl,hm,hl0⟩ with h|h
  ·exact absurd h (hnl x)
  ·exact h
 ·intro k k' x cap size cap' size' hk hk' _ _
  simp at hk hk'
  omega
theorem b32 (H:Hp) (n:Nat) (hn:n<=1000):Z5 Tryz.prog 254 [a7 .i64 n] H (.c (.own H.length 0 n true)) [flB (rF n fun _=>0)]:=
 a5J (b7E n hn) rfl rfl (c6 _)
def a5c (l:List (Int × Rat)):Nat->Nat->Rat
 |0=>x8 l
 |k+1=>match l[k]? with
  |none=>a5c l k
  |some t=>fun j=>if j=t.1.toNat then -t.2 else a5c l k j
theorem av1 {l:List (Int × Rat)} {k:Nat} {t:Int × Rat} (h:l[k]? =some t):a5c l (k+1)=fun j=>if j=t.1.toNat then -t.2 else a5c l k j:=by rw [a5c,h]
theorem b1i (l:List (Int × Rat)) (j:Nat):∀k,k<=l.length->a5c l k j=-(L5 l k j)∨(L5 l k j=0∧a5c l k j=x8 l j)
 |0,_=>.inr ⟨rfl,rfl⟩
 |k+1,hk=>by
  obtain ⟨t,ht⟩:∃t,l[k]? =some t:=⟨_,lbf (by omega)⟩
  rw [av1 ht,J6 ht]
  simp only
  by_cases hj:j=t.1.toNat
  ·rw [if_pos hj,if_pos hj];exact .inl rfl
  ·rw [if_neg hj,if_neg hj];exact b1i l j k (by omega)
theorem b50 (l:List (Int × Rat)):a5c l l.length=fun j=>-(x8 l j):=by
 funext j
 rcases b1i l j l.length (lbR _) with h|⟨h1,h2⟩
 ·exact h
 ·rw [h2]
  have:x8 l j=0:=h1
  rw [this];decide
def sgF (b:Bool) (l:List (Int × Rat)):Nat->Rat:=fun j=>V4 b (x8 l j)
end Go.Proofs.YtdbogogfeffjlaaGreat
