/- Part 6. -/
import Derived.Test.YtikokmdpigploaaGreatSk5
namespace Go.Proofs.YtikokmdpigploaaGreat
set_option linter.all false
set_option maxRecDepth 100000
set_option maxHeartbeats 8000000
open Go.RowKit
open St1 St2 St3 St4 St5 St6 St7 St8 StA StB StC
def a7A {a:Int} (j:Nat) (hj:j<=62):IntKind.wrap .i64 (BitVec.ofInt (IntKind.bits .i64) a &&& BitVec.ofInt (IntKind.bits .i64) ((2 ^ j - 1:Nat):Int)).toNat=a % ((2 ^ j:Nat):Int):=by
 rw [aT9 rfl a j hj];have hp:(2:Nat) ^ j<=2 ^ 62:=ak6 de hj;have h0:0<(2:Nat) ^ j:=Nat.pow_pos de;have h1:0<=a % ((2 ^ j:Nat):Int):=aj5 _ om;have h2:a % ((2 ^ j:Nat):Int)<((2 ^ j:Nat):Int):=aJ0 _ om;rw [lbY h1];exact (show J2 .i64 _ _ from a2O om om).symm
structure aF2 (m n:Int):Prop where
 ok:∀a:Int,a01 .and .i64 a m (a % n)
def a7h:aF2 1048575 1048576:=⟨fun a=>(a7A (a:=a) 20 de).symm⟩
def aj7:aF2 1 2:=⟨fun a=>(a7A (a:=a) 1 de).symm⟩
def al7 (a:Int):b25 .i64 a 20 (a / 1048576):=by
 show a / 1048576=a.fdiv 1048576;exact (Int.fdiv_eq_ediv_of_nonneg _ de).symm
def O0 {l:LI} {i:Nat} {n:Int} {v:Int} (h:0+n.toNat=i):(toC (l.map k6)).set (0+n.toNat) [C.t (ti v)]=toC ((l.set i v).map k6):=by
 rw [h];simp [toC,k6,a59]
def Q6 {l:LI} {n:Int} {i:Nat} (h:n.toNat=i) (hi:i<l.length):l[0+n.toNat]? =some (dat l i):=by rw [P9,h];exact w7 hi
def bh5 (a b:LI) (ha:Okd a) (hb:Okd b) (la:a.length<=400000) (lb:b.length<=400000) (hab:b.length<=a.length):
 ec 260 [k9 a,k9 b] [] (k9 (dg (val a+val b).toNat)) []:=by
 have l1:(a.map k6).length=a.length:=zq;have l2:(b.map k6).length=b.length:=zq;refine ac Tryz.func260 ?_;conv=>whnf
 repeat' (first|refine zx ?_|refine a1g om om om de ?_|apply zD<;>intro h<;>try omega)<;>conv=>whnf
 refine p9 d7 (σ:=Nat × LI × Int) (fun|(k,out,c)=>([k9 a,k9 b,J,J,J,a0K 0 out,eI c]++Jn 13++[k9 a,eI a.length,eI k]++Jn 32,[x9 out])) (fun x=>a8X a b x.1 x.2.1 x.2.2) (fun x=>a.length - x.1) (0,List.replicate (a.length+1) 0,0) [some 0]
  (a8X.init _ _) ⟨rfl,rfl,⟨e8 rfl rfl rfl ?_ rfl,trivial⟩,⟨l9 rfl,l9 rfl,o8 rfl zq,rfl,l9 rfl,e7 zq,rz⟩⟩ ?_
 ·show List.replicate _ _=_;simp [toC,k6,B8]
 rintro ⟨k,out,c⟩ hI;have hI:a8X a b k out c:=hI;have hlen:=hI.len;have hle:=hI.le;have hc0:=hI.c0;have hc1:=hI.c1;conv=>whnf
 have hda:=ha.dat k;have hdb:=hb.dat k
 repeat' (first|refine zx ?_|refine i6 (w7 om) ?_|refine U4 om (by show _<((out.length:Nat):Int);omega) ?_|refine s8 (Q6 rfl om) ?_|refine ⟨_,aF2.ok (by first|exact a7h|exact aj7) _,?_⟩|refine ⟨de,_,al7 _,?_⟩|apply zD<;>intro h<;>try omega)<;>conv=>whnf
 ·refine ⟨[some 0],(k+1,out.set k ((c+dat a k+dat b k) % 1048576),(c+dat a k+dat b k) / 1048576),⟨rfl,rfl,⟨e8 rfl rfl rfl (O0 om) rfl,trivial⟩,⟨rfl,rfl,o8 rfl zq,rfl,rfl,rfl,e7 om,trivial⟩⟩,hI.step ha hb om,?_⟩;show a.length - (k+1)<a.length - k;omega
 ·have e:dat b k=0:=S5 om;have hst:=hI.step ha hb om;rw [e,a8Q] at hst;refine ⟨[some 0],(k+1,out.set k ((c+dat a k) % 1048576),(c+dat a k) / 1048576),⟨rfl,rfl,⟨e8 rfl rfl rfl (O0 om) rfl,trivial⟩,⟨rfl,rfl,o8 rfl zq,rfl,rfl,rfl,e7 om,trivial⟩⟩,hst,?_⟩;show a.length - (k+1)<a.length - k;omega
 ·have hk:k=a.length:=by omega
  subst hk;have hf:=hI.fin om;have t:=a4v (out.set a.length c) zo;rw [hf] at t;refine .inr ⟨_,_,y4 [0] t ⟨a1z (u5 zq rfl zi rfl (O0 om) zq),trivial⟩ rfl,?_⟩;conv=>whnf
  exact ao9 (by rw [al1])
def bn3 (a b:LI) (ha:Okd a) (hb:Okd b) (la:a.length<=400000) (lb:b.length<=400000) (hab:a.length<b.length):
 ec 260 [k9 a,k9 b] [] (k9 (dg (val a+val b).toNat)) []:=by
 have l1:(a.map k6).length=a.length:=zq;have l2:(b.map k6).length=b.length:=zq;refine ac Tryz.func260 ?_;conv=>whnf
 repeat' (first|refine zx ?_|refine a1g om om om de ?_|apply zD<;>intro h<;>try omega)<;>conv=>whnf
 refine p9 d7 (σ:=Nat × LI × Int) (fun|(k,out,c)=>([k9 b,k9 a,J,J,J,a0K 0 out,eI c]++Jn 13++[k9 b,eI b.length,eI k]++Jn 32,[x9 out])) (fun x=>a8X b a x.1 x.2.1 x.2.2) (fun x=>b.length - x.1) (0,List.replicate (b.length+1) 0,0) [some 0]
  (a8X.init _ _) ⟨rfl,rfl,⟨e8 rfl rfl rfl ?_ rfl,trivial⟩,⟨l9 rfl,l9 rfl,o8 rfl zq,rfl,l9 rfl,e7 zq,rz⟩⟩ ?_
 ·show List.replicate _ _=_;simp [toC,k6,B8]
 rintro ⟨k,out,c⟩ hI;have hI:a8X b a k out c:=hI;have hlen:=hI.len;have hle:=hI.le;have hc0:=hI.c0;have hc1:=hI.c1;conv=>whnf
 have hda:=hb.dat k;have hdb:=ha.dat k
 repeat' (first|refine zx ?_|refine i6 (w7 om) ?_|refine U4 om (by show _<((out.length:Nat):Int);omega) ?_|refine s8 (Q6 rfl om) ?_|refine ⟨_,aF2.ok (by first|exact a7h|exact aj7) _,?_⟩|refine ⟨de,_,al7 _,?_⟩|apply zD<;>intro h<;>try omega)<;>conv=>whnf
 ·refine ⟨[some 0],(k+1,out.set k ((c+dat b k+dat a k) % 1048576),(c+dat b k+dat a k) / 1048576),⟨rfl,rfl,⟨e8 rfl rfl rfl (O0 om) rfl,trivial⟩,⟨rfl,rfl,o8 rfl zq,rfl,rfl,rfl,e7 om,trivial⟩⟩,hI.step hb ha om,?_⟩;show b.length - (k+1)<b.length - k;omega
 ·have e:dat a k=0:=S5 om;have hst:=hI.step hb ha om;rw [e,a8Q] at hst;refine ⟨[some 0],(k+1,out.set k ((c+dat b k) % 1048576),(c+dat b k) / 1048576),⟨rfl,rfl,⟨e8 rfl rfl rfl (O0 om) rfl,trivial⟩,⟨rfl,rfl,o8 rfl zq,rfl,rfl,rfl,e7 om,trivial⟩⟩,hst,?_⟩;show b.length - (k+1)<b.length - k;omega
 ·have hk:k=b.length:=by omega
  subst hk;have hf:=hI.fin om;have t:=a4v (out.set b.length c) zo;rw [hf] at t;refine .inr ⟨_,_,y4 [0] t ⟨a1z (u5 zq rfl zi rfl (O0 om) zq),trivial⟩ rfl,?_⟩;conv=>whnf
  exact ao9 (by rw [al1])
def br1 (a b:LI) (ha:Okd a) (hb:Okd b) (la:a.length<=400000) (lb:b.length<=400000):
 ec 260 [k9 a,k9 b] [] (k9 (dg (val a+val b).toNat)) []:=by
 rcases F6 a.length b.length with h|h
 ·exact bn3 a b ha hb la lb h
 ·exact bh5 a b ha hb la lb h
def bp1 (a b:LI) (ha:Okd a) (hb:Okd b) (la:a.length<=400000) (lb:b.length<=a.length) (hv:val b<=val a):
 ec 261 [k9 a,k9 b] [] (k9 (dg (val a - val b).toNat)) []:=by
 have l1:(a.map k6).length=a.length:=zq;have l2:(b.map k6).length=b.length:=zq;refine ac Tryz.func261 ?_;conv=>whnf
 repeat' (first|refine zx ?_|apply zD<;>intro h<;>try omega)<;>conv=>whnf
 refine .inr ⟨_,_,aw3 (b4B a om) rfl rfl rfl rfl,?_⟩;conv=>whnf
 repeat' (first|refine zx ?_|apply zD<;>intro h<;>try omega)<;>conv=>whnf
 refine p9 d7 (σ:=Nat × LI × Int) (fun|(k,out,c)=>([J,k9 b,J,J,J,a0K 0 out,eI c,J,J,J,J,J,eI a.length,eI k]++Jn 29,[x9 out])) (fun x=>as6 a b x.1 x.2.1 x.2.2) (fun x=>a.length - x.1) (0,a,0) [some 0]
  (as6.init ha) ⟨rfl,rfl,⟨e8 rfl rfl rfl rfl rfl,trivial⟩,⟨l9 rfl,o8 rfl rfl,rfl,e7 zq,rz⟩⟩ ?_
 rintro ⟨k,out,c⟩ hI;have hI:as6 a b k out c:=hI;have hlen:=hI.len;have hle:=hI.le;have hc0:=hI.c0;have hc1:=hI.c1;conv=>whnf
 have hda:=hI.ok.dat k;have hdb:=hb.dat k
 repeat' (first|refine zx ?_|refine i6 (w7 om) ?_|refine U4 om (by show _<((out.length:Nat):Int);omega) ?_|refine s8 (Q6 (i:=k) rfl om) ?_|refine ⟨_,aF2.ok (by first|exact a7h|exact aj7) _,?_⟩|refine ⟨de,_,al7 _,?_⟩|apply zD<;>intro h<;>try omega)<;>conv=>whnf
 ·refine ⟨[some 0],(k+1,out.set k ((dat out k - c - dat b k) % 1048576),(dat out k - c - dat b k) / 1048576 % 2),⟨rfl,rfl,⟨e8 rfl rfl rfl (O0 om) rfl,trivial⟩,⟨rfl,o8 rfl zq,rfl,rfl,e7 om,trivial⟩⟩,hI.step ha hb om,?_⟩;show a.length - (k+1)<a.length - k;omega
 ·have e:dat b k=0:=S5 om;have hst:=hI.step ha hb om;rw [e,Int.sub_zero] at hst;refine ⟨[some 0],(k+1,out.set k ((dat out k - c) % 1048576),(dat out k - c) / 1048576 % 2),⟨rfl,rfl,⟨e8 rfl rfl rfl (O0 om) rfl,trivial⟩,⟨rfl,o8 rfl zq,rfl,rfl,e7 om,trivial⟩⟩,hst,?_⟩;show a.length - (k+1)<a.length - k;omega
 ·have hk:k=a.length:=by omega
  subst hk;have hf:=hI.fin om hv;have t:=a4v out om;rw [hf] at t;refine .inr ⟨_,_,y4 [0] t ⟨a1z (u5 zq rfl zi rfl rfl zq),trivial⟩ rfl,?_⟩;conv=>whnf
  exact ao9 rfl
def bb2 (a b:LI) (ha:Okd a) (hb:Okd b) (la:a.length<=400000) (lb:b.length<=400000):
 ec 264 [k9 a,k9 b] [] (k9 (dg (val a*val b).toNat)) []:=by
 have l1:(a.map k6).length=a.length:=zq;have l2:(b.map k6).length=b.length:=zq;refine ac Tryz.func264 ?_;conv=>whnf
 repeat' (first|refine zx ?_|refine a1g om om om de ?_|apply zD<;>intro h<;>try omega)<;>conv=>whnf
 refine p9 d7 (σ:=Nat × LI) (fun|(i,out)=>([J,k9 b,J,J,J,a0K 0 out]++Jn 12++[k9 a,eI a.length,eI i]++Jn 46,[x9 out])) (fun x=>a4Z a b x.1 x.2) (fun x=>a.length - x.1) (0,List.replicate (a.length+b.length) 0) [some 0]
  (a4Z.init a b) ⟨rfl,rfl,⟨e8 rfl rfl rfl ?_ rfl,trivial⟩,⟨l9 rfl,o8 rfl zo,l9 rfl,e7 zq,rz⟩⟩ ?_
 ·show List.replicate _ _=_;rw [show ((((a.map k6).length:Nat):Int)+((b.map k6).length:Nat)).toNat=a.length+b.length by omega];simp [toC,k6,B8]
 rintro ⟨i,out⟩ hI;have hI:a4Z a b i out:=hI;have hlen:=hI.len;have hle:=hI.le;conv=>whnf
 repeat' (first|refine zx ?_|refine i6 (w7 om) ?_|apply zD<;>intro h<;>try omega)<;>conv=>whnf
 ·have hi:i<a.length:=by omega
  refine p9 d7 (σ:=Nat × LI × Int) (fun|(k,out,c)=>([J,k9 b,J,J,J,a0K 0 out,eI i,eI (dat a i),eI c,J,J,J,J,J,J,J,J,J,k9 a,eI a.length,eI i,J,J,J,J,k9 b,eI b.length,eI k]++Jn 39,[x9 out])) (fun x=>aj9 a b i x.1 x.2.1 x.2.2) (fun x=>b.length - x.1) (0,out,0) [some 0]
   hI.start ⟨rfl,rfl,⟨e8 rfl rfl rfl rfl rfl,trivial⟩,⟨l9 rfl,o8 rfl rfl,rfl,rfl,rfl,l9 rfl,rfl,rfl,l9 rfl,e7 zq,rz⟩⟩ ?_
  rintro ⟨k,out,c⟩ hK;have hK:aj9 a b i k out c:=hK;have hlen:=hK.len;have hle:=hK.le;have hc0:=hK.c0;have hc1:=hK.c1;conv=>whnf
  have hdo:=hK.ok.dat (i+k);have hm:=a44 (ha.dat i) (hb.dat k);have e1:((i:Int)+k).toNat=i+k:=om;have e2:((i:Int)+b.length).toNat=i+b.length:=om;have e3:((i:Int)+((b.map k6).length:Nat)).toNat=i+b.length:=om;have hz:=hK.zero (i+b.length) (lbQ _)
  repeat' (first|refine zx ?_|refine i6 (w7 om) ?_|refine U4 om (by show _<((out.length:Nat):Int);omega) ?_|refine s8 (Q6 e1 om) ?_|refine s8 (Q6 e3 om) ?_|refine ⟨_,aF2.ok (by first|exact a7h|exact aj7) _,?_⟩|refine ⟨de,_,al7 _,?_⟩|apply zD<;>intro h<;>try omega)<;>conv=>whnf
  ·refine ⟨[some 0],(k+1,out.set (i+k) ((dat out (i+k)+dat a i*dat b k+c) % 1048576),(dat out (i+k)+dat a i*dat b k+c) / 1048576),⟨rfl,rfl,⟨e8 rfl rfl rfl (O0 om) rfl,trivial⟩,⟨rfl,o8 rfl zq,rfl,rfl,rfl,rfl,rfl,rfl,rfl,rfl,e7 om,trivial⟩⟩,hK.step ha hb hi om,?_⟩;show b.length - (k+1)<b.length - k;omega
  ·have hk:k=b.length:=by omega
   subst hk;refine ⟨[some 0],(i+1,out.set (i+b.length) (dat out (i+b.length)+c)),⟨rfl,rfl,⟨e8 rfl rfl rfl (O0 om) rfl,trivial⟩,⟨rfl,o8 rfl zq,rfl,rfl,e7 om,trivial⟩⟩,hK.done ha hb hi,?_⟩;show a.length - (i+1)<a.length - i;omega
 ·have hi:i=a.length:=by omega
  subst hi;have hf:=hI.fin;have t:=a4v out om;rw [hf] at t;refine .inr ⟨_,_,y4 [0] t ⟨a1z (u5 zq rfl zi rfl rfl zq),trivial⟩ rfl,?_⟩;conv=>whnf
  exact ao9 rfl
def bm7 (a b:LI) (ha:Okd a) (hb:Okd b) (la:a.length<=400000) (lb:b.length<=400000):
 ec 264 [k9 a,k9 b] [] (.c (.own 0 0 (dg (val a*val b).toNat).length true)) [x9 (a0B (a.length+b.length) (dg (val a*val b).toNat))]:=by
 have l1:(a.map k6).length=a.length:=zq;have l2:(b.map k6).length=b.length:=zq;refine ac Tryz.func264 ?_;conv=>whnf
 repeat' (first|refine zx ?_|refine a1g om om om de ?_|apply zD<;>intro h<;>try omega)<;>conv=>whnf
 refine p9 d7 (σ:=Nat × LI) (fun|(i,out)=>([J,k9 b,J,J,J,a0K 0 out]++Jn 12++[k9 a,eI a.length,eI i]++Jn 46,[x9 out])) (fun x=>a4Z a b x.1 x.2) (fun x=>a.length - x.1) (0,List.replicate (a.length+b.length) 0) [some 0]
  (a4Z.init a b) ⟨rfl,rfl,⟨e8 rfl rfl rfl ?_ rfl,trivial⟩,⟨l9 rfl,o8 rfl zo,l9 rfl,e7 zq,rz⟩⟩ ?_
 ·show List.replicate _ _=_;rw [show ((((a.map k6).length:Nat):Int)+((b.map k6).length:Nat)).toNat=a.length+b.length by omega];simp [toC,k6,B8]
 rintro ⟨i,out⟩ hI;have hI:a4Z a b i out:=hI;have hlen:=hI.len;have hle:=hI.le;conv=>whnf
 repeat' (first|refine zx ?_|refine i6 (w7 om) ?_|apply zD<;>intro h<;>try omega)<;>conv=>whnf
 ·have hi:i<a.length:=by omega
  refine p9 d7 (σ:=Nat × LI × Int) (fun|(k,out,c)=>([J,k9 b,J,J,J,a0K 0 out,eI i,eI (dat a i),eI c,J,J,J,J,J,J,J,J,J,k9 a,eI a.length,eI i,J,J,J,J,k9 b,eI b.length,eI k]++Jn 39,[x9 out])) (fun x=>aj9 a b i x.1 x.2.1 x.2.2) (fun x=>b.length - x.1) (0,out,0) [some 0]
   hI.start ⟨rfl,rfl,⟨e8 rfl rfl rfl rfl rfl,trivial⟩,⟨l9 rfl,o8 rfl rfl,rfl,rfl,rfl,l9 rfl,rfl,rfl,l9 rfl,e7 zq,rz⟩⟩ ?_
  rintro ⟨k,out,c⟩ hK;have hK:aj9 a b i k out c:=hK;have hlen:=hK.len;have hle:=hK.le;have hc0:=hK.c0;have hc1:=hK.c1;conv=>whnf
  have hdo:=hK.ok.dat (i+k);have hm:=a44 (ha.dat i) (hb.dat k);have e1:((i:Int)+k).toNat=i+k:=om;have e2:((i:Int)+b.length).toNat=i+b.length:=om;have e3:((i:Int)+((b.map k6).length:Nat)).toNat=i+b.length:=om;have hz:=hK.zero (i+b.length) (lbQ _)
  repeat' (first|refine zx ?_|refine i6 (w7 om) ?_|refine U4 om (by show _<((out.length:Nat):Int);omega) ?_|refine s8 (Q6 e1 om) ?_|refine s8 (Q6 e3 om) ?_|refine ⟨_,aF2.ok (by first|exact a7h|exact aj7) _,?_⟩|refine ⟨de,_,al7 _,?_⟩|apply zD<;>intro h<;>try omega)<;>conv=>whnf
  ·refine ⟨[some 0],(k+1,out.set (i+k) ((dat out (i+k)+dat a i*dat b k+c) % 1048576),(dat out (i+k)+dat a i*dat b k+c) / 1048576),⟨rfl,rfl,⟨e8 rfl rfl rfl (O0 om) rfl,trivial⟩,⟨rfl,o8 rfl zq,rfl,rfl,rfl,rfl,rfl,rfl,rfl,rfl,e7 om,trivial⟩⟩,hK.step ha hb hi om,?_⟩;show b.length - (k+1)<b.length - k;omega
  ·have hk:k=b.length:=by omega
   subst hk;refine ⟨[some 0],(i+1,out.set (i+b.length) (dat out (i+b.length)+c)),⟨rfl,rfl,⟨e8 rfl rfl rfl (O0 om) rfl,trivial⟩,⟨rfl,o8 rfl zq,rfl,rfl,e7 om,trivial⟩⟩,hK.done ha hb hi,?_⟩;show a.length - (i+1)<a.length - i;omega
 ·have hi:i=a.length:=by omega
  subst hi;have hf:=hI.fin;have t:=b9f out om;have hp:=aA9 out;rw [hf] at t hp;refine .inr ⟨_,_,t,?_⟩;conv=>whnf
  have hq:a0B (a.length+b.length) (dg (val a*val b).toNat)=out:=by unfold a0B;rw [← hlen];exact hp
  rw [hq];exact ⟨⟨[some 0],rfl,rfl,⟨e8 rfl rfl rfl rfl rfl,trivial⟩,⟨rfl,rfl,rfl,fun h=>h⟩⟩⟩
def b77 {r:Int} (h0:0<=r) (h1:r<4398046511104):J2 .i64 (r*2 ^ min (20:Int).toNat (IntKind.bits .i64)) (r*1048576):=by
 show J2 .i64 (r*1048576) (r*1048576);exact a2O om om
def bk2 {k:IntKind} (hk:k.bits=64) (R X:Nat) (h1:R<4398046511104) (hx:X<1048576):(BitVec.ofInt k.bits ((R:Int)*1048576) ||| BitVec.ofInt k.bits (X:Int)).toNat=R*1048576+X:=by
 rw [hk,BitVec.toNat_or,BitVec.toNat_ofInt,BitVec.toNat_ofInt];have e1:(((R:Int)*1048576) % ((2 ^ 64:Nat):Int)).toNat=R <<< 20:=by
  rw [Nat.shiftLeft_eq];omega
 have e2:((X:Int) % ((2 ^ 64:Nat):Int)).toNat=X:=om;rw [e1,e2,←Nat.shiftLeft_add_eq_or_of_lt om,Nat.shiftLeft_eq]
def bo1 {r x:Int} (h0:0<=r) (h1:r<4398046511104) (hx0:0<=x) (hx1:x<1048576):a01 .or .i64 (r*1048576) x (r*1048576+x):=by
 obtain ⟨R,rfl⟩:=a5p h0;obtain ⟨X,rfl⟩:=a5p hx0;unfold a01;simp only;rw [bk2 rfl R X om om];have e:((R*1048576+X:Nat):Int)=(R:Int)*1048576+X:=zq;rw [e];exact (show J2 .i64 ((R:Int)*1048576+X) _ from a2O om om)
def b6j {a b:Int} (h0:0<=a) (h1:a<=9223372036854775807) (hb:0<b):J2 .i64 (a.tdiv b) (a / b):=by
 rw [a48 h0];have h2:0<=a / b:=aq7 h0 om;have h3:a / b<=a:=Int.ediv_le_self _ h0;exact a2O om om
def b41 {l:LI} {n:Nat} (h:0<n) (hn:n<=l.length):l[0+((n:Int) - 1).toNat]? =some (dat l (n - 1)):=by rw [P9];exact a1W h hn
def b38 (a:LI) (d:Int) (ha:Okd a) (la:a.length<=1000000) (hd:0<d) (hd2:d<1048576):
 ec 307 [k9 a,eI d] [] (.tup [k9 (dg (val a / d).toNat),eI (val a % d)]) []:=by
 have l1:(a.map k6).length=a.length:=zq;refine ac Tryz.func307 ?_;conv=>whnf
 repeat' (first|refine zx ?_|refine a1g om om om de ?_|apply zD<;>intro h<;>try omega)<;>conv=>whnf
 refine p9 d7 (σ:=Nat × LI × Int) (fun|(j,out,r)=>([k9 a,eI d,J,J,J,J,a0K 0 out,eI r,eI ((j:Int) - 1)]++Jn 29,[x9 out])) (fun x=>a0Q a d x.1 x.2.1 x.2.2) (fun x=>x.1) (a.length,List.replicate a.length 0,0) [some 0]
  (a0Q.init a hd) ⟨rfl,rfl,⟨e8 rfl rfl rfl ?_ rfl,trivial⟩,⟨l9 rfl,rfl,o8 rfl zq,rfl,e7 zq,trivial⟩⟩ ?_
 ·show List.replicate _ _=_;simp [toC,k6,B8]
 rintro ⟨j,out,r⟩ hI;have hI:a0Q a d j out r:=hI;have hlen:=hI.len;have hle:=hI.le;have hr0:=hI.r0;have hr1:=hI.r1;have hda:=ha.dat (j - 1);conv=>whnf
 repeat' (first|refine zx ?_|refine G7 om (a1W om hle) ?_|refine U4 om (by show _<((out.length:Nat):Int);omega) ?_|refine s8 (b41 om om) ?_|refine ⟨de,_,b77 om om,?_⟩|refine ⟨_,bo1 om om om om,?_⟩|refine ⟨om,_,b6j om om om,?_⟩|refine ag7 om ?_|apply zD<;>intro h<;>try omega)<;>conv=>whnf
 ·obtain ⟨j,rfl⟩:∃i,j=i+1:=⟨j - 1,om⟩;simp only [aJ3] at *;have hst:=hI.step ha hd;rw [← a5J om] at hst;refine ⟨[some 0],(j,out.set j ((r*1048576+dat a j) / d),(r*1048576+dat a j).tmod d),⟨rfl,rfl,⟨e8 rfl rfl rfl (O0 om) rfl,trivial⟩,⟨rfl,rfl,o8 rfl zq,rfl,e7 om,trivial⟩⟩,hst,?_⟩;show j<j+1;omega
 ·have hj:j=0:=by omega
  subst hj;obtain ⟨hf,hr⟩:=hI.fin ha hd;have t:=a4v out om;rw [hf] at t;refine .inr ⟨_,_,y4 [0] t ⟨a1z (u5 zq rfl zi rfl rfl zq),trivial⟩ rfl,?_⟩;conv=>whnf
  repeat' (first|refine zx ?_|apply zD<;>intro h<;>try omega)<;>conv=>whnf
  exact m9 ⟨rfl,e7 hr,trivial⟩
def b26 {pre out post:LI} {k:Nat} (h:k<out.length):(pre++out++post)[pre.length+(k:Int).toNat]? =some (dat out k):=by
 rw [lbC,lbc om,show pre.length+(k:Int).toNat - pre.length=k by omega,lbb h];exact w7 h
def a8s {pre out post:LI} {k:Nat} {v:Int} (h:k<out.length):(toC ((pre++out++post).map k6)).set (pre.length+(k:Int).toNat) [C.t (ti v)]=toC ((pre++out.set k v++post).map k6):=by
 have e:(pre++out++post).set (pre.length+k) v=pre++out.set k v++post:=by
  rw [lbC,List.set_append_right _ _ om,show pre.length+k - pre.length=k by omega,b2B _ _ h,lbC]
 rw [← e];show (toC ((pre++out++post).map k6)).set (pre.length+k) _=_;simp [toC,k6,a59]
def Y8 (w v g:Int):Int:=if g*v<=w then g else g - 1
def b6c (pre w post v:LI) (g:Int) (hw:Okd w) (hv:Okd v) (lw:w.length<=1000000) (lv:v.length<=w.length) (hg:0<=g∧g<1048576) (hgv:g*val v<=val w+val v):
 ec 308 [.c (.own 0 pre.length w.length false),k9 v,eI g] [x9 (pre++w++post)] (eI (Y8 (val w) (val v) g))
  [x9 (pre++a0B w.length (dg (val w - Y8 (val w) (val v) g*val v).toNat)++post)]:=by
 have l1:(v.map k6).length=v.length:=zq;refine ac Tryz.func308 ?_;conv=>whnf
 repeat' (first|refine zx ?_|apply zD<;>intro h<;>try omega)<;>conv=>whnf
 refine p9 d7 (σ:=Nat × LI × Int) (fun|(k,out,c)=>([S.c (C.own 0 pre.length w.length false),k9 v,eI g,J,J,J,J,eI c,J,J,J,J,J,eI w.length,eI k]++Jn 63,[x9 (pre++out++post)])) (fun x=>aa8 w v g x.1 x.2.1 x.2.2) (fun x=>w.length - x.1) (0,w,0) [some 0]
  (aa8.init g hw) ⟨rfl,rfl,⟨e8 rfl rfl rfl rfl rfl,trivial⟩,⟨⟨rfl,rfl,rfl,fun h=>h⟩,l9 rfl,rz⟩⟩ ?_
 rintro ⟨k,out,c⟩ hI;have hI:aa8 w v g k out c:=hI;have hlen:=hI.len;have hle:=hI.le;have hc0:=hI.c0;have hc1:=hI.c1;have hdo:=hI.ok.dat k;have hm:=a44 hg (hv.dat k);conv=>whnf
 repeat' (first|refine zx ?_|refine i6 (w7 om) ?_|refine s8 (b26 om) ?_|refine ⟨_,aF2.ok (by first|exact a7h|exact aj7) _,?_⟩|refine ⟨de,_,al7 _,?_⟩|apply zD<;>intro h<;>try omega)<;>conv=>whnf
 ·have hst:=hI.step hv hg om;refine ⟨[some 0],(k+1,out.set k ((dat out k - c - g*dat v k) % 1048576),-((dat out k - c - g*dat v k) / 1048576)),⟨rfl,rfl,⟨e8 rfl rfl rfl (a8s om) rfl,trivial⟩,⟨⟨rfl,rfl,rfl,fun h=>h⟩,rfl,rfl,e7 (Int.zero_sub _),rfl,e7 om,trivial⟩⟩,hst,?_⟩;show w.length - (k+1)<w.length - k;omega
 ·have hst:=hI.step hv hg om;rw [S5 (l:=v) (i:=k) om,Int.mul_zero,Int.sub_zero] at hst;refine ⟨[some 0],(k+1,out.set k ((dat out k - c) % 1048576),-((dat out k - c) / 1048576)),⟨rfl,rfl,⟨e8 rfl rfl rfl (a8s om) rfl,trivial⟩,⟨⟨rfl,rfl,rfl,fun h=>h⟩,rfl,rfl,e7 (Int.zero_sub _),rfl,e7 om,trivial⟩⟩,hst,?_⟩;show w.length - (k+1)<w.length - k;omega
 ·have hk:k=w.length:=by omega
  subst hk;have hc:c=0:=by assumption
  obtain ⟨h1,h2⟩:=hI.zero lv hw hv hg.1;have hq:Y8 (val w) (val v) g=g:=by unfold Y8;rw [if_pos (h1.1 hc)]
  rw [hq,←h2 hc,←b2o hI.ok hlen];exact ⟨⟨[some 0],rfl,rfl,⟨e8 rfl rfl rfl rfl rfl,trivial⟩,rfl⟩⟩
 ·have hk:k=w.length:=by omega
  subst hk;have hc:¬c=0:=by assumption
  obtain ⟨h1,h2⟩:=hI.zero lv hw hv hg.1;have hlt:¬g*val v<=val w:=fun h=>hc (h1.2 h)
  have hq:Y8 (val w) (val v) g=g - 1:=by unfold Y8;rw [if_neg hlt]
  have hvl:=V6 hv;have hpw:=a0p lv;rw [hq];refine p9 d7 (σ:=Nat × LI × Int) (fun|(k,o,c)=>([S.c (C.own 0 pre.length w.length false),k9 v,eI g,J,J,J,J,J,J,J,eI c]++Jn 37++[eI w.length,eI k]++Jn 28,[x9 (pre++o++post)])) (fun x=>a7K out v x.1 x.2.1 x.2.2) (fun x=>w.length - x.1) (0,out,0) [some 0]
   (a7K.init hI.ok) ⟨rfl,rfl,⟨e8 rfl rfl rfl rfl rfl,trivial⟩,⟨⟨rfl,rfl,rfl,fun h=>h⟩,l9 rfl,rz⟩⟩ ?_
  rintro ⟨k,o,c'⟩ hB;have hB:a7K out v k o c':=hB;have hlen2:=hB.len;have hle2:=hB.le;have hb0:=hB.c0;have hb1:=hB.c1;have hdo:=hB.ok.dat k;have hdv:=hv.dat k;conv=>whnf
  repeat' (first|refine zx ?_|refine i6 (w7 om) ?_|refine s8 (b26 om) ?_|refine ⟨_,aF2.ok (by first|exact a7h|exact aj7) _,?_⟩|refine ⟨de,_,al7 _,?_⟩|apply zD<;>intro h<;>try omega)<;>conv=>whnf
  ·have hst:=hB.step hv om;refine ⟨[some 0],(k+1,o.set k ((c'+dat o k+dat v k) % 1048576),(c'+dat o k+dat v k) / 1048576),⟨rfl,rfl,⟨e8 rfl rfl rfl (a8s om) rfl,trivial⟩,⟨⟨rfl,rfl,rfl,fun h=>h⟩,rfl,rfl,rfl,rfl,e7 om,trivial⟩⟩,hst,?_⟩;show w.length - (k+1)<w.length - k;omega
  ·have hst:=hB.step hv om;rw [S5 (l:=v) (i:=k) om,a8Q] at hst;refine ⟨[some 0],(k+1,o.set k ((c'+dat o k) % 1048576),(c'+dat o k) / 1048576),⟨rfl,rfl,⟨e8 rfl rfl rfl (a8s om) rfl,trivial⟩,⟨⟨rfl,rfl,rfl,fun h=>h⟩,rfl,rfl,rfl,rfl,e7 om,trivial⟩⟩,hst,?_⟩;show w.length - (k+1)<w.length - k;omega
  ·have hk:k=w.length:=by omega
   subst hk;have e:=hI.back hB lv om om;have e2:val w - (g - 1)*val v=val w - g*val v+val v:=by rw [Int.sub_mul];omega
   rw [e2,←e,←b2o hB.ok om];exact ⟨⟨[some 0],rfl,rfl,⟨e8 rfl rfl rfl rfl rfl,trivial⟩,rfl⟩⟩
abbrev b1p (m n:Nat):S:=.tup [k9 (dg (m / n)),k9 (dg (m % n))]
def bc4 (m n:Nat) (hn:0<n) (h:m<n) (lm:(dg m).length<=400000) (ln:(dg n).length<=400000):
 ec 253 [k9 (dg m),k9 (dg n)] [] (b1p m n) []:=by
 have c:=a3g (dg m) (dg n) (U2 m) (U2 n) om om;rw [s6,s6,a3P om] at c;have e1:m / n=0:=Nat.div_eq_of_lt h;have e2:m % n=m:=b2H h;unfold b1p;rw [e1,e2,Z2];refine ac Tryz.func253 ?_;conv=>whnf
 repeat' (first|refine zx ?_|refine qp (ad0 _ om) ?_|apply zD<;>intro h<;>try omega)<;>conv=>whnf
 exact m9 rz
def bf1 (m n:Nat) (hn:0<n) (h:n<=m) (hl:(dg n).length=1) (lm:(dg m).length<=400000):
 ec 253 [k9 (dg m),k9 (dg n)] [] (b1p m n) []:=by
 have l2:((dg n).map k6).length=(dg n).length:=zq;have c:=a3g (dg m) (dg n) (U2 m) (U2 n) om om;rw [s6,s6] at c;have hc:0<=M3 m n:=by unfold M3;split<;>(try split)<;>omega
 have hn2:=P6 n;rw [hl] at hn2;have hn3:(n:Int)<1048576:=by simpa [pw] using hn2
 have hd:dg n=[(n:Int)]:=by
  rw [a7x hn,show n / 1048576=0 by omega,show n % 1048576=n by omega];rfl
 have sh:=b38 (dg m) n (v6 m) om om hn3;rw [s6] at sh;have e1:((m:Int) / n).toNat=m / n:=by rw [← Int.natCast_ediv];rfl
 have e2:(m:Int) % n=((m % n:Nat):Int):=zq;rw [e1,e2] at sh;have hr:m % n<n:=a7C _ hn;have t:=a4v [((m % n:Nat):Int)] zq;rw [N2 (by intro x hx;simp at hx;omega)] at t;have e3:(val [((m % n:Nat):Int)]).toNat=m % n:=by simp only [val];omega
 rw [e3] at t;refine ac Tryz.func253 ?_;conv=>whnf
 repeat' (first|refine zx ?_|refine G7 (x:=(n:Int)) om (by rw [hd];rfl) ?_|refine .inl ⟨_,_,a2p t ⟨a1z (aI3 rfl),trivial⟩ rfl,?_⟩|apply zD<;>intro h<;>try omega)<;>conv=>whnf
 all_goals (first|omega|exact m9 rz)
def bh0 {n k:Nat} {top:Int} (hn:0<n) (ht:dat (dg n) ((dg n).length - 1)=top) (hk:k<=19) (h1:top*2 ^ k<1048576) (h2:¬top*2 ^ k<524288):
 (dg (n*2 ^ k)).length=(dg n).length∧524288<=dat (dg (n*2 ^ k)) ((dg n).length - 1):=by
 have hl:(dg n).length≠0:=by rw [Ne,a27,K8];omega
 obtain ⟨l,hl'⟩:∃l,(dg n).length=l+1:=⟨(dg n).length - 1,om⟩;rw [hl',aJ3] at ht ⊢;have e1:=u6 (dg n) l;rw [lbn om,s6,ht] at e1;have a1:=v7 ((v6 n).take l);have a2:=V6 ((v6 n).take l);rw [lbs,a2r om] at a2;have t0:=(v6 n).dat l;rw [ht] at t0;obtain ⟨T,rfl⟩:=a5p t0.1;have hp:(0:Int)<2 ^ k:=Int.pow_pos de;have hpp:=K3 l;have e2:(2:Int) ^ k*2 ^ (20 - k)=1048576:=by rw [← Int.pow_add,show k+(20 - k)=20 by omega];rfl
 have h3:(T:Int)<2 ^ (20 - k):=by
  refine b1b (a:=(2:Int) ^ k) ?_ (Q7 hp);rw [e2,a6T];exact h1
 have h4:((T:Int)+1)*2 ^ k<=1048576:=by
  have:=lbV (a:=(T:Int)+1) (b:=2 ^ (20 - k)) (c:=2 ^ k) om (Q7 hp);rw [e2,a6T] at this;exact this
 have hV:(((n*2 ^ k:Nat)):Int)=n*2 ^ k:=zq;have h5:((n*2 ^ k:Nat):Int)<pw (l+1):=by
  rw [hV,I4];have b1:(n:Int)+1<=pw l*(T+1):=by rw [ah9];omega
  have b2:=lbW (c:=(2:Int) ^ k) b1 (Q7 hp);have b3:=lbV (c:=pw l) h4 (Q7 hpp);rw [← Int.mul_assoc] at b3;rw [Int.add_mul] at b2;omega
 have h6:pw l*524288<=((n*2 ^ k:Nat):Int):=by
  rw [hV];have b1:pw l*T<=(n:Int):=om;have b2:=lbW (c:=(2:Int) ^ k) b1 (Q7 hp);have b3:=lbV (a:=524288) (b:=(T:Int)*2 ^ k) (c:=pw l) om (Q7 hpp);rw [← Int.mul_assoc] at b3;omega
 have h7:(dg (n*2 ^ k)).length=l+1:=by
  have c1:=M8 h5;rcases F6 (dg (n*2 ^ k)).length (l+1) with c2|c2
  ·have c3:=P6 (n*2 ^ k);have c4:=a0p (show (dg (n*2 ^ k)).length<=l by omega);omega
  ·omega
 refine ⟨h7,?_⟩;have f1:=u6 (dg (n*2 ^ k)) l;rw [lbn om,s6] at f1;have f2:=V6 ((v6 (n*2 ^ k)).take l);rw [lbs,a2r om] at f2;rcases a5w (dat (dg (n*2 ^ k)) l) 524288 with c|c
 ·exfalso;have:=lbV (a:=dat (dg (n*2 ^ k)) l+1) (b:=524288) (c:=pw l) om (Q7 hpp);rw [ah9] at this;omega
 ·exact c
def b6x {a a' b b':Nat} {x y:S} (h1:a=a') (h2:b=b'):[S.c (.own 0 a b false),x,y]=[S.c (.own 0 a' b' false),x,y]:=by rw [h1,h2]
def b0a {V W v1 top g r:Int} (hG:a03 V W v1 top g r) (hV:0<V) (hW:0<=W) (h1:g<1048576) (h2:g*V<=W+V):
 0<=Y8 W V g∧Y8 W V g<1048576∧0<=W - Y8 W V g*V∧W - Y8 W V g*V<V:=by
 have h3:=hG.hi;have h4:=hG.g0;rw [Int.add_mul,a1l] at h3;unfold Y8;by_cases hc:g*V<=W
 ·rw [if_pos hc];omega
 ·rw [if_neg hc,Int.sub_mul,a1l];have:g≠0:=by rintro rfl;simp at hc;omega
  omega
theorem zu {p:Prop} (h:p:=by simp [toC];omega):p:=h
def be3 (m n:Nat) (hn:0<n) (hmn:n<=m) (hl:2<=(dg n).length) (lm:(dg m).length<=300000) (ln:(dg n).length<=300000):
 ec 253 [k9 (dg m),k9 (dg n)] [] (b1p m n) []:=by
 have l1:((dg m).map k6).length=(dg m).length:=zq;have l2:((dg n).map k6).length=(dg n).length:=zq;have c:=a3g (dg m) (dg n) (U2 m) (U2 n) om om;rw [s6,s6] at c;have hc:0<=M3 m n:=by unfold M3;split<;>(try split)<;>omega
 have ht0:=(v6 n).dat ((dg n).length - 1);have ht1:dat (dg n) ((dg n).length - 1)≠0:=(U2 n).2 _ (w7 om);generalize htop:dat (dg n) ((dg n).length - 1)=top at ht0 ht1;refine ac Tryz.func253 ?_;conv=>whnf
 repeat' (first|refine zx ?_|apply zD<;>intro h<;>try omega)<;>conv=>whnf
 refine p9 d7 (σ:=Nat) (fun k=>([k9 (dg m),k9 (dg n),J,J,J,J,J,J,eI (2 ^ k)]++Jn 161,[])) (fun k=>k<=19∧top*2 ^ k<1048576) (fun k=>20 - k) 0 []
  ⟨om,om⟩ ⟨rfl,rfl,trivial,⟨l9 rfl,l9 rfl,rz⟩⟩ ?_
 rintro k ⟨hk1,hk2⟩;have hk1:k<=19:=hk1;have hk2:top*2 ^ k<1048576:=hk2;have hp0:(0:Int)<2 ^ k:=Int.pow_pos de;have hpt:0<top*2 ^ k:=a9p om hp0;have hpk:(2:Int) ^ k<=524288:=by
  have:=ak6 (n:=2) de hk1;have e:((2 ^ k:Nat):Int)=2 ^ k:=zq;omega
 have hgl:(dg n)[(((((dg n).map k6).length:Nat):Int) - 1).toNat]? =some top:=by rw [l2,←htop];exact a7B om
 conv=>whnf
 repeat' (first|refine zx ?_|refine G7 om hgl ?_|apply zD<;>intro h<;>try omega)<;>conv=>whnf
 ·have hlt:top*2 ^ k<524288:=by omega
  refine ⟨[],k+1,⟨rfl,rfl,trivial,⟨rfl,rfl,e7 (Int.pow_succ _ _).symm,trivial⟩⟩,⟨?_,?_⟩,?_⟩
  ·rcases F6 k 19 with h1|h1
   ·exact h1
   ·have:k=19:=by omega
    subst this;omega
  ·rw [Int.pow_succ,←Int.mul_assoc];omega
  ·show 20 - (k+1)<20 - k;omega
 ·have hsh:Okd [(2:Int) ^ k]:=by intro x hx;simp at hx;omega
  have mu:=bm7 (dg m) [2 ^ k] (v6 m) hsh om zq;have mv:=bb2 (dg n) [2 ^ k] (v6 n) hsh om zq;have ev:val [(2:Int) ^ k]=2 ^ k:=by simp [val]
  rw [ev,s6] at mu mv;generalize hU:((m:Int)*2 ^ k).toNat=U at mu;generalize hV:((n:Int)*2 ^ k).toNat=V at mv;refine .inr ⟨_,_,aw3 (b1M mu ⟨aN2,a1z (aI3 rfl),trivial⟩) rfl rfl rfl rfl,?_⟩;conv=>whnf
  have hVe:V=n*2 ^ k:=by
   have e:((n:Int)*2 ^ k)=((n*2 ^ k:Nat):Int):=zq;rw [← hV,e];exact lbX _
  have hUe:U=m*2 ^ k:=by
   have e:((m:Int)*2 ^ k)=((m*2 ^ k:Nat):Int):=zq;rw [← hU,e];exact lbX _
  obtain ⟨lV,hvt⟩:=bh0 hn htop hk1 hk2 h;rw [← hVe] at lV hvt;have hp1:0<2 ^ k:=Nat.pow_pos de;have lU3:(dg m).length<=(dg U).length:=q9 (by rw [hUe];exact az2 m hp1);have lU2:(dg U).length<=(dg m).length+1:=M8 (by
   have h1:=P6 m;rw [I4,hUe];have h2:=lbV (a:=2 ^ k) (b:=1048576) (c:=(m:Int)+1) om om;have h3:(((m*2 ^ k:Nat)):Int)=m*2 ^ k:=zq;rw [Int.add_mul] at h2;omega)
  have lU1:(a0B ((dg m).length+[(2:Int) ^ k].length) (dg U)).length<=300001:=by rw [aB5 (by simpa using lU2)];simp;omega
  have l3:((dg V).map k6).length=(dg V).length:=zq;have lmn:(dg n).length<=(dg m).length:=q9 hmn;have l4:(toC [[T.atm (Value.int .i64 0)]]).length=1:=rfl
  repeat' (first|refine zx ?_|refine w6 (by simp [toC,a0B]) zu ?_|refine .inl ⟨_,_,a2p mv ⟨aN2,a1z (aI3 rfl),trivial⟩ rfl,?_⟩|refine a1g om om om de ?_|apply zD<;>intro h<;>try omega)<;>conv=>whnf
  have hV0:0<V:=by rw [hVe];exact Nat.mul_pos hn hp1
  refine p9 d7 (σ:=Nat × LI × LI) (fun|(j,u,q)=>(Jn 8++[eI (2 ^ k),a0K 0 u,k9 (dg V),eI (dg V).length,a0K 1 q,eI ((j:Int) - 1)]++Jn 156,[x9 u,x9 q])) (fun x=>ab3 U V ((dg U).length+1) (dg V).length x.1 x.2.1 x.2.2) (fun x=>x.1)
   ((dg U).length+1 - (dg V).length,dg U++[0],List.replicate ((dg U).length+1 - (dg V).length) 0) [some 1,some 2]
   (ab3.init hV0 om) ⟨rfl,rfl,⟨e8 rfl rfl rfl ?_ rfl,e8 rfl rfl rfl ?_ rfl,trivial⟩,⟨rfl,o8 rfl ?_,l9 rfl,e7 om,o8 rfl ?_,e7 ?_,trivial⟩⟩ ?_
  ·simp [toC,D4,a0B,lbB,List.take_append,k6]
  ·show List.replicate _ _=_;simp [toC,k6,B8]
  ·simp [toC]
  ·simp [toC]
  ·simp [toC]
  rintro ⟨j,u,q⟩ hD;have hD:ab3 U V ((dg U).length+1) (dg V).length j u q:=hD;have hlu:=hD.lu;have hlq:=hD.lq;have hle:=hD.le;have hdt:0<j->dat u (j - 1+(dg V).length)=dat u (j - 1+(dg V).length):=fun _=>rfl
  have gu0:0<j->u[0+(((j:Int) - 1)+(dg V).length).toNat]? =some (dat u (j - 1+(dg V).length)):=fun h=>Q6 om om
  have gu1:0<j->u[0+(((j:Int) - 1)+(dg V).length - 1).toNat]? =some (dat u (j - 1+(dg V).length - 1)):=fun h=>Q6 om om
  have d0:=hD.oku.dat (j - 1+(dg V).length);have d1:=hD.oku.dat (j - 1+(dg V).length - 1);have dv:=(v6 V).dat ((dg V).length - 1);have hvt2:524288<=dat (dg V) ((dg V).length - 1):=by rw [lV];exact hvt
  conv=>whnf
  repeat' (first|refine zx ?_|refine U4 om (by show _<((u.length:Nat):Int);omega) ?_|refine s8 (gu0 om) ?_|refine s8 (gu1 om) ?_|refine ⟨de,_,b77 om om,?_⟩|refine ⟨_,bo1 om om om om,?_⟩|refine G7 om (a7B om) ?_|refine ⟨om,_,b6j om om om,?_⟩|refine ag7 om ?_|apply zD<;>intro h<;>try omega)<;>conv=>whnf
  ·have hj:0<j:=by omega
   obtain ⟨i,rfl⟩:∃i,j=i+1:=⟨j - 1,om⟩;simp only [aJ3] at *;obtain ⟨L,hL⟩:∃L,(dg V).length=L+2:=⟨(dg V).length - 2,om⟩;obtain ⟨w3,w2,w0,wv,wz,wlt⟩:=hD.window rfl;generalize hw:(u.drop i).take ((dg V).length+1)=w at w3 w2 wv wlt;have hwo:Okd w:=by rw [← hw];exact (hD.oku.drop i).take _
   have dw:∀t,t<=(dg V).length->dat w t=dat u (i+t):=fun t ht=>by
    rw [← hw];unfold dat;rw [lbl,lbi,if_pos om,lbj,←lbl]
   have win:=Win.of (v6 V) hwo hL om (by rw [hL] at hvt2;exact hvt2) (by rw [s6];exact wlt);rw [dw (L+2) om,dw (L+1) om,dw L om,s6] at win;have eL1:(dg V).length - 1=L+1:=om;have eu0:i+(L+2)=i+(dg V).length:=om;have eu1:i+(L+1)=i+(dg V).length - 1:=om;rw [eu0,eu1] at win;generalize ht:dat u (i+(dg V).length)*1048576+dat u (i+(dg V).length - 1)=top2 at win;have win':=win;have ht0:=win.t0;refine p9 d7 (σ:=Int × Int) (fun|(g,r)=>(Jn 8++[eI (2 ^ k),a0K 0 u,k9 (dg V),eI (dg V).length,a0K 1 q,eI i,J,eI g,eI r]++Jn 153,[x9 u,x9 q])) (fun x=>a03 V (val w) (dat (dg V) (L+1)) top2 x.1 x.2) (fun x=>x.1.toNat)
    (top2 / dat (dg V) (L+1),top2 % dat (dg V) (L+1)) [some 0,some 1]
    (a03.init win) ⟨rfl,rfl,⟨e8 rfl rfl rfl rfl rfl,e8 rfl rfl rfl rfl rfl,trivial⟩,⟨rfl,o8 rfl rfl,l9 rfl,rfl,o8 rfl rfl,e7 om,e7 ?_,e7 ?_,trivial⟩⟩ ?_
   ·rw [eL1]
   ·rw [eL1,a5J ht0]
   rintro ⟨g,r⟩ hG;have hG:a03 V (val w) (dat (dg V) (L+1)) top2 g r:=hG;have hg0:=hG.g0;have hgu:=hG.gu;have hr0:=hG.r0;have hru:=hG.ru;have dv2:=(v6 V).dat L;have dv1:=(v6 V).dat (L+1);have du2:=hD.oku.dat (i+L);have hgm:0<=g*dat (dg V) L∧g*dat (dg V) L<=2097152*1048576:=⟨lbZ hg0 dv2.1,a4y hgu om dv2.1 om⟩;have gv2:(dg V)[((((dg V).length:Nat):Int) - 2).toNat]? =some (dat (dg V) L):=by rw [show ((((dg V).length:Nat):Int) - 2).toNat=L by omega];exact w7 om
   have gv1:(dg V)[((((dg V).length:Nat):Int) - 1).toNat]? =some (dat (dg V) (L+1)):=by rw [show ((((dg V).length:Nat):Int) - 1).toNat=L+1 by omega];exact w7 om
   have gu2:u[0+((i:Int)+((dg V).length:Nat) - 2).toNat]? =some (dat u (i+L)):=Q6 om om;conv=>whnf
   repeat' (first|refine zx ?_|refine U4 om (by show _<((u.length:Nat):Int);omega) ?_|refine G7 om gv2 ?_|refine G7 om gv1 ?_|refine s8 gu2 ?_|refine ⟨de,_,b77 om om,?_⟩|refine ⟨_,bo1 om om om om,?_⟩|refine a2f om om (by show _<=((u.length:Nat):Int);omega) ?_|apply zD<;>intro h<;>try omega)<;>conv=>whnf
   ·have hgc:1048576<=g:=by omega
    have hst:=a03.step win hG (.inl hgc) (v7 hwo);exact ⟨[some 0,some 1],(g - 1,r+dat (dg V) (L+1)),⟨rfl,rfl,⟨e8 rfl rfl rfl rfl rfl,e8 rfl rfl rfl rfl rfl,trivial⟩,⟨rfl,o8 rfl rfl,rfl,rfl,o8 rfl rfl,rz⟩⟩,hst,by have:=hst.g0;show (g - 1).toNat<g.toNat;omega⟩
   ·have hgc:r<1048576∧r*1048576+dat u (i+L)<g*dat (dg V) L:=by omega
    have hst:=a03.step win hG (.inr hgc) (v7 hwo);exact ⟨[some 0,some 1],(g - 1,r+dat (dg V) (L+1)),⟨rfl,rfl,⟨e8 rfl rfl rfl rfl rfl,e8 rfl rfl rfl rfl rfl,trivial⟩,⟨rfl,o8 rfl rfl,rfl,rfl,o8 rfl rfl,rz⟩⟩,hst,by have:=hst.g0;show (g - 1).toNat<g.toNat;omega⟩
   all_goals
    have hgc:¬(1048576<=g∨(r<1048576∧r*1048576+dat u (i+L)<g*dat (dg V) L)):=om;obtain ⟨hg1,hgV⟩:=a03.fin win hG hgc (by
     have h1:=win.Vl;have h3:=win.v1l;have h2:=lbV (a:=1048576) (b:=dat (dg V) (L+1)*1048576+dat (dg V) L) om (Q7 win.P0);omega)
    have st:=b6c (u.take i) w (u.drop (i+((dg V).length+1))) (dg V) g hwo (v6 V) om om ⟨hg0,hg1⟩ (by rw [s6];exact hgV);rw [s6] at st;obtain ⟨q0,q1,q2,q3⟩:=b0a hG om (v7 hwo) hg1 hgV;have hds:=hD.step rfl hV0 ⟨q0,q1⟩ (by rw [hw];exact q2) (by rw [hw];exact q3);rw [hw] at hds;generalize Y8 (val w) V g=Q at st q0 q1 q2 q3 hds;rw [← w3,w2] at st;generalize hu':u.take i++a0B ((dg V).length+1) (dg (val w - Q*V).toNat)++u.drop (i+((dg V).length+1))=u' at st hds;refine .inr ⟨_,_,Q8 (H':=[x9 u',x9 q]) [0] st (b6x (by rw [w0];omega) om) rfl rfl de ?_ zq zq rfl rfl rfl ?_ ?_,?_⟩
    ·intro i k hk
     match i,hk with
     |0,hk=>
      injection hk with hk;subst hk;exact ⟨rfl,rfl,a4H _,_,rfl,z4 rfl⟩
    ·intro i k hk
     match i,hk with
     |0,hk=>
      injection hk with hk;subst hk;exact ⟨_,rfl,z4 rfl⟩
    ·intro j hj hn
     match j,hj with
     |0,_=>simp at hn
     |1,_=>rfl
    conv=>whnf
    have hlu':=hds.lu;refine zz ?_;conv=>whnf
    repeat' (first|refine zx ?_|refine s8 (Q6 rfl om) ?_|apply zD<;>intro h<;>try omega)<;>conv=>whnf
    exact ⟨[some 0,some 1],(i,u',q.set i Q),⟨rfl,rfl,⟨e8 rfl rfl rfl rfl rfl,e8 rfl rfl rfl (O0 (i:=i) (n:=(i:Int)) zq) rfl,trivial⟩,⟨rfl,o8 rfl (hlu.trans hlu'.symm),rfl,rfl,o8 rfl zq,rz⟩⟩,hds,by show i<i+1;omega⟩
  ·have hj:j=0:=by omega
   subst hj;obtain ⟨fq,fu⟩:=hD.fin hV0;have tu:=a4v u om;rw [N2 hD.oku,fu,lbX] at tu;have tq:=a4v q om;rw [N2 hD.okq,fq,lbX] at tq;have lUV:(dg (U % V)).length<=(dg U).length:=q9 (Nat.mod_le _ _);have sh:=b38 (dg (U % V)) (2 ^ k) (v6 _) om om om;have e1:U % V / 2 ^ k=m % n:=by rw [hUe,hVe,Nat.mul_mod_mul_right,Nat.mul_div_cancel _ hp1]
   have e2:U / V=m / n:=by rw [hUe,hVe,Nat.mul_div_mul_right _ _ hp1]
   have e3:((U % V:Nat):Int) / 2 ^ k=((m % n:Nat):Int):=by rw [← e1];simp
   rw [s6,e3,lbX] at sh;rw [e2] at tq;refine .inr ⟨_,_,y4 [0] tu ⟨a1z (u5 zq rfl zi rfl rfl zq),trivial⟩ rfl,?_⟩;conv=>whnf
   repeat' (first|refine zx ?_|apply zD<;>intro h<;>try omega)<;>conv=>whnf
   refine .inr ⟨_,_,y4 [1] tq ⟨a1z (u5 zq rfl zi rfl rfl zq),trivial⟩ rfl,?_⟩;conv=>whnf
   exact m9 rz
def ba7 (m n:Nat) (hn:0<n) (lm:(dg m).length<=300000) (ln:(dg n).length<=300000):
 ec 253 [k9 (dg m),k9 (dg n)] [] (b1p m n) []:=by
 rcases F6 m n with h|h
 ·exact bc4 m n hn h om om
 ·have h1:(dg n).length≠0:=by rw [Ne,a27,K8];omega
  by_cases hl:(dg n).length=1
  ·exact bf1 m n hn h hl om
  ·exact be3 m n hn h om lm ln
def bl (z:Int):Nat:=(dg z.natAbs).length
def a4w (m n:Nat):(dg (m+n)).length<=max (dg m).length (dg n).length+1:=by
 refine M8 ?_;have h1:=P6 m;have h2:=P6 n;have h3:=a0p (Nat.le_max_left (dg m).length (dg n).length);have h4:=a0p (Nat.le_max_right (dg m).length (dg n).length);rw [I4];omega
def a4r (m n:Nat):(dg (m*n)).length<=(dg m).length+(dg n).length:=by
 refine M8 ?_;have h1:=P6 m;have h2:=P6 n;rw [a5d];have h3:(m:Int)*n<=m*(pw (dg n).length):=lbV om om;have h4:(m:Int)*pw (dg n).length<pw (dg m).length*pw (dg n).length:=Int.mul_lt_mul_of_pos_right h1 (K3 _);have h5:((m*n:Nat):Int)=m*n:=zq;omega
def U3 (x:Int):bl (-x)=bl x:=by unfold bl;rw [a2W]
def a7k (x y:Int):bl (x+y)<=max (bl x) (bl y)+1:=lbR (q9 (Int.natAbs_add_le x y)) (a4w _ _)
def C8 (x y:Int):bl (x*y)<=bl x+bl y:=by unfold bl;rw [a2x];exact a4r _ _
def a4e {x y:Int} (h:x.natAbs<=y.natAbs):bl x<=bl y:=q9 h
def P7 {x:Int} (h0:-9223372036854775808<=x) (h1:x<=9223372036854775807):bl x<=4:=M8 (by simp only [pw];omega)
def p7 {x:Int} (h0:-1048575<=x) (h1:x<=1048575):bl x<=1:=M8 (by simp only [pw];omega)
def a94 (x y:Int) {n:Nat} (lx:bl x<=n) (ly:bl y<=n):bl (Int.gcd x y)<=n:=by
 by_cases h:x=0
 ·subst h;unfold bl at *;rw [Int.gcd_zero_left];simpa using ly
 ·refine lbR (q9 ?_) lx;simp only [aG9];exact Int.gcd_le_natAbs_left y h
def rl (x:Rat):Nat:=max (bl x.num) (bl x.den)
def E0 (x:Rat):bl x.num<=rl x:=Nat.le_max_left _ _
def D5 (x:Rat):bl x.den<=rl x:=Nat.le_max_right _ _
def S7 {p q:Int} (hq:q≠0):rl (Rat.divInt p q)<=max (bl p) (bl q):=by
 unfold rl;rw [Rat.num_divInt,Rat.den_divInt,if_neg hq];have h1:bl (q.sign*p / (q.gcd p:Nat))<=bl p:=a4e (by
  refine lbR (b1r _ _) ?_;rw [a2x];have:q.sign.natAbs=1:=by
   rcases a3a q 0 with h|h|h
   ·rw [a1n h];rfl
   ·exact absurd h hq
   ·rw [O5 h];rfl
  rw [this,Nat.one_mul];exact lbQ _)
 have h2:bl ((q.natAbs / q.gcd p:Nat):Int)<=bl q:=a4e (by simp only [aG9];exact Nat.div_le_self _ _);omega
def ae4 (x y:Rat):x+y=Rat.divInt (x.num*y.den+y.num*x.den) (x.den*y.den):=by rw [Rat.add_def',←Rat.divInt_ofNat,a30]
def aG0 (x y:Rat):x*y=Rat.divInt (x.num*y.num) (x.den*y.den):=by rw [Rat.mul_def',←Rat.divInt_ofNat,a30]
def b82 (x y:Rat):x / y=Rat.divInt (x.num*y.den) (x.den*y.num):=by
 rw [a8Z,Rat.inv_def];conv=>lhs;rw [← Rat.num_divInt_den x]
 rw [Rat.divInt_mul_divInt]
def b10 (x:Rat):(x.den:Int)≠0:=by have:=x.den_pos;omega
def af5 (x y:Rat):(x.den:Int)*y.den≠0:=Int.mul_ne_zero (b10 x) (b10 y)
def a0O (x y:Rat):rl (x+y)<=rl x+rl y+1:=by
 rw [ae4];have h1:=a7k (x.num*y.den) (y.num*x.den);have h2:=C8 x.num y.den;have h3:=C8 y.num x.den;have h4:=C8 x.den y.den;have:=S7 (p:=x.num*y.den+y.num*x.den) (af5 x y);unfold rl at *;omega
def Q5 (x:Rat):rl (-x)=rl x:=by unfold rl;rw [af6,Rat.neg_den,U3]
def aI7 (x y:Rat):rl (x - y)<=rl x+rl y+1:=by rw [b0Z];have:=a0O x (-y);rw [Q5] at this;exact this
def a39 (x y:Rat):rl (x*y)<=rl x+rl y:=by
 rw [aG0];have h2:=C8 x.num y.num;have h4:=C8 x.den y.den;have:=S7 (p:=x.num*y.num) (af5 x y);unfold rl at *;omega
def U9 (n:Int):rl (n:Rat)=max (bl n) 1:=by unfold rl;rw [a78,an0];rfl
def a1p (x y:Rat):Int:=if x<y then -1 else if y<x then 1 else 0
def b7e {x:Rat}:x.num<0↔x<0:=by rw [Rat.lt_iff];simp
def b5P {x:Rat}:0<x.num↔0<x:=by rw [Rat.lt_iff];simp
def sgR (x:Rat):Int:=if x<0 then -1 else if 0<x then 1 else 0
def a8o (x:Rat):x.num.sign=sgR x:=by
 unfold sgR;by_cases h:x<0
 ·rw [if_pos h,a1n (b7e.2 h)]
 ·rw [if_neg h];by_cases h2:0<x
  ·rw [if_pos h2,O5 (b5P.2 h2)]
  ·rw [if_neg h2];have h3:¬x.num<0:=fun e=>h (b7e.1 e)
   have h4:¬0<x.num:=fun e=>h2 (b5P.1 e)
   rw [show x.num=0 by omega];rfl
set_option maxHeartbeats 1000000
def b6J (m n:Nat) (lm:(dg m).length<=300000) (ln:(dg n).length<=300000):
 ec 260 [k9 (dg m),k9 (dg n)] [] (k9 (dg (m+n))) []:=by
 have h:=br1 (dg m) (dg n) (v6 m) (v6 n) om om;rw [s6,s6,show ((m:Int)+n).toNat=m+n by omega] at h;exact h
def ah2 (m n:Nat) (lm:(dg m).length<=300000) (h:n<=m):
 ec 261 [k9 (dg m),k9 (dg n)] [] (k9 (dg (m - n))) []:=by
 have h:=bp1 (dg m) (dg n) (v6 m) (v6 n) om (q9 h) (by rw [s6,s6];omega);rw [s6,s6,show ((m:Int) - n).toNat=m - n by omega] at h;exact h
def bh1 (m n:Nat) (lm:(dg m).length<=300000) (ln:(dg n).length<=300000):
 ec 264 [k9 (dg m),k9 (dg n)] [] (k9 (dg (m*n))) []:=by
 have h:=bb2 (dg m) (dg n) (v6 m) (v6 n) om om;rw [s6,s6,show ((m:Int)*n).toNat=m*n by rw [← a30];rfl] at h;exact h
def bg8 (m n:Nat) (lm:(dg m).length<=300000) (ln:(dg n).length<=300000):
 ec 189 [k9 (dg m),k9 (dg n)] [] (eI (M3 m n)) []:=by
 have h:=a3g (dg m) (dg n) (U2 m) (U2 n) om om;rw [s6,s6] at h;exact h
def y9 (s:Int) (k:Nat) (h:s=1∨s=-1∨k=0) (lk:(dg k).length<=700000):
 ec 191 [eI s,k9 (dg k)] [] (bgS (bz (s*k))) []:=by
 have e:=aZ1 s (dg k) om;rw [b0p (v6 k) (by rw [s6];omega),s6] at e;exact e
def Sg (s:Int) (m:Nat):Prop:=(s=0∧m=0)∨(s=1∧0<m)∨(s=-1∧0<m)
def a6P (x:Int):Sg x.sign x.natAbs:=by
 rcases C4 x with ⟨e,h1⟩|⟨e,h1⟩|⟨e,h1⟩
 ·exact .inl ⟨e,om⟩
 ·exact .inr (.inl ⟨e,om⟩)
 ·exact .inr (.inr ⟨e,om⟩)
def a7X {s:Int} {m:Nat} (h:Sg s m):bz (s*m)=⟨s,dg m⟩:=by
 rcases h with ⟨rfl,rfl⟩|⟨rfl,h⟩|⟨rfl,h⟩
 ·rfl
 ·unfold bz;rw [a1l,O5 om];rfl
 ·unfold bz;rw [a1n om];congr 2;omega
def a24 (s:Int) (m:Nat) (h:Sg s m) (lm:(dg m).length<=300000):ec 181 [bgS ⟨s,dg m⟩] [] (i9 true) []:=by
 have:=a3B ⟨s,dg m⟩ (show (dg m).length<=1000000 by omega);rw [← a7X h,a0g,a7X h] at this;exact this
def a6W {b b':Bg} {e:Int} {H1:Hp} (h:b=b'):Fin 0 (.tup [bgS b,eI e]) H1 (.tup [bgS b',eI e]) []:=by
 subst h;exact m9 rz
def I8 {a b c d:Nat} (h:a<=max b c+1) (h2:max b c+1<=d):a<=d:=lbR h h2
def bf4 (s t:Int) (m n:Nat) (hs:Sg s m) (ht:Sg t n) (lm:(dg m).length<=200000) (ln:(dg n).length<=200000):
 ec 186 [bgS ⟨s,dg m⟩,bgS ⟨t,dg n⟩] [] (.tup [bgS (bz (s*m+t*n)),eI 0]) []:=by
 have r1:=a24 s m hs om;have r2:=a24 t n ht om;have ad:=b6J m n om om;have c:=bg8 m n om om;have ls:=a4w m n;have fin:∀(z:Int) (H1:Hp),z=s*m+t*n->Fin 0 (.tup [bgS (if true then bz z else ⟨0,[]⟩),eI 0]) H1 (.tup [bgS (bz (s*m+t*n)),eI 0]) []:=fun z H1 h=>a6W (by rw [h];rfl)
 rcases hs with ⟨rfl,rfl⟩|⟨rfl,h1⟩|⟨rfl,h1⟩<;>rcases ht with ⟨rfl,rfl⟩|⟨rfl,h2⟩|⟨rfl,h2⟩
 case inl.inl=>
  have sg:=y9 (0) _ om (I8 ls om);have co:=a3V (0) (0);refine ac Tryz.func186 ?_;conv=>whnf
  repeat' (first|refine zx ?_|refine qp (K7 true _) ?_|refine ⟨_,D7 (y:=0) rfl de de,?_⟩|apply zD<;>intro h<;>try omega)<;>conv=>whnf
  all_goals first|omega|exact fin _ _ om
 case inl.inr.inl=>
  have sg:=y9 (1) _ om (I8 ls om);have co:=a3V (0) (1);refine ac Tryz.func186 ?_;conv=>whnf
  repeat' (first|refine zx ?_|refine qp (K7 true _) ?_|refine ⟨_,D7 (y:=0) rfl de de,?_⟩|apply zD<;>intro h<;>try omega)<;>conv=>whnf
  all_goals first|omega|exact fin _ _ om
 case inl.inr.inr=>
  have sg:=y9 (-1) _ om (I8 ls om);have co:=a3V (0) (-1);refine ac Tryz.func186 ?_;conv=>whnf
  repeat' (first|refine zx ?_|refine qp (K7 true _) ?_|refine ⟨_,D7 (y:=0) rfl de de,?_⟩|apply zD<;>intro h<;>try omega)<;>conv=>whnf
  all_goals first|omega|exact fin _ _ om
 case inr.inl.inl=>
  have sg:=y9 (1) _ om (I8 ls om);have co:=a3V (1) (0);refine ac Tryz.func186 ?_;conv=>whnf
  repeat' (first|refine zx ?_|refine qp (K7 true _) ?_|refine ⟨_,D7 (y:=0) rfl de de,?_⟩|apply zD<;>intro h<;>try omega)<;>conv=>whnf
  all_goals first|omega|exact fin _ _ om
 case inr.inr.inl=>
  have sg:=y9 (-1) _ om (I8 ls om);have co:=a3V (-1) (0);refine ac Tryz.func186 ?_;conv=>whnf
  repeat' (first|refine zx ?_|refine qp (K7 true _) ?_|refine ⟨_,D7 (y:=0) rfl de de,?_⟩|apply zD<;>intro h<;>try omega)<;>conv=>whnf
  all_goals first|omega|exact fin _ _ om
 case inr.inl.inr.inl=>
  have sg:=y9 (1) _ om (I8 ls om);have co:=a3V (1) (1);refine ac Tryz.func186 ?_;conv=>whnf
  repeat' (first|refine zx ?_|refine qp (K7 true _) ?_|refine ⟨_,D7 (y:=1) rfl de de,?_⟩|apply zD<;>intro h<;>try omega)<;>conv=>whnf
  all_goals first|omega|exact fin _ _ om
 case inr.inr.inr.inr=>
  have sg:=y9 (-1) _ om (I8 ls om);have co:=a3V (-1) (-1);refine ac Tryz.func186 ?_;conv=>whnf
  repeat' (first|refine zx ?_|refine qp (K7 true _) ?_|refine ⟨_,D7 (y:=1) rfl de de,?_⟩|apply zD<;>intro h<;>try omega)<;>conv=>whnf
  all_goals first|omega|exact fin _ _ om
 case inr.inl.inr.inr=>
  rcases F6 m n with hmn|hmn
  ·rw [a3P om] at c;have l3:=q9 (a4O n m);refine ac Tryz.func186 ?_;conv=>whnf
   repeat' (first|refine zx ?_|refine qp (ah2 n m om om) ?_|refine qp (y9 (-1) (n - m) om om) ?_|refine qp (K7 true _) ?_|refine ⟨_,D7 (y:=-1) rfl de de,?_⟩|apply zD<;>intro h<;>try omega)<;>conv=>whnf
   all_goals first|omega|exact fin _ _ om
  ·have hc:0<=M3 m n:=by unfold M3;split<;>(try split)<;>omega
   have l3:=q9 (a4O m n);refine ac Tryz.func186 ?_;conv=>whnf
   repeat' (first|refine zx ?_|refine qp (ah2 m n om om) ?_|refine qp (y9 (1) (m - n) om om) ?_|refine qp (K7 true _) ?_|refine ⟨_,D7 (y:=-1) rfl de de,?_⟩|apply zD<;>intro h<;>try omega)<;>conv=>whnf
   all_goals first|omega|exact fin _ _ om
 case inr.inr.inr.inl=>
  rcases F6 m n with hmn|hmn
  ·rw [a3P om] at c;have l3:=q9 (a4O n m);refine ac Tryz.func186 ?_;conv=>whnf
   repeat' (first|refine zx ?_|refine qp (ah2 n m om om) ?_|refine qp (y9 (1) (n - m) om om) ?_|refine qp (K7 true _) ?_|refine ⟨_,D7 (y:=-1) rfl de de,?_⟩|apply zD<;>intro h<;>try omega)<;>conv=>whnf
   all_goals first|omega|exact fin _ _ om
  ·have hc:0<=M3 m n:=by unfold M3;split<;>(try split)<;>omega
   have l3:=q9 (a4O m n);refine ac Tryz.func186 ?_;conv=>whnf
   repeat' (first|refine zx ?_|refine qp (ah2 m n om om) ?_|refine qp (y9 (-1) (m - n) om om) ?_|refine qp (K7 true _) ?_|refine ⟨_,D7 (y:=-1) rfl de de,?_⟩|apply zD<;>intro h<;>try omega)<;>conv=>whnf
   all_goals first|omega|exact fin _ _ om
def sgm (x:Int):x.sign*x.natAbs=x:=ar7 x
def a5W (x:Int) (lx:bl x<=300000):ec 181 [bgS (bz x)] [] (i9 true) []:=a24 _ _ (a6P x) lx
def bg1 (x y:Int) (lx:bl x<=200000) (ly:bl y<=200000):ec 186 [bgS (bz x),bgS (bz y)] [] (.tup [bgS (bz (x+y)),eI 0]) []:=by
 have h:=bf4 _ _ _ _ (a6P x) (a6P y) lx ly;rw [sgm,sgm] at h;exact h
def a91 (x:Int) (lx:bl x<=300000):ec 185 [bgS (bz x)] [] (bgS (bz (-x))) []:=by
 have h:=bi1 (bz x) (show bl x<=1000000 by omega);unfold b3m at h;rw [a0g,a4Q] at h;exact h
abbrev bg2 (s:Int) (l:LI):S:=.agg [.t (ti s),.t (x6 l)]
def bl6 (s t:Int) (m n:Nat) (hs:Sg s m) (ht:Sg t n) (lm:(dg m).length<=200000) (ln:(dg n).length<=200000):
 ec 190 [bgS ⟨s,dg m⟩,bgS ⟨t,dg n⟩] [] (.tup [bgS (bz ((s*t)*(m*n:Nat))),eI 0]) []:=by
 have r1:=a24 s m hs om;have r2:=a24 t n ht om;have mu:=bh1 m n om om;have ls:=a4r m n;have hst:-1<=s*t∧s*t<=1∧(s*t=1∨s*t=-1∨m*n=0):=by
  rcases hs with ⟨rfl,rfl⟩|⟨rfl,h1⟩|⟨rfl,h1⟩<;>rcases ht with ⟨rfl,rfl⟩|⟨rfl,h2⟩|⟨rfl,h2⟩<;>simp
 obtain ⟨q1,q2,q3⟩:=hst;have sg:=y9 (s*t) (m*n) q3 om;have ck:=K7 true (bz ((s*t)*(m*n:Nat)));refine ac Tryz.func190 ?_;conv=>whnf
 repeat' (first|refine zx ?_|refine ⟨_,D7 (y:=s*t) rfl om om,?_⟩|apply zD<;>intro<;>try omega)<;>conv=>whnf
 all_goals first|(exfalso;simp_all;done)|exact a6W rfl
def bi6 (x y:Int) (lx:bl x<=200000) (ly:bl y<=200000):ec 190 [bgS (bz x),bgS (bz y)] [] (.tup [bgS (bz (x*y)),eI 0]) []:=by
 have h:=bl6 _ _ _ _ (a6P x) (a6P y) lx ly;have e:(x.sign*y.sign)*((x.natAbs*y.natAbs:Nat):Int)=x*y:=by
  rw [a30];have h1:=sgm x;have h2:=sgm y;grind
 rw [e] at h;exact h
def b0P (x y:Int) (lx:bl x<=300000) (ly:bl y<=300000):ec 120 [bgS (bz x),bgS (bz y)] [] (eI (M3 x y)) []:=by
 have h:=b1K (bz x) (bz y) (show bl x<=1000000 by omega) (show bl y<=1000000 by omega);unfold b3K at h;rw [a0g,a0g,a4Q,a4Q] at h;exact h
def b2b {b b' c c':Bg} {e:Int} {H1:Hp} (h:b=b') (h2:c=c'):Fin 0 (.tup [bgS b,bgS c,eI e]) H1 (.tup [bgS b',bgS c',eI e]) []:=by
 subst h h2;exact m9 rz
def bo4 (s:Int) (m n:Nat) (hs:Sg s m) (hn:0<n) (lm:(dg m).length<=200000) (ln:(dg n).length<=200000):
 ec 262 [bgS ⟨s,dg m⟩,bgS ⟨1,dg n⟩] [] (.tup [bgS (bz (s*m / n)),bgS (bz (s*m % n)),eI 0]) []:=by
 show ec 262 [bg2 s (dg m),bg2 1 (dg n)] [] _ [];have r1:=a24 s m hs om;have r2:=a24 1 n (.inr (.inl ⟨rfl,hn⟩)) om;have dv:=ba7 m n hn om om;have lq:=q9 (Nat.div_le_self m n);have hr:=a7C m hn;have lr:=q9 (aj4 hr);have lr2:((dg (m % n)).map k6).length=(dg (m % n)).length:=zq;have hz:(dg (m % n)).length=0↔m % n=0:=by rw [a27,K8]
 have hm:=b27 m n;have fin:∀(a b:Int) (H1:Hp),a=s*m / n->b=s*m % n->Fin 0 (.tup [bgS (bz a),bgS (bz b),eI 0]) H1 (.tup [bgS (bz (s*m / n)),bgS (bz (s*m % n)),eI 0]) []:=fun a b H1 h1 h2=>b2b (by rw [h1]) (by rw [h2])
 rcases hs with ⟨rfl,rfl⟩|⟨rfl,h1⟩|⟨rfl,h1⟩
 ·have s1:=y9 0 (0 / n) zq om;have s2:=y9 0 (0 % n) zq om;refine ac Tryz.func262 ?_;conv=>whnf
  repeat' (first|refine zx ?_|refine ⟨_,D7 (y:=0) rfl de de,?_⟩|apply zD<;>intro h<;>try omega)<;>conv=>whnf
  all_goals first|omega|exact fin _ _ _ (by first|rfl|simp) (by first|rfl|simp)
 ·have s1:=y9 1 (m / n) zq om;have s2:=y9 1 (m % n) zq om;refine ac Tryz.func262 ?_;conv=>whnf
  repeat' (first|refine zx ?_|refine ⟨_,D7 (y:=1) rfl de de,?_⟩|apply zD<;>intro h<;>try omega)<;>conv=>whnf
  all_goals first|omega|exact fin _ _ _ (by first|rfl|simp) (by first|rfl|simp)
 ·by_cases h0:m % n=0
  ·have hz0:=hz.2 h0;have s1:=y9 (-1) (m / n) zq om;have s2:=y9 (-1) (m % n) zq om;have e1:-1*((m / n:Nat):Int)=-1*(m:Int) / n:=by
    have e:(m:Int)=n*(m / n:Nat):=by rw [← a30];congr 1;omega
    rw [e,show -1*((n:Int)*(m / n:Nat))=n*(-1*(m / n:Nat)) by grind,aK3 _ om]
   have e2:-1*((m % n:Nat):Int)=-1*(m:Int) % n:=by
    have e:(m:Int)=n*(m / n:Nat):=by rw [← a30];congr 1;omega
    rw [h0,e,show -1*((n:Int)*(m / n:Nat))=n*(-1*(m / n:Nat)) by grind,Int.mul_emod_right];simp
   refine ac Tryz.func262 ?_;conv=>whnf
   repeat' (first|refine zx ?_|refine ⟨_,D7 (y:=-1) rfl de de,?_⟩|apply zD<;>intro h<;>try omega)<;>conv=>whnf
   all_goals first|omega|exact fin _ _ _ e1 e2
  ·have hz0:(dg (m % n)).length≠0:=fun h=>h0 (hz.1 h)
   have one:dg 1=[1]:=rfl;have ad:=b6J (m / n) 1 om (by simp [one]);have sb:=ah2 n (m % n) om om;have l1:=a4w (m / n) 1;have l2:=q9 (a4O n (m % n));have s1:=y9 (-1) (m / n+1) zq (by rw [one] at l1;simp at l1;omega);have s2:=y9 1 (n - m % n) zq om;have key:(-1*(m:Int))=(n - m % n:Nat)+n*(-1*((m / n+1:Nat):Int)):=by
    have e:(m:Int)=n*(m / n:Nat)+(m % n:Nat):=by rw [← a30];omega
    have e2:((n - m % n:Nat):Int)=n - (m % n:Nat):=om;have e3:((m / n+1:Nat):Int)=(m / n:Nat)+1:=om;rw [e2,e3];grind
   have e1:-1*((m / n+1:Nat):Int)=-1*(m:Int) / n:=by
    rw [key,Int.add_mul_ediv_left _ _ om,Int.ediv_eq_zero_of_lt om om];simp
   have e2:1*((n - m % n:Nat):Int)=-1*(m:Int) % n:=by
    rw [key,Int.add_mul_emod_self_left,am0 om om];simp
   refine ac Tryz.func262 ?_;conv=>whnf
   repeat' (first|refine zx ?_|refine .inl ⟨_,_,a2p ad ⟨aN2,a1z (aI3 rfl),trivial⟩ rfl,?_⟩|refine ⟨_,D7 (y:=-1) rfl de de,?_⟩|apply zD<;>intro h<;>try omega)<;>conv=>whnf
   all_goals first|omega|exact fin _ _ _ e1 e2
def aD8 (x y:Int) (hy:0<y) (lx:bl x<=200000) (ly:bl y<=200000):ec 262 [bgS (bz x),bgS (bz y)] [] (.tup [bgS (bz (x / y)),bgS (bz (x % y)),eI 0]) []:=by
 have h:=bo4 _ _ y.natAbs (a6P x) om lx ly;rw [sgm,show (y.natAbs:Int)=y by omega] at h;unfold bz at *;rw [O5 hy];exact h
abbrev a5k:Blk:={ mode:=.live,elem:=84,size:=2,rows:=[[B8 (.int .i64 0),B8 (.slice none 0 0)]],box:=true }
def R8:I5 [[B8 (.int .i64 0),B8 (.slice none 0 0)]]:=by
 intro r hr c hc;simp at hr;subst hr;simp at hc;rcases hc with rfl|rfl<;>rfl
structure b9d (x y:Int) (X Y:Nat):Prop where
 g:Nat.gcd X Y=Nat.gcd x.natAbs y.natAbs
 lx:(dg X).length<=200000
 ly:(dg Y).length<=200000
def b1o (x y:Int) (lx:bl x<=200000) (ly:bl y<=200000):ec 182 [bgS (bz x),bgS (bz y)] [] (.tup [bgS (bz (Int.gcd x y)),eI 0]) []:=by
 have r1:=a5W x om;have r2:=a5W y om;have cl:=ad0 (bz x).dl (show bl x<=1000000 by omega);refine ac Tryz.func182 ?_;conv=>whnf
 repeat' (first|refine zx ?_|apply zD<;>intro<;>try omega)<;>conv=>whnf
 all_goals first|(exfalso;simp_all;done)|skip
 refine p9 d7 (σ:=Nat × Nat) (fun|(X,Y)=>([J,J,J,J,sP 0 0 0,J,k9 (dg X),k9 (dg Y)]++Jn 36,[a5k])) (fun s=>b9d x y s.1 s.2) (fun s=>s.2) (x.natAbs,y.natAbs) [some 2]
  ⟨rfl,lx,ly⟩ ⟨rfl,rfl,⟨⟨rfl,rfl,rfl,.inl ⟨rfl,R8⟩⟩,trivial⟩,rz⟩ ?_
 rintro ⟨X,Y⟩ hI;have hI:b9d x y X Y:=hI;obtain ⟨g1,g2,g3⟩:=hI;have l2:((dg Y).map k6).length=(dg Y).length:=zq;conv=>whnf
 by_cases hY:0<Y
 ·have hp:(dg Y).length≠0:=by rw [Ne,a27,K8];omega
  have dv:=ba7 X Y hY om om
  repeat' (first|refine zx ?_|apply zD<;>intro<;>try omega)<;>conv=>whnf
  all_goals first|omega|skip
  exact ⟨[some 0],(Y,X % Y),⟨rfl,rfl,⟨⟨rfl,rfl,rfl,.inl ⟨rfl,R8⟩⟩,trivial⟩,rz⟩,⟨by rw [← g1,Nat.gcd_comm Y,←Nat.gcd_rec,Nat.gcd_comm],g3,lbR (q9 (aj4 (a7C X hY))) g3⟩,a7C X hY⟩
 ·have hY:Y=0:=by omega
  subst hY;have hp:(dg 0).length=0:=rfl;have c2:=ad0 (dg X) om;have s1:=y9 1 X zq om;have ck:=K7 true (bz (1*X))
  repeat' (first|refine zx ?_|apply zD<;>intro<;>try omega)<;>conv=>whnf
  all_goals first|omega|skip
  refine a6W ?_;rw [a1l,show X=Int.gcd x y by rw [Int.gcd,←g1,Nat.gcd_zero_right]]
  rfl
def a1L {x y:Int} (h:x % 18446744073709551616=y):J2 .u64 x y:=by
 unfold J2;simp only [IntKind.wrap,IntKind.bits,IntKind.signed];simp;omega
def b2n (a:Int):a01 .and .u64 a 1048575 (a % 1048576):=(aJ2 (a:=a) 20 de).symm
def b7l (a:Int):b25 .u64 a 20 (a / 1048576):=by
 show a / 1048576=a.fdiv 1048576;exact (Int.fdiv_eq_ediv_of_nonneg _ de).symm
structure OfI (n:Int) (acc:LI) (u:Nat):Prop where
 eq:acc++dg u=dg n.natAbs
def OfI.len {n:Int} {acc:LI} {u:Nat} (h:OfI n acc u) (h0:-9223372036854775808<=n) (h1:n<=9223372036854775807):acc.length<=4:=by
 have h2:(dg n.natAbs).length<=4:=M8 (by simp only [pw];omega);have h3:=congrArg List.length h.eq;simp at h3;omega
def OfI.step {n:Int} {acc:LI} {u:Nat} (h:OfI n acc u) (hu:0<u):OfI n (acc++[(u:Int) % 1048576]) (u / 1048576):=by
 refine ⟨?_⟩;rw [← h.eq,a7x hu];simp
def OfI.le {n:Int} {acc:LI} {u:Nat} (h:OfI n acc u):u<=n.natAbs:=by
 have h1:=congrArg val h.eq;rw [K9,s6,s6] at h1;have h2:Okd acc:=fun x hx=>v6 n.natAbs x (by rw [← h.eq];simp [hx])
 have h3:=v7 h2;have h4:=K3 acc.length;have h5:=lbW (a:=1) (b:=pw acc.length) (c:=(u:Int)) om om;omega
def a2h {xs:LI} {x:Int}:(toC (xs.map k6)).take xs.length++toC [[ti x]]=toC ((xs++[x]).map k6):=b8r (f:=k6)
def b2C (n:Int) (h0:-9223372036854775808<=n) (h1:n<=9223372036854775807):ec 122 [eI n] [] (bgS (bz n)) []:=by
 by_cases hn:n<0
 ·refine ac Tryz.func122 ?_;conv=>whnf
  repeat' (first|refine zx ?_|refine ⟨_,a1L (y:=n+18446744073709551616) om,?_⟩|refine ⟨_,a1L (y:=(n.natAbs:Int)) om,?_⟩|apply zD<;>intro h<;>try omega)<;>conv=>whnf
  refine p9 d7 (σ:=LI × Nat) (fun|(acc,u)=>([J,J,sP 0 0 0,eI (-1),c9 .u64 u,a0K 1 acc]++Jn 19,[a5k,x9 acc])) (fun s=>OfI n s.1 s.2) (fun s=>s.2) ([],n.natAbs) [some 0,none]
   ⟨rfl⟩ ⟨rfl,rfl,⟨⟨rfl,rfl,rfl,.inl ⟨rfl,R8⟩⟩,rz⟩,⟨rz,rfl,e7 om,rz⟩⟩ ?_
  rintro ⟨acc,u⟩ hI;have hI:OfI n acc u:=hI;have hl:=hI.len h0 h1;have hu:=hI.le;conv=>whnf
  repeat' (first|refine zx ?_|refine ⟨_,b2n _,?_⟩|refine ⟨de,_,b7l _,?_⟩|refine w6 zt zu ?_|refine ⟨_,a1L om,?_⟩|apply zD<;>intro h<;>try omega)<;>conv=>whnf
  ·refine ⟨[some 0,some 2],(acc++[(u:Int) % 1048576],u / 1048576),⟨rfl,rfl,⟨⟨rfl,rfl,rfl,.inl ⟨rfl,R8⟩⟩,e8 rfl rfl rfl a2h rfl,trivial⟩,⟨rz,rfl,e7 zq,o8 rfl zt,trivial⟩⟩,hI.step om,by show u / 1048576<u;omega⟩
  ·have h0u:u=0:=by omega
   subst h0u;have e:acc=dg n.natAbs:=by have:=hI.eq;rw [Z2,a0x] at this;exact this
   have sg:=y9 (-1) n.natAbs om (by rw [← e];omega);rw [← e,show (-1)*(n.natAbs:Int)=n by omega] at sg;refine .inr ⟨_,_,y4 [1] sg ⟨aN2,a1z (u5 zq rfl zi rfl rfl zq),trivial⟩ rfl,?_⟩;conv=>whnf
   exact m9 rz
 ·refine ac Tryz.func122 ?_;conv=>whnf
  repeat' (first|refine zx ?_|refine ⟨_,a1L (y:=(n.natAbs:Int)) om,?_⟩|apply zD<;>intro h<;>try omega)<;>conv=>whnf
  refine p9 d7 (σ:=LI × Nat) (fun|(acc,u)=>([J,J,sP 0 0 0,eI 1,c9 .u64 u,a0K 1 acc]++Jn 19,[a5k,x9 acc])) (fun s=>OfI n s.1 s.2) (fun s=>s.2) ([],n.natAbs) [some 0,none]
   ⟨rfl⟩ ⟨rfl,rfl,⟨⟨rfl,rfl,rfl,.inl ⟨rfl,R8⟩⟩,rz⟩,⟨rz,rfl,e7 om,rz⟩⟩ ?_
  rintro ⟨acc,u⟩ hI;have hI:OfI n acc u:=hI;have hl:=hI.len h0 h1;have hu:=hI.le;conv=>whnf
  repeat' (first|refine zx ?_|refine ⟨_,b2n _,?_⟩|refine ⟨de,_,b7l _,?_⟩|refine w6 zt zu ?_|refine ⟨_,a1L om,?_⟩|apply zD<;>intro h<;>try omega)<;>conv=>whnf
  ·refine ⟨[some 0,some 2],(acc++[(u:Int) % 1048576],u / 1048576),⟨rfl,rfl,⟨⟨rfl,rfl,rfl,.inl ⟨rfl,R8⟩⟩,e8 rfl rfl rfl a2h rfl,trivial⟩,⟨rz,rfl,e7 zq,o8 rfl zt,trivial⟩⟩,hI.step om,by show u / 1048576<u;omega⟩
  ·have h0u:u=0:=by omega
   subst h0u;have e:acc=dg n.natAbs:=by have:=hI.eq;rw [Z2,a0x] at this;exact this
   have sg:=y9 (1) n.natAbs om (by rw [← e];omega);rw [← e,show (1)*(n.natAbs:Int)=n by omega] at sg;refine .inr ⟨_,_,y4 [1] sg ⟨aN2,a1z (u5 zq rfl zi rfl rfl zq),trivial⟩ rfl,?_⟩;conv=>whnf
   exact m9 rz
def aK9 (i:Nat):pw i=((2 ^ (20*i):Nat):Int):=by
 unfold pw;rw [show (1048576:Int)=((2 ^ 20:Nat):Int) by decide,←Int.natCast_pow,←Nat.pow_mul]
def bw3 {d:Int} {i:Nat} {b:Int} (hi:i<=3) (h:0<=d) (h2:d*pw i<18446744073709551616) (hb:b=20*i):J2 .u64 (d*2 ^ min b.toNat (IntKind.bits .u64)) (d*pw i):=by
 have e:min b.toNat (IntKind.bits .u64)=20*i:=by show min b.toNat 64=_;omega
 have hp:=K3 i;have h3:0<=d*pw i:=lbZ h om;rw [e,show (2:Int) ^ (20*i)=pw i by rw [aK9];simp];exact aU8 h3 h2
def oru {u d:Int} {i:Nat} (hu:0<=u) (hu2:u<pw i) (h:0<=d) (h2:u+d*pw i<18446744073709551616):a01 .or .u64 u (d*pw i) (u+d*pw i):=by
 obtain ⟨U,rfl⟩:=a5p hu;obtain ⟨D,rfl⟩:=a5p h;have hp:=K3 i;have e2:(U:Int)+D*pw i=((U+2 ^ (20*i)*D:Nat):Int):=by rw [aK9];simp [a6T]
 have e3:(D:Int)*pw i=((2 ^ (20*i)*D:Nat):Int):=by rw [aK9];simp [a6T]
 rw [e2] at h2;have hU:U<2 ^ (20*i):=by rw [aK9] at hu2;omega
 have k1:(BitVec.ofInt (IntKind.bits .u64) (U:Int) ||| BitVec.ofInt (IntKind.bits .u64) ((2 ^ (20*i)*D:Nat):Int)).toNat=U+2 ^ (20*i)*D:=by
  show (BitVec.ofInt 64 _ ||| BitVec.ofInt 64 _).toNat=_;rw [BitVec.toNat_or,BitVec.toNat_ofInt,BitVec.toNat_ofInt];rw [am0 om om,am0 om om,lbX,lbX,Nat.or_comm,←Nat.two_pow_add_eq_or_of_lt hU,az4]
 rw [e2,e3];unfold a01;simp only;rw [k1];exact (ao0 om h2).symm
structure b1N (n:Nat) (k:Nat) (u:Int):Prop where
 eq:u=val ((dg n).take k)
 le:k<=(dg n).length
 lt:k=4->u<9*1152921504606846976
def b1N.rng {n k:Nat} {u:Int} (h:b1N n k u):0<=u∧u<pw k:=by
 have h1:=v7 ((v6 n).take k);have h2:=V6 ((v6 n).take k);rw [lbs,a2r h.le,←h.eq] at h2;rw [← h.eq] at h1;exact ⟨h1,h2⟩
def b1N.step {n k:Nat} {u:Int} (h:b1N n k u) (hk:k<(dg n).length) (hd:k=3->dat (dg n) k<=8):b1N n (k+1) (u+dat (dg n) k*pw k):=by
 have hr:=h.rng;refine ⟨by rw [u6,h.eq,a6T],hk,fun h4=>?_⟩;have:k=3:=om;subst this;have:=hd rfl;simp only [pw] at hr ⊢;omega
def bj9 {k:Nat} (h:k<=3):pw k<=1152921504606846976:=by
 have:=a0p h;simp only [pw] at this ⊢;omega
def bh3 {k:Nat} (h:k<=2):pw k<=1099511627776:=by
 have:=a0p h;simp only [pw] at this ⊢;omega
def aK2 {a a':Int} {b b':Bool} {k:IntKind} {H1:Hp} (h:a=a') (h2:b=b'):Fin 0 (.tup [c9 k a,i9 b]) H1 (.tup [c9 k a',i9 b']) []:=by
 subst h h2;exact m9 rz
def b1y {x:Int} (h1:9223372036854775808<=x) (h2:x<18446744073709551616):J2 .i64 x (x - 18446744073709551616):=by
 unfold J2;simp only [IntKind.wrap,IntKind.bits,IntKind.signed];simp;omega
abbrev a9n (x:Int):Prop:=-9223372036854775808<=x∧x<=9223372036854775807
def bd6 (x:Int) (lx:bl x<=200000):ec 254 [bgS (bz x)] [] (.tup [eI (if a9n x then x else 0),i9 (decide (a9n x))]) []:=by
 have r1:=a5W x om;have l1:((bz x).dl.map k6).length=(dg x.natAbs).length:=by simp [bz]
 have l2:(bz x).dl=dg x.natAbs:=rfl;have hlast:∀k:Nat,k<(dg x.natAbs).length->pw k<=x.natAbs:=fun k hk=>Int.le_trans (a0p om) (af1 (by
  rcases a4R x.natAbs with h|h
  ·rw [h,Z2] at hk;simp at hk
  ·exact h))
 refine ac Tryz.func254 ?_;conv=>whnf
 repeat' (first|refine zx ?_|apply zD<;>intro h<;>try omega)<;>conv=>whnf
 ·have hl:4<(dg x.natAbs).length:=by omega
  have:=hlast 4 hl;simp only [pw] at this;have hn:¬a9n x:=by unfold a9n;omega
  exact aK2 (by rw [if_neg hn]) (by simp [hn])
 ·refine p9 d7 (σ:=Nat × Int) (fun|(k,u)=>([J,sP 0 0 0,J,J,c9 .u64 u]++Jn 12++[k9 (dg x.natAbs),eI (dg x.natAbs).length,eI k]++Jn 39,[bgB (bz x)])) (fun s=>b1N x.natAbs s.1 s.2) (fun s=>(dg x.natAbs).length - s.1) (0,0) [some 0]
   ⟨by simp [val],om,om⟩ ⟨rfl,rfl,⟨⟨rfl,rfl,rfl,.inl ⟨rfl,a5D _⟩⟩,trivial⟩,⟨rz,rfl,l9 rfl,e7 om,rz⟩⟩ ?_
  rintro ⟨k,u⟩ hI;have hI:b1N x.natAbs k u:=hI;have hr:=hI.rng;have hle:=hI.le;have hd:=(v6 x.natAbs).dat k;have hp:=K3 k;have hp3:k<=3->pw k<=1152921504606846976:=bj9;have hdm:0<=dat (dg x.natAbs) k*pw k:=lbZ hd.1 om;have l3:((dg x.natAbs).map k6).length=(dg x.natAbs).length:=zq;have hp2:k<=2->pw k<=1099511627776:=bh3;have hA:k<=3->(k=3->dat (dg x.natAbs) k<=8)->u+dat (dg x.natAbs) k*pw k<18446744073709551616:=fun h3 h8=>by
   by_cases hk:k=3
   ·have:=lbW (c:=pw k) (h8 hk) om;have:=hp3 h3;omega
   ·have:=lbW (c:=pw k) (show dat (dg x.natAbs) k<=1048575 by omega) om;have:=hp2 om;omega
  have hE:k=(dg x.natAbs).length->u=x.natAbs:=fun h=>by
   have:=hI.eq;rw [h,lbn (lbQ _),s6] at this;exact this
  have hs:=C4 x;have hsg:(bz x).sg=x.sign:=rfl;conv=>whnf
  repeat' (first|refine zx ?_|refine i6 (w7 om) ?_|refine ⟨_,aU8 om om,?_⟩|refine ⟨om,_,bw3 (i:=k) om om om om,?_⟩|refine ⟨_,oru om om om om,?_⟩|refine ⟨_,a1L (y:=18446744073709551616 - u) om,?_⟩|refine ⟨_,b1y om om,?_⟩|apply zD<;>intro h<;>try omega)<;>conv=>whnf
  ·have hk:k=3:=by omega
   have h8:9<=dat (dg x.natAbs) k:=om;have h1:=u6 (dg x.natAbs) k;have h4:val (dg x.natAbs)=val ((dg x.natAbs).take (k+1)):=by rw [lbn om]
   rw [s6] at h4;have h5:=v7 ((v6 x.natAbs).take k);have h6:=lbV (a:=9) (b:=dat (dg x.natAbs) k) (c:=pw k) h8 om;have h7:pw k=1152921504606846976:=by rw [hk];rfl
   have hn:¬a9n x:=by unfold a9n;omega
   exact aK2 (by rw [if_neg hn]) (by simp [hn])
  ·have hst:=hI.step om om;exact ⟨[some 0],(k+1,u+dat (dg x.natAbs) k*pw k),⟨rfl,rfl,⟨⟨rfl,rfl,rfl,.inl ⟨rfl,a5D _⟩⟩,trivial⟩,⟨rz,rfl,rfl,rfl,e7 om,trivial⟩⟩,hst,by show (dg x.natAbs).length - (k+1)<(dg x.natAbs).length - k;omega⟩
  ·have hst:=hI.step om om;exact ⟨[some 0],(k+1,u+dat (dg x.natAbs) k*pw k),⟨rfl,rfl,⟨⟨rfl,rfl,rfl,.inl ⟨rfl,a5D _⟩⟩,trivial⟩,⟨rz,rfl,rfl,rfl,e7 om,trivial⟩⟩,hst,by show (dg x.natAbs).length - (k+1)<(dg x.natAbs).length - k;omega⟩
  all_goals
   have hu:=hE om;first
    |(have hn:a9n x:=by unfold a9n;omega
      exact aK2 (by rw [if_pos hn];omega) (by simp [hn]))
    |(have hn:¬a9n x:=by unfold a9n;omega
      exact aK2 (by rw [if_neg hn]) (by simp [hn]))
abbrev frC (f:Fr):List C:=[.t (ti f.p.sg),.t (x6 f.p.dl),.t (ti f.q.sg),.t (x6 f.q.dl)]
abbrev frS (f:Fr):S:=.agg (frC f)
def bu1 (x:Int) (lx:bl x<=200000):ec 183 [bgS (bz x)] [] (i9 (x == 1)) []:=by
 have i:=bd6 x lx;by_cases h:a9n x
 ·rw [if_pos h,show decide (a9n x)=true by simp [h]] at i;refine ac Tryz.func183 ?_;conv=>whnf
  repeat' (first|refine zx ?_|apply zD<;>intro h<;>try omega)<;>conv=>whnf
  all_goals (refine d9 ?_;simp;omega)
 ·rw [if_neg h,show decide (a9n x)=false by simp [h]] at i;have hx:x≠1:=by rintro rfl;exact h de
  refine ac Tryz.func183 ?_;conv=>whnf
  repeat' (first|refine zx ?_|apply zD<;>intro h<;>try omega)<;>conv=>whnf
  all_goals (refine d9 ?_;simp;omega)
def a87 (f:Fr) (lp:f.p.dl.length<=200000) (lq:f.q.dl.length<=200000):ec 114 [frS f] [] (i9 (t7 f)) []:=by
 obtain ⟨p,q⟩:=f;simp only at lp lq;have r1:=a3B p om;have r2:=a3B q om;cases hp:J0 p with
 |false=>
  rw [hp] at r1;refine ac Tryz.func114 ?_;conv=>whnf
  repeat' (first|refine zx ?_|apply zD<;>intro<;>try omega)<;>conv=>whnf
  all_goals (first|(exfalso;simp_all;done)|(refine d9 ?_;unfold t7;simp [hp]))
 |true=>
  rw [hp] at r1;cases hq:J0 q with
  |false=>
   rw [hq] at r2;refine ac Tryz.func114 ?_;conv=>whnf
   repeat' (first|refine zx ?_|apply zD<;>intro<;>try omega)<;>conv=>whnf
   all_goals (first|(exfalso;simp_all;done)|(refine d9 ?_;unfold t7;simp [hq]))
  |true=>
   rw [hq] at r2;obtain ⟨x,rfl⟩:=ap2 hp;obtain ⟨y,rfl⟩:=ap2 hq;have g:=b1o x y lp lq;have o:=bu1 (Int.gcd x y) (a94 x y lp lq);refine ac Tryz.func114 ?_;conv=>whnf
   repeat' (first|refine zx ?_|apply zD<;>intro<;>try omega)<;>conv=>whnf
   all_goals (refine d9 ?_;unfold t7;simp only [a0g,a4Q,C2];symm;simp_all<;>omega)
def a1B (x y:Int) (lx:bl x<=200000) (ly:bl y<=200000):ec 121 [bgS (bz x),bgS (bz y)] [] (bgS (bz (x*y))) []:=by
 have mu:=bi6 x y lx ly;refine ac Tryz.func121 ?_;conv=>whnf
 repeat' (first|refine zx ?_|apply zD<;>intro<;>try omega)<;>conv=>whnf
 exact m9 rz
def Z4 {f f':Fr} {e:Int} {H1:Hp} (h:f=f'):Fin 0 (.tup [frS f,eI e]) H1 (.tup [frS f',eI e]) []:=by
 subst h;exact m9 rz
def aE0 (p q:Int) (hq:q≠0) (lp:bl p<=200000) (lq:bl q<=200000):ec 187 [bgS (bz p),bgS (bz q)] [] (.tup [frS (fz (Rat.divInt p q)),eI 0]) []:=by
 have r1:=a5W p om;have r2:=a5W q om;have hs:=C4 q;have hsg:(bz q).sg=q.sign:=rfl;by_cases h:q<0
 ·have n1:=a91 p om;have n2:=a91 q om;have lg:=a94 (-p) (-q) (by rw [U3];exact lp) (by rw [U3];exact lq);have hg:0<(Int.gcd (-p) (-q):Int):=by have:=b0m (-p) (b:=-q) om;omega
  have g:=b1o (-p) (-q) (by rw [U3];exact lp) (by rw [U3];exact lq);have d1:=aD8 (-p) _ hg (by rw [U3];exact lp) lg;have d2:=aD8 (-q) _ hg (by rw [U3];exact lq) lg;have e:=a8T (p:=-p) (q:=-q) om rfl;rw [Rat.neg_divInt_neg] at e;refine ac Tryz.func187 ?_;conv=>whnf
  repeat' (first|refine zx ?_|apply zD<;>intro h<;>try omega)<;>conv=>whnf
  all_goals first|(exfalso;simp_all;done)|omega|exact Z4 e.symm
 ·have lg:=a94 p q lp lq;have hg:0<(Int.gcd p q:Int):=by have:=b0m p (b:=q) om;omega
  have g:=b1o p q lp lq;have d1:=aD8 p _ hg lp lg;have d2:=aD8 q _ hg lq lg;have e:=a8T (p:=p) (q:=q) om rfl;refine ac Tryz.func187 ?_;conv=>whnf
  repeat' (first|refine zx ?_|apply zD<;>intro h<;>try omega)<;>conv=>whnf
  all_goals first|omega|(exfalso;simp_all;done)|exact Z4 e.symm
def L3 (x:Rat) (lx:rl x<=200000):ec 114 [frS (fz x)] [] (i9 true) []:=by
 have h:=a87 (fz x) (lbR (E0 x) lx) (lbR (D5 x) lx);rw [ah4] at h;exact h
def a60 (x y:Rat) (lx:rl x<=60000) (ly:rl y<=60000):ec 119 [frS (fz x),frS (fz y)] [] (.tup [frS (fz (x+y)),eI 0]) []:=by
 have r1:=L3 x om;have r2:=L3 y om;have x1:=E0 x;have x2:=D5 x;have y1:=E0 y;have y2:=D5 y;have l1:=C8 x.num y.den;have l2:=C8 y.num x.den;have l3:=C8 x.den y.den;have l4:=a7k (x.num*y.den) (y.num*x.den);have t1:=a1B x.num y.den om om;have t2:=a1B y.num x.den om om;have t3:=a1B x.den y.den om om;have a:=bg1 (x.num*y.den) (y.num*x.den) om om;have n:=aE0 (x.num*y.den+y.num*x.den) (x.den*y.den) (af5 x y) om om;rw [← ae4] at n;refine ac Tryz.func119 ?_;conv=>whnf
 repeat' (first|refine zx ?_|refine bl0 [13] ?_|apply zD<;>intro<;>try omega)<;>conv=>whnf
 all_goals first|(exfalso;simp_all;done)|exact Z4 rfl
def b6M (x y:Rat) (lx:rl x<=60000) (ly:rl y<=60000):ec 118 [frS (fz x),frS (fz y)] [] (.tup [frS (fz (x - y)),eI 0]) []:=by
 have r1:=L3 x om;have r2:=L3 y om;have y1:=E0 y;have n:=a91 y.num om;have a:=a60 x (-y) lx (by rw [Q5];exact ly);rw [← b0Z] at a;have e:fz (-y)=⟨bz (-y.num),bz y.den⟩:=rfl;rw [e] at a;refine ac Tryz.func118 ?_;conv=>whnf
 repeat' (first|refine zx ?_|apply zD<;>intro<;>try omega)<;>conv=>whnf
 all_goals first|(exfalso;simp_all;done)|exact Z4 rfl
def aK8 (x y:Rat) (lx:rl x<=60000) (ly:rl y<=60000):ec 233 [frS (fz x),frS (fz y)] [] (.tup [frS (fz (x*y)),eI 0]) []:=by
 have r1:=L3 x om;have r2:=L3 y om;have x1:=E0 x;have x2:=D5 x;have y1:=E0 y;have y2:=D5 y;have l1:=C8 x.num y.num;have l3:=C8 x.den y.den;have t1:=a1B x.num y.num om om;have t3:=a1B x.den y.den om om;have n:=aE0 (x.num*y.num) (x.den*y.den) (af5 x y) om om;rw [← aG0] at n;refine ac Tryz.func233 ?_;conv=>whnf
 repeat' (first|refine zx ?_|apply zD<;>intro<;>try omega)<;>conv=>whnf
 all_goals first|(exfalso;simp_all;done)|exact Z4 rfl
def aX6 (x y:Rat):M3 (x.num*y.den) (y.num*x.den)=a1p x y:=by
 unfold M3 a1p;simp only [← Rat.lt_iff]
def a00 (x y:Rat) (lx:rl x<=60000) (ly:rl y<=60000):ec 54 [frS (fz x),frS (fz y)] [] (eI (a1p x y)) []:=by
 have r1:=L3 x om;have r2:=L3 y om;have x1:=E0 x;have x2:=D5 x;have y1:=E0 y;have y2:=D5 y;have l1:=C8 x.num y.den;have l2:=C8 y.num x.den;have t1:=a1B x.num y.den om om;have t2:=a1B y.num x.den om om;have c:=b0P (x.num*y.den) (y.num*x.den) om om;rw [aX6] at c;refine ac Tryz.func54 ?_;conv=>whnf
 repeat' (first|refine zx ?_|apply zD<;>intro<;>try omega)<;>conv=>whnf
 all_goals first|(exfalso;simp_all;done)|exact n8 rfl
def R6 (x:Rat) (lx:rl x<=60000):ec 56 [frS (fz x)] [] (eI (sgR x)) []:=by
 have r1:=L3 x om;refine ac Tryz.func56 ?_;conv=>whnf
 repeat' (first|refine zx ?_|apply zD<;>intro<;>try omega)<;>conv=>whnf
 all_goals first|(exfalso;simp_all;done)|exact n8 (a8o x)
def bt4 (p q:Int) (hq:q≠0) (p0:-9223372036854775808<=p) (p1:p<=9223372036854775807) (q0:-9223372036854775808<=q) (q1:q<=9223372036854775807):
 ec 248 [eI p,eI q] [] (.tup [frS (fz (Rat.divInt p q)),eI 0]) []:=by
 have l1:=P7 p0 p1;have l2:=P7 q0 q1;have o1:=b2C p p0 p1;have o2:=b2C q q0 q1;have n:=aE0 p q hq om om;refine ac Tryz.func248 ?_;conv=>whnf
 repeat' (first|refine zx ?_|apply zD<;>intro<;>try omega)<;>conv=>whnf
 all_goals exact Z4 rfl
def bj3 (n:Int):fz (n:Rat)=⟨bz n,bz 1⟩:=by unfold fz;rw [a78,an0];rfl
def O7 (n:Int) (p0:-9223372036854775808<=n) (p1:n<=9223372036854775807):ec 55 [eI n] [] (frS (fz (n:Rat))) []:=by
 have o1:=b2C n p0 p1;have o2:=b2C 1 de de;rw [bj3];refine ac Tryz.func55 ?_;conv=>whnf
 repeat' (first|refine zx ?_|apply zD<;>intro<;>try omega)<;>conv=>whnf
 all_goals exact m9 rz
def ak9 (x:Int) (lx:bl x<=200000):ec 322 [bgS (bz x)] [] (bgS (bz x)) []:=by
 have n1:=a91 x om;have n2:=a91 (-x) (by rw [U3];omega);rw [Int.neg_neg] at n2;refine ac Tryz.func322 ?_;conv=>whnf
 repeat' (first|refine zx ?_|apply zD<;>intro<;>try omega)<;>conv=>whnf
 all_goals exact m9 rz
def Q3 (c:L8):Bool:=
 decide (0<=c.since) && decide (c.since<=c.till) && decide (c.till<=100000) && idx c.scale 30 && btw c.grams 0 1099511627776 && btw c.permille 0 1000 && btw c.drift 0 10000000
def K6 (c:L8) (day:Int):Bool:=Q3 c && btw day c.since c.till
def aI1 (cs:List L8) (i:Nat):Int:=((cs[i]?).map (·.since)).getD 0
def a4P (cs:List L8) (o:Option Nat) (c:L8):Bool:=match o with
 |none=>true
 |some b=>decide (aI1 cs b<=c.since)
def C9 (cs:List L8) (scale day:Int):Nat->Option Nat
 |0=>none
 |k+1=>match cs[k]? with
  |none=>C9 cs scale day k
  |some c=>if decide (c.scale=scale) && K6 c day && a4P cs (C9 cs scale day k) c then some k else C9 cs scale day k
def N5 {cs:List L8} {scale day:Int}:∀{k b:Nat},C9 cs scale day k=some b->b<k∧∃c,cs[b]? =some c∧c.scale=scale∧K6 c day=true
 |0,b,h=>by simp [C9] at h
 |k+1,b,h=>by
  unfold C9 at h;split at h
  ·obtain ⟨h1,h2⟩:=N5 h;exact ⟨om,h2⟩
  ·rename_i c hc;split at h
   ·rename_i hcc;injection h with h;subst h;simp only [lbM,lbH] at hcc;exact ⟨om,c,hc,hcc.1.1,hcc.1.2⟩
   ·obtain ⟨h1,h2⟩:=N5 h;exact ⟨om,h2⟩
def a1P (rs:List E9) (scale day:Int):Bool:=rs.any fun r=>decide (r.scale=scale) && decide (r.since<=day)
def a2u (c:L8) (reading day:Int):Rat:=Rat.divInt (c.permille*reading) 1000+((c.grams+c.drift*(day - c.since):Int):Rat)
def aC6 (x y:Rat):Rat:=if x<y then y else x
def b4v:L8:=⟨0,0,0,0,0,0⟩
def a1m (cs:List L8) (i:Nat):L8:=(cs[i]?).getD b4v
def L4 (cs:List L8) (rs:List E9) (scale reading day:Int):Option (Rat × Rat):=
 match C9 cs scale day cs.length with
 |none=>none
 |some i=>if a1P rs scale day then none else if btw reading 0 1099511627776 then
   some (aC6 ((reading:Rat) - a2u (a1m cs i) reading day) ((0:Int):Rat),(reading:Rat)+a2u (a1m cs i) reading day) else none
def bx0 (l:List Rat):Rat:=l.foldl (·+·) ((0:Int):Rat)
def hz (H:List (List Rat)):List (List Fr):=H.map (·.map fz)
def S1 {l:List Fr} (h:l.all t7=true):∃L:List Rat,l=L.map fz:=by
 induction l with
 |nil=>exact ⟨[],rfl⟩
 |cons f r ih=>
  simp only [aq9,lbM] at h;obtain ⟨L,rfl⟩:=ih h.2;exact ⟨fv f::L,by simp [← bq1 h.1]⟩
def hAt (H:List (List Rat)) (k m:Nat):Rat:=(H.getD k []).getD m 0
def b17 (x:A8) (v:Nat->Rat) (f:Nat->Nat->Rat):Nat->Nat->Rat:=fun p m=>if x.src=(p:Int) then f p m - v m else if x.dst=(p:Int) then f p m+v m else f p m
def stk (e:Ev) (H:List (List Rat)):Nat->Nat->Nat->Rat
 |0=>fun _ _=>((0:Int):Rat)
 |k+1=>match e.moves[k]? with
  |none=>stk e H k
  |some x=>b17 x (hAt H k) (stk e H k)
def inB (iv:Option (Rat × Rat)) (mass:Rat):Bool:=match iv with
 |none=>true
 |some (lo,hi)=>decide (lo<=mass) && decide (mass<=hi)
def bs1 (e:Ev) (x:A8) (mass:Rat):Bool:=if x.scale=-1 then true else inB (L4 e.certs e.recalls x.scale x.reading x.day) mass
def b24:rl ((0:Int):Rat)=1:=by rw [U9];rfl
def ae0 {x y:Rat}:a1p x y<0↔x<y:=by unfold a1p;split<;>(try split)<;>simp_all
def b6B (x y:Rat):-1<=a1p x y∧a1p x y<=1:=by unfold a1p;split<;>(try split)<;>omega
def bc6 (x y:Rat) (lx:rl x<=60000) (ly:rl y<=60000):ec 258 [frS (fz x),frS (fz y)] [] (.tup [frS (fz (aC6 x y)),eI 0]) []:=by
 have e:ec 313 [frS (fz x),frS (fz y),eI 1] [] (.tup [frS (fz (aC6 x y)),eI 0]) []:=by
  have r1:=L3 x om;have r2:=L3 y om;have x1:=E0 x;have x2:=D5 x;have y1:=E0 y;have y2:=D5 y;have c:=a00 x y lx ly;have hr:=b6B x y;have s1:=ak9 x.num om;have s2:=ak9 x.den om;have s3:=ak9 y.num om;have s4:=ak9 y.den om;refine ac Tryz.func313 ?_;conv=>whnf
  repeat' (first|refine zx ?_|apply zD<;>intro h<;>try omega)<;>conv=>whnf
  ·have h:a1p x y<0:=by omega
   refine Z4 (f:=fz y) ?_;unfold aC6;rw [if_pos (ae0.1 h)]
  ·have h:¬a1p x y<0:=by omega
   refine Z4 (f:=fz x) ?_;unfold aC6;rw [if_neg (fun h'=>h (ae0.2 h'))]
 refine ac Tryz.func258 ?_;conv=>whnf
 repeat' (first|refine zx ?_|apply zD<;>intro h<;>try omega)<;>conv=>whnf
 all_goals exact Z4 rfl
def a5s (n m:Int):ec 312 [eI n,eI m] [] (i9 (btw n 0 m)) []:=by
 refine ac Tryz.func312 ?_;conv=>whnf
 repeat' (first|refine zx ?_|apply zD<;>intro<;>try omega)<;>conv=>whnf
 all_goals (refine d9 ?_;unfold btw;simp;omega)
abbrev aR3 (c:L8):S:=.agg (c.row.map .t)
def ax7 (n:Int):btw n 0 29=idx n 30:=b2j n 30
def aT2 (c:L8):ec 331 [aR3 c] [] (i9 (Q3 c)) []:=by
 have w1:=a5s c.scale 29;have w2:=a5s c.grams 1099511627776;have w3:=a5s c.permille 1000;have w4:=a5s c.drift 10000000;rw [ax7] at w1;unfold Q3;cases h1:idx c.scale 30<;>cases h2:btw c.grams 0 1099511627776<;>cases h3:btw c.permille 0 1000<;>cases h4:btw c.drift 0 10000000<;>rw [h1] at w1<;>rw [h2] at w2<;>rw [h3] at w3<;>rw [h4] at w4<;>
 ·refine ac Tryz.func331 ?_;conv=>whnf
  repeat' (first|refine zx ?_|apply zD<;>intro<;>try omega)<;>conv=>whnf
  all_goals (refine d9 ?_;simp;try omega)
def aS8 (c:L8) (day:Int):ec 309 [aR3 c,eI day] [] (i9 (K6 c day)) []:=by
 have w1:=aT2 c;unfold K6;cases h1:Q3 c<;>rw [h1] at w1<;>
 ·refine ac Tryz.func309 ?_;conv=>whnf
  repeat' (first|refine zx ?_|apply zD<;>intro<;>try omega)<;>conv=>whnf
  all_goals (refine d9 ?_;simp [btw];try omega)
def b00 {cs:List L8} {k:Nat} {c:L8} (h:cs[k]? =some c):aI1 cs k=c.since:=by unfold aI1;rw [h];rfl
abbrev b95 (n:Int):T:=.ptr [ti n]
def b2F {a b:Bool} {ρ:List (Option Nat)} {H:Hp} (h:a=b):a6E ρ H (i9 a) (i9 b):=by subst h;exact rfl
def a8U (o:Option Nat):Nat:=o.getD 0
def bc7 (cs:List L8) (scale day:Int) (hl:cs.length<=1000000):
 ec 255 [.c (.t (a0G cs)),eI scale,eI day] [] (.tup [eI (a8U (C9 cs scale day cs.length)),i9 (C9 cs scale day cs.length).isSome]) []:=by
 have l1:(cs.map L8.row).length=cs.length:=zq;refine ac Tryz.func255 ?_;conv=>whnf
 repeat' (first|refine zx ?_|apply zD<;>intro<;>try omega)<;>conv=>whnf
 refine j3 d7 (fun k=>([S.c (C.t (a0G cs)),eI scale,eI day,J,J,J,J,J,eI (a8U (C9 cs scale day k)),i9 (C9 cs scale day k).isSome,J,J,S.c (C.t (a0G cs)),eI cs.length,eI k]++Jn 31,[])) cs.length tT [] trivial
  ⟨rfl,rfl,trivial,⟨l9 rfl,rfl,rfl,rfl,rfl,l9 rfl,e7 zq,rz⟩⟩ ?_
 intro k hk _;by_cases hlt:k<cs.length
 ·obtain ⟨c,hc⟩:∃c,cs[k]? =some c:=⟨_,lbf hlt⟩;have cv:=aS8 c day;have hst:C9 cs scale day (k+1)=if decide (c.scale=scale) && K6 c day && a4P cs (C9 cs scale day k) c then some k else C9 cs scale day k:=by
   conv=>lhs;unfold C9
   rw [hc]
  cases hcv:K6 c day with
  |false=>
   rw [hcv] at cv hst;simp only [a4L,a2i,a85,if_false] at hst;rw [← hst];conv=>whnf
   repeat' (first|refine zx ?_|refine i6 hc ?_|apply zD<;>intro<;>try omega)<;>conv=>whnf
   all_goals first
    |omega
    |exact ⟨hlt,trivial,[],rz⟩
  |true=>
   rw [hcv] at cv hst;cases hf:C9 cs scale day k with
   |none=>
    rw [hf] at hst;conv=>whnf
    repeat' (first|refine zx ?_|refine i6 hc ?_|apply zD<;>intro<;>try omega)<;>conv=>whnf
    ·exact ⟨hlt,trivial,[],rfl,rfl,trivial,⟨rfl,rfl,rfl,e7 (by rw [hst];simp [*,a4P,a8U]),b2F (by rw [hst];simp [*,a4P]),rz⟩⟩
    ·exact ⟨hlt,trivial,[],rfl,rfl,trivial,⟨rfl,rfl,rfl,e7 (by rw [hst];simp [*,a4P,a8U]),b2F (by rw [hst];simp [*,a4P]),rz⟩⟩
   |some b=>
    rw [hf] at hst;obtain ⟨hb,cb,hcb,_⟩:=N5 hf;have hsb:=b00 hcb;conv=>whnf
    repeat' (first|refine zx ?_|refine i6 hc ?_|refine i6 hcb ?_|apply zD<;>intro<;>try omega)<;>conv=>whnf
    all_goals first|exact ⟨hlt,trivial,[],rfl,rfl,trivial,⟨rfl,rfl,rfl,e7 (by rw [hst];simp [*,a4P,a8U]),b2F (by rw [hst];simp [*,a4P]),rz⟩⟩|(exfalso;simp_all;done)
 ·have hke:k=cs.length:=by omega
  subst hke;conv=>whnf
  repeat' (first|refine zx ?_|apply zD<;>intro<;>try omega)<;>conv=>whnf
  all_goals first|omega|exact m9 rz
def aI4 (r:E9) (scale day:Int):ec 311 (.agg (r.row.map .t)::[b95 scale,b95 day].map fun x=>.c (.t x)) [] (i9 (decide (r.scale=scale) && decide (r.since<=day))) []:=by
 refine ac Tryz.func311 ?_;conv=>whnf
 repeat' (first|refine zx ?_|apply zD<;>intro<;>try omega)<;>conv=>whnf
 all_goals (refine d9 ?_;simp [*];try omega)
abbrev bh6 (r:E9):S:=.agg (r.row.map .t)
def a0m {α:Type} (q:α->Bool):List α->Nat->Int
 |[],_=>-1
 |x::r,k=>if q x then k else a0m q r (k+1)
def a7p {α:Type} (q:α->Bool):∀(l:List α) (k:Nat),decide (0<=a0m q l k)=l.any q
 |[],k=>by simp [a0m]
 |x::r,k=>by
  unfold a0m;rw [List.any_cons];cases h:q x with
  |true=>simp
  |false=>simpa using a7p q r (k+1)
def b0R (rs:List E9) (hl:rs.length<=1000000) (g:FuncId) (caps:List T) (q:E9->Bool) (hg:∀r ∈ rs,ec g (bh6 r::caps.map fun x=>.c (.t x)) [] (i9 (q r)) []):
 ec 332 [.c (.t (N6 rs)),.c (.t (.fn (.func g) caps))] [] (eI (a0m q rs 0)) []:=by
 have l1:(rs.map E9.row).length=rs.length:=zq;refine ac Tryz.func332 ?_;conv=>whnf
 repeat' (first|refine zx ?_|apply zD<;>intro<;>try omega)<;>conv=>whnf
 refine j3 d7 (fun k=>([S.c (C.t (N6 rs)),S.c (C.t (T.fn (.func g) caps)),J,J,J,J,J,eI rs.length,eI k]++Jn 10,[])) rs.length (fun k=>a0m q (rs.drop k) k=a0m q rs 0) [] rfl
  ⟨rfl,rfl,trivial,⟨l9 rfl,l9 rfl,e7 zq,rz⟩⟩ ?_
 intro k hk hI;by_cases hlt:k<rs.length
 ·obtain ⟨r,hr⟩:∃r,rs[k]? =some r:=⟨_,lbf hlt⟩;have hd:rs.drop k=r::rs.drop (k+1):=by
   rw [a9t hlt];rw [lbf hlt] at hr;injection hr with hr;rw [hr]
  have hgr:=hg r (lbm hr);have ha:(bh6 r::caps.map fun x=>S.c (C.t x)).all S.isT=true:=by simp [S.isT,C.isT,E9.row]
  rw [hd] at hI;have hI:(if q r then (k:Int) else a0m q (rs.drop (k+1)) (k+1))=a0m q rs 0:=hI;cases hq:q r with
  |true=>
   rw [hq] at hgr hI;conv=>whnf
   repeat' (first|refine zx ?_|refine .inl ⟨_,_,L2 hgr ha rfl,?_⟩|refine i6 hr ?_|apply zD<;>intro<;>try omega)<;>conv=>whnf
   all_goals first
    |omega
    |exact n8 hI
  |false=>
   rw [hq] at hgr hI;conv=>whnf
   repeat' (first|refine zx ?_|refine .inl ⟨_,_,L2 hgr ha rfl,?_⟩|refine i6 hr ?_|apply zD<;>intro<;>try omega)<;>conv=>whnf
   all_goals first|omega|exact ⟨hlt,by simpa using hI,[],rz⟩
 ·have hke:k=rs.length:=by omega
  subst hke;rw [lbo (lbQ _)] at hI;conv=>whnf
  repeat' (first|refine zx ?_|apply zD<;>intro<;>try omega)<;>conv=>whnf
  all_goals first|omega|exact n8 hI
def at4 (rs:List E9) (hl:rs.length<=1000000) (g:FuncId) (caps:List T) (q:E9->Bool) (hg:∀r ∈ rs,ec g (bh6 r::caps.map fun x=>.c (.t x)) [] (i9 (q r)) []):
 ec 310 [.c (.t (N6 rs)),.c (.t (.fn (.func g) caps))] [] (i9 (rs.any q)) []:=by
 have ix:=b0R rs hl g caps q hg;refine ac Tryz.func310 ?_;conv=>whnf
 repeat' (first|refine zx ?_|apply zD<;>intro<;>try omega)<;>conv=>whnf
 all_goals (refine d9 ?_;rw [← a7p q rs 0];simp;omega)
def b1h (rs:List E9) (hl:rs.length<=1000000) (scale day:Int):ec 256 [.c (.t (N6 rs)),eI scale,eI day] [] (i9 (a1P rs scale day)) []:=by
 have ct:=at4 rs hl 311 [b95 scale,b95 day] _ (fun r _=>aI4 r scale day)
 (refine ac Tryz.func256 ?_;(conv=>whnf);repeat ((first|refine b0x ?_|refine zy ?_);conv=>whnf))
 repeat' (first|refine zx ?_|apply zD<;>intro<;>try omega)<;>conv=>whnf
 all_goals (refine d9 ?_;symm;assumption)
end Go.Proofs.YtikokmdpigploaaGreat
