/- Part 6. -/
import Derived.Test.YtaejgdbahjjncaaGreatUj5
namespace Go.Proofs.YtaejgdbahjjncaaGreat
set_option linter.unusedVariables false
set_option linter.unusedSimpArgs false
set_option maxRecDepth 100000
open Go.RowKit
open St1 St2 St3 St4 St5 St6 St7 St8 StA StB
theorem a6I {a:Int} (j:Nat) (hj:j<=62):IntKind.wrap .i64 (BitVec.ofInt (IntKind.bits .i64) a &&& BitVec.ofInt (IntKind.bits .i64) ((2 ^ j - 1:Nat):Int)).toNat=a % ((2 ^ j:Nat):Int):=by
 rw [aI6 rfl a j hj]
 have hp:(2:Nat) ^ j<=2 ^ 62:=Nat.pow_le_pow_right (by decide) hj
 have h0:0<(2:Nat) ^ j:=Nat.pow_pos (by decide)
 have h1:0<=a % ((2 ^ j:Nat):Int):=Int.emod_nonneg _ (by omega)
 have h2:a % ((2 ^ j:Nat):Int)<((2 ^ j:Nat):Int):=Int.emod_lt_of_pos _ (by omega)
 rw [lbY h1]
 exact (show H7 .i64 _ _ from a3C (by omega) (by omega)).symm
structure av8 (m n:Int):Prop where
 ok:∀a:Int,a4R .and .i64 a m (a % n)
theorem a6t:av8 1048575 1048576:=⟨fun a=>(a6I (a:=a) 20 (by decide)).symm⟩
theorem ac3:av8 1 2:=⟨fun a=>(a6I (a:=a) 1 (by decide)).symm⟩
theorem ad9 (a:Int):b0l .i64 a 20 (a / 1048576):=by
 show a / 1048576=a.fdiv 1048576
 exact (Int.fdiv_eq_ediv_of_nonneg _ (by decide)).symm
theorem Q1 {l:List Int} {i:Nat} {n:Int} {v:Int} (h:0+n.toNat=i):(toC (l.map e8)).set (0+n.toNat) [C.t (ti v)]=toC ((l.set i v).map e8):=by
 rw [h];simp [toC,e8,List.map_set]
theorem R3 {l:List Int} {n:Int} {i:Nat} (h:n.toNat=i) (hi:i<l.length):l[0+n.toNat]? =some (dat l i):=by rw [Nat.zero_add,h];exact A9 hi
theorem b9f (a b:List Int) (ha:Okd a) (hb:Okd b) (la:a.length<=400000) (lb:b.length<=400000) (hab:b.length<=a.length):
 b7 Tryz.prog 203 [g8 a,g8 b] [] (g8 (dg (val a+val b).toNat)) []:=by
 have l1:(a.map e8).length=a.length:=by simp
 have l2:(b.map e8).length=b.length:=by simp
 (refine ac Tryz.func203 ?_;(conv=>whnf);repeat (refine zy ?_;conv=>whnf))
 repeat' (first|refine zx ?_|refine a5S (by omega) (by omega) (by omega) (by decide) ?_|refine zd ?_ ?_<;>intro h<;>try omega|fail)<;>conv=>whnf
 refine u9 c7 (σ:=Nat × List Int × Int) (fun|(k,out,c)=>([g8 a,g8 b,J,J,J,a4j 0 out,a8 .i64 c]++Jn 13++[g8 a,a8 .i64 a.length,a8 .i64 k]++Jn 32,[n7 out])) (fun x=>a8f a b x.1 x.2.1 x.2.2) (fun x=>a.length - x.1) (0,List.replicate (a.length+1) 0,0) [some 0]
  (a8f.init _ _) ⟨rfl,rfl,⟨b8 rfl rfl rfl ?_ rfl,trivial⟩,⟨i5 rfl,i5 rfl,x4 rfl (by simp),rfl,i5 rfl,c6 (by simp),rfl,trivial⟩⟩ ?_
 ·show List.replicate _ _=_
  simp [toC,e8,E3]
 rintro ⟨k,out,c⟩ hI
 have hI:a8f a b k out c:=hI
 have hlen:=hI.len
 have hle:=hI.le
 have hc0:=hI.c0
 have hc1:=hI.c1
 conv=>whnf
 have hda:=ha.dat k
 have hdb:=hb.dat k
 repeat' (first|refine zx ?_|refine d7 (A9 (by omega)) ?_|refine a2l (by omega) (by show _<((out.length:Nat):Int);omega) ?_|refine p4 (R3 rfl (by omega)) ?_|refine ⟨_,av8.ok (by first|exact a6t|exact ac3) _,?_⟩|refine ⟨by decide,_,ad9 _,?_⟩|refine zd ?_ ?_<;>intro h<;>try omega|fail)<;>conv=>whnf
 ·refine ⟨[some 0],(k+1,out.set k ((c+dat a k+dat b k) % 1048576),(c+dat a k+dat b k) / 1048576),⟨rfl,rfl,⟨b8 rfl rfl rfl (Q1 (by omega)) rfl,trivial⟩,⟨rfl,rfl,x4 rfl (by simp),rfl,rfl,rfl,c6 (by omega),trivial⟩⟩,hI.step ha hb (by omega),?_⟩
  show a.length - (k+1)<a.length - k
  omega
 ·have e:dat b k=0:=a1Z (by omega)
  have hst:=hI.step ha hb (by omega)
  rw [e,Int.add_zero] at hst
  refine ⟨[some 0],(k+1,out.set k ((c+dat a k) % 1048576),(c+dat a k) / 1048576),⟨rfl,rfl,⟨b8 rfl rfl rfl (Q1 (by omega)) rfl,trivial⟩,⟨rfl,rfl,x4 rfl (by simp),rfl,rfl,rfl,c6 (by omega),trivial⟩⟩,hst,?_⟩
  show a.length - (k+1)<a.length - k
  omega
 ·have hk:k=a.length:=by omega
  subst hk
  have hf:=hI.fin (by omega)
  have t:=a3s (out.set a.length c) (by simp;omega)
  rw [hf] at t
  refine .inr ⟨_,_,C7 [0] t ⟨a3p (t8 (by simp) rfl (by intro h;cases h) rfl (Q1 (by omega)) (by simp)),trivial⟩ rfl,?_⟩
  conv=>whnf
  exact b13 (by rw [Int.add_comm])
theorem b9Y (a b:List Int) (ha:Okd a) (hb:Okd b) (la:a.length<=400000) (lb:b.length<=400000) (hab:a.length<b.length):
 b7 Tryz.prog 203 [g8 a,g8 b] [] (g8 (dg (val a+val b).toNat)) []:=by
 have l1:(a.map e8).length=a.length:=by simp
 have l2:(b.map e8).length=b.length:=by simp
 (refine ac Tryz.func203 ?_;(conv=>whnf);repeat (refine zy ?_;conv=>whnf))
 repeat' (first|refine zx ?_|refine a5S (by omega) (by omega) (by omega) (by decide) ?_|refine zd ?_ ?_<;>intro h<;>try omega|fail)<;>conv=>whnf
 refine u9 c7 (σ:=Nat × List Int × Int) (fun|(k,out,c)=>([g8 b,g8 a,J,J,J,a4j 0 out,a8 .i64 c]++Jn 13++[g8 b,a8 .i64 b.length,a8 .i64 k]++Jn 32,[n7 out])) (fun x=>a8f b a x.1 x.2.1 x.2.2) (fun x=>b.length - x.1) (0,List.replicate (b.length+1) 0,0) [some 0]
  (a8f.init _ _) ⟨rfl,rfl,⟨b8 rfl rfl rfl ?_ rfl,trivial⟩,⟨i5 rfl,i5 rfl,x4 rfl (by simp),rfl,i5 rfl,c6 (by simp),rfl,trivial⟩⟩ ?_
 ·show List.replicate _ _=_
  simp [toC,e8,E3]
 rintro ⟨k,out,c⟩ hI
 have hI:a8f b a k out c:=hI
 have hlen:=hI.len
 have hle:=hI.le
 have hc0:=hI.c0
 have hc1:=hI.c1
 conv=>whnf
 have hda:=hb.dat k
 have hdb:=ha.dat k
 repeat' (first|refine zx ?_|refine d7 (A9 (by omega)) ?_|refine a2l (by omega) (by show _<((out.length:Nat):Int);omega) ?_|refine p4 (R3 rfl (by omega)) ?_|refine ⟨_,av8.ok (by first|exact a6t|exact ac3) _,?_⟩|refine ⟨by decide,_,ad9 _,?_⟩|refine zd ?_ ?_<;>intro h<;>try omega|fail)<;>conv=>whnf
 ·refine ⟨[some 0],(k+1,out.set k ((c+dat b k+dat a k) % 1048576),(c+dat b k+dat a k) / 1048576),⟨rfl,rfl,⟨b8 rfl rfl rfl (Q1 (by omega)) rfl,trivial⟩,⟨rfl,rfl,x4 rfl (by simp),rfl,rfl,rfl,c6 (by omega),trivial⟩⟩,hI.step hb ha (by omega),?_⟩
  show b.length - (k+1)<b.length - k
  omega
 ·have e:dat a k=0:=a1Z (by omega)
  have hst:=hI.step hb ha (by omega)
  rw [e,Int.add_zero] at hst
  refine ⟨[some 0],(k+1,out.set k ((c+dat b k) % 1048576),(c+dat b k) / 1048576),⟨rfl,rfl,⟨b8 rfl rfl rfl (Q1 (by omega)) rfl,trivial⟩,⟨rfl,rfl,x4 rfl (by simp),rfl,rfl,rfl,c6 (by omega),trivial⟩⟩,hst,?_⟩
  show b.length - (k+1)<b.length - k
  omega
 ·have hk:k=b.length:=by omega
  subst hk
  have hf:=hI.fin (by omega)
  have t:=a3s (out.set b.length c) (by simp;omega)
  rw [hf] at t
  refine .inr ⟨_,_,C7 [0] t ⟨a3p (t8 (by simp) rfl (by intro h;cases h) rfl (Q1 (by omega)) (by simp)),trivial⟩ rfl,?_⟩
  conv=>whnf
  exact b13 (by rw [Int.add_comm])
theorem bd1 (a b:List Int) (ha:Okd a) (hb:Okd b) (la:a.length<=400000) (lb:b.length<=400000):
 b7 Tryz.prog 203 [g8 a,g8 b] [] (g8 (dg (val a+val b).toNat)) []:=by
 rcases Nat.lt_or_ge a.length b.length with h|h
 ·exact b9Y a b ha hb la lb h
 ·exact b9f a b ha hb la lb h
theorem bb6 (a b:List Int) (ha:Okd a) (hb:Okd b) (la:a.length<=400000) (lb:b.length<=a.length) (hv:val b<=val a):
 b7 Tryz.prog 204 [g8 a,g8 b] [] (g8 (dg (val a - val b).toNat)) []:=by
 have l1:(a.map e8).length=a.length:=by simp
 have l2:(b.map e8).length=b.length:=by simp
 (refine ac Tryz.func204 ?_;(conv=>whnf);repeat (refine zy ?_;conv=>whnf))
 repeat' (first|refine zx ?_|refine zd ?_ ?_<;>intro h<;>try omega|fail)<;>conv=>whnf
 refine .inr ⟨_,_,ao1 (b3m a (by omega)) rfl rfl rfl rfl,?_⟩
 conv=>whnf
 repeat' (first|refine zx ?_|refine zd ?_ ?_<;>intro h<;>try omega|fail)<;>conv=>whnf
 refine u9 c7 (σ:=Nat × List Int × Int) (fun|(k,out,c)=>([J,g8 b,J,J,J,a4j 0 out,a8 .i64 c,J,J,J,J,J,a8 .i64 a.length,a8 .i64 k]++Jn 29,[n7 out])) (fun x=>ak2 a b x.1 x.2.1 x.2.2) (fun x=>a.length - x.1) (0,a,0) [some 0]
  (ak2.init ha) ⟨rfl,rfl,⟨b8 rfl rfl rfl rfl rfl,trivial⟩,⟨i5 rfl,x4 rfl rfl,rfl,c6 (by simp),rfl,trivial⟩⟩ ?_
 rintro ⟨k,out,c⟩ hI
 have hI:ak2 a b k out c:=hI
 have hlen:=hI.len
 have hle:=hI.le
 have hc0:=hI.c0
 have hc1:=hI.c1
 conv=>whnf
 have hda:=hI.ok.dat k
 have hdb:=hb.dat k
 repeat' (first|refine zx ?_|refine d7 (A9 (by omega)) ?_|refine a2l (by omega) (by show _<((out.length:Nat):Int);omega) ?_|refine p4 (R3 (i:=k) rfl (by omega)) ?_|refine ⟨_,av8.ok (by first|exact a6t|exact ac3) _,?_⟩|refine ⟨by decide,_,ad9 _,?_⟩|refine zd ?_ ?_<;>intro h<;>try omega|fail)<;>conv=>whnf
 ·refine ⟨[some 0],(k+1,out.set k ((dat out k - c - dat b k) % 1048576),(dat out k - c - dat b k) / 1048576 % 2),⟨rfl,rfl,⟨b8 rfl rfl rfl (Q1 (by omega)) rfl,trivial⟩,⟨rfl,x4 rfl (by simp),rfl,rfl,c6 (by omega),trivial⟩⟩,hI.step ha hb (by omega),?_⟩
  show a.length - (k+1)<a.length - k
  omega
 ·have e:dat b k=0:=a1Z (by omega)
  have hst:=hI.step ha hb (by omega)
  rw [e,Int.sub_zero] at hst
  refine ⟨[some 0],(k+1,out.set k ((dat out k - c) % 1048576),(dat out k - c) / 1048576 % 2),⟨rfl,rfl,⟨b8 rfl rfl rfl (Q1 (by omega)) rfl,trivial⟩,⟨rfl,x4 rfl (by simp),rfl,rfl,c6 (by omega),trivial⟩⟩,hst,?_⟩
  show a.length - (k+1)<a.length - k
  omega
 ·have hk:k=a.length:=by omega
  subst hk
  have hf:=hI.fin (by omega) hv
  have t:=a3s out (by omega)
  rw [hf] at t
  refine .inr ⟨_,_,C7 [0] t ⟨a3p (t8 (by simp) rfl (by intro h;cases h) rfl rfl (by simp)),trivial⟩ rfl,?_⟩
  conv=>whnf
  exact b13 rfl
set_option maxHeartbeats 1000000 in
theorem b8x (a b:List Int) (ha:Okd a) (hb:Okd b) (la:a.length<=400000) (lb:b.length<=400000):
 b7 Tryz.prog 219 [g8 a,g8 b] [] (g8 (dg (val a*val b).toNat)) []:=by
 have l1:(a.map e8).length=a.length:=by simp
 have l2:(b.map e8).length=b.length:=by simp
 (refine ac Tryz.func219 ?_;(conv=>whnf);repeat (refine zy ?_;conv=>whnf))
 repeat' (first|refine zx ?_|refine a5S (by omega) (by omega) (by omega) (by decide) ?_|refine zd ?_ ?_<;>intro h<;>try omega|fail)<;>conv=>whnf
 refine u9 c7 (σ:=Nat × List Int) (fun|(i,out)=>([J,g8 b,J,J,J,a4j 0 out]++Jn 12++[g8 a,a8 .i64 a.length,a8 .i64 i]++Jn 46,[n7 out])) (fun x=>a7O a b x.1 x.2) (fun x=>a.length - x.1) (0,List.replicate (a.length+b.length) 0) [some 0]
  (a7O.init a b) ⟨rfl,rfl,⟨b8 rfl rfl rfl ?_ rfl,trivial⟩,⟨i5 rfl,x4 rfl (by simp;omega),i5 rfl,c6 (by simp),rfl,trivial⟩⟩ ?_
 ·show List.replicate _ _=_
  rw [show ((((a.map e8).length:Nat):Int)+((b.map e8).length:Nat)).toNat=a.length+b.length by omega]
  simp [toC,e8,E3]
 rintro ⟨i,out⟩ hI
 have hI:a7O a b i out:=hI
 have hlen:=hI.len
 have hle:=hI.le
 conv=>whnf
 repeat' (first|refine zx ?_|refine d7 (A9 (by omega)) ?_|refine zd ?_ ?_<;>intro h<;>try omega|fail)<;>conv=>whnf
 ·have hi:i<a.length:=by omega
  refine u9 c7 (σ:=Nat × List Int × Int) (fun|(k,out,c)=>([J,g8 b,J,J,J,a4j 0 out,a8 .i64 i,a8 .i64 (dat a i),a8 .i64 c,J,J,J,J,J,J,J,J,J,g8 a,a8 .i64 a.length,a8 .i64 i,J,J,J,J,g8 b,a8 .i64 b.length,a8 .i64 k]++Jn 39,[n7 out])) (fun x=>ak3 a b i x.1 x.2.1 x.2.2) (fun x=>b.length - x.1) (0,out,0) [some 0]
   hI.start ⟨rfl,rfl,⟨b8 rfl rfl rfl rfl rfl,trivial⟩,⟨i5 rfl,x4 rfl rfl,rfl,rfl,rfl,i5 rfl,rfl,rfl,i5 rfl,c6 (by simp),rfl,trivial⟩⟩ ?_
  rintro ⟨k,out,c⟩ hK
  have hK:ak3 a b i k out c:=hK
  have hlen:=hK.len
  have hle:=hK.le
  have hc0:=hK.c0
  have hc1:=hK.c1
  conv=>whnf
  have hdo:=hK.ok.dat (i+k)
  have hm:=a5c (ha.dat i) (hb.dat k)
  have e1:((i:Int)+k).toNat=i+k:=by omega
  have e2:((i:Int)+b.length).toNat=i+b.length:=by omega
  have e3:((i:Int)+((b.map e8).length:Nat)).toNat=i+b.length:=by omega
  have hz:=hK.zero (i+b.length) (lbQ _)
  repeat' (first|refine zx ?_|refine d7 (A9 (by omega)) ?_|refine a2l (by omega) (by show _<((out.length:Nat):Int);omega) ?_|refine p4 (R3 e1 (by omega)) ?_|refine p4 (R3 e3 (by omega)) ?_|refine ⟨_,av8.ok (by first|exact a6t|exact ac3) _,?_⟩|refine ⟨by decide,_,ad9 _,?_⟩|refine zd ?_ ?_<;>intro h<;>try omega|fail)<;>conv=>whnf
  ·refine ⟨[some 0],(k+1,out.set (i+k) ((dat out (i+k)+dat a i*dat b k+c) % 1048576),(dat out (i+k)+dat a i*dat b k+c) / 1048576),⟨rfl,rfl,⟨b8 rfl rfl rfl (Q1 (by omega)) rfl,trivial⟩,⟨rfl,x4 rfl (by simp),rfl,rfl,rfl,rfl,rfl,rfl,rfl,rfl,c6 (by omega),trivial⟩⟩,hK.step ha hb hi (by omega),?_⟩
   show b.length - (k+1)<b.length - k
   omega
  ·have hk:k=b.length:=by omega
   subst hk
   refine ⟨[some 0],(i+1,out.set (i+b.length) (dat out (i+b.length)+c)),⟨rfl,rfl,⟨b8 rfl rfl rfl (Q1 (by omega)) rfl,trivial⟩,⟨rfl,x4 rfl (by simp),rfl,rfl,c6 (by omega),trivial⟩⟩,hK.done ha hb hi,?_⟩
   show a.length - (i+1)<a.length - i
   omega
 ·have hi:i=a.length:=by omega
  subst hi
  have hf:=hI.fin
  have t:=a3s out (by omega)
  rw [hf] at t
  refine .inr ⟨_,_,C7 [0] t ⟨a3p (t8 (by simp) rfl (by intro h;cases h) rfl rfl (by simp)),trivial⟩ rfl,?_⟩
  conv=>whnf
  exact b13 rfl
set_option maxHeartbeats 1000000 in
theorem b9W (a b:List Int) (ha:Okd a) (hb:Okd b) (la:a.length<=400000) (lb:b.length<=400000):
 b7 Tryz.prog 219 [g8 a,g8 b] [] (.c (.own 0 0 (dg (val a*val b).toNat).length true)) [n7 (a0d (a.length+b.length) (dg (val a*val b).toNat))]:=by
 have l1:(a.map e8).length=a.length:=by simp
 have l2:(b.map e8).length=b.length:=by simp
 (refine ac Tryz.func219 ?_;(conv=>whnf);repeat (refine zy ?_;conv=>whnf))
 repeat' (first|refine zx ?_|refine a5S (by omega) (by omega) (by omega) (by decide) ?_|refine zd ?_ ?_<;>intro h<;>try omega|fail)<;>conv=>whnf
 refine u9 c7 (σ:=Nat × List Int) (fun|(i,out)=>([J,g8 b,J,J,J,a4j 0 out]++Jn 12++[g8 a,a8 .i64 a.length,a8 .i64 i]++Jn 46,[n7 out])) (fun x=>a7O a b x.1 x.2) (fun x=>a.length - x.1) (0,List.replicate (a.length+b.length) 0) [some 0]
  (a7O.init a b) ⟨rfl,rfl,⟨b8 rfl rfl rfl ?_ rfl,trivial⟩,⟨i5 rfl,x4 rfl (by simp;omega),i5 rfl,c6 (by simp),rfl,trivial⟩⟩ ?_
 ·show List.replicate _ _=_
  rw [show ((((a.map e8).length:Nat):Int)+((b.map e8).length:Nat)).toNat=a.length+b.length by omega]
  simp [toC,e8,E3]
 rintro ⟨i,out⟩ hI
 have hI:a7O a b i out:=hI
 have hlen:=hI.len
 have hle:=hI.le
 conv=>whnf
 repeat' (first|refine zx ?_|refine d7 (A9 (by omega)) ?_|refine zd ?_ ?_<;>intro h<;>try omega|fail)<;>conv=>whnf
 ·have hi:i<a.length:=by omega
  refine u9 c7 (σ:=Nat × List Int × Int) (fun|(k,out,c)=>([J,g8 b,J,J,J,a4j 0 out,a8 .i64 i,a8 .i64 (dat a i),a8 .i64 c,J,J,J,J,J,J,J,J,J,g8 a,a8 .i64 a.length,a8 .i64 i,J,J,J,J,g8 b,a8 .i64 b.length,a8 .i64 k]++Jn 39,[n7 out])) (fun x=>ak3 a b i x.1 x.2.1 x.2.2) (fun x=>b.length - x.1) (0,out,0) [some 0]
   hI.start ⟨rfl,rfl,⟨b8 rfl rfl rfl rfl rfl,trivial⟩,⟨i5 rfl,x4 rfl rfl,rfl,rfl,rfl,i5 rfl,rfl,rfl,i5 rfl,c6 (by simp),rfl,trivial⟩⟩ ?_
  rintro ⟨k,out,c⟩ hK
  have hK:ak3 a b i k out c:=hK
  have hlen:=hK.len
  have hle:=hK.le
  have hc0:=hK.c0
  have hc1:=hK.c1
  conv=>whnf
  have hdo:=hK.ok.dat (i+k)
  have hm:=a5c (ha.dat i) (hb.dat k)
  have e1:((i:Int)+k).toNat=i+k:=by omega
  have e2:((i:Int)+b.length).toNat=i+b.length:=by omega
  have e3:((i:Int)+((b.map e8).length:Nat)).toNat=i+b.length:=by omega
  have hz:=hK.zero (i+b.length) (lbQ _)
  repeat' (first|refine zx ?_|refine d7 (A9 (by omega)) ?_|refine a2l (by omega) (by show _<((out.length:Nat):Int);omega) ?_|refine p4 (R3 e1 (by omega)) ?_|refine p4 (R3 e3 (by omega)) ?_|refine ⟨_,av8.ok (by first|exact a6t|exact ac3) _,?_⟩|refine ⟨by decide,_,ad9 _,?_⟩|refine zd ?_ ?_<;>intro h<;>try omega|fail)<;>conv=>whnf
  ·refine ⟨[some 0],(k+1,out.set (i+k) ((dat out (i+k)+dat a i*dat b k+c) % 1048576),(dat out (i+k)+dat a i*dat b k+c) / 1048576),⟨rfl,rfl,⟨b8 rfl rfl rfl (Q1 (by omega)) rfl,trivial⟩,⟨rfl,x4 rfl (by simp),rfl,rfl,rfl,rfl,rfl,rfl,rfl,rfl,c6 (by omega),trivial⟩⟩,hK.step ha hb hi (by omega),?_⟩
   show b.length - (k+1)<b.length - k
   omega
  ·have hk:k=b.length:=by omega
   subst hk
   refine ⟨[some 0],(i+1,out.set (i+b.length) (dat out (i+b.length)+c)),⟨rfl,rfl,⟨b8 rfl rfl rfl (Q1 (by omega)) rfl,trivial⟩,⟨rfl,x4 rfl (by simp),rfl,rfl,c6 (by omega),trivial⟩⟩,hK.done ha hb hi,?_⟩
   show a.length - (i+1)<a.length - i
   omega
 ·have hi:i=a.length:=by omega
  subst hi
  have hf:=hI.fin
  have t:=b7K out (by omega)
  have hp:=as2 out
  rw [hf] at t hp
  refine .inr ⟨_,_,t,?_⟩
  conv=>whnf
  have hq:a0d (a.length+b.length) (dg (val a*val b).toNat)=out:=by unfold a0d;rw [← hlen];exact hp
  rw [hq]
  exact ⟨⟨[some 0],rfl,rfl,⟨b8 rfl rfl rfl rfl rfl,trivial⟩,⟨rfl,rfl,rfl,fun h=>h⟩⟩⟩
theorem b5J {r:Int} (h0:0<=r) (h1:r<4398046511104):H7 .i64 (r*2 ^ min (20:Int).toNat (IntKind.bits .i64)) (r*1048576):=by
 show H7 .i64 (r*1048576) (r*1048576)
 exact a3C (by omega) (by omega)
theorem b9E {k:IntKind} (hk:k.bits=64) (R X:Nat) (h1:R<4398046511104) (hx:X<1048576):(BitVec.ofInt k.bits ((R:Int)*1048576) ||| BitVec.ofInt k.bits (X:Int)).toNat=R*1048576+X:=by
 rw [hk,BitVec.toNat_or,BitVec.toNat_ofInt,BitVec.toNat_ofInt]
 have e1:(((R:Int)*1048576) % ((2 ^ 64:Nat):Int)).toNat=R <<< 20:=by
  rw [Nat.shiftLeft_eq];omega
 have e2:((X:Int) % ((2 ^ 64:Nat):Int)).toNat=X:=by omega
 rw [e1,e2,←Nat.shiftLeft_add_eq_or_of_lt (by omega),Nat.shiftLeft_eq]
theorem ba3 {r x:Int} (h0:0<=r) (h1:r<4398046511104) (hx0:0<=x) (hx1:x<1048576):a4R .or .i64 (r*1048576) x (r*1048576+x):=by
 obtain ⟨R,rfl⟩:=Int.eq_ofNat_of_zero_le h0
 obtain ⟨X,rfl⟩:=Int.eq_ofNat_of_zero_le hx0
 unfold a4R
 simp only
 rw [b9E rfl R X (by omega) (by omega)]
 have e:((R*1048576+X:Nat):Int)=(R:Int)*1048576+X:=by simp
 rw [e]
 exact (show H7 .i64 ((R:Int)*1048576+X) _ from a3C (by omega) (by omega))
theorem b8u {a b:Int} (h0:0<=a) (h1:a<=9223372036854775807) (hb:0<b):H7 .i64 (a.tdiv b) (a / b):=by
 rw [Int.tdiv_eq_ediv_of_nonneg h0]
 have h2:0<=a / b:=Int.ediv_nonneg h0 (by omega)
 have h3:a / b<=a:=Int.ediv_le_self _ h0
 exact a3C (by omega) (by omega)
theorem b2y {l:List Int} {n:Nat} (h:0<n) (hn:n<=l.length):l[0+((n:Int) - 1).toNat]? =some (dat l (n - 1)):=by rw [Nat.zero_add];exact a2Q h hn
theorem b1q (a:List Int) (d:Int) (ha:Okd a) (la:a.length<=1000000) (hd:0<d) (hd2:d<1048576):
 b7 Tryz.prog 260 [g8 a,a8 .i64 d] [] (.tup [g8 (dg (val a / d).toNat),a8 .i64 (val a % d)]) []:=by
 have l1:(a.map e8).length=a.length:=by simp
 (refine ac Tryz.func260 ?_;(conv=>whnf);repeat (refine zy ?_;conv=>whnf))
 repeat' (first|refine zx ?_|refine a5S (by omega) (by omega) (by omega) (by decide) ?_|refine zd ?_ ?_<;>intro h<;>try omega|fail)<;>conv=>whnf
 refine u9 c7 (σ:=Nat × List Int × Int) (fun|(j,out,r)=>([g8 a,a8 .i64 d,J,J,J,J,a4j 0 out,a8 .i64 r,a8 .i64 ((j:Int) - 1)]++Jn 29,[n7 out])) (fun x=>a2D a d x.1 x.2.1 x.2.2) (fun x=>x.1) (a.length,List.replicate a.length 0,0) [some 0]
  (a2D.init a hd) ⟨rfl,rfl,⟨b8 rfl rfl rfl ?_ rfl,trivial⟩,⟨i5 rfl,rfl,x4 rfl (by simp),rfl,c6 (by simp),trivial⟩⟩ ?_
 ·show List.replicate _ _=_
  simp [toC,e8,E3]
 rintro ⟨j,out,r⟩ hI
 have hI:a2D a d j out r:=hI
 have hlen:=hI.len
 have hle:=hI.le
 have hr0:=hI.r0
 have hr1:=hI.r1
 have hda:=ha.dat (j - 1)
 conv=>whnf
 repeat' (first|refine zx ?_|refine F3 (by omega) (a2Q (by omega) hle) ?_|refine a2l (by omega) (by show _<((out.length:Nat):Int);omega) ?_|refine p4 (b2y (by omega) (by omega)) ?_|refine ⟨by decide,_,b5J (by omega) (by omega),?_⟩|refine ⟨_,ba3 (by omega) (by omega) (by omega) (by omega),?_⟩|refine ⟨by omega,_,b8u (by omega) (by omega) (by omega),?_⟩|refine b8l (by omega) ?_|refine zd ?_ ?_<;>intro h<;>try omega|fail)<;>conv=>whnf
 ·obtain ⟨j,rfl⟩:∃i,j=i+1:=⟨j - 1,by omega⟩
  simp only [Nat.add_sub_cancel] at *
  have hst:=hI.step ha hd
  rw [← Int.tmod_eq_emod_of_nonneg (by omega)] at hst
  refine ⟨[some 0],(j,out.set j ((r*1048576+dat a j) / d),(r*1048576+dat a j).tmod d),⟨rfl,rfl,⟨b8 rfl rfl rfl (Q1 (by omega)) rfl,trivial⟩,⟨rfl,rfl,x4 rfl (by simp),rfl,c6 (by omega),trivial⟩⟩,hst,?_⟩
  show j<j+1
  omega
 ·have hj:j=0:=by omega
  subst hj
  obtain ⟨hf,hr⟩:=hI.fin ha hd
  have t:=a3s out (by omega)
  rw [hf] at t
  refine .inr ⟨_,_,C7 [0] t ⟨a3p (t8 (by simp) rfl (by intro h;cases h) rfl rfl (by simp)),trivial⟩ rfl,?_⟩
  conv=>whnf
  repeat' (first|refine zx ?_|refine zd ?_ ?_<;>intro h<;>try omega|fail)<;>conv=>whnf
  exact j3 ⟨rfl,c6 hr,trivial⟩
theorem b0n {pre out post:List Int} {k:Nat} (h:k<out.length):(pre++out++post)[pre.length+(k:Int).toNat]? =some (dat out k):=by
 rw [lbD,lbc (by omega),show pre.length+(k:Int).toNat - pre.length=k by omega,lbb h]
 exact A9 h
theorem a7H {pre out post:List Int} {k:Nat} {v:Int} (h:k<out.length):(toC ((pre++out++post).map e8)).set (pre.length+(k:Int).toNat) [C.t (ti v)]=toC ((pre++out.set k v++post).map e8):=by
 have e:(pre++out++post).set (pre.length+k) v=pre++out.set k v++post:=by
  rw [lbD,List.set_append_right _ _ (by omega),show pre.length+k - pre.length=k by omega,List.set_append_left _ _ h,lbD]
 rw [← e]
 show (toC ((pre++out++post).map e8)).set (pre.length+k) _=_
 simp [toC,e8,List.map_set]
def U4 (w v g:Int):Int:=if g*v<=w then g else g - 1
theorem b50 (pre w post v:List Int) (g:Int) (hw:Okd w) (hv:Okd v) (lw:w.length<=1000000) (lv:v.length<=w.length) (hg:0<=g∧g<1048576) (hgv:g*val v<=val w+val v):
 b7 Tryz.prog 261 [.c (.own 0 pre.length w.length false),g8 v,a8 .i64 g] [n7 (pre++w++post)] (a8 .i64 (U4 (val w) (val v) g))
  [n7 (pre++a0d w.length (dg (val w - U4 (val w) (val v) g*val v).toNat)++post)]:=by
 have l1:(v.map e8).length=v.length:=by simp
 (refine ac Tryz.func261 ?_;(conv=>whnf);repeat (refine zy ?_;conv=>whnf))
 repeat' (first|refine zx ?_|refine zd ?_ ?_<;>intro h<;>try omega|fail)<;>conv=>whnf
 refine u9 c7 (σ:=Nat × List Int × Int) (fun|(k,out,c)=>([S.c (C.own 0 pre.length w.length false),g8 v,a8 .i64 g,J,J,J,J,a8 .i64 c,J,J,J,J,J,a8 .i64 w.length,a8 .i64 k]++Jn 63,[n7 (pre++out++post)])) (fun x=>a9h w v g x.1 x.2.1 x.2.2) (fun x=>w.length - x.1) (0,w,0) [some 0]
  (a9h.init g hw) ⟨rfl,rfl,⟨b8 rfl rfl rfl rfl rfl,trivial⟩,⟨⟨rfl,rfl,rfl,fun h=>h⟩,i5 rfl,rfl,rfl,rfl,rfl,trivial⟩⟩ ?_
 rintro ⟨k,out,c⟩ hI
 have hI:a9h w v g k out c:=hI
 have hlen:=hI.len
 have hle:=hI.le
 have hc0:=hI.c0
 have hc1:=hI.c1
 have hdo:=hI.ok.dat k
 have hm:=a5c hg (hv.dat k)
 conv=>whnf
 repeat' (first|refine zx ?_|refine d7 (A9 (by omega)) ?_|refine p4 (b0n (by omega)) ?_|refine ⟨_,av8.ok (by first|exact a6t|exact ac3) _,?_⟩|refine ⟨by decide,_,ad9 _,?_⟩|refine zd ?_ ?_<;>intro h<;>try omega|fail)<;>conv=>whnf
 ·have hst:=hI.step hv hg (by omega)
  refine ⟨[some 0],(k+1,out.set k ((dat out k - c - g*dat v k) % 1048576),-((dat out k - c - g*dat v k) / 1048576)),⟨rfl,rfl,⟨b8 rfl rfl rfl (a7H (by omega)) rfl,trivial⟩,⟨⟨rfl,rfl,rfl,fun h=>h⟩,rfl,rfl,c6 (Int.zero_sub _),rfl,c6 (by omega),trivial⟩⟩,hst,?_⟩
  show w.length - (k+1)<w.length - k
  omega
 ·have hst:=hI.step hv hg (by omega)
  rw [a1Z (l:=v) (i:=k) (by omega),Int.mul_zero,Int.sub_zero] at hst
  refine ⟨[some 0],(k+1,out.set k ((dat out k - c) % 1048576),-((dat out k - c) / 1048576)),⟨rfl,rfl,⟨b8 rfl rfl rfl (a7H (by omega)) rfl,trivial⟩,⟨⟨rfl,rfl,rfl,fun h=>h⟩,rfl,rfl,c6 (Int.zero_sub _),rfl,c6 (by omega),trivial⟩⟩,hst,?_⟩
  show w.length - (k+1)<w.length - k
  omega
 ·have hk:k=w.length:=by omega
  subst hk
  have hc:c=0:=by assumption
  obtain ⟨h1,h2⟩:=hI.zero lv hw hv hg.1
  have hq:U4 (val w) (val v) g=g:=by unfold U4;rw [if_pos (h1.1 hc)]
  rw [hq,←h2 hc,←b0G hI.ok hlen]
  exact ⟨⟨[some 0],rfl,rfl,⟨b8 rfl rfl rfl rfl rfl,trivial⟩,rfl⟩⟩
 ·have hk:k=w.length:=by omega
  subst hk
  have hc:¬c=0:=by assumption
  obtain ⟨h1,h2⟩:=hI.zero lv hw hv hg.1
  have hlt:¬g*val v<=val w:=fun h=>hc (h1.2 h)
  have hq:U4 (val w) (val v) g=g - 1:=by unfold U4;rw [if_neg hlt]
  have hvl:=a0k hv
  have hpw:=a2o lv
  rw [hq]
  refine u9 c7 (σ:=Nat × List Int × Int) (fun|(k,o,c)=>([S.c (C.own 0 pre.length w.length false),g8 v,a8 .i64 g,J,J,J,J,J,J,J,a8 .i64 c]++Jn 37++[a8 .i64 w.length,a8 .i64 k]++Jn 28,[n7 (pre++o++post)])) (fun x=>a6S out v x.1 x.2.1 x.2.2) (fun x=>w.length - x.1) (0,out,0) [some 0]
   (a6S.init hI.ok) ⟨rfl,rfl,⟨b8 rfl rfl rfl rfl rfl,trivial⟩,⟨⟨rfl,rfl,rfl,fun h=>h⟩,i5 rfl,rfl,rfl,rfl,rfl,trivial⟩⟩ ?_
  rintro ⟨k,o,c'⟩ hB
  have hB:a6S out v k o c':=hB
  have hlen2:=hB.len
  have hle2:=hB.le
  have hb0:=hB.c0
  have hb1:=hB.c1
  have hdo:=hB.ok.dat k
  have hdv:=hv.dat k
  conv=>whnf
  repeat' (first|refine zx ?_|refine d7 (A9 (by omega)) ?_|refine p4 (b0n (by omega)) ?_|refine ⟨_,av8.ok (by first|exact a6t|exact ac3) _,?_⟩|refine ⟨by decide,_,ad9 _,?_⟩|refine zd ?_ ?_<;>intro h<;>try omega|fail)<;>conv=>whnf
  ·have hst:=hB.step hv (by omega)
   refine ⟨[some 0],(k+1,o.set k ((c'+dat o k+dat v k) % 1048576),(c'+dat o k+dat v k) / 1048576),⟨rfl,rfl,⟨b8 rfl rfl rfl (a7H (by omega)) rfl,trivial⟩,⟨⟨rfl,rfl,rfl,fun h=>h⟩,rfl,rfl,rfl,rfl,c6 (by omega),trivial⟩⟩,hst,?_⟩
   show w.length - (k+1)<w.length - k
   omega
  ·have hst:=hB.step hv (by omega)
   rw [a1Z (l:=v) (i:=k) (by omega),Int.add_zero] at hst
   refine ⟨[some 0],(k+1,o.set k ((c'+dat o k) % 1048576),(c'+dat o k) / 1048576),⟨rfl,rfl,⟨b8 rfl rfl rfl (a7H (by omega)) rfl,trivial⟩,⟨⟨rfl,rfl,rfl,fun h=>h⟩,rfl,rfl,rfl,rfl,c6 (by omega),trivial⟩⟩,hst,?_⟩
   show w.length - (k+1)<w.length - k
   omega
  ·have hk:k=w.length:=by omega
   subst hk
   have e:=hI.back hB lv (by omega) (by omega)
   have e2:val w - (g - 1)*val v=val w - g*val v+val v:=by rw [Int.sub_mul];omega
   rw [e2,←e,←b0G hB.ok (by omega)]
   exact ⟨⟨[some 0],rfl,rfl,⟨b8 rfl rfl rfl rfl rfl,trivial⟩,rfl⟩⟩
abbrev b5f (m n:Nat):S:=.tup [g8 (dg (m / n)),g8 (dg (m % n))]
theorem b8C (m n:Nat) (hn:0<n) (h:m<n) (lm:(dg m).length<=400000) (ln:(dg n).length<=400000):
 b7 Tryz.prog 209 [g8 (dg m),g8 (dg n)] [] (b5f m n) []:=by
 have c:=a2N (dg m) (dg n) (a1R m) (a1R n) (by omega) (by omega)
 rw [z7,z7,a3i (by omega)] at c
 have e1:m / n=0:=Nat.div_eq_of_lt h
 have e2:m % n=m:=Nat.mod_eq_of_lt h
 unfold b5f
 rw [e1,e2,a2m]
 (refine ac Tryz.func209 ?_;(conv=>whnf);repeat (refine zy ?_;conv=>whnf))
 repeat' (first|refine zx ?_|refine qp c ?_|refine qp (a58 _ (by omega)) ?_|refine zd ?_ ?_<;>intro h<;>try omega|fail)<;>conv=>whnf
 exact j3 ⟨rfl,rfl,trivial⟩
theorem b8T (m n:Nat) (hn:0<n) (h:n<=m) (hl:(dg n).length=1) (lm:(dg m).length<=400000):
 b7 Tryz.prog 209 [g8 (dg m),g8 (dg n)] [] (b5f m n) []:=by
 have l2:((dg n).map e8).length=(dg n).length:=by simp
 have c:=a2N (dg m) (dg n) (a1R m) (a1R n) (by omega) (by omega)
 rw [z7,z7] at c
 have hc:0<=T2 m n:=by unfold T2;split<;>(try split)<;>omega
 have hn2:=O5 n
 rw [hl] at hn2
 have hn3:(n:Int)<1048576:=by simpa [pw] using hn2
 have hd:dg n=[(n:Int)]:=by
  rw [a6H hn,show n / 1048576=0 by omega,show n % 1048576=n by omega];rfl
 have sh:=b1q (dg m) n (C2 m) (by omega) (by omega) hn3
 rw [z7] at sh
 have e1:((m:Int) / n).toNat=m / n:=by rw [← Int.natCast_ediv];rfl
 have e2:(m:Int) % n=((m % n:Nat):Int):=by simp
 rw [e1,e2] at sh
 have hr:m % n<n:=Nat.mod_lt _ hn
 have t:=a3s [((m % n:Nat):Int)] (by simp)
 rw [T4 (by intro x hx;simp at hx;omega)] at t
 have e3:(val [((m % n:Nat):Int)]).toNat=m % n:=by simp only [val];omega
 rw [e3] at t
 (refine ac Tryz.func209 ?_;(conv=>whnf);repeat (refine zy ?_;conv=>whnf))
 repeat' (first|refine zx ?_|refine qp c ?_|refine qp sh ?_|refine qp hd ?_|refine F3 (x:=(n:Int)) (by omega) (by rw [hd];rfl) ?_|refine .inl ⟨_,_,a6z t ⟨a3p (aV3 rfl),trivial⟩ rfl,?_⟩|refine zd ?_ ?_<;>intro h<;>try omega|fail)<;>conv=>whnf
 all_goals (first|omega|exact j3 ⟨rfl,rfl,trivial⟩)
theorem b9c {n k:Nat} {top:Int} (hn:0<n) (ht:dat (dg n) ((dg n).length - 1)=top) (hk:k<=19) (h1:top*2 ^ k<1048576) (h2:¬top*2 ^ k<524288):
 (dg (n*2 ^ k)).length=(dg n).length∧524288<=dat (dg (n*2 ^ k)) ((dg n).length - 1):=by
 have hl:(dg n).length≠0:=by rw [Ne,List.length_eq_zero_iff,S3];omega
 obtain ⟨l,hl'⟩:∃l,(dg n).length=l+1:=⟨(dg n).length - 1,by omega⟩
 rw [hl',Nat.add_sub_cancel] at ht ⊢
 have e1:=w9 (dg n) l
 rw [lbn (by omega),z7,ht] at e1
 have a1:=s8 ((C2 n).take l)
 have a2:=a0k ((C2 n).take l)
 rw [lbs,Nat.min_eq_left (by omega)] at a2
 have t0:=(C2 n).dat l
 rw [ht] at t0
 obtain ⟨T,rfl⟩:=Int.eq_ofNat_of_zero_le t0.1
 have hp:(0:Int)<2 ^ k:=Int.pow_pos (by decide)
 have hpp:=R1 l
 have e2:(2:Int) ^ k*2 ^ (20 - k)=1048576:=by rw [← Int.pow_add,show k+(20 - k)=20 by omega];rfl
 have h3:(T:Int)<2 ^ (20 - k):=by
  refine Int.lt_of_mul_lt_mul_left (a:=(2:Int) ^ k) ?_ (Int.le_of_lt hp)
  rw [e2,Int.mul_comm];exact h1
 have h4:((T:Int)+1)*2 ^ k<=1048576:=by
  have:=lbV (a:=(T:Int)+1) (b:=2 ^ (20 - k)) (c:=2 ^ k) (by omega) (Int.le_of_lt hp)
  rw [e2,Int.mul_comm] at this;exact this
 have hV:(((n*2 ^ k:Nat)):Int)=n*2 ^ k:=by simp
 have h5:((n*2 ^ k:Nat):Int)<pw (l+1):=by
  rw [hV,K7]
  have b1:(n:Int)+1<=pw l*(T+1):=by rw [Int.mul_add];omega
  have b2:=lbW (c:=(2:Int) ^ k) b1 (Int.le_of_lt hp)
  have b3:=lbV (c:=pw l) h4 (Int.le_of_lt hpp)
  rw [← Int.mul_assoc] at b3
  rw [Int.add_mul] at b2
  omega
 have h6:pw l*524288<=((n*2 ^ k:Nat):Int):=by
  rw [hV]
  have b1:pw l*T<=(n:Int):=by omega
  have b2:=lbW (c:=(2:Int) ^ k) b1 (Int.le_of_lt hp)
  have b3:=lbV (a:=524288) (b:=(T:Int)*2 ^ k) (c:=pw l) (by omega) (Int.le_of_lt hpp)
  rw [← Int.mul_assoc] at b3
  omega
 have h7:(dg (n*2 ^ k)).length=l+1:=by
  have c1:=P3 h5
  rcases Nat.lt_or_ge (dg (n*2 ^ k)).length (l+1) with c2|c2
  ·have c3:=O5 (n*2 ^ k)
   have c4:=a2o (show (dg (n*2 ^ k)).length<=l by omega)
   omega
  ·omega
 refine ⟨h7,?_⟩
 have f1:=w9 (dg (n*2 ^ k)) l
 rw [lbn (by omega),z7] at f1
 have f2:=a0k ((C2 (n*2 ^ k)).take l)
 rw [lbs,Nat.min_eq_left (by omega)] at f2
 rcases Int.lt_or_le (dat (dg (n*2 ^ k)) l) 524288 with c|c
 ·exfalso
  have:=lbV (a:=dat (dg (n*2 ^ k)) l+1) (b:=524288) (c:=pw l) (by omega) (Int.le_of_lt hpp)
  rw [Int.mul_add] at this
  omega
 ·exact c
theorem b5d {a a' b b':Nat} {x y:S} (h1:a=a') (h2:b=b'):[S.c (.own 0 a b false),x,y]=[S.c (.own 0 a' b' false),x,y]:=by rw [h1,h2]
theorem aQ4 {V W v1 top g r:Int} (hG:W9 V W v1 top g r) (hV:0<V) (hW:0<=W) (h1:g<1048576) (h2:g*V<=W+V):
 0<=U4 W V g∧U4 W V g<1048576∧0<=W - U4 W V g*V∧W - U4 W V g*V<V:=by
 have h3:=hG.hi
 have h4:=hG.g0
 rw [Int.add_mul,Int.one_mul] at h3
 unfold U4
 by_cases hc:g*V<=W
 ·rw [if_pos hc];omega
 ·rw [if_neg hc,Int.sub_mul,Int.one_mul]
  have:g≠0:=by rintro rfl;simp at hc;omega
  omega
set_option maxHeartbeats 4000000 in
theorem b8P (m n:Nat) (hn:0<n) (hmn:n<=m) (hl:2<=(dg n).length) (lm:(dg m).length<=300000) (ln:(dg n).length<=300000):
 b7 Tryz.prog 209 [g8 (dg m),g8 (dg n)] [] (b5f m n) []:=by
 have l1:((dg m).map e8).length=(dg m).length:=by simp
 have l2:((dg n).map e8).length=(dg n).length:=by simp
 have c:=a2N (dg m) (dg n) (a1R m) (a1R n) (by omega) (by omega)
 rw [z7,z7] at c
 have hc:0<=T2 m n:=by unfold T2;split<;>(try split)<;>omega
 have ht0:=(C2 n).dat ((dg n).length - 1)
 have ht1:dat (dg n) ((dg n).length - 1)≠0:=(a1R n).2 _ (A9 (by omega))
 generalize htop:dat (dg n) ((dg n).length - 1)=top at ht0 ht1
 (refine ac Tryz.func209 ?_;(conv=>whnf);repeat (refine zy ?_;conv=>whnf))
 repeat' (first|refine zx ?_|refine qp c ?_|refine zd ?_ ?_<;>intro h<;>try omega|fail)<;>conv=>whnf
 refine u9 c7 (σ:=Nat) (fun k=>([g8 (dg m),g8 (dg n),J,J,J,J,J,J,a8 .i64 (2 ^ k)]++Jn 161,[])) (fun k=>k<=19∧top*2 ^ k<1048576) (fun k=>20 - k) 0 []
  ⟨by omega,by omega⟩ ⟨rfl,rfl,trivial,⟨i5 rfl,i5 rfl,rfl,trivial⟩⟩ ?_
 rintro k ⟨hk1,hk2⟩
 have hk1:k<=19:=hk1
 have hk2:top*2 ^ k<1048576:=hk2
 have hp0:(0:Int)<2 ^ k:=Int.pow_pos (by decide)
 have hpt:0<top*2 ^ k:=Int.mul_pos (by omega) hp0
 have hpk:(2:Int) ^ k<=524288:=by
  have:=Nat.pow_le_pow_right (n:=2) (by decide) hk1
  have e:((2 ^ k:Nat):Int)=2 ^ k:=by simp
  omega
 have hgl:(dg n)[(((((dg n).map e8).length:Nat):Int) - 1).toNat]? =some top:=by rw [l2,←htop];exact a9S (by omega)
 conv=>whnf
 repeat' (first|refine zx ?_|refine F3 (by omega) hgl ?_|refine zd ?_ ?_<;>intro h<;>try omega|fail)<;>conv=>whnf
 ·have hlt:top*2 ^ k<524288:=by omega
  refine ⟨[],k+1,⟨rfl,rfl,trivial,⟨rfl,rfl,c6 (Int.pow_succ _ _).symm,trivial⟩⟩,⟨?_,?_⟩,?_⟩
  ·rcases Nat.lt_or_ge k 19 with h1|h1
   ·exact h1
   ·have:k=19:=by omega
    subst this
    omega
  ·rw [Int.pow_succ,←Int.mul_assoc];omega
  ·show 20 - (k+1)<20 - k
   omega
 ·have hsh:Okd [(2:Int) ^ k]:=by intro x hx;simp at hx;omega
  have mu:=b9W (dg m) [2 ^ k] (C2 m) hsh (by omega) (by simp)
  have mv:=b8x (dg n) [2 ^ k] (C2 n) hsh (by omega) (by simp)
  have ev:val [(2:Int) ^ k]=2 ^ k:=by simp [val]
  rw [ev,z7] at mu mv
  generalize hU:((m:Int)*2 ^ k).toNat=U at mu
  generalize hV:((n:Int)*2 ^ k).toNat=V at mv
  refine .inr ⟨_,_,ao1 (aZ7 mu ⟨a8M,a3p (aV3 rfl),trivial⟩) rfl rfl rfl rfl,?_⟩
  conv=>whnf
  have hVe:V=n*2 ^ k:=by
   have e:((n:Int)*2 ^ k)=((n*2 ^ k:Nat):Int):=by simp
   rw [← hV,e];exact lbX _
  have hUe:U=m*2 ^ k:=by
   have e:((m:Int)*2 ^ k)=((m*2 ^ k:Nat):Int):=by simp
   rw [← hU,e];exact lbX _
  obtain ⟨lV,hvt⟩:=b9c hn htop hk1 hk2 h
  rw [← hVe] at lV hvt
  have hp1:0<2 ^ k:=Nat.pow_pos (by decide)
  have lU3:(dg m).length<=(dg U).length:=A7 (by rw [hUe];exact Nat.le_mul_of_pos_right m hp1)
  have lU2:(dg U).length<=(dg m).length+1:=P3 (by
   have h1:=O5 m
   rw [K7,hUe]
   have h2:=lbV (a:=2 ^ k) (b:=1048576) (c:=(m:Int)+1) (by omega) (by omega)
   have h3:(((m*2 ^ k:Nat)):Int)=m*2 ^ k:=by simp
   rw [Int.add_mul] at h2
   omega)
  have lU1:(a0d ((dg m).length+[(2:Int) ^ k].length) (dg U)).length<=300001:=by rw [as7 (by simpa using lU2)];simp;omega
  have l3:((dg V).map e8).length=(dg V).length:=by simp
  have lmn:(dg n).length<=(dg m).length:=A7 hmn
  have l4:(toC [[T.atm (Value.int .i64 0)]]).length=1:=rfl
  repeat' (first|refine zx ?_|refine qp (toC,a0d) ?_|refine qp toC ?_|refine y9 (by simp [toC,a0d]) (by simp [toC];omega) ?_|refine .inl ⟨_,_,a6z mv ⟨a8M,a3p (aV3 rfl),trivial⟩ rfl,?_⟩|refine a5S (by omega) (by omega) (by omega) (by decide) ?_|refine zd ?_ ?_<;>intro h<;>try omega|fail)<;>conv=>whnf
  have hV0:0<V:=by rw [hVe];exact Nat.mul_pos hn hp1
  refine u9 c7 (σ:=Nat × List Int × List Int) (fun|(j,u,q)=>(Jn 8++[a8 .i64 (2 ^ k),a4j 0 u,g8 (dg V),a8 .i64 (dg V).length,a4j 1 q,a8 .i64 ((j:Int) - 1)]++Jn 156,[n7 u,n7 q])) (fun x=>a9n U V ((dg U).length+1) (dg V).length x.1 x.2.1 x.2.2) (fun x=>x.1)
   ((dg U).length+1 - (dg V).length,dg U++[0],List.replicate ((dg U).length+1 - (dg V).length) 0) [some 1,some 2]
   (a9n.init hV0 (by omega)) ⟨rfl,rfl,⟨b8 rfl rfl rfl ?_ rfl,b8 rfl rfl rfl ?_ rfl,trivial⟩,⟨rfl,x4 rfl ?_,i5 rfl,c6 (by omega),x4 rfl ?_,c6 ?_,trivial⟩⟩ ?_
  ·simp [toC,J8,a0d,lbC,List.take_append,e8]
  ·show List.replicate _ _=_
   simp [toC,e8,E3]
  ·simp [toC]
  ·simp [toC]
  ·simp [toC]
  rintro ⟨j,u,q⟩ hD
  have hD:a9n U V ((dg U).length+1) (dg V).length j u q:=hD
  have hlu:=hD.lu
  have hlq:=hD.lq
  have hle:=hD.le
  have hdt:0<j->dat u (j - 1+(dg V).length)=dat u (j - 1+(dg V).length):=fun _=>rfl
  have gu0:0<j->u[0+(((j:Int) - 1)+(dg V).length).toNat]? =some (dat u (j - 1+(dg V).length)):=fun h=>R3 (by omega) (by omega)
  have gu1:0<j->u[0+(((j:Int) - 1)+(dg V).length - 1).toNat]? =some (dat u (j - 1+(dg V).length - 1)):=fun h=>R3 (by omega) (by omega)
  have d0:=hD.oku.dat (j - 1+(dg V).length)
  have d1:=hD.oku.dat (j - 1+(dg V).length - 1)
  have dv:=(C2 V).dat ((dg V).length - 1)
  have hvt2:524288<=dat (dg V) ((dg V).length - 1):=by rw [lV];exact hvt
  conv=>whnf
  repeat' (first|refine zx ?_|refine a2l (by omega) (by show _<((u.length:Nat):Int);omega) ?_|refine p4 (gu0 (by omega)) ?_|refine p4 (gu1 (by omega)) ?_|refine ⟨by decide,_,b5J (by omega) (by omega),?_⟩|refine ⟨_,ba3 (by omega) (by omega) (by omega) (by omega),?_⟩|refine F3 (by omega) (a9S (by omega)) ?_|refine ⟨by omega,_,b8u (by omega) (by omega) (by omega),?_⟩|refine b8l (by omega) ?_|refine zd ?_ ?_<;>intro h<;>try omega|fail)<;>conv=>whnf
  ·have hj:0<j:=by omega
   obtain ⟨i,rfl⟩:∃i,j=i+1:=⟨j - 1,by omega⟩
   simp only [Nat.add_sub_cancel] at *
   obtain ⟨L,hL⟩:∃L,(dg V).length=L+2:=⟨(dg V).length - 2,by omega⟩
   obtain ⟨w3,w2,w0,wv,wz,wlt⟩:=hD.window rfl
   generalize hw:(u.drop i).take ((dg V).length+1)=w at w3 w2 wv wlt
   have hwo:Okd w:=by rw [← hw];exact (hD.oku.drop i).take _
   have dw:∀t,t<=(dg V).length->dat w t=dat u (i+t):=fun t ht=>by
    rw [← hw];unfold dat
    rw [lbl,lbi,if_pos (by omega),lbj,←lbl]
   have win:=Win.of (C2 V) hwo hL (by omega) (by rw [hL] at hvt2;exact hvt2) (by rw [z7];exact wlt)
   rw [dw (L+2) (by omega),dw (L+1) (by omega),dw L (by omega),z7] at win
   have eL1:(dg V).length - 1=L+1:=by omega
   have eu0:i+(L+2)=i+(dg V).length:=by omega
   have eu1:i+(L+1)=i+(dg V).length - 1:=by omega
   rw [eu0,eu1] at win
   generalize ht:dat u (i+(dg V).length)*1048576+dat u (i+(dg V).length - 1)=top2 at win
   have win':=win
   have ht0:=win.t0
   refine u9 c7 (σ:=Int × Int) (fun|(g,r)=>(Jn 8++[a8 .i64 (2 ^ k),a4j 0 u,g8 (dg V),a8 .i64 (dg V).length,a4j 1 q,a8 .i64 i,J,a8 .i64 g,a8 .i64 r]++Jn 153,[n7 u,n7 q])) (fun x=>W9 V (val w) (dat (dg V) (L+1)) top2 x.1 x.2) (fun x=>x.1.toNat)
    (top2 / dat (dg V) (L+1),top2 % dat (dg V) (L+1)) [some 0,some 1]
    (W9.init win) ⟨rfl,rfl,⟨b8 rfl rfl rfl rfl rfl,b8 rfl rfl rfl rfl rfl,trivial⟩,⟨rfl,x4 rfl rfl,i5 rfl,rfl,x4 rfl rfl,c6 (by omega),c6 ?_,c6 ?_,trivial⟩⟩ ?_
   ·rw [eL1]
   ·rw [eL1,Int.tmod_eq_emod_of_nonneg ht0]
   rintro ⟨g,r⟩ hG
   have hG:W9 V (val w) (dat (dg V) (L+1)) top2 g r:=hG
   have hg0:=hG.g0
   have hgu:=hG.gu
   have hr0:=hG.r0
   have hru:=hG.ru
   have dv2:=(C2 V).dat L
   have dv1:=(C2 V).dat (L+1)
   have du2:=hD.oku.dat (i+L)
   have hgm:0<=g*dat (dg V) L∧g*dat (dg V) L<=2097152*1048576:=⟨lbZ hg0 dv2.1,Int.mul_le_mul hgu (by omega) dv2.1 (by omega)⟩
   have gv2:(dg V)[((((dg V).length:Nat):Int) - 2).toNat]? =some (dat (dg V) L):=by rw [show ((((dg V).length:Nat):Int) - 2).toNat=L by omega];exact A9 (by omega)
   have gv1:(dg V)[((((dg V).length:Nat):Int) - 1).toNat]? =some (dat (dg V) (L+1)):=by rw [show ((((dg V).length:Nat):Int) - 1).toNat=L+1 by omega];exact A9 (by omega)
   have gu2:u[0+((i:Int)+((dg V).length:Nat) - 2).toNat]? =some (dat u (i+L)):=R3 (by omega) (by omega)
   conv=>whnf
   repeat' (first|refine zx ?_|refine a2l (by omega) (by show _<((u.length:Nat):Int);omega) ?_|refine F3 (by omega) gv2 ?_|refine F3 (by omega) gv1 ?_|refine p4 gu2 ?_|refine ⟨by decide,_,b5J (by omega) (by omega),?_⟩|refine ⟨_,ba3 (by omega) (by omega) (by omega) (by omega),?_⟩|refine a14 (by omega) (by omega) (by show _<=((u.length:Nat):Int);omega) ?_|refine zd ?_ ?_<;>intro h<;>try omega|fail)<;>conv=>whnf
   ·have hgc:1048576<=g:=by omega
    have hst:=W9.step win hG (.inl hgc) (s8 hwo)
    exact ⟨[some 0,some 1],(g - 1,r+dat (dg V) (L+1)),⟨rfl,rfl,⟨b8 rfl rfl rfl rfl rfl,b8 rfl rfl rfl rfl rfl,trivial⟩,⟨rfl,x4 rfl rfl,rfl,rfl,x4 rfl rfl,rfl,rfl,rfl,trivial⟩⟩,hst,by have:=hst.g0;show (g - 1).toNat<g.toNat;omega⟩
   ·have hgc:r<1048576∧r*1048576+dat u (i+L)<g*dat (dg V) L:=by omega
    have hst:=W9.step win hG (.inr hgc) (s8 hwo)
    exact ⟨[some 0,some 1],(g - 1,r+dat (dg V) (L+1)),⟨rfl,rfl,⟨b8 rfl rfl rfl rfl rfl,b8 rfl rfl rfl rfl rfl,trivial⟩,⟨rfl,x4 rfl rfl,rfl,rfl,x4 rfl rfl,rfl,rfl,rfl,trivial⟩⟩,hst,by have:=hst.g0;show (g - 1).toNat<g.toNat;omega⟩
   all_goals
    have hgc:¬(1048576<=g∨(r<1048576∧r*1048576+dat u (i+L)<g*dat (dg V) L)):=by omega
    obtain ⟨hg1,hgV⟩:=W9.fin win hG hgc (by
     have h1:=win.Vl
     have h3:=win.v1l
     have h2:=lbV (a:=1048576) (b:=dat (dg V) (L+1)*1048576+dat (dg V) L) (by omega) (Int.le_of_lt win.P0)
     omega)
    have st:=b50 (u.take i) w (u.drop (i+((dg V).length+1))) (dg V) g hwo (C2 V) (by omega) (by omega) ⟨hg0,hg1⟩ (by rw [z7];exact hgV)
    rw [z7] at st
    obtain ⟨q0,q1,q2,q3⟩:=aQ4 hG (by omega) (s8 hwo) hg1 hgV
    have hds:=hD.step rfl hV0 ⟨q0,q1⟩ (by rw [hw];exact q2) (by rw [hw];exact q3)
    rw [hw] at hds
    generalize U4 (val w) V g=Q at st q0 q1 q2 q3 hds
    rw [← w3,w2] at st
    generalize hu':u.take i++a0d ((dg V).length+1) (dg (val w - Q*V).toNat)++u.drop (i+((dg V).length+1))=u' at st hds
    refine .inr ⟨_,_,N8 (H':=[n7 u',n7 q]) [0] st (b5d (by rw [w0];omega) (by omega)) rfl rfl (by decide) ?_ (by simp) (by simp) rfl rfl rfl ?_ ?_,?_⟩
    ·intro i k hk
     match i,hk with
     |0,hk=>
      injection hk with hk
      subst hk
      exact ⟨rfl,rfl,J6 _,_,rfl,x9 rfl⟩
    ·intro i k hk
     match i,hk with
     |0,hk=>
      injection hk with hk
      subst hk
      exact ⟨_,rfl,x9 rfl⟩
    ·intro j hj hn
     match j,hj with
     |0,_=>simp at hn
     |1,_=>rfl
    conv=>whnf
    have hlu':=hds.lu
    refine zz ?_
    conv=>whnf
    repeat' (first|refine zx ?_|refine p4 (R3 rfl (by omega)) ?_|refine zd ?_ ?_<;>intro h<;>try omega|fail)<;>conv=>whnf
    exact ⟨[some 0,some 1],(i,u',q.set i Q),⟨rfl,rfl,⟨b8 rfl rfl rfl rfl rfl,b8 rfl rfl rfl (Q1 (i:=i) (n:=(i:Int)) (by simp)) rfl,trivial⟩,⟨rfl,x4 rfl (hlu.trans hlu'.symm),rfl,rfl,x4 rfl (by simp),rfl,trivial⟩⟩,hds,by show i<i+1;omega⟩
  ·have hj:j=0:=by omega
   subst hj
   obtain ⟨fq,fu⟩:=hD.fin hV0
   have tu:=a3s u (by omega)
   rw [T4 hD.oku,fu,lbX] at tu
   have tq:=a3s q (by omega)
   rw [T4 hD.okq,fq,lbX] at tq
   have lUV:(dg (U % V)).length<=(dg U).length:=A7 (Nat.mod_le _ _)
   have sh:=b1q (dg (U % V)) (2 ^ k) (C2 _) (by omega) (by omega) (by omega)
   have e1:U % V / 2 ^ k=m % n:=by rw [hUe,hVe,Nat.mul_mod_mul_right,Nat.mul_div_cancel _ hp1]
   have e2:U / V=m / n:=by rw [hUe,hVe,Nat.mul_div_mul_right _ _ hp1]
   have e3:((U % V:Nat):Int) / 2 ^ k=((m % n:Nat):Int):=by rw [← e1];simp
   rw [z7,e3,lbX] at sh
   rw [e2] at tq
   refine .inr ⟨_,_,C7 [0] tu ⟨a3p (t8 (by simp) rfl (by intro h;cases h) rfl rfl (by simp)),trivial⟩ rfl,?_⟩
   conv=>whnf
   repeat' (first|refine zx ?_|refine qp sh ?_|refine zd ?_ ?_<;>intro h<;>try omega|fail)<;>conv=>whnf
   refine .inr ⟨_,_,C7 [1] tq ⟨a3p (t8 (by simp) rfl (by intro h;cases h) rfl rfl (by simp)),trivial⟩ rfl,?_⟩
   conv=>whnf
   exact j3 ⟨rfl,rfl,trivial⟩
theorem b8q (m n:Nat) (hn:0<n) (lm:(dg m).length<=300000) (ln:(dg n).length<=300000):
 b7 Tryz.prog 209 [g8 (dg m),g8 (dg n)] [] (b5f m n) []:=by
 rcases Nat.lt_or_ge m n with h|h
 ·exact b8C m n hn h (by omega) (by omega)
 ·have h1:(dg n).length≠0:=by rw [Ne,List.length_eq_zero_iff,S3];omega
  by_cases hl:(dg n).length=1
  ·exact b8T m n hn h hl (by omega)
  ·exact b8P m n hn h (by omega) lm ln
def bl (z:Int):Nat:=(dg z.natAbs).length
theorem a6w (m n:Nat):(dg (m+n)).length<=max (dg m).length (dg n).length+1:=by
 refine P3 ?_
 have h1:=O5 m
 have h2:=O5 n
 have h3:=a2o (Nat.le_max_left (dg m).length (dg n).length)
 have h4:=a2o (Nat.le_max_right (dg m).length (dg n).length)
 rw [K7]
 omega
theorem ag2 (m n:Nat):(dg (m*n)).length<=(dg m).length+(dg n).length:=by
 refine P3 ?_
 have h1:=O5 m
 have h2:=O5 n
 rw [a7Z]
 have h3:(m:Int)*n<=m*(pw (dg n).length):=lbV (by omega) (by omega)
 have h4:(m:Int)*pw (dg n).length<pw (dg m).length*pw (dg n).length:=Int.mul_lt_mul_of_pos_right h1 (R1 _)
 have h5:((m*n:Nat):Int)=m*n:=by simp
 omega
theorem a4Q (x:Int):bl (-x)=bl x:=by unfold bl;rw [Int.natAbs_neg]
theorem b5n (x y:Int):bl (x+y)<=max (bl x) (bl y)+1:=lbR (A7 (Int.natAbs_add_le x y)) (a6w _ _)
theorem Y7 (x y:Int):bl (x*y)<=bl x+bl y:=by unfold bl;rw [Int.natAbs_mul];exact ag2 _ _
theorem b0J {x y:Int} (h:x.natAbs<=y.natAbs):bl x<=bl y:=A7 h
theorem a0l {x:Int} (h0:-9223372036854775808<=x) (h1:x<=9223372036854775807):bl x<=4:=P3 (by simp only [pw];omega)
theorem Q3 {x:Int} (h0:-1048575<=x) (h1:x<=1048575):bl x<=1:=P3 (by simp only [pw];omega)
theorem aW2 (x y:Int) {n:Nat} (lx:bl x<=n) (ly:bl y<=n):bl (Int.gcd x y)<=n:=by
 by_cases h:x=0
 ·subst h;unfold bl at *;rw [Int.gcd_zero_left];simpa using ly
 ·refine lbR (A7 ?_) lx
  simp only [Int.natAbs_natCast]
  exact Int.gcd_le_natAbs_left y h
def rl (x:Rat):Nat:=max (bl x.num) (bl x.den)
theorem J3 (x:Rat):bl x.num<=rl x:=Nat.le_max_left _ _
theorem K0 (x:Rat):bl x.den<=rl x:=Nat.le_max_right _ _
theorem a1l {p q:Int} (hq:q≠0):rl (Rat.divInt p q)<=max (bl p) (bl q):=by
 unfold rl
 rw [Rat.num_divInt,Rat.den_divInt,if_neg hq]
 have h1:bl (q.sign*p / (q.gcd p:Nat))<=bl p:=b0J (by
  refine lbR (Int.natAbs_ediv_le_natAbs _ _) ?_
  rw [Int.natAbs_mul]
  have:q.sign.natAbs=1:=by
   rcases Int.lt_trichotomy q 0 with h|h|h
   ·rw [Int.sign_eq_neg_one_of_neg h];rfl
   ·exact absurd h hq
   ·rw [Int.sign_eq_one_of_pos h];rfl
  rw [this,Nat.one_mul];exact lbQ _)
 have h2:bl ((q.natAbs / q.gcd p:Nat):Int)<=bl q:=b0J (by simp only [Int.natAbs_natCast];exact Nat.div_le_self _ _)
 omega
theorem b10 (x y:Rat):x+y=Rat.divInt (x.num*y.den+y.num*x.den) (x.den*y.den):=by rw [Rat.add_def',←Rat.divInt_ofNat,Int.natCast_mul]
theorem b0w (x y:Rat):x*y=Rat.divInt (x.num*y.num) (x.den*y.den):=by rw [Rat.mul_def',←Rat.divInt_ofNat,Int.natCast_mul]
theorem b6L (x y:Rat):x / y=Rat.divInt (x.num*y.den) (x.den*y.num):=by
 rw [Rat.div_def,Rat.inv_def]
 conv=>lhs;rw [← Rat.num_divInt_den x]
 rw [Rat.divInt_mul_divInt]
theorem aV1 (x:Rat):(x.den:Int)≠0:=by have:=x.den_pos;omega
theorem a9K (x y:Rat):(x.den:Int)*y.den≠0:=Int.mul_ne_zero (aV1 x) (aV1 y)
theorem a0q (x y:Rat):rl (x+y)<=rl x+rl y+1:=by
 rw [b10]
 have h1:=b5n (x.num*y.den) (y.num*x.den)
 have h2:=Y7 x.num y.den
 have h3:=Y7 y.num x.den
 have h4:=Y7 x.den y.den
 have:=a1l (p:=x.num*y.den+y.num*x.den) (a9K x y)
 unfold rl at *
 omega
theorem S8 (x:Rat):rl (-x)=rl x:=by unfold rl;rw [Rat.neg_num,Rat.neg_den,a4Q]
theorem a8m (x y:Rat):rl (x - y)<=rl x+rl y+1:=by rw [Rat.sub_eq_add_neg];have:=a0q x (-y);rw [S8] at this;exact this
theorem V8 (x y:Rat):rl (x*y)<=rl x+rl y:=by
 rw [b0w]
 have h2:=Y7 x.num y.num
 have h4:=Y7 x.den y.den
 have:=a1l (p:=x.num*y.num) (a9K x y)
 unfold rl at *
 omega
theorem a2t (n:Int):rl (n:Rat)=max (bl n) 1:=by unfold rl;rw [Rat.num_intCast,Rat.den_intCast];rfl
def a1j (x y:Rat):Int:=if x<y then -1 else if y<x then 1 else 0
theorem b5O {x:Rat}:x.num<0↔x<0:=by rw [Rat.lt_iff];simp
theorem b4G {x:Rat}:0<x.num↔0<x:=by rw [Rat.lt_iff];simp
def sgR (x:Rat):Int:=if x<0 then -1 else if 0<x then 1 else 0
theorem ah8 (x:Rat):x.num.sign=sgR x:=by
 unfold sgR
 by_cases h:x<0
 ·rw [if_pos h,Int.sign_eq_neg_one_of_neg (b5O.2 h)]
 ·rw [if_neg h]
  by_cases h2:0<x
  ·rw [if_pos h2,Int.sign_eq_one_of_pos (b4G.2 h2)]
  ·rw [if_neg h2]
   have h3:¬x.num<0:=fun e=>h (b5O.1 e)
   have h4:¬0<x.num:=fun e=>h2 (b4G.1 e)
   rw [show x.num=0 by omega];rfl
set_option maxHeartbeats 1000000
theorem b5t (m n:Nat) (lm:(dg m).length<=300000) (ln:(dg n).length<=300000):
 b7 Tryz.prog 203 [g8 (dg m),g8 (dg n)] [] (g8 (dg (m+n))) []:=by
 have h:=bd1 (dg m) (dg n) (C2 m) (C2 n) (by omega) (by omega)
 rw [z7,z7,show ((m:Int)+n).toNat=m+n by omega] at h
 exact h
theorem aa2 (m n:Nat) (lm:(dg m).length<=300000) (h:n<=m):
 b7 Tryz.prog 204 [g8 (dg m),g8 (dg n)] [] (g8 (dg (m - n))) []:=by
 have h:=bb6 (dg m) (dg n) (C2 m) (C2 n) (by omega) (A7 h) (by rw [z7,z7];omega)
 rw [z7,z7,show ((m:Int) - n).toNat=m - n by omega] at h
 exact h
theorem b9d (m n:Nat) (lm:(dg m).length<=300000) (ln:(dg n).length<=300000):
 b7 Tryz.prog 219 [g8 (dg m),g8 (dg n)] [] (g8 (dg (m*n))) []:=by
 have h:=b8x (dg m) (dg n) (C2 m) (C2 n) (by omega) (by omega)
 rw [z7,z7,show ((m:Int)*n).toNat=m*n by rw [← Int.natCast_mul];rfl] at h
 exact h
theorem b9b (m n:Nat) (lm:(dg m).length<=300000) (ln:(dg n).length<=300000):
 b7 Tryz.prog 148 [g8 (dg m),g8 (dg n)] [] (a8 .i64 (T2 m n)) []:=by
 have h:=a2N (dg m) (dg n) (a1R m) (a1R n) (by omega) (by omega)
 rw [z7,z7] at h
 exact h
theorem x6 (s:Int) (k:Nat) (h:s=1∨s=-1∨k=0) (lk:(dg k).length<=700000):
 b7 Tryz.prog 130 [a8 .i64 s,g8 (dg k)] [] (bgS (bz (s*k))) []:=by
 have e:=aO3 s (dg k) (by omega)
 rw [b3B (C2 k) (by rw [z7];omega),z7] at e
 exact e
def Sg (s:Int) (m:Nat):Prop:=(s=0∧m=0)∨(s=1∧0<m)∨(s=-1∧0<m)
theorem ar4 (x:Int):Sg x.sign x.natAbs:=by
 rcases O4 x with ⟨e,h1⟩|⟨e,h1⟩|⟨e,h1⟩
 ·exact .inl ⟨e,by omega⟩
 ·exact .inr (.inl ⟨e,by omega⟩)
 ·exact .inr (.inr ⟨e,by omega⟩)
theorem aH8 {s:Int} {m:Nat} (h:Sg s m):bz (s*m)=⟨s,dg m⟩:=by
 rcases h with ⟨rfl,rfl⟩|⟨rfl,h⟩|⟨rfl,h⟩
 ·rfl
 ·unfold bz;rw [Int.one_mul,Int.sign_eq_one_of_pos (by omega)];rfl
 ·unfold bz;rw [Int.sign_eq_neg_one_of_neg (by omega)];congr 2;omega
theorem a1G (s:Int) (m:Nat) (h:Sg s m) (lm:(dg m).length<=300000):b7 Tryz.prog 131 [bgS ⟨s,dg m⟩] [] (f7 true) []:=by
 have:=a3b ⟨s,dg m⟩ (show (dg m).length<=1000000 by omega)
 rw [← aH8 h,a2W,aH8 h] at this
 exact this
theorem aQ8 {b b':Bg} {e:Int} {H1:Hp} (h:b=b'):Fin 0 (.tup [bgS b,a8 .i64 e]) H1 (.tup [bgS b',a8 .i64 e]) []:=by
 subst h;exact j3 ⟨⟨rfl,rfl,trivial⟩,rfl,trivial⟩
theorem a0v {a b c d:Nat} (h:a<=max b c+1) (h2:max b c+1<=d):a<=d:=lbR h h2
theorem b8W (s t:Int) (m n:Nat) (hs:Sg s m) (ht:Sg t n) (lm:(dg m).length<=200000) (ln:(dg n).length<=200000):
 b7 Tryz.prog 126 [bgS ⟨s,dg m⟩,bgS ⟨t,dg n⟩] [] (.tup [bgS (bz (s*m+t*n)),a8 .i64 0]) []:=by
 have r1:=a1G s m hs (by omega)
 have r2:=a1G t n ht (by omega)
 have ad:=b5t m n (by omega) (by omega)
 have c:=b9b m n (by omega) (by omega)
 have ls:=a6w m n
 have fin:∀(z:Int) (H1:Hp),z=s*m+t*n->Fin 0 (.tup [bgS (if true then bz z else ⟨0,[]⟩),a8 .i64 0]) H1 (.tup [bgS (bz (s*m+t*n)),a8 .i64 0]) []:=fun z H1 h=>aQ8 (by rw [h];rfl)
 rcases hs with ⟨rfl,rfl⟩|⟨rfl,h1⟩|⟨rfl,h1⟩<;>rcases ht with ⟨rfl,rfl⟩|⟨rfl,h2⟩|⟨rfl,h2⟩
 case inl.inl=>
  have sg:=x6 (0) _ (by omega) (a0v ls (by omega))
  have co:=a3k (0) (0)
  (refine ac Tryz.func126 ?_;(conv=>whnf);repeat (refine zy ?_;conv=>whnf))
  repeat' (first|refine zx ?_|refine qp r1 ?_|refine qp r2 ?_|refine qp ad ?_|refine qp sg ?_|refine qp (I9 true _) ?_|refine qp co ?_|refine ⟨_,K6 (y:=0) rfl (by decide) (by decide),?_⟩|refine zd ?_ ?_<;>intro h<;>try omega|fail)<;>conv=>whnf
  all_goals first|omega|exact fin _ _ (by omega)
 case inl.inr.inl=>
  have sg:=x6 (1) _ (by omega) (a0v ls (by omega))
  have co:=a3k (0) (1)
  (refine ac Tryz.func126 ?_;(conv=>whnf);repeat (refine zy ?_;conv=>whnf))
  repeat' (first|refine zx ?_|refine qp r1 ?_|refine qp r2 ?_|refine qp ad ?_|refine qp sg ?_|refine qp (I9 true _) ?_|refine qp co ?_|refine ⟨_,K6 (y:=0) rfl (by decide) (by decide),?_⟩|refine zd ?_ ?_<;>intro h<;>try omega|fail)<;>conv=>whnf
  all_goals first|omega|exact fin _ _ (by omega)
 case inl.inr.inr=>
  have sg:=x6 (-1) _ (by omega) (a0v ls (by omega))
  have co:=a3k (0) (-1)
  (refine ac Tryz.func126 ?_;(conv=>whnf);repeat (refine zy ?_;conv=>whnf))
  repeat' (first|refine zx ?_|refine qp r1 ?_|refine qp r2 ?_|refine qp ad ?_|refine qp sg ?_|refine qp (I9 true _) ?_|refine qp co ?_|refine ⟨_,K6 (y:=0) rfl (by decide) (by decide),?_⟩|refine zd ?_ ?_<;>intro h<;>try omega|fail)<;>conv=>whnf
  all_goals first|omega|exact fin _ _ (by omega)
 case inr.inl.inl=>
  have sg:=x6 (1) _ (by omega) (a0v ls (by omega))
  have co:=a3k (1) (0)
  (refine ac Tryz.func126 ?_;(conv=>whnf);repeat (refine zy ?_;conv=>whnf))
  repeat' (first|refine zx ?_|refine qp r1 ?_|refine qp r2 ?_|refine qp ad ?_|refine qp sg ?_|refine qp (I9 true _) ?_|refine qp co ?_|refine ⟨_,K6 (y:=0) rfl (by decide) (by decide),?_⟩|refine zd ?_ ?_<;>intro h<;>try omega|fail)<;>conv=>whnf
  all_goals first|omega|exact fin _ _ (by omega)
 case inr.inr.inl=>
  have sg:=x6 (-1) _ (by omega) (a0v ls (by omega))
  have co:=a3k (-1) (0)
  (refine ac Tryz.func126 ?_;(conv=>whnf);repeat (refine zy ?_;conv=>whnf))
  repeat' (first|refine zx ?_|refine qp r1 ?_|refine qp r2 ?_|refine qp ad ?_|refine qp sg ?_|refine qp (I9 true _) ?_|refine qp co ?_|refine ⟨_,K6 (y:=0) rfl (by decide) (by decide),?_⟩|refine zd ?_ ?_<;>intro h<;>try omega|fail)<;>conv=>whnf
  all_goals first|omega|exact fin _ _ (by omega)
 case inr.inl.inr.inl=>
  have sg:=x6 (1) _ (by omega) (a0v ls (by omega))
  have co:=a3k (1) (1)
  (refine ac Tryz.func126 ?_;(conv=>whnf);repeat (refine zy ?_;conv=>whnf))
  repeat' (first|refine zx ?_|refine qp r1 ?_|refine qp r2 ?_|refine qp ad ?_|refine qp sg ?_|refine qp (I9 true _) ?_|refine qp co ?_|refine ⟨_,K6 (y:=1) rfl (by decide) (by decide),?_⟩|refine zd ?_ ?_<;>intro h<;>try omega|fail)<;>conv=>whnf
  all_goals first|omega|exact fin _ _ (by omega)
 case inr.inr.inr.inr=>
  have sg:=x6 (-1) _ (by omega) (a0v ls (by omega))
  have co:=a3k (-1) (-1)
  (refine ac Tryz.func126 ?_;(conv=>whnf);repeat (refine zy ?_;conv=>whnf))
  repeat' (first|refine zx ?_|refine qp r1 ?_|refine qp r2 ?_|refine qp ad ?_|refine qp sg ?_|refine qp (I9 true _) ?_|refine qp co ?_|refine ⟨_,K6 (y:=1) rfl (by decide) (by decide),?_⟩|refine zd ?_ ?_<;>intro h<;>try omega|fail)<;>conv=>whnf
  all_goals first|omega|exact fin _ _ (by omega)
 case inr.inl.inr.inr=>
  rcases Nat.lt_or_ge m n with hmn|hmn
  ·rw [a3i (by omega)] at c
   have l3:=A7 (Nat.sub_le n m)
   (refine ac Tryz.func126 ?_;(conv=>whnf);repeat (refine zy ?_;conv=>whnf))
   repeat' (first|refine zx ?_|refine qp r1 ?_|refine qp r2 ?_|refine qp c ?_|refine qp (aa2 n m (by omega) (by omega)) ?_|refine qp (x6 (-1) (n - m) (by omega) (by omega)) ?_|refine qp (I9 true _) ?_|refine ⟨_,K6 (y:=-1) rfl (by decide) (by decide),?_⟩|refine zd ?_ ?_<;>intro h<;>try omega|fail)<;>conv=>whnf
   all_goals first|omega|exact fin _ _ (by omega)
  ·have hc:0<=T2 m n:=by unfold T2;split<;>(try split)<;>omega
   have l3:=A7 (Nat.sub_le m n)
   (refine ac Tryz.func126 ?_;(conv=>whnf);repeat (refine zy ?_;conv=>whnf))
   repeat' (first|refine zx ?_|refine qp r1 ?_|refine qp r2 ?_|refine qp c ?_|refine qp (aa2 m n (by omega) (by omega)) ?_|refine qp (x6 (1) (m - n) (by omega) (by omega)) ?_|refine qp (I9 true _) ?_|refine ⟨_,K6 (y:=-1) rfl (by decide) (by decide),?_⟩|refine zd ?_ ?_<;>intro h<;>try omega|fail)<;>conv=>whnf
   all_goals first|omega|exact fin _ _ (by omega)
 case inr.inr.inr.inl=>
  rcases Nat.lt_or_ge m n with hmn|hmn
  ·rw [a3i (by omega)] at c
   have l3:=A7 (Nat.sub_le n m)
   (refine ac Tryz.func126 ?_;(conv=>whnf);repeat (refine zy ?_;conv=>whnf))
   repeat' (first|refine zx ?_|refine qp r1 ?_|refine qp r2 ?_|refine qp c ?_|refine qp (aa2 n m (by omega) (by omega)) ?_|refine qp (x6 (1) (n - m) (by omega) (by omega)) ?_|refine qp (I9 true _) ?_|refine ⟨_,K6 (y:=-1) rfl (by decide) (by decide),?_⟩|refine zd ?_ ?_<;>intro h<;>try omega|fail)<;>conv=>whnf
   all_goals first|omega|exact fin _ _ (by omega)
  ·have hc:0<=T2 m n:=by unfold T2;split<;>(try split)<;>omega
   have l3:=A7 (Nat.sub_le m n)
   (refine ac Tryz.func126 ?_;(conv=>whnf);repeat (refine zy ?_;conv=>whnf))
   repeat' (first|refine zx ?_|refine qp r1 ?_|refine qp r2 ?_|refine qp c ?_|refine qp (aa2 m n (by omega) (by omega)) ?_|refine qp (x6 (-1) (m - n) (by omega) (by omega)) ?_|refine qp (I9 true _) ?_|refine ⟨_,K6 (y:=-1) rfl (by decide) (by decide),?_⟩|refine zd ?_ ?_<;>intro h<;>try omega|fail)<;>conv=>whnf
   all_goals first|omega|exact fin _ _ (by omega)
theorem sgm (x:Int):x.sign*x.natAbs=x:=Int.sign_mul_natAbs x
theorem a4I (x:Int) (lx:bl x<=300000):b7 Tryz.prog 131 [bgS (bz x)] [] (f7 true) []:=a1G _ _ (ar4 x) lx
theorem b92 (x y:Int) (lx:bl x<=200000) (ly:bl y<=200000):b7 Tryz.prog 126 [bgS (bz x),bgS (bz y)] [] (.tup [bgS (bz (x+y)),a8 .i64 0]) []:=by
 have h:=b8W _ _ _ _ (ar4 x) (ar4 y) lx ly
 rw [sgm,sgm] at h
 exact h
theorem a8l (x:Int) (lx:bl x<=300000):b7 Tryz.prog 135 [bgS (bz x)] [] (bgS (bz (-x))) []:=by
 have h:=b9o (bz x) (show bl x<=1000000 by omega)
 unfold b1J at h
 rw [a2W,a6U] at h
 exact h
abbrev bg2 (s:Int) (l:List Int):S:=.agg [.t (ti s),.t (N3 l)]
theorem b9N (s t:Int) (m n:Nat) (hs:Sg s m) (ht:Sg t n) (lm:(dg m).length<=200000) (ln:(dg n).length<=200000):
 b7 Tryz.prog 149 [bgS ⟨s,dg m⟩,bgS ⟨t,dg n⟩] [] (.tup [bgS (bz ((s*t)*(m*n:Nat))),a8 .i64 0]) []:=by
 have r1:=a1G s m hs (by omega)
 have r2:=a1G t n ht (by omega)
 have mu:=b9d m n (by omega) (by omega)
 have ls:=ag2 m n
 have hst:-1<=s*t∧s*t<=1∧(s*t=1∨s*t=-1∨m*n=0):=by
  rcases hs with ⟨rfl,rfl⟩|⟨rfl,h1⟩|⟨rfl,h1⟩<;>rcases ht with ⟨rfl,rfl⟩|⟨rfl,h2⟩|⟨rfl,h2⟩<;>simp
 obtain ⟨q1,q2,q3⟩:=hst
 have sg:=x6 (s*t) (m*n) q3 (by omega)
 have ck:=I9 true (bz ((s*t)*(m*n:Nat)))
 (refine ac Tryz.func149 ?_;(conv=>whnf);repeat (refine zy ?_;conv=>whnf))
 repeat' (first|refine zx ?_|refine qp r1 ?_|refine qp r2 ?_|refine qp mu ?_|refine qp sg ?_|refine qp ck ?_|refine ⟨_,K6 (y:=s*t) rfl (by omega) (by omega),?_⟩|refine zd ?_ ?_<;>intro h<;>try omega|fail)<;>conv=>whnf
 all_goals first|(exfalso;simp_all;done)|exact aQ8 rfl
theorem b9s (x y:Int) (lx:bl x<=200000) (ly:bl y<=200000):b7 Tryz.prog 149 [bgS (bz x),bgS (bz y)] [] (.tup [bgS (bz (x*y)),a8 .i64 0]) []:=by
 have h:=b9N _ _ _ _ (ar4 x) (ar4 y) lx ly
 have e:(x.sign*y.sign)*((x.natAbs*y.natAbs:Nat):Int)=x*y:=by
  rw [Int.natCast_mul]
  have h1:=sgm x
  have h2:=sgm y
  grind
 rw [e] at h
 exact h
theorem aT9 (x y:Int) (lx:bl x<=300000) (ly:bl y<=300000):b7 Tryz.prog 80 [bgS (bz x),bgS (bz y)] [] (a8 .i64 (T2 x y)) []:=by
 have h:=aZ6 (bz x) (bz y) (show bl x<=1000000 by omega) (show bl y<=1000000 by omega)
 unfold b2c at h
 rw [a2W,a2W,a6U,a6U] at h
 exact h
theorem b6N {b b' c c':Bg} {e:Int} {H1:Hp} (h:b=b') (h2:c=c'):Fin 0 (.tup [bgS b,bgS c,a8 .i64 e]) H1 (.tup [bgS b',bgS c',a8 .i64 e]) []:=by
 subst h h2;exact j3 ⟨⟨rfl,rfl,trivial⟩,⟨rfl,rfl,trivial⟩,rfl,trivial⟩
theorem ba8 (s:Int) (m n:Nat) (hs:Sg s m) (hn:0<n) (lm:(dg m).length<=200000) (ln:(dg n).length<=200000):
 b7 Tryz.prog 137 [bgS ⟨s,dg m⟩,bgS ⟨1,dg n⟩] [] (.tup [bgS (bz (s*m / n)),bgS (bz (s*m % n)),a8 .i64 0]) []:=by
 show b7 Tryz.prog 137 [bg2 s (dg m),bg2 1 (dg n)] [] _ []
 have r1:=a1G s m hs (by omega)
 have r2:=a1G 1 n (.inr (.inl ⟨rfl,hn⟩)) (by omega)
 have dv:=b8q m n hn (by omega) (by omega)
 have lq:=A7 (Nat.div_le_self m n)
 have hr:=Nat.mod_lt m hn
 have lr:=A7 (Nat.le_of_lt hr)
 have lr2:((dg (m % n)).map e8).length=(dg (m % n)).length:=by simp
 have hz:(dg (m % n)).length=0↔m % n=0:=by rw [List.length_eq_zero_iff,S3]
 have hm:=Nat.div_add_mod m n
 have fin:∀(a b:Int) (H1:Hp),a=s*m / n->b=s*m % n->Fin 0 (.tup [bgS (bz a),bgS (bz b),a8 .i64 0]) H1 (.tup [bgS (bz (s*m / n)),bgS (bz (s*m % n)),a8 .i64 0]) []:=fun a b H1 h1 h2=>b6N (by rw [h1]) (by rw [h2])
 rcases hs with ⟨rfl,rfl⟩|⟨rfl,h1⟩|⟨rfl,h1⟩
 ·have s1:=x6 0 (0 / n) (by simp) (by omega)
  have s2:=x6 0 (0 % n) (by simp) (by omega)
  (refine ac Tryz.func137 ?_;(conv=>whnf);repeat (refine zy ?_;conv=>whnf))
  repeat' (first|refine zx ?_|refine qp r1 ?_|refine qp r2 ?_|refine qp dv ?_|refine qp s1 ?_|refine qp s2 ?_|refine ⟨_,K6 (y:=0) rfl (by decide) (by decide),?_⟩|refine zd ?_ ?_<;>intro h<;>try omega|fail)<;>conv=>whnf
  all_goals first|omega|exact fin _ _ _ (by first|rfl|simp) (by first|rfl|simp)
 ·have s1:=x6 1 (m / n) (by simp) (by omega)
  have s2:=x6 1 (m % n) (by simp) (by omega)
  (refine ac Tryz.func137 ?_;(conv=>whnf);repeat (refine zy ?_;conv=>whnf))
  repeat' (first|refine zx ?_|refine qp r1 ?_|refine qp r2 ?_|refine qp dv ?_|refine qp s1 ?_|refine qp s2 ?_|refine ⟨_,K6 (y:=1) rfl (by decide) (by decide),?_⟩|refine zd ?_ ?_<;>intro h<;>try omega|fail)<;>conv=>whnf
  all_goals first|omega|exact fin _ _ _ (by first|rfl|simp) (by first|rfl|simp)
 ·by_cases h0:m % n=0
  ·have hz0:=hz.2 h0
   have s1:=x6 (-1) (m / n) (by simp) (by omega)
   have s2:=x6 (-1) (m % n) (by simp) (by omega)
   have e1:-1*((m / n:Nat):Int)=-1*(m:Int) / n:=by
    have e:(m:Int)=n*(m / n:Nat):=by rw [← Int.natCast_mul];congr 1;omega
    rw [e,show -1*((n:Int)*(m / n:Nat))=n*(-1*(m / n:Nat)) by grind,Int.mul_ediv_cancel_left _ (by omega)]
   have e2:-1*((m % n:Nat):Int)=-1*(m:Int) % n:=by
    have e:(m:Int)=n*(m / n:Nat):=by rw [← Int.natCast_mul];congr 1;omega
    rw [h0,e,show -1*((n:Int)*(m / n:Nat))=n*(-1*(m / n:Nat)) by grind,Int.mul_emod_right]
    simp
   (refine ac Tryz.func137 ?_;(conv=>whnf);repeat (refine zy ?_;conv=>whnf))
   repeat' (first|refine zx ?_|refine qp r1 ?_|refine qp r2 ?_|refine qp dv ?_|refine qp s1 ?_|refine qp s2 ?_|refine ⟨_,K6 (y:=-1) rfl (by decide) (by decide),?_⟩|refine zd ?_ ?_<;>intro h<;>try omega|fail)<;>conv=>whnf
   all_goals first|omega|exact fin _ _ _ e1 e2
  ·have hz0:(dg (m % n)).length≠0:=fun h=>h0 (hz.1 h)
   have one:dg 1=[1]:=rfl
   have ad:=b5t (m / n) 1 (by omega) (by simp [one])
   have sb:=aa2 n (m % n) (by omega) (by omega)
   have l1:=a6w (m / n) 1
   have l2:=A7 (Nat.sub_le n (m % n))
   have s1:=x6 (-1) (m / n+1) (by simp) (by rw [one] at l1;simp at l1;omega)
   have s2:=x6 1 (n - m % n) (by simp) (by omega)
   have key:(-1*(m:Int))=(n - m % n:Nat)+n*(-1*((m / n+1:Nat):Int)):=by
    have e:(m:Int)=n*(m / n:Nat)+(m % n:Nat):=by rw [← Int.natCast_mul];omega
    have e2:((n - m % n:Nat):Int)=n - (m % n:Nat):=by omega
    have e3:((m / n+1:Nat):Int)=(m / n:Nat)+1:=by omega
    rw [e2,e3]
    grind
   have e1:-1*((m / n+1:Nat):Int)=-1*(m:Int) / n:=by
    rw [key,Int.add_mul_ediv_left _ _ (by omega),Int.ediv_eq_zero_of_lt (by omega) (by omega)]
    simp
   have e2:1*((n - m % n:Nat):Int)=-1*(m:Int) % n:=by
    rw [key,Int.add_mul_emod_self_left,Int.emod_eq_of_lt (by omega) (by omega)]
    simp
   (refine ac Tryz.func137 ?_;(conv=>whnf);repeat (refine zy ?_;conv=>whnf))
   repeat' (first|refine zx ?_|refine qp r1 ?_|refine qp r2 ?_|refine qp dv ?_|refine qp s1 ?_|refine qp s2 ?_|refine qp sb ?_|refine .inl ⟨_,_,a6z ad ⟨a8M,a3p (aV3 rfl),trivial⟩ rfl,?_⟩|refine ⟨_,K6 (y:=-1) rfl (by decide) (by decide),?_⟩|refine zd ?_ ?_<;>intro h<;>try omega|fail)<;>conv=>whnf
   all_goals first|omega|exact fin _ _ _ e1 e2
theorem av1 (x y:Int) (hy:0<y) (lx:bl x<=200000) (ly:bl y<=200000):b7 Tryz.prog 137 [bgS (bz x),bgS (bz y)] [] (.tup [bgS (bz (x / y)),bgS (bz (x % y)),a8 .i64 0]) []:=by
 have h:=ba8 _ _ y.natAbs (ar4 x) (by omega) lx ly
 rw [sgm,show (y.natAbs:Int)=y by omega] at h
 unfold bz at *
 rw [Int.sign_eq_one_of_pos hy]
 exact h
abbrev b8X:Blk:={ mode:=.live,elem:=33,size:=2,rows:=[[E3 (.int .i64 0),E3 (.slice none 0 0)]],box:=true }
theorem a5i:E5 [[E3 (.int .i64 0),E3 (.slice none 0 0)]]:=by
 intro r hr c hc
 simp at hr
 subst hr
 simp at hc
 rcases hc with rfl|rfl<;>rfl
structure be8 (x y:Int) (X Y:Nat):Prop where
 g:Nat.gcd X Y=Nat.gcd x.natAbs y.natAbs
 lx:(dg X).length<=200000
 ly:(dg Y).length<=200000
theorem aX4 (x y:Int) (lx:bl x<=200000) (ly:bl y<=200000):b7 Tryz.prog 132 [bgS (bz x),bgS (bz y)] [] (.tup [bgS (bz (Int.gcd x y)),a8 .i64 0]) []:=by
 have r1:=a4I x (by omega)
 have r2:=a4I y (by omega)
 have cl:=a58 (bz x).dl (show bl x<=1000000 by omega)
 (refine ac Tryz.func132 ?_;(conv=>whnf);repeat (refine zy ?_;conv=>whnf))
 repeat' (first|refine zx ?_|refine qp r1 ?_|refine qp r2 ?_|refine qp cl ?_|refine zd ?_ ?_<;>intro h<;>try omega|fail)<;>conv=>whnf
 all_goals first
  |(exfalso;simp_all;done)
  |skip
 refine u9 c7 (σ:=Nat × Nat) (fun|(X,Y)=>([J,J,J,J,S.c (C.ptr 0 0 0),J,g8 (dg X),g8 (dg Y)]++Jn 36,[b8X])) (fun s=>be8 x y s.1 s.2) (fun s=>s.2) (x.natAbs,y.natAbs) [some 2]
  ⟨rfl,lx,ly⟩ ⟨rfl,rfl,⟨⟨rfl,rfl,rfl,.inl ⟨rfl,a5i⟩⟩,trivial⟩,⟨⟨rfl,rfl,rfl⟩,rfl,rfl,trivial⟩⟩ ?_
 rintro ⟨X,Y⟩ hI
 have hI:be8 x y X Y:=hI
 obtain ⟨g1,g2,g3⟩:=hI
 have l2:((dg Y).map e8).length=(dg Y).length:=by simp
 conv=>whnf
 by_cases hY:0<Y
 ·have hp:(dg Y).length≠0:=by rw [Ne,List.length_eq_zero_iff,S3];omega
  have dv:=b8q X Y hY (by omega) (by omega)
  repeat' (first|refine zx ?_|refine qp dv ?_|refine zd ?_ ?_<;>intro h<;>try omega|fail)<;>conv=>whnf
  all_goals first
   |omega
   |skip
  exact ⟨[some 0],(Y,X % Y),⟨rfl,rfl,⟨⟨rfl,rfl,rfl,.inl ⟨rfl,a5i⟩⟩,trivial⟩,⟨⟨rfl,rfl,rfl⟩,rfl,rfl,trivial⟩⟩,⟨by rw [← g1,Nat.gcd_comm Y,←Nat.gcd_rec,Nat.gcd_comm],g3,lbR (A7 (Nat.le_of_lt (Nat.mod_lt X hY))) g3⟩,Nat.mod_lt X hY⟩
 ·have hY:Y=0:=by omega
  subst hY
  have hp:(dg 0).length=0:=rfl
  have c2:=a58 (dg X) (by omega)
  have s1:=x6 1 X (by simp) (by omega)
  have ck:=I9 true (bz (1*X))
  repeat' (first|refine zx ?_|refine qp c2 ?_|refine qp s1 ?_|refine qp ck ?_|refine zd ?_ ?_<;>intro h<;>try omega|fail)<;>conv=>whnf
  all_goals first
   |omega
   |skip
  refine aQ8 ?_
  rw [Int.one_mul,show X=Int.gcd x y by rw [Int.gcd,←g1,Nat.gcd_zero_right]]
  rfl
theorem a1s {x y:Int} (h:x % 18446744073709551616=y):H7 .u64 x y:=by
 unfold H7
 simp only [IntKind.wrap,IntKind.bits,IntKind.signed]
 simp
 omega
theorem b0F (a:Int):a4R .and .u64 a 1048575 (a % 1048576):=(ay8 (a:=a) 20 (by decide)).symm
theorem b5Z (a:Int):b0l .u64 a 20 (a / 1048576):=by
 show a / 1048576=a.fdiv 1048576
 exact (Int.fdiv_eq_ediv_of_nonneg _ (by decide)).symm
structure OfI (n:Int) (acc:List Int) (u:Nat):Prop where
 eq:acc++dg u=dg n.natAbs
theorem OfI.len {n:Int} {acc:List Int} {u:Nat} (h:OfI n acc u) (h0:-9223372036854775808<=n) (h1:n<=9223372036854775807):acc.length<=4:=by
 have h2:(dg n.natAbs).length<=4:=P3 (by simp only [pw];omega)
 have h3:=congrArg List.length h.eq
 simp at h3
 omega
theorem OfI.step {n:Int} {acc:List Int} {u:Nat} (h:OfI n acc u) (hu:0<u):OfI n (acc++[(u:Int) % 1048576]) (u / 1048576):=by
 refine ⟨?_⟩
 rw [← h.eq,a6H hu]
 simp
theorem OfI.le {n:Int} {acc:List Int} {u:Nat} (h:OfI n acc u):u<=n.natAbs:=by
 have h1:=congrArg val h.eq
 rw [Q4,z7,z7] at h1
 have h2:Okd acc:=fun x hx=>C2 n.natAbs x (by rw [← h.eq];simp [hx])
 have h3:=s8 h2
 have h4:=R1 acc.length
 have h5:=lbW (a:=1) (b:=pw acc.length) (c:=(u:Int)) (by omega) (by omega)
 omega
theorem aK0 {xs:List Int} {x:Int}:(toC (xs.map e8)).take xs.length++toC [[ti x]]=toC ((xs++[x]).map e8):=ax7 (f:=e8)
theorem b0U (n:Int) (h0:-9223372036854775808<=n) (h1:n<=9223372036854775807):b7 Tryz.prog 58 [a8 .i64 n] [] (bgS (bz n)) []:=by
 by_cases hn:n<0
 ·(refine ac Tryz.func58 ?_;(conv=>whnf);repeat (refine zy ?_;conv=>whnf))
  repeat' (first|refine zx ?_|refine ⟨_,a1s (y:=n+18446744073709551616) (by omega),?_⟩|refine ⟨_,a1s (y:=(n.natAbs:Int)) (by omega),?_⟩|refine zd ?_ ?_<;>intro h<;>try omega|fail)<;>conv=>whnf
  refine u9 c7 (σ:=List Int × Nat) (fun|(acc,u)=>([J,J,S.c (C.ptr 0 0 0),a8 .i64 (-1),a8 .u64 u,a4j 1 acc]++Jn 19,[b8X,n7 acc])) (fun s=>OfI n s.1 s.2) (fun s=>s.2) ([],n.natAbs) [some 0,none]
   ⟨rfl⟩ ⟨rfl,rfl,⟨⟨rfl,rfl,rfl,.inl ⟨rfl,a5i⟩⟩,⟨rfl,rfl⟩,trivial⟩,⟨⟨rfl,rfl,rfl⟩,rfl,c6 (by omega),⟨rfl,rfl,rfl⟩,trivial⟩⟩ ?_
  rintro ⟨acc,u⟩ hI
  have hI:OfI n acc u:=hI
  have hl:=hI.len h0 h1
  have hu:=hI.le
  conv=>whnf
  repeat' (first|refine zx ?_|refine qp toC ?_|refine qp toC ?_|refine ⟨_,b0F _,?_⟩|refine ⟨by decide,_,b5Z _,?_⟩|refine y9 (by simp [toC]) (by simp [toC];omega) ?_|refine ⟨_,a1s (by omega),?_⟩|refine zd ?_ ?_<;>intro h<;>try omega|fail)<;>conv=>whnf
  ·refine ⟨[some 0,some 2],(acc++[(u:Int) % 1048576],u / 1048576),⟨rfl,rfl,⟨⟨rfl,rfl,rfl,.inl ⟨rfl,a5i⟩⟩,b8 rfl rfl rfl aK0 rfl,trivial⟩,⟨⟨rfl,rfl,rfl⟩,rfl,c6 (by simp),x4 rfl (by simp [toC]),trivial⟩⟩,hI.step (by omega),by show u / 1048576<u;omega⟩
  ·have h0u:u=0:=by omega
   subst h0u
   have e:acc=dg n.natAbs:=by have:=hI.eq;rw [a2m,List.append_nil] at this;exact this
   have sg:=x6 (-1) n.natAbs (by omega) (by rw [← e];omega)
   rw [← e,show (-1)*(n.natAbs:Int)=n by omega] at sg
   refine .inr ⟨_,_,C7 [1] sg ⟨a8M,a3p (t8 (by simp) rfl (by intro h;cases h) rfl rfl (by simp)),trivial⟩ rfl,?_⟩
   conv=>whnf
   exact j3 ⟨rfl,rfl,trivial⟩
 ·(refine ac Tryz.func58 ?_;(conv=>whnf);repeat (refine zy ?_;conv=>whnf))
  repeat' (first|refine zx ?_|refine ⟨_,a1s (y:=(n.natAbs:Int)) (by omega),?_⟩|refine zd ?_ ?_<;>intro h<;>try omega|fail)<;>conv=>whnf
  refine u9 c7 (σ:=List Int × Nat) (fun|(acc,u)=>([J,J,S.c (C.ptr 0 0 0),a8 .i64 1,a8 .u64 u,a4j 1 acc]++Jn 19,[b8X,n7 acc])) (fun s=>OfI n s.1 s.2) (fun s=>s.2) ([],n.natAbs) [some 0,none]
   ⟨rfl⟩ ⟨rfl,rfl,⟨⟨rfl,rfl,rfl,.inl ⟨rfl,a5i⟩⟩,⟨rfl,rfl⟩,trivial⟩,⟨⟨rfl,rfl,rfl⟩,rfl,c6 (by omega),⟨rfl,rfl,rfl⟩,trivial⟩⟩ ?_
  rintro ⟨acc,u⟩ hI
  have hI:OfI n acc u:=hI
  have hl:=hI.len h0 h1
  have hu:=hI.le
  conv=>whnf
  repeat' (first|refine zx ?_|refine qp toC ?_|refine qp toC ?_|refine ⟨_,b0F _,?_⟩|refine ⟨by decide,_,b5Z _,?_⟩|refine y9 (by simp [toC]) (by simp [toC];omega) ?_|refine ⟨_,a1s (by omega),?_⟩|refine zd ?_ ?_<;>intro h<;>try omega|fail)<;>conv=>whnf
  ·refine ⟨[some 0,some 2],(acc++[(u:Int) % 1048576],u / 1048576),⟨rfl,rfl,⟨⟨rfl,rfl,rfl,.inl ⟨rfl,a5i⟩⟩,b8 rfl rfl rfl aK0 rfl,trivial⟩,⟨⟨rfl,rfl,rfl⟩,rfl,c6 (by simp),x4 rfl (by simp [toC]),trivial⟩⟩,hI.step (by omega),by show u / 1048576<u;omega⟩
  ·have h0u:u=0:=by omega
   subst h0u
   have e:acc=dg n.natAbs:=by have:=hI.eq;rw [a2m,List.append_nil] at this;exact this
   have sg:=x6 (1) n.natAbs (by omega) (by rw [← e];omega)
   rw [← e,show (1)*(n.natAbs:Int)=n by omega] at sg
   refine .inr ⟨_,_,C7 [1] sg ⟨a8M,a3p (t8 (by simp) rfl (by intro h;cases h) rfl rfl (by simp)),trivial⟩ rfl,?_⟩
   conv=>whnf
   exact j3 ⟨rfl,rfl,trivial⟩
theorem az9 (i:Nat):pw i=((2 ^ (20*i):Nat):Int):=by
 unfold pw;rw [show (1048576:Int)=((2 ^ 20:Nat):Int) by decide,←Int.natCast_pow,←Nat.pow_mul]
theorem bg1 {d:Int} {i:Nat} {b:Int} (hi:i<=3) (h:0<=d) (h2:d*pw i<18446744073709551616) (hb:b=20*i):H7 .u64 (d*2 ^ min b.toNat (IntKind.bits .u64)) (d*pw i):=by
 have e:min b.toNat (IntKind.bits .u64)=20*i:=by show min b.toNat 64=_;omega
 have hp:=R1 i
 have h3:0<=d*pw i:=lbZ h (by omega)
 rw [e,show (2:Int) ^ (20*i)=pw i by rw [az9];simp]
 exact aJ3 h3 h2
theorem oru {u d:Int} {i:Nat} (hu:0<=u) (hu2:u<pw i) (h:0<=d) (h2:u+d*pw i<18446744073709551616):a4R .or .u64 u (d*pw i) (u+d*pw i):=by
 obtain ⟨U,rfl⟩:=Int.eq_ofNat_of_zero_le hu
 obtain ⟨D,rfl⟩:=Int.eq_ofNat_of_zero_le h
 have hp:=R1 i
 have e2:(U:Int)+D*pw i=((U+2 ^ (20*i)*D:Nat):Int):=by rw [az9];simp [Int.mul_comm]
 have e3:(D:Int)*pw i=((2 ^ (20*i)*D:Nat):Int):=by rw [az9];simp [Int.mul_comm]
 rw [e2] at h2
 have hU:U<2 ^ (20*i):=by rw [az9] at hu2;omega
 have k1:(BitVec.ofInt (IntKind.bits .u64) (U:Int) ||| BitVec.ofInt (IntKind.bits .u64) ((2 ^ (20*i)*D:Nat):Int)).toNat=U+2 ^ (20*i)*D:=by
  show (BitVec.ofInt 64 _ ||| BitVec.ofInt 64 _).toNat=_
  rw [BitVec.toNat_or,BitVec.toNat_ofInt,BitVec.toNat_ofInt]
  rw [Int.emod_eq_of_lt (by omega) (by omega),Int.emod_eq_of_lt (by omega) (by omega),lbX,lbX,Nat.or_comm,←Nat.two_pow_add_eq_or_of_lt hU,Nat.add_comm]
 rw [e2,e3]
 unfold a4R
 simp only
 rw [k1]
 exact (ag3 (by omega) h2).symm
structure aZ8 (n:Nat) (k:Nat) (u:Int):Prop where
 eq:u=val ((dg n).take k)
 le:k<=(dg n).length
 lt:k=4->u<9*1152921504606846976
theorem aZ8.rng {n k:Nat} {u:Int} (h:aZ8 n k u):0<=u∧u<pw k:=by
 have h1:=s8 ((C2 n).take k)
 have h2:=a0k ((C2 n).take k)
 rw [lbs,Nat.min_eq_left h.le,←h.eq] at h2
 rw [← h.eq] at h1
 exact ⟨h1,h2⟩
theorem aZ8.step {n k:Nat} {u:Int} (h:aZ8 n k u) (hk:k<(dg n).length) (hd:k=3->dat (dg n) k<=8):aZ8 n (k+1) (u+dat (dg n) k*pw k):=by
 have hr:=h.rng
 refine ⟨by rw [w9,h.eq,Int.mul_comm],hk,fun h4=>?_⟩
 have:k=3:=by omega
 subst this
 have:=hd rfl
 simp only [pw] at hr ⊢
 omega
theorem b9A {k:Nat} (h:k<=3):pw k<=1152921504606846976:=by
 have:=a2o h
 simp only [pw] at this ⊢
 omega
theorem b9e {k:Nat} (h:k<=2):pw k<=1099511627776:=by
 have:=a2o h
 simp only [pw] at this ⊢
 omega
theorem az5 {a a':Int} {b b':Bool} {k:IntKind} {H1:Hp} (h:a=a') (h2:b=b'):Fin 0 (.tup [a8 k a,f7 b]) H1 (.tup [a8 k a',f7 b']) []:=by
 subst h h2;exact j3 ⟨rfl,rfl,trivial⟩
theorem aY1 {x:Int} (h1:9223372036854775808<=x) (h2:x<18446744073709551616):H7 .i64 x (x - 18446744073709551616):=by
 unfold H7
 simp only [IntKind.wrap,IntKind.bits,IntKind.signed]
 simp
 omega
abbrev a8E (x:Int):Prop:=-9223372036854775808<=x∧x<=9223372036854775807
theorem b8K (x:Int) (lx:bl x<=200000):b7 Tryz.prog 210 [bgS (bz x)] [] (.tup [a8 .i64 (if a8E x then x else 0),f7 (decide (a8E x))]) []:=by
 have r1:=a4I x (by omega)
 have l1:((bz x).dl.map e8).length=(dg x.natAbs).length:=by simp [bz]
 have l2:(bz x).dl=dg x.natAbs:=rfl
 have hlast:∀k:Nat,k<(dg x.natAbs).length->pw k<=x.natAbs:=fun k hk=>Int.le_trans (a2o (by omega)) (aB0 (by
  rcases Nat.eq_zero_or_pos x.natAbs with h|h
  ·rw [h,a2m] at hk;simp at hk
  ·exact h))
 (refine ac Tryz.func210 ?_;(conv=>whnf);repeat (refine zy ?_;conv=>whnf))
 repeat' (first|refine zx ?_|refine qp r1 ?_|refine zd ?_ ?_<;>intro h<;>try omega|fail)<;>conv=>whnf
 ·have hl:4<(dg x.natAbs).length:=by omega
  have:=hlast 4 hl
  simp only [pw] at this
  have hn:¬a8E x:=by unfold a8E;omega
  exact az5 (by rw [if_neg hn]) (by simp [hn])
 ·refine u9 c7 (σ:=Nat × Int) (fun|(k,u)=>([J,S.c (C.ptr 0 0 0),J,J,a8 .u64 u]++Jn 12++[g8 (dg x.natAbs),a8 .i64 (dg x.natAbs).length,a8 .i64 k]++Jn 39,[bgB (bz x)])) (fun s=>aZ8 x.natAbs s.1 s.2) (fun s=>(dg x.natAbs).length - s.1) (0,0) [some 0]
   ⟨by simp [val],by omega,by omega⟩ ⟨rfl,rfl,⟨⟨rfl,rfl,rfl,.inl ⟨rfl,a4x _⟩⟩,trivial⟩,⟨⟨rfl,rfl,rfl⟩,rfl,i5 rfl,c6 (by omega),rfl,trivial⟩⟩ ?_
  rintro ⟨k,u⟩ hI
  have hI:aZ8 x.natAbs k u:=hI
  have hr:=hI.rng
  have hle:=hI.le
  have hd:=(C2 x.natAbs).dat k
  have hp:=R1 k
  have hp3:k<=3->pw k<=1152921504606846976:=b9A
  have hdm:0<=dat (dg x.natAbs) k*pw k:=lbZ hd.1 (by omega)
  have l3:((dg x.natAbs).map e8).length=(dg x.natAbs).length:=by simp
  have hp2:k<=2->pw k<=1099511627776:=b9e
  have hA:k<=3->(k=3->dat (dg x.natAbs) k<=8)->u+dat (dg x.natAbs) k*pw k<18446744073709551616:=fun h3 h8=>by
   by_cases hk:k=3
   ·have:=lbW (c:=pw k) (h8 hk) (by omega)
    have:=hp3 h3
    omega
   ·have:=lbW (c:=pw k) (show dat (dg x.natAbs) k<=1048575 by omega) (by omega)
    have:=hp2 (by omega)
    omega
  have hE:k=(dg x.natAbs).length->u=x.natAbs:=fun h=>by
   have:=hI.eq
   rw [h,lbn (lbQ _),z7] at this
   exact this
  have hs:=O4 x
  have hsg:(bz x).sg=x.sign:=rfl
  conv=>whnf
  repeat' (first|refine zx ?_|refine d7 (A9 (by omega)) ?_|refine ⟨_,aJ3 (by omega) (by omega),?_⟩|refine ⟨by omega,_,bg1 (i:=k) (by omega) (by omega) (by omega) (by omega),?_⟩|refine ⟨_,oru (by omega) (by omega) (by omega) (by omega),?_⟩|refine ⟨_,a1s (y:=18446744073709551616 - u) (by omega),?_⟩|refine ⟨_,aY1 (by omega) (by omega),?_⟩|refine zd ?_ ?_<;>intro h<;>try omega|fail)<;>conv=>whnf
  ·have hk:k=3:=by omega
   have h8:9<=dat (dg x.natAbs) k:=by omega
   have h1:=w9 (dg x.natAbs) k
   have h4:val (dg x.natAbs)=val ((dg x.natAbs).take (k+1)):=by rw [lbn (by omega)]
   rw [z7] at h4
   have h5:=s8 ((C2 x.natAbs).take k)
   have h6:=lbV (a:=9) (b:=dat (dg x.natAbs) k) (c:=pw k) h8 (by omega)
   have h7:pw k=1152921504606846976:=by rw [hk];rfl
   have hn:¬a8E x:=by unfold a8E;omega
   exact az5 (by rw [if_neg hn]) (by simp [hn])
  ·have hst:=hI.step (by omega) (by omega)
   exact ⟨[some 0],(k+1,u+dat (dg x.natAbs) k*pw k),⟨rfl,rfl,⟨⟨rfl,rfl,rfl,.inl ⟨rfl,a4x _⟩⟩,trivial⟩,⟨⟨rfl,rfl,rfl⟩,rfl,rfl,rfl,c6 (by omega),trivial⟩⟩,hst,by show (dg x.natAbs).length - (k+1)<(dg x.natAbs).length - k;omega⟩
  ·have hst:=hI.step (by omega) (by omega)
   exact ⟨[some 0],(k+1,u+dat (dg x.natAbs) k*pw k),⟨rfl,rfl,⟨⟨rfl,rfl,rfl,.inl ⟨rfl,a4x _⟩⟩,trivial⟩,⟨⟨rfl,rfl,rfl⟩,rfl,rfl,rfl,c6 (by omega),trivial⟩⟩,hst,by show (dg x.natAbs).length - (k+1)<(dg x.natAbs).length - k;omega⟩
  all_goals
   have hu:=hE (by omega)
   first
    |(have hn:a8E x:=by unfold a8E;omega
      exact az5 (by rw [if_pos hn];omega) (by simp [hn]))
    |(have hn:¬a8E x:=by unfold a8E;omega
      exact az5 (by rw [if_neg hn]) (by simp [hn]))
abbrev frC (f:Fr):List C:=[.t (ti f.p.sg),.t (N3 f.p.dl),.t (ti f.q.sg),.t (N3 f.q.dl)]
abbrev frS (f:Fr):S:=.agg (frC f)
theorem bf1 (x:Int) (lx:bl x<=200000):b7 Tryz.prog 133 [bgS (bz x)] [] (f7 (x == 1)) []:=by
 have i:=b8K x lx
 by_cases h:a8E x
 ·rw [if_pos h,show decide (a8E x)=true by simp [h]] at i
  (refine ac Tryz.func133 ?_;(conv=>whnf);repeat (refine zy ?_;conv=>whnf))
  repeat' (first|refine zx ?_|refine qp i ?_|refine zd ?_ ?_<;>intro h<;>try omega|fail)<;>conv=>whnf
  all_goals (refine c9 ?_;simp;omega)
 ·rw [if_neg h,show decide (a8E x)=false by simp [h]] at i
  have hx:x≠1:=by rintro rfl;exact h (by decide)
  (refine ac Tryz.func133 ?_;(conv=>whnf);repeat (refine zy ?_;conv=>whnf))
  repeat' (first|refine zx ?_|refine qp i ?_|refine zd ?_ ?_<;>intro h<;>try omega|fail)<;>conv=>whnf
  all_goals (refine c9 ?_;simp;omega)
theorem a36 (f:Fr) (lp:f.p.dl.length<=200000) (lq:f.q.dl.length<=200000):b7 Tryz.prog 59 [frS f] [] (f7 (C9 f)) []:=by
 obtain ⟨p,q⟩:=f
 simp only at lp lq
 have r1:=a3b p (by omega)
 have r2:=a3b q (by omega)
 cases hp:P6 p with
 |false=>
  rw [hp] at r1
  (refine ac Tryz.func59 ?_;(conv=>whnf);repeat (refine zy ?_;conv=>whnf))
  repeat' (first|refine zx ?_|refine qp r1 ?_|refine qp r2 ?_|refine zd ?_ ?_<;>intro h<;>try omega|fail)<;>conv=>whnf
  all_goals (first|(exfalso;simp_all;done)|(refine c9 ?_;unfold C9;simp [hp]))
 |true=>
  rw [hp] at r1
  cases hq:P6 q with
  |false=>
   rw [hq] at r2
   (refine ac Tryz.func59 ?_;(conv=>whnf);repeat (refine zy ?_;conv=>whnf))
   repeat' (first|refine zx ?_|refine qp r1 ?_|refine qp r2 ?_|refine zd ?_ ?_<;>intro h<;>try omega|fail)<;>conv=>whnf
   all_goals (first|(exfalso;simp_all;done)|(refine c9 ?_;unfold C9;simp [hq]))
  |true=>
   rw [hq] at r2
   obtain ⟨x,rfl⟩:=aM3 hp
   obtain ⟨y,rfl⟩:=aM3 hq
   have g:=aX4 x y lp lq
   have o:=bf1 (Int.gcd x y) (aW2 x y lp lq)
   (refine ac Tryz.func59 ?_;(conv=>whnf);repeat (refine zy ?_;conv=>whnf))
   repeat' (first|refine zx ?_|refine qp r1 ?_|refine qp r2 ?_|refine qp g ?_|refine qp o ?_|refine zd ?_ ?_<;>intro h<;>try omega|fail)<;>conv=>whnf
   all_goals (refine c9 ?_;unfold C9;simp only [a2W,a6U,Bool.true_and];symm;simp_all<;>omega)
theorem a1h (x y:Int) (lx:bl x<=200000) (ly:bl y<=200000):b7 Tryz.prog 81 [bgS (bz x),bgS (bz y)] [] (bgS (bz (x*y))) []:=by
 have mu:=b9s x y lx ly
 (refine ac Tryz.func81 ?_;(conv=>whnf);repeat (refine zy ?_;conv=>whnf))
 repeat' (first|refine zx ?_|refine qp mu ?_|refine zd ?_ ?_<;>intro h<;>try omega|fail)<;>conv=>whnf
 exact j3 ⟨rfl,rfl,trivial⟩
theorem a2y {f f':Fr} {e:Int} {H1:Hp} (h:f=f'):Fin 0 (.tup [frS f,a8 .i64 e]) H1 (.tup [frS f',a8 .i64 e]) []:=by
 subst h;exact j3 ⟨⟨rfl,rfl,rfl,rfl,trivial⟩,rfl,trivial⟩
theorem av3 (p q:Int) (hq:q≠0) (lp:bl p<=200000) (lq:bl q<=200000):b7 Tryz.prog 63 [bgS (bz p),bgS (bz q)] [] (.tup [frS (fz (Rat.divInt p q)),a8 .i64 0]) []:=by
 have r1:=a4I p (by omega)
 have r2:=a4I q (by omega)
 have hs:=O4 q
 have hsg:(bz q).sg=q.sign:=rfl
 by_cases h:q<0
 ·have n1:=a8l p (by omega)
  have n2:=a8l q (by omega)
  have lg:=aW2 (-p) (-q) (by rw [a4Q];exact lp) (by rw [a4Q];exact lq)
  have hg:0<(Int.gcd (-p) (-q):Int):=by have:=Int.gcd_pos_of_ne_zero_right (-p) (b:=-q) (by omega);omega
  have g:=aX4 (-p) (-q) (by rw [a4Q];exact lp) (by rw [a4Q];exact lq)
  have d1:=av1 (-p) _ hg (by rw [a4Q];exact lp) lg
  have d2:=av1 (-q) _ hg (by rw [a4Q];exact lq) lg
  have e:=ao7 (p:=-p) (q:=-q) (by omega) rfl
  rw [Rat.neg_divInt_neg] at e
  (refine ac Tryz.func63 ?_;(conv=>whnf);repeat (refine zy ?_;conv=>whnf))
  repeat' (first|refine zx ?_|refine qp r1 ?_|refine qp r2 ?_|refine qp n1 ?_|refine qp n2 ?_|refine qp g ?_|refine qp d1 ?_|refine qp d2 ?_|refine zd ?_ ?_<;>intro h<;>try omega|fail)<;>conv=>whnf
  all_goals first
   |(exfalso;simp_all;done)
   |omega
   |exact a2y e.symm
 ·have lg:=aW2 p q lp lq
  have hg:0<(Int.gcd p q:Int):=by have:=Int.gcd_pos_of_ne_zero_right p (b:=q) (by omega);omega
  have g:=aX4 p q lp lq
  have d1:=av1 p _ hg lp lg
  have d2:=av1 q _ hg lq lg
  have e:=ao7 (p:=p) (q:=q) (by omega) rfl
  (refine ac Tryz.func63 ?_;(conv=>whnf);repeat (refine zy ?_;conv=>whnf))
  repeat' (first|refine zx ?_|refine qp r1 ?_|refine qp r2 ?_|refine qp g ?_|refine qp d1 ?_|refine qp d2 ?_|refine zd ?_ ?_<;>intro h<;>try omega|fail)<;>conv=>whnf
  all_goals first
   |omega
   |(exfalso;simp_all;done)
   |exact a2y e.symm
theorem J5 (x:Rat) (lx:rl x<=200000):b7 Tryz.prog 59 [frS (fz x)] [] (f7 true) []:=by
 have h:=a36 (fz x) (lbR (J3 x) lx) (lbR (K0 x) lx)
 rw [a2P] at h
 exact h
theorem a0y (x y:Rat) (lx:rl x<=60000) (ly:rl y<=60000):b7 Tryz.prog 55 [frS (fz x),frS (fz y)] [] (.tup [frS (fz (x+y)),a8 .i64 0]) []:=by
 have r1:=J5 x (by omega)
 have r2:=J5 y (by omega)
 have x1:=J3 x
 have x2:=K0 x
 have y1:=J3 y
 have y2:=K0 y
 have l1:=Y7 x.num y.den
 have l2:=Y7 y.num x.den
 have l3:=Y7 x.den y.den
 have l4:=b5n (x.num*y.den) (y.num*x.den)
 have t1:=a1h x.num y.den (by omega) (by omega)
 have t2:=a1h y.num x.den (by omega) (by omega)
 have t3:=a1h x.den y.den (by omega) (by omega)
 have a:=b92 (x.num*y.den) (y.num*x.den) (by omega) (by omega)
 have n:=av3 (x.num*y.den+y.num*x.den) (x.den*y.den) (a9K x y) (by omega) (by omega)
 rw [← b10] at n
 (refine ac Tryz.func55 ?_;(conv=>whnf);repeat (refine zy ?_;conv=>whnf))
 repeat' (first|refine zx ?_|refine qp r1 ?_|refine qp r2 ?_|refine qp t1 ?_|refine qp t2 ?_|refine qp t3 ?_|refine qp a ?_|refine qp n ?_|refine qp 13 ?_|refine bl0 [13] ?_|refine zd ?_ ?_<;>intro h<;>try omega|fail)<;>conv=>whnf
 all_goals first
  |(exfalso;simp_all;done)
  |exact a2y rfl
theorem aA1 (x y:Rat) (lx:rl x<=60000) (ly:rl y<=60000):b7 Tryz.prog 66 [frS (fz x),frS (fz y)] [] (.tup [frS (fz (x - y)),a8 .i64 0]) []:=by
 have r1:=J5 x (by omega)
 have r2:=J5 y (by omega)
 have y1:=J3 y
 have n:=a8l y.num (by omega)
 have a:=a0y x (-y) lx (by rw [S8];exact ly)
 rw [← Rat.sub_eq_add_neg] at a
 have e:fz (-y)=⟨bz (-y.num),bz y.den⟩:=rfl
 rw [e] at a
 (refine ac Tryz.func66 ?_;(conv=>whnf);repeat (refine zy ?_;conv=>whnf))
 repeat' (first|refine zx ?_|refine qp r1 ?_|refine qp r2 ?_|refine qp n ?_|refine qp a ?_|refine zd ?_ ?_<;>intro h<;>try omega|fail)<;>conv=>whnf
 all_goals first
  |(exfalso;simp_all;done)
  |exact a2y rfl
theorem a3t (x y:Rat) (lx:rl x<=60000) (ly:rl y<=60000):b7 Tryz.prog 57 [frS (fz x),frS (fz y)] [] (.tup [frS (fz (x*y)),a8 .i64 0]) []:=by
 have r1:=J5 x (by omega)
 have r2:=J5 y (by omega)
 have x1:=J3 x
 have x2:=K0 x
 have y1:=J3 y
 have y2:=K0 y
 have l1:=Y7 x.num y.num
 have l3:=Y7 x.den y.den
 have t1:=a1h x.num y.num (by omega) (by omega)
 have t3:=a1h x.den y.den (by omega) (by omega)
 have n:=av3 (x.num*y.num) (x.den*y.den) (a9K x y) (by omega) (by omega)
 rw [← b0w] at n
 (refine ac Tryz.func57 ?_;(conv=>whnf);repeat (refine zy ?_;conv=>whnf))
 repeat' (first|refine zx ?_|refine qp r1 ?_|refine qp r2 ?_|refine qp t1 ?_|refine qp t3 ?_|refine qp n ?_|refine zd ?_ ?_<;>intro h<;>try omega|fail)<;>conv=>whnf
 all_goals first
  |(exfalso;simp_all;done)
  |exact a2y rfl
theorem b5q (x y:Rat):T2 (x.num*y.den) (y.num*x.den)=a1j x y:=by
 unfold T2 a1j
 simp only [← Rat.lt_iff]
theorem G6 (x y:Rat) (lx:rl x<=60000) (ly:rl y<=60000):b7 Tryz.prog 29 [frS (fz x),frS (fz y)] [] (a8 .i64 (a1j x y)) []:=by
 have r1:=J5 x (by omega)
 have r2:=J5 y (by omega)
 have x1:=J3 x
 have x2:=K0 x
 have y1:=J3 y
 have y2:=K0 y
 have l1:=Y7 x.num y.den
 have l2:=Y7 y.num x.den
 have t1:=a1h x.num y.den (by omega) (by omega)
 have t2:=a1h y.num x.den (by omega) (by omega)
 have c:=aT9 (x.num*y.den) (y.num*x.den) (by omega) (by omega)
 rw [b5q] at c
 (refine ac Tryz.func29 ?_;(conv=>whnf);repeat (refine zy ?_;conv=>whnf))
 repeat' (first|refine zx ?_|refine qp r1 ?_|refine qp r2 ?_|refine qp t1 ?_|refine qp t2 ?_|refine qp c ?_|refine zd ?_ ?_<;>intro h<;>try omega|fail)<;>conv=>whnf
 all_goals first
  |(exfalso;simp_all;done)
  |exact v8 rfl
theorem Y8 (x:Rat) (lx:rl x<=60000):b7 Tryz.prog 19 [frS (fz x)] [] (a8 .i64 (sgR x)) []:=by
 have r1:=J5 x (by omega)
 (refine ac Tryz.func19 ?_;(conv=>whnf);repeat (refine zy ?_;conv=>whnf))
 repeat' (first|refine zx ?_|refine qp r1 ?_|refine zd ?_ ?_<;>intro h<;>try omega|fail)<;>conv=>whnf
 all_goals first
  |(exfalso;simp_all;done)
  |exact v8 (ah8 x)
theorem b8w (p q:Int) (hq:q≠0) (p0:-9223372036854775808<=p) (p1:p<=9223372036854775807) (q0:-9223372036854775808<=q) (q1:q<=9223372036854775807):
 b7 Tryz.prog 22 [a8 .i64 p,a8 .i64 q] [] (.tup [frS (fz (Rat.divInt p q)),a8 .i64 0]) []:=by
 have l1:=a0l p0 p1
 have l2:=a0l q0 q1
 have o1:=b0U p p0 p1
 have o2:=b0U q q0 q1
 have n:=av3 p q hq (by omega) (by omega)
 (refine ac Tryz.func22 ?_;(conv=>whnf);repeat (refine zy ?_;conv=>whnf))
 repeat' (first|refine zx ?_|refine qp o1 ?_|refine qp o2 ?_|refine qp n ?_|refine zd ?_ ?_<;>intro h<;>try omega|fail)<;>conv=>whnf
 all_goals exact a2y rfl
theorem b9y (n:Int):fz (n:Rat)=⟨bz n,bz 1⟩:=by unfold fz;rw [Rat.num_intCast,Rat.den_intCast];rfl
theorem D2 (n:Int) (p0:-9223372036854775808<=n) (p1:n<=9223372036854775807):b7 Tryz.prog 17 [a8 .i64 n] [] (frS (fz (n:Rat))) []:=by
 have o1:=b0U n p0 p1
 have o2:=b0U 1 (by decide) (by decide)
 rw [b9y]
 (refine ac Tryz.func17 ?_;(conv=>whnf);repeat (refine zy ?_;conv=>whnf))
 repeat' (first|refine zx ?_|refine qp o1 ?_|refine qp o2 ?_|refine zd ?_ ?_<;>intro h<;>try omega|fail)<;>conv=>whnf
 all_goals exact j3 ⟨rfl,rfl,rfl,rfl,trivial⟩
theorem ad4 (x:Int) (lx:bl x<=200000):b7 Tryz.prog 136 [bgS (bz x)] [] (bgS (bz x)) []:=by
 have n1:=a8l x (by omega)
 have n2:=a8l (-x) (by rw [a4Q];omega)
 rw [Int.neg_neg] at n2
 (refine ac Tryz.func136 ?_;(conv=>whnf);repeat (refine zy ?_;conv=>whnf))
 repeat' (first|refine zx ?_|refine qp n1 ?_|refine qp n2 ?_|refine zd ?_ ?_<;>intro h<;>try omega|fail)<;>conv=>whnf
 all_goals exact j3 ⟨rfl,rfl,trivial⟩
def a0s (c:E6):Bool:=
 decide (0<=c.since) && decide (c.since<=c.till) && decide (c.till<=100000) && idx c.scale 30 && btw c.grams 0 1099511627776 && btw c.permille 0 1000 && btw c.drift 0 10000000
def a06 (c:E6) (day:Int):Bool:=a0s c && btw day c.since c.till
def ay2 (cs:List E6) (i:Nat):Int:=((cs[i]?).map (·.since)).getD 0
def a8S (cs:List E6) (o:Option Nat) (c:E6):Bool:=match o with
 |none=>true
 |some b=>decide (ay2 cs b<=c.since)
def Q9 (cs:List E6) (scale day:Int):Nat->Option Nat
 |0=>none
 |k+1=>match cs[k]? with
  |none=>Q9 cs scale day k
  |some c=>if decide (c.scale=scale) && a06 c day && a8S cs (Q9 cs scale day k) c then some k else Q9 cs scale day k
theorem R2 {cs:List E6} {scale day:Int}:∀{k b:Nat},Q9 cs scale day k=some b->b<k∧∃c,cs[b]? =some c∧c.scale=scale∧a06 c day=true
 |0,b,h=>by simp [Q9] at h
 |k+1,b,h=>by
  unfold Q9 at h
  split at h
  ·obtain ⟨h1,h2⟩:=R2 h;exact ⟨by omega,h2⟩
  ·rename_i c hc
   split at h
   ·rename_i hcc
    injection h with h
    subst h
    simp only [lbM,lbI] at hcc
    exact ⟨by omega,c,hc,hcc.1.1,hcc.1.2⟩
   ·obtain ⟨h1,h2⟩:=R2 h;exact ⟨by omega,h2⟩
def a9L (rs:List w7) (scale day:Int):Bool:=rs.any fun r=>decide (r.scale=scale) && decide (r.since<=day)
def a4M (c:E6) (reading day:Int):Rat:=Rat.divInt (c.permille*reading) 1000+((c.grams+c.drift*(day - c.since):Int):Rat)
def aC3 (x y:Rat):Rat:=if x<y then y else x
def b3f:E6:=⟨0,0,0,0,0,0⟩
def a2C (cs:List E6) (i:Nat):E6:=(cs[i]?).getD b3f
def L7 (cs:List E6) (rs:List w7) (scale reading day:Int):Option (Rat × Rat):=
 match Q9 cs scale day cs.length with
 |none=>none
 |some i=>if a9L rs scale day then none else if btw reading 0 1099511627776 then
   some (aC3 ((reading:Rat) - a4M (a2C cs i) reading day) ((0:Int):Rat),(reading:Rat)+a4M (a2C cs i) reading day) else none
def S5 (l:List Rat):Rat:=l.foldl (·+·) ((0:Int):Rat)
theorem ap5 (l:List Rat) (x:Rat):S5 (l++[x])=S5 l+x:=by simp [S5]
theorem b0p {l:List Rat} {B:Nat} (h:∀x ∈ l,rl x<=B):rl (S5 l)<=l.length*(B+1)+1:=by
 have key:∀(l:List Rat) (a:Rat),(∀ x ∈ l,rl x<=B)->rl (l.foldl (·+·) a)<=l.length*(B+1)+rl a:=fun l=>by
  induction l with
  |nil=>intro a _;simp
  |cons x r ih=>
   intro a hx
   have h1:=ih (a+x) fun y hy=>hx y (by simp [hy])
   have h2:=a0q a x
   have h3:=hx x (by simp)
   simp only [List.foldl_cons,lbu,lbU]
   omega
 exact key l _ h
def P9 (e:Ev) (h:List (List Fr)):Bool:=decide (h.length=e.moves.length) && h.all fun l=>decide ((l.length:Int)=e.mats) && l.all C9
def hz (H:List (List Rat)):List (List Fr):=H.map (·.map fz)
theorem aZ3 {l:List Fr} (h:l.all C9=true):∃L:List Rat,l=L.map fz:=by
 induction l with
 |nil=>exact ⟨[],rfl⟩
 |cons f r ih=>
  simp only [List.all_cons,lbM] at h
  obtain ⟨L,rfl⟩:=ih h.2
  exact ⟨fv f::L,by simp [← b45 h.1]⟩
structure a2n (e:Ev) (H:List (List Rat)):Prop where
 len:H.length=e.moves.length
 wid:∀l ∈ H,(l.length:Int)=e.mats
theorem a3V {e:Ev} {h:List (List Fr)} (hs:P9 e h=true):∃H,h=hz H∧a2n e H:=by
 unfold P9 at hs
 simp only [lbM,lbI] at hs
 obtain ⟨h1,h2⟩:=hs
 have key:∀h:List (List Fr),(h.all fun l=>decide ((l.length:Int)=e.mats) && l.all C9)=true->∃H,h=hz H∧∀l ∈ H,(l.length:Int)=e.mats:=fun h=>by
  induction h with
  |nil=>intro _;exact ⟨[],rfl,by simp⟩
  |cons l r ih=>
   intro hh
   simp only [List.all_cons,lbM,lbI] at hh
   obtain ⟨⟨q1,q2⟩,q3⟩:=hh
   obtain ⟨L,rfl⟩:=aZ3 q2
   obtain ⟨H,rfl,hw⟩:=ih q3
   refine ⟨L::H,rfl,fun l hl=>?_⟩
   rcases lbA.1 hl with rfl|hl
   ·simpa using q1
   ·exact hw l hl
 obtain ⟨H,rfl,hw⟩:=key h h2
 exact ⟨H,rfl,by simpa [hz] using h1,hw⟩
theorem b5s {e:Ev} {H:List (List Rat)} (h:a2n e H):P9 e (hz H)=true:=by
 unfold P9 hz
 simp only [lbM,lbI,lbv,lbr]
 refine ⟨h.len,fun l hl=>?_⟩
 obtain ⟨L,hL,rfl⟩:=lbx.1 hl
 refine ⟨by simpa using h.wid L hL,fun f hf=>?_⟩
 obtain ⟨x,_,rfl⟩:=lbx.1 hf
 exact a2P x
def hAt (H:List (List Rat)) (k m:Nat):Rat:=(H.getD k []).getD m 0
def A8 (x:j6) (v:Nat->Rat) (f:Nat->Nat->Rat):Nat->Nat->Rat:=fun p m=>if x.src=(p:Int) then f p m - v m else if x.dst=(p:Int) then f p m+v m else f p m
def stk (e:Ev) (H:List (List Rat)):Nat->Nat->Nat->Rat
 |0=>fun _ _=>((0:Int):Rat)
 |k+1=>match e.moves[k]? with
  |none=>stk e H k
  |some x=>A8 x (hAt H k) (stk e H k)
def a0g (f:Nat->Rat) (all:Bool):List Rat->Nat->Bool->Int
 |[],_,rest=>if rest && all then 7 else 0
 |v::r,m,rest=>if f m<v then 4 else a0g f all r (m+1) (rest || decide (v<f m))
def a2v (e:Ev) (f:Nat->Nat->Rat) (x:j6) (l:List Rat):Int:=if F2 e x.src=0 then 0 else a0g (f x.src.toNat) x.all l 0 false
def inB (iv:Option (Rat × Rat)) (mass:Rat):Bool:=match iv with
 |none=>true
 |some (lo,hi)=>decide (lo<=mass) && decide (mass<=hi)
def Z5 (e:Ev) (x:j6) (mass:Rat):Bool:=if x.scale=-1 then true else inB (L7 e.certs e.recalls x.scale x.reading x.day) mass
def a4W (p:s9) (l:List Rat) (mass:Rat):Bool:=
 decide ((p.least:Rat)*mass<=((1000:Int):Rat)*l.getD p.mat.toNat 0) && decide (((1000:Int):Rat)*l.getD p.mat.toNat 0<=(p.most:Rat)*mass)
def a4r (ps:List s9) (i:Nat) (l:List Rat) (mass:Rat):Bool:=ps.all fun p=>decide (p.move≠(i:Int)) || a4W p l mass
def Z4 (e:Ev) (x:j6) (l:List Rat) (f:Nat->Nat->Rat) (i:Nat):Int:=
 if l.any (fun v=>decide (v<0)) then 3 else if a2v e f x l≠0 then a2v e f x l else if Z5 e x (S5 l)=false then 24 else if a4r e.purities i l (S5 l)=false then 13 else 0
def a4v (e:Ev) (H:List (List Rat)):Nat->List j6->Int
 |_,[]=>0
 |k,x::r=>if Z4 e x (H.getD k []) (stk e H k) k≠0 then Z4 e x (H.getD k []) (stk e H k) k else a4v e H (k+1) r
def a44 (e:Ev) (H:List (List Rat)):Int:=a4v e H 0 e.moves
def W6 (e:Ev) (h:List (List Fr)):Int:=if m8 e≠0 then 1 else if P9 e h then a44 e (h.map (·.map fv)) else 2
theorem be6 (H:List (List Rat)):(hz H).map (·.map fv)=H:=by
 unfold hz
 rw [List.map_map]
 conv=>rhs;rw [← List.map_id H]
 refine lbp fun l _=>?_
 simp only [Function.comp,List.map_map,id]
 conv=>rhs;rw [← List.map_id l]
 exact lbp fun x _=>b4I x
theorem b28 {x:j6} {v:Nat->Rat} {f:Nat->Nat->Rat} {B C:Nat} (hv:∀m,rl (v m)<=B) (hf:∀p m,rl (f p m)<=C) (p m:Nat):rl (A8 x v f p m)<=C+(B+1):=by
 unfold A8
 have h1:=hf p m
 have h2:=hv m
 have h3:=a8m (f p m) (v m)
 have h4:=a0q (f p m) (v m)
 split
 ·omega
 ·split<;>omega
theorem a54:rl ((0:Int):Rat)=1:=by rw [a2t];rfl
theorem b4s {H:List (List Rat)} {B:Nat} (hB:∀l ∈ H,∀x ∈ l,rl x<=B) (h1:1<=B) (k m:Nat):rl (hAt H k m)<=B:=by
 unfold hAt
 rw [lbl,lbl]
 cases hk:H[k]? with
 |none=>
  have:rl 0=1:=a54
  simp only [Option.getD_none,List.getElem?_nil]
  omega
 |some l=>
  simp only [Option.getD_some]
  cases hm:l[m]? with
  |none=>
   have:rl 0=1:=a54
   simp only [Option.getD_none]
   omega
  |some x=>exact hB l (lbm hk) x (lbm hm)
theorem aw8 {e:Ev} {H:List (List Rat)} {B:Nat} (hB:∀l ∈ H,∀x ∈ l,rl x<=B) (h1:1<=B):∀k p m,rl (stk e H k p m)<=k*(B+1)+1
 |0,p,m=>by unfold stk;rw [a54];omega
 |k+1,p,m=>by
  have ih:=aw8 hB h1 (e:=e) k
  unfold stk
  cases hx:e.moves[k]? with
  |none=>have:=ih p m;rw [lbU];simp only;omega
  |some x=>
   simp only
   have:=b28 (x:=x) (b4s hB h1 k) ih p m
   rw [lbU];omega
end Go.Proofs.YtaejgdbahjjncaaGreat
